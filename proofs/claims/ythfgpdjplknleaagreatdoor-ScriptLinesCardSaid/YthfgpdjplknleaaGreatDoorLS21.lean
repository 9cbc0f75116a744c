/- Part of a proof by the rules of the symbolic walk (see the law's own text): contracts of functions of the program. -/
import Derived.Test.YthfgpdjplknleaaGreatDoorLS21L
open Go Go.Proofs Go.SE Go.RowKit
set_option linter.unusedVariables false
set_option maxRecDepth 100000
/-- What the walk has made of the first entries: the text, its lines, the bent text and its line. -/
def LinI (es : List En) (at_ : Int) (i j : Int) (s : ByteArray) (w n : Int) (y : ByteArray) : Prop :=
  0 ≤ i ∧ i ≤ es.length ∧ 0 ≤ n ∧ n ≤ 1000 * i + j ∧ (∃ t, s = strT t ∧ AccT es i.toNat t n ∧ t.length ≤ 33000 * i.toNat + 5 * j.toNat) ∧ (at_ < i → parseL (tx y) = ([], w, 411) ∧ y.size ≤ 1048576)
def ComT (q : ByteArray) : Prop := ∃ x, q = strT (x ++ [10]) ∧ (10 : UInt8) ∉ x ∧ skipT x = true ∧ x.length ≤ 3
section
variable {es : List En} {A i j w n : Int} {s y : ByteArray}
theorem lin_skip (h : LinI es A i j s w n y) (hj : 0 ≤ j) {q : ByteArray} (hq : ComT q) : LinI es A i (j + 1) (s ++ q) w (n + 1) y := by
  obtain ⟨h1, h2, h3, h4, ⟨t, rfl, h5, h6⟩, h7⟩ := h
  obtain ⟨x, rfl, q1, q2, q3⟩ := hq
  exact ⟨h1, h2, by omega, by omega, ⟨_, strT_add _ _, acc_skip h5 q1 q2, by simp only [List.length_append, List.length_cons, List.length_nil]; omega⟩, h7⟩
theorem lin_line (h : LinI es (A - 1) i j s w n y) (hj : 0 ≤ j ∧ j ≤ 4) {e : En} (he : es[i.toNat]? = some e) (hk : okEn e) (hc : cleanE e = true) (hl : es.length ≤ 30) : LinI es A (i + 1) 0 (s ++ (strT (lineT e) ++ ⟨#[10]⟩)) w (n + 1) y := by
  obtain ⟨h1, h2, h3, h4, ⟨t, rfl, h5, h6⟩, h7⟩ := h
  have hlt : i.toNat < es.length := (List.getElem?_eq_some_iff.1 he).1
  have hle := lineT_len hk hc
  refine ⟨by omega, by omega, by omega, by omega, ⟨t ++ (lineT e ++ [10]), ?_, ?_, by simp only [List.length_append, List.length_cons, List.length_nil]; omega⟩, fun h => h7 (by omega)⟩
  · rw [show (⟨#[10]⟩ : ByteArray) = strT [10] from rfl, strT_add, strT_add]
  · rw [show (i + 1).toNat = i.toNat + 1 by omega]
    exact acc_line h5 hk hc he hl
theorem lin_bent (h : LinI es A i 0 s w n y) {q : ByteArray} (hq : q ∈ badLs) (hl : es.length ≤ 30) : LinI es (A - 1) i 0 s (n + 1) n (s ++ q ++ ⟨#[10, 63, 10]⟩) := by
  obtain ⟨h1, h2, h3, h4, ⟨t, rfl, h5, h6⟩, h7⟩ := h
  have e1 : strT t ++ q ++ ⟨#[10, 63, 10]⟩ = strT (t ++ (tx q ++ [10, 63, 10])) := by
    rw [← strT_add, ← strT_add, strT_tx, ByteArray.append_assoc]; rfl
  refine ⟨h1, h2, h3, by omega, ⟨t, rfl, h5, h6⟩, fun _ => ⟨?_, ?_⟩⟩
  · rw [e1, tx_strT]; exact acc_bent h5 hq (by omega)
  · rw [e1, strT_size]
    have hlq : (tx q).length = q.size := Array.length_toList
    have := (badLs_read q hq).1
    simp only [List.length_append, List.length_cons, List.length_nil]; omega
theorem lin_not (h : LinI es A i 0 s w n y) (hi : i ≠ A) : LinI es (A - 1) i 0 s w n y := by
  obtain ⟨h1, h2, h3, h4, h5, h7⟩ := h
  exact ⟨h1, h2, h3, h4, h5, fun h => h7 (by omega)⟩
theorem lin_size (h : LinI es A i j s w n y) (hj : j ≤ 4) (hl : es.length ≤ 30) : s.size ≤ 1000000 := by
  obtain ⟨h1, h2, h3, h4, ⟨t, rfl, h5, h6⟩, h7⟩ := h
  rw [strT_size]; omega
end
def comLs : List ByteArray := [⟨#[10]⟩, ⟨#[35, 32, 120, 10]⟩, ⟨#[35, 10]⟩]
theorem comLs_ok : ∀ q ∈ comLs, ComT q := by
  intro q hq
  simp only [comLs, List.mem_cons, List.not_mem_nil, or_false] at hq
  rcases hq with rfl | rfl | rfl
  · exact ⟨[], rfl, by decide, by decide, by decide⟩
  · exact ⟨[35, 32, 120], rfl, by decide, by decide, by decide⟩
  · exact ⟨[35], rfl, by decide, by decide, by decide⟩
/-- A drawn list of texts, read at a place. -/
theorem lits_get (l : List ByteArray) {n m : Int} (h0 : 0 ≤ n) (hm : m = l.length) (hp : 0 < m) : 0 ≤ n.tmod m ∧ n.tmod m < m ∧ ∃ q ∈ l, (l.map fun q => SV.v (.string q))[0 + (n.tmod m).toNat * 1 + 0]? = some (.v (.string q)) := by
  have h1 := Int.tmod_nonneg m h0
  have h2 := Int.tmod_lt_of_pos n hp
  have hlt : (n.tmod m).toNat < l.length := by omega
  refine ⟨h1, h2, l[(n.tmod m).toNat], List.getElem_mem _, ?_⟩
  rw [Nat.mul_one, Nat.add_zero, Nat.zero_add, List.getElem?_map, List.getElem?_eq_getElem hlt]
  rfl

def TailP (J : Mem) (a : Option Addr) (n : Nat) (i : Int) (E : Nat) (XI : Int → ByteArray → Int → Int → ByteArray → Prop) (s : ByteArray) (w nn : Int) (y : ByteArray) : Prop :=
  0 ≤ i ∧ i < (n : Int) ∧ a.isSome = true ∧ ∃ k, atI J a (i.toNat * 4 + 0) = some (.int .u8 k) ∧ ∃ n5, atI J a (i.toNat * 4 + 1) = some (.int .i64 n5) ∧ ∃ n6, atI J a (i.toNat * 4 + 2) = some (.int .i64 n6) ∧ ∃ a3 n7 c7, atI J a (i.toNat * 4 + 3) = some (.slice a3 n7 c7) ∧ Ct Tryz.prog (.func (.func 22) #[] #[]) #[.agg #[.int .u8 k, .int .i64 n5, .int .i64 n6, .slice a3 n7 c7]] J fun v I' => ∃ q n, v = .tuple #[.string q, .int .i64 n] ∧ Br (n != 0) (Value.bool false = Value.bool true) (q.size + 1 ≤ 4611686018427387904 ∧ s.size + (q ++ ⟨#[10]⟩).size ≤ 4611686018427387904 ∧ Wr .i64 (nn + 1) fun c => Wr .i64 (i + 1) fun c8 => XI c8 (s ++ (q ++ ⟨#[10]⟩)) w c y ∧ ((E : Int) + 1 - c8).toNat < ((E : Int) + 1 - i).toNat)
def FinP (J : Mem) (a : Option Addr) (n c : Nat) (s y : ByteArray) (w : Int) : Prop :=
  Ct Tryz.prog (.func (.func 36) #[] #[]) #[.string s] J fun v I' => ∃ a3 n4 c5 n5 n6, v = .tuple #[.slice a3 n4 c5, .int .i64 n5, .int .i64 n6] ∧ Ct Tryz.prog (.func (.func 36) #[] #[]) #[.string y] I' fun v I' => ∃ a4 n7 c6 n8 n9, v = .tuple #[.slice a4 n7 c6, .int .i64 n8, .int .i64 n9] ∧ Br (n6 == 0) (Br (n5 == 0) (Ct Tryz.prog (.func (.func 18) #[] #[]) #[.slice a3 n4 c5, .slice a n c] I' fun v I' => ∃ b, v = .bool b ∧ Br b (Br ((n7 : Int) == 0) (Br (n8 == w) (Value.bool (n9 == 411) = Value.bool true) (Value.bool false = Value.bool true)) (Value.bool false = Value.bool true)) (Value.bool false = Value.bool true)) (Value.bool false = Value.bool true)) (Value.bool false = Value.bool true)
section
variable {es : List En} {A i j w n : Int} {s y : ByteArray} {J : Mem} {a : Option Addr} {m c : Nat}
theorem tail_ok (hG : Globs J) (hM : EnM J a m es) (hg : Good es) (hl : es.length ≤ 30) (h : LinI es (A - 1) i j s w n y) (hj : 0 ≤ j ∧ j ≤ 4) (hlt : i < (es.length : Int)) {XI : Int → ByteArray → Int → Int → ByteArray → Prop} (hX : XI = fun i s w n y => LinI es A i 0 s w n y) : TailP J a m i es.length XI s w n y := by
  have hml : m = es.length := (SlR.len (by decide) hM).symm
  have h0 := h.1
  obtain ⟨e, a2, n9, c4, g1, g2, g3, g4, g5, g6, g7⟩ := hM.get h0 (by omega)
  obtain ⟨_, hcl⟩ := hg e (List.mem_of_getElem? g1)
  have hle := lineT_len g2 hcl
  have hsz := lin_size h hj.2 hl
  refine ⟨h0, by omega, SlR.isSome hM (by omega), _, g4, _, g5, _, g6, _, _, _, g7, (ct22 e g2 _ J hG g3).mono fun v6 I7 l7 hv => ?_⟩
  rw [lineE, hcl] at hv
  refine ⟨_, _, hv, Br.f rfl ⟨by rw [strT_size]; omega, ?_, ?_⟩⟩
  · rw [ByteArray.size_append, strT_size]
    have : (⟨#[10]⟩ : ByteArray).size = 1 := rfl
    omega
  · have h3 := h.2.2.1
    have h4 := h.2.2.2.1
    refine wr_i64 (by omega) (by omega) (wr_i64 (by omega) (by omega) ⟨?_, by omega⟩)
    rw [hX]
    exact lin_line h hj g1 g2 hcl hl
theorem fin_ok (hG : Globs J) (hM : EnM J a m es) (hl : es.length ≤ 30) (h : LinI es (A - 1) i 0 s w n y) (hi : i = es.length) (hA : A ≤ es.length) : FinP J a m c s y w := by
  have hsz := lin_size h (by decide) hl
  obtain ⟨h1, h2, h3, h4, ⟨t, rfl, h5, h6⟩, h7⟩ := h
  obtain ⟨h7, h8⟩ := h7 (by omega)
  rw [strT_size] at hsz
  have hp : parseL t = (es, 0, 0) := acc_all (by rw [hi] at h5; simpa using h5) (by omega)
  refine (ct36 (strT t) (by rw [strT_size]; omega) J hG).mono fun v I1 l1 ⟨a3, n4, c5, hv, hM1, _, _⟩ => ?_
  rw [tx_strT, hp] at hv hM1
  refine ⟨_, _, _, _, _, hv, (ct36 y (by omega) I1 (hG.mono l1)).mono fun v I2 l2 ⟨a4, n7, c6, hv, hM2, _, _⟩ => ?_⟩
  rw [h7] at hv hM2
  refine ⟨_, _, _, _, _, hv, Br.t rfl (Br.t rfl ((ct18 _ _ _ _ _ _ es es I2 (hM1.mono l2) (hM.mono (Mem.le_trans l1 l2))).mono fun v I3 l3 hv => ⟨_, hv, ?_⟩))⟩
  have : n7 = 0 := (SlR.len (by decide) hM2).symm
  exact Br.t (by simp) (Br.t (by rw [this]; rfl) (Br.t (by simp) rfl))
end
theorem ct10 (I : Mem) (hG : Globs I) (l : List Sn) (a : Option Addr) (n c : Nat) (h : SnM I a n l) (hc : n ≤ c) (a1 : Option Addr) (n1 c1 : Nat) (bs : List Int) (hb : SlM I a1 n1 1 (ints .u8 bs)) (hbs : byteL bs) (k m : Int) (hk : 0 ≤ k ∧ k ≤ 255) (hm : 0 ≤ m ∧ m ≤ 255) :
    Ct Tryz.prog (fnv 10) #[.slice a n c, .slice a1 n1 c1, .int .u8 k, .int .u8 m] I (fun v _ => v = .bool true) := by
  obtain ⟨es, hes⟩ : ∃ q, q = madeL l := ⟨_, rfl⟩
  obtain ⟨AT, hAT⟩ : ∃ q : Int, q = m.tmod ((es.length : Int) + 1) := ⟨_, rfl⟩
  obtain ⟨XI, hXI⟩ : ∃ f : Int → ByteArray → Int → Int → ByteArray → Prop, f = fun i s w n y => LinI es AT i 0 s w n y := ⟨_, rfl⟩
  refine viaR (ct_via (A := { unr := [(17, 4)], loops := [(10, ⟨[(1, .keep), (9, .keep), (10, .keep), (11, .sh .str), (12, .sh (.int .i64)), (13, .keep), (14, .sh (.int .i64)), (15, .sh .str), (42, .keep), (43, .sh (.int .i64))], [], [], fun vals _ _ _ => match vals with | [.string s, .int .i64 w, .int .i64 n, .string y, .int .i64 i] => XI i s w n y | _ => False, fun vals _ => match vals with | [_, _, _, _, .int .i64 i] => (es.length + 1 - i).toNat | _ => 0⟩)] }) Tryz.func10 rfl Tryz.call10 rfl rfl) (Ct Tryz.prog (Value.func (Fn.func (14 : Nat)) #[] #[]) #[] I fun (v : Value) (I' : Mem) =>
        ∃ (b : Bool),
          v = Value.bool b ∧
            Br (!b) (Value.bool false = Value.bool true)
              (Ct Tryz.prog (Value.func (Fn.func (16 : Nat)) #[] #[]) #[Value.slice a n c] I' fun (v : Value) (I' : Mem) =>
                ∃ (a : Option Addr),
                  ∃ (n : Nat),
                    ∃ (c : Nat),
                      v = Value.slice a n c ∧
                        Wr IntKind.i64 m fun (c_1 : Int) =>
                          Wr IntKind.i64 ((↑n : Int) + (1 : Int)) fun (c_2 : Int) =>
                            c_2 ≠ (0 : Int) ∧
                              (9 : Int) ≠ (0 : Int) ∧
                                (0 : Int) ≤ Int.tmod k (9 : Int) ∧
                                  Int.tmod k (9 : Int) < (9 : Int) ∧
                                    ∃ (q : ByteArray),
                                      (Option.bind [SV.v (Value.string (ByteArray.mk #[(116 : UInt8), (105 : UInt8), (99 : UInt8), (107 : UInt8), (32 : UInt8)])), SV.v (Value.string (ByteArray.mk #[(32 : UInt8), (116 : UInt8), (105 : UInt8), (99 : UInt8), (107 : UInt8)])), SV.v (Value.string (ByteArray.mk #[(112 : UInt8), (105 : UInt8), (99 : UInt8), (107 : UInt8)])), SV.v (Value.string (ByteArray.mk #[(112 : UInt8), (105 : UInt8), (99 : UInt8), (107 : UInt8), (32 : UInt8), (45 : UInt8), (49 : UInt8)])), SV.v (Value.string (ByteArray.mk #[(114 : UInt8), (97 : UInt8), (119 : UInt8), (32 : UInt8), (48 : UInt8)])), SV.v (Value.string (ByteArray.mk #[(114 : UInt8), (97 : UInt8), (119 : UInt8), (32 : UInt8), (48 : UInt8), (32 : UInt8), (48 : UInt8), (48 : UInt8)])), SV.v (Value.string (ByteArray.mk #[(97 : UInt8), (115 : UInt8), (107 : UInt8), (32 : UInt8), (48 : UInt8), (32 : UInt8), (115 : UInt8), (116 : UInt8), (101 : UInt8), (112 : UInt8), (32 : UInt8), (120 : UInt8)])), SV.v (Value.string (ByteArray.mk #[(97 : UInt8), (115 : UInt8), (107 : UInt8), (32 : UInt8), (115 : UInt8), (116 : UInt8), (101 : UInt8), (112 : UInt8), (32 : UInt8), (53 : UInt8)])), SV.v (Value.string (ByteArray.mk #[(102 : UInt8), (114 : UInt8), (97 : UInt8), (109 : UInt8), (101 : UInt8), (32 : UInt8), (48 : UInt8), (32 : UInt8), (37 : UInt8)]))][(0 : Nat) + Int.toNat (Int.tmod k (9 : Int)) * (1 : Nat) + (0 : Nat)]? fun (x : SV) =>
                                            match x with
                                            | SV.v x => some x
                                            | x => none) =
                                          some (Value.string q) ∧
                                        Wr IntKind.i64 ((↑n : Int) + (1 : Int)) fun (c_3 : Int) =>
                                          (SV.v (Value.slice a1 n1 c1) = SV.v (Value.slice a1 n1 c1) ∧ SV.v (Value.slice a n c) = SV.v (Value.slice a n c) ∧ SV.v (Value.int IntKind.i64 (Int.tmod c_1 c_2)) = SV.v (Value.int IntKind.i64 (Int.tmod c_1 c_2)) ∧ SV.v (Value.string q) = SV.v (Value.string q) ∧ SV.v (Value.int IntKind.i64 c_3) = SV.v (Value.int IntKind.i64 c_3) ∧ XI (0 : Int) (ByteArray.mk #[]) (0 : Int) (0 : Int) (ByteArray.mk #[])) ∧
                                            ∀ (I'_1 G' : Mem),
                                              Mem.le I' I'_1 →
                                                ∀ (q_1 : ByteArray) (n_1 n_2 : Int) (q_2 : ByteArray) (n_3 : Int),
                                                  XI n_3 q_1 n_1 n_2 q_2 →
                                                    Br (decide (n_3 < c_3))
                                                      (Br (n_3 == Int.tmod c_1 c_2)
                                                        (ByteArray.size q_1 + ByteArray.size q ≤ (4611686018427387904 : Nat) ∧
                                                          ByteArray.size (q_1 ++ q) + (3 : Nat) ≤ (4611686018427387904 : Nat) ∧
                                                            Wr IntKind.i64 (n_2 + (1 : Int)) fun (c_4 : Int) =>
                                                              Br (n_3 == (↑n : Int)) (Ct Tryz.prog (Value.func (Fn.func (36 : Nat)) #[] #[]) #[Value.string q_1] I'_1 fun (v : Value) (I' : Mem) => ∃ (a_3 : Option Addr), ∃ (n_4 : Nat), ∃ (c_5 : Nat), ∃ (n_5 : Int), ∃ (n_6 : Int), v = Value.tuple #[Value.slice a_3 n_4 c_5, Value.int IntKind.i64 n_5, Value.int IntKind.i64 n_6] ∧ Ct Tryz.prog (Value.func (Fn.func (36 : Nat)) #[] #[]) #[Value.string (q_1 ++ q ++ ByteArray.mk #[(10 : UInt8), (63 : UInt8), (10 : UInt8)])] I' fun (v : Value) (I' : Mem) => ∃ (a_4 : Option Addr), ∃ (n_7 : Nat), ∃ (c_6 : Nat), ∃ (n_8 : Int), ∃ (n_9 : Int), v = Value.tuple #[Value.slice a_4 n_7 c_6, Value.int IntKind.i64 n_8, Value.int IntKind.i64 n_9] ∧ Br (n_6 == (0 : Int)) (Br (n_5 == (0 : Int)) (Ct Tryz.prog (Value.func (Fn.func (18 : Nat)) #[] #[]) #[Value.slice a_3 n_4 c_5, Value.slice a n c] I' fun (v : Value) (I' : Mem) => ∃ (b : Bool), v = Value.bool b ∧ Br b (Br ((↑n_7 : Int) == (0 : Int)) (Br (n_8 == c_4) (Value.bool (n_9 == (411 : Int)) = Value.bool true) (Value.bool false = Value.bool true)) (Value.bool false = Value.bool true)) (Value.bool false = Value.bool true)) (Value.bool false = Value.bool true)) (Value.bool false = Value.bool true))
                                                                (Br (decide ((0 : Int) < (↑n1 : Int)))
                                                                  ((↑n1 : Int) ≠ (0 : Int) ∧
                                                                    (0 : Int) ≤ Int.tmod n_3 (↑n1 : Int) ∧
                                                                      Int.tmod n_3 (↑n1 : Int) < (↑n1 : Int) ∧
                                                                        Option.isSome a1 = true ∧
                                                                          ∃ (n_4 : Int),
                                                                            atI I'_1 a1 (Int.toNat (Int.tmod n_3 (↑n1 : Int)) * (1 : Nat) + (0 : Nat)) = some (Value.int IntKind.u8 n_4) ∧
                                                                              (4 : Int) ≠ (0 : Int) ∧
                                                                                Br (decide ((0 : Int) < Int.tmod n_4 (4 : Int)))
                                                                                  ((3 : Int) ≠ (0 : Int) ∧
                                                                                    (0 : Int) ≤ Int.tmod n_2 (3 : Int) ∧
                                                                                      Int.tmod n_2 (3 : Int) < (3 : Int) ∧
                                                                                        ∃ (q_3 : ByteArray),
                                                                                          (Option.bind [SV.v (Value.string (ByteArray.mk #[(10 : UInt8)])), SV.v (Value.string (ByteArray.mk #[(35 : UInt8), (32 : UInt8), (120 : UInt8), (10 : UInt8)])), SV.v (Value.string (ByteArray.mk #[(35 : UInt8), (10 : UInt8)]))][(0 : Nat) + Int.toNat (Int.tmod n_2 (3 : Int)) * (1 : Nat) + (0 : Nat)]? fun (x : SV) =>
                                                                                                match x with
                                                                                                | SV.v x => some x
                                                                                                | x => none) =
                                                                                              some (Value.string q_3) ∧
                                                                                            ByteArray.size q_1 + ByteArray.size q_3 ≤ (4611686018427387904 : Nat) ∧
                                                                                              Wr IntKind.i64 (n_2 + (1 : Int)) fun (c_5 : Int) =>
                                                                                                Wr IntKind.u8 (1 : Int) fun (c_6 : Int) =>
                                                                                                  Br (decide (c_6 < Int.tmod n_4 (4 : Int)))
                                                                                                    ((3 : Int) ≠ (0 : Int) ∧
                                                                                                      (0 : Int) ≤ Int.tmod c_5 (3 : Int) ∧
                                                                                                        Int.tmod c_5 (3 : Int) < (3 : Int) ∧
                                                                                                          ∃ (q_4 : ByteArray),
                                                                                                            (Option.bind [SV.v (Value.string (ByteArray.mk #[(10 : UInt8)])), SV.v (Value.string (ByteArray.mk #[(35 : UInt8), (32 : UInt8), (120 : UInt8), (10 : UInt8)])), SV.v (Value.string (ByteArray.mk #[(35 : UInt8), (10 : UInt8)]))][(0 : Nat) + Int.toNat (Int.tmod c_5 (3 : Int)) * (1 : Nat) + (0 : Nat)]? fun (x : SV) =>
                                                                                                                  match x with
                                                                                                                  | SV.v x => some x
                                                                                                                  | x => none) =
                                                                                                                some (Value.string q_4) ∧
                                                                                                              ByteArray.size (q_1 ++ q_3) + ByteArray.size q_4 ≤ (4611686018427387904 : Nat) ∧
                                                                                                                Wr IntKind.i64 (c_5 + (1 : Int)) fun (c_7 : Int) =>
                                                                                                                  Wr IntKind.u8 (c_6 + (1 : Int)) fun (c_8 : Int) =>
                                                                                                                    Br (decide (c_8 < Int.tmod n_4 (4 : Int)))
                                                                                                                      ((3 : Int) ≠ (0 : Int) ∧
                                                                                                                        (0 : Int) ≤ Int.tmod c_7 (3 : Int) ∧
                                                                                                                          Int.tmod c_7 (3 : Int) < (3 : Int) ∧
                                                                                                                            ∃ (q_5 : ByteArray),
                                                                                                                              (Option.bind [SV.v (Value.string (ByteArray.mk #[(10 : UInt8)])), SV.v (Value.string (ByteArray.mk #[(35 : UInt8), (32 : UInt8), (120 : UInt8), (10 : UInt8)])), SV.v (Value.string (ByteArray.mk #[(35 : UInt8), (10 : UInt8)]))][(0 : Nat) + Int.toNat (Int.tmod c_7 (3 : Int)) * (1 : Nat) + (0 : Nat)]? fun (x : SV) =>
                                                                                                                                    match x with
                                                                                                                                    | SV.v x => some x
                                                                                                                                    | x => none) =
                                                                                                                                  some (Value.string q_5) ∧
                                                                                                                                ByteArray.size (q_1 ++ q_3 ++ q_4) + ByteArray.size q_5 ≤ (4611686018427387904 : Nat) ∧
                                                                                                                                  Wr IntKind.i64 (c_7 + (1 : Int)) fun (c_9 : Int) =>
                                                                                                                                    Wr IntKind.u8 (c_8 + (1 : Int)) fun (c_10 : Int) =>
                                                                                                                                      Br (decide (c_10 < Int.tmod n_4 (4 : Int)))
                                                                                                                                        ((3 : Int) ≠ (0 : Int) ∧
                                                                                                                                          (0 : Int) ≤ Int.tmod c_9 (3 : Int) ∧
                                                                                                                                            Int.tmod c_9 (3 : Int) < (3 : Int) ∧
                                                                                                                                              ∃ (q : ByteArray),
                                                                                                                                                (Option.bind [SV.v (Value.string (ByteArray.mk #[(10 : UInt8)])), SV.v (Value.string (ByteArray.mk #[(35 : UInt8), (32 : UInt8), (120 : UInt8), (10 : UInt8)])), SV.v (Value.string (ByteArray.mk #[(35 : UInt8), (10 : UInt8)]))][(0 : Nat) + Int.toNat (Int.tmod c_9 (3 : Int)) * (1 : Nat) + (0 : Nat)]? fun (x : SV) =>
                                                                                                                                                      match x with
                                                                                                                                                      | SV.v x => some x
                                                                                                                                                      | x => none) =
                                                                                                                                                    some (Value.string q) ∧
                                                                                                                                                  ByteArray.size (q_1 ++ q_3 ++ q_4 ++ q_5) + ByteArray.size q ≤ (4611686018427387904 : Nat) ∧ Wr IntKind.i64 (c_9 + (1 : Int)) fun (c : Int) => Wr IntKind.u8 (c_10 + (1 : Int)) fun (c : Int) => False)
                                                                                                                                        ((0 : Int) ≤ n_3 ∧ n_3 < (↑n : Int) ∧ Option.isSome a = true ∧ (4 : Nat) = (4 : Nat) ∧ ∃ (n_5 : Int), atI I'_1 a (Int.toNat n_3 * (4 : Nat) + (0 : Nat)) = some (Value.int IntKind.u8 n_5) ∧ ∃ (n_6 : Int), atI I'_1 a (Int.toNat n_3 * (4 : Nat) + (1 : Nat)) = some (Value.int IntKind.i64 n_6) ∧ ∃ (n_7 : Int), atI I'_1 a (Int.toNat n_3 * (4 : Nat) + (2 : Nat)) = some (Value.int IntKind.i64 n_7) ∧ ∃ (a_3 : Option Addr), ∃ (n_8 : Nat), ∃ (c_11 : Nat), atI I'_1 a (Int.toNat n_3 * (4 : Nat) + (3 : Nat)) = some (Value.slice a_3 n_8 c_11) ∧ Ct Tryz.prog (Value.func (Fn.func (22 : Nat)) #[] #[]) #[Value.agg #[Value.int IntKind.u8 n_5, Value.int IntKind.i64 n_6, Value.int IntKind.i64 n_7, Value.slice a_3 n_8 c_11]] I'_1 fun (v : Value) (I' : Mem) => ∃ (q_6 : ByteArray), ∃ (n_9 : Int), v = Value.tuple #[Value.string q_6, Value.int IntKind.i64 n_9] ∧ Br (n_9 != (0 : Int)) (Value.bool false = Value.bool true) (ByteArray.size q_6 + (1 : Nat) ≤ (4611686018427387904 : Nat) ∧ ByteArray.size (q_1 ++ q_3 ++ q_4 ++ q_5) + ByteArray.size (q_6 ++ ByteArray.mk #[(10 : UInt8)]) ≤ (4611686018427387904 : Nat) ∧ Wr IntKind.i64 (c_9 + (1 : Int)) fun (c_12 : Int) => Wr IntKind.i64 (n_3 + (1 : Int)) fun (c_13 : Int) => SV.v (Value.slice a1 n1 c1) = SV.v (Value.slice a1 n1 c1) ∧ SV.v (Value.slice a n c) = SV.v (Value.slice a n c) ∧ SV.v (Value.int IntKind.i64 (Int.tmod c_1 c_2)) = SV.v (Value.int IntKind.i64 (Int.tmod c_1 c_2)) ∧ SV.v (Value.string q) = SV.v (Value.string q) ∧ SV.v (Value.int IntKind.i64 c_3) = SV.v (Value.int IntKind.i64 c_3) ∧ XI c_13 (q_1 ++ q_3 ++ q_4 ++ q_5 ++ (q_6 ++ ByteArray.mk #[(10 : UInt8)])) c_4 c_12 (q_1 ++ q ++ ByteArray.mk #[(10 : UInt8), (63 : UInt8), (10 : UInt8)]) ∧ Int.toNat ((↑(List.length es) : Int) + (1 : Int) - c_13) < Int.toNat ((↑(List.length es) : Int) + (1 : Int) - n_3))))
                                                                                                                      ((0 : Int) ≤ n_3 ∧ n_3 < (↑n : Int) ∧ Option.isSome a = true ∧ (4 : Nat) = (4 : Nat) ∧ ∃ (n_5 : Int), atI I'_1 a (Int.toNat n_3 * (4 : Nat) + (0 : Nat)) = some (Value.int IntKind.u8 n_5) ∧ ∃ (n_6 : Int), atI I'_1 a (Int.toNat n_3 * (4 : Nat) + (1 : Nat)) = some (Value.int IntKind.i64 n_6) ∧ ∃ (n_7 : Int), atI I'_1 a (Int.toNat n_3 * (4 : Nat) + (2 : Nat)) = some (Value.int IntKind.i64 n_7) ∧ ∃ (a_3 : Option Addr), ∃ (n_8 : Nat), ∃ (c_9 : Nat), atI I'_1 a (Int.toNat n_3 * (4 : Nat) + (3 : Nat)) = some (Value.slice a_3 n_8 c_9) ∧ Ct Tryz.prog (Value.func (Fn.func (22 : Nat)) #[] #[]) #[Value.agg #[Value.int IntKind.u8 n_5, Value.int IntKind.i64 n_6, Value.int IntKind.i64 n_7, Value.slice a_3 n_8 c_9]] I'_1 fun (v : Value) (I' : Mem) => ∃ (q_5 : ByteArray), ∃ (n_9 : Int), v = Value.tuple #[Value.string q_5, Value.int IntKind.i64 n_9] ∧ Br (n_9 != (0 : Int)) (Value.bool false = Value.bool true) (ByteArray.size q_5 + (1 : Nat) ≤ (4611686018427387904 : Nat) ∧ ByteArray.size (q_1 ++ q_3 ++ q_4) + ByteArray.size (q_5 ++ ByteArray.mk #[(10 : UInt8)]) ≤ (4611686018427387904 : Nat) ∧ Wr IntKind.i64 (c_7 + (1 : Int)) fun (c_10 : Int) => Wr IntKind.i64 (n_3 + (1 : Int)) fun (c_11 : Int) => SV.v (Value.slice a1 n1 c1) = SV.v (Value.slice a1 n1 c1) ∧ SV.v (Value.slice a n c) = SV.v (Value.slice a n c) ∧ SV.v (Value.int IntKind.i64 (Int.tmod c_1 c_2)) = SV.v (Value.int IntKind.i64 (Int.tmod c_1 c_2)) ∧ SV.v (Value.string q) = SV.v (Value.string q) ∧ SV.v (Value.int IntKind.i64 c_3) = SV.v (Value.int IntKind.i64 c_3) ∧ XI c_11 (q_1 ++ q_3 ++ q_4 ++ (q_5 ++ ByteArray.mk #[(10 : UInt8)])) c_4 c_10 (q_1 ++ q ++ ByteArray.mk #[(10 : UInt8), (63 : UInt8), (10 : UInt8)]) ∧ Int.toNat ((↑(List.length es) : Int) + (1 : Int) - c_11) < Int.toNat ((↑(List.length es) : Int) + (1 : Int) - n_3))))
                                                                                                    ((0 : Int) ≤ n_3 ∧ n_3 < (↑n : Int) ∧ Option.isSome a = true ∧ (4 : Nat) = (4 : Nat) ∧ ∃ (n_5 : Int), atI I'_1 a (Int.toNat n_3 * (4 : Nat) + (0 : Nat)) = some (Value.int IntKind.u8 n_5) ∧ ∃ (n_6 : Int), atI I'_1 a (Int.toNat n_3 * (4 : Nat) + (1 : Nat)) = some (Value.int IntKind.i64 n_6) ∧ ∃ (n_7 : Int), atI I'_1 a (Int.toNat n_3 * (4 : Nat) + (2 : Nat)) = some (Value.int IntKind.i64 n_7) ∧ ∃ (a_3 : Option Addr), ∃ (n_8 : Nat), ∃ (c_7 : Nat), atI I'_1 a (Int.toNat n_3 * (4 : Nat) + (3 : Nat)) = some (Value.slice a_3 n_8 c_7) ∧ Ct Tryz.prog (Value.func (Fn.func (22 : Nat)) #[] #[]) #[Value.agg #[Value.int IntKind.u8 n_5, Value.int IntKind.i64 n_6, Value.int IntKind.i64 n_7, Value.slice a_3 n_8 c_7]] I'_1 fun (v : Value) (I' : Mem) => ∃ (q_4 : ByteArray), ∃ (n_9 : Int), v = Value.tuple #[Value.string q_4, Value.int IntKind.i64 n_9] ∧ Br (n_9 != (0 : Int)) (Value.bool false = Value.bool true) (ByteArray.size q_4 + (1 : Nat) ≤ (4611686018427387904 : Nat) ∧ ByteArray.size (q_1 ++ q_3) + ByteArray.size (q_4 ++ ByteArray.mk #[(10 : UInt8)]) ≤ (4611686018427387904 : Nat) ∧ Wr IntKind.i64 (c_5 + (1 : Int)) fun (c_8 : Int) => Wr IntKind.i64 (n_3 + (1 : Int)) fun (c_9 : Int) => SV.v (Value.slice a1 n1 c1) = SV.v (Value.slice a1 n1 c1) ∧ SV.v (Value.slice a n c) = SV.v (Value.slice a n c) ∧ SV.v (Value.int IntKind.i64 (Int.tmod c_1 c_2)) = SV.v (Value.int IntKind.i64 (Int.tmod c_1 c_2)) ∧ SV.v (Value.string q) = SV.v (Value.string q) ∧ SV.v (Value.int IntKind.i64 c_3) = SV.v (Value.int IntKind.i64 c_3) ∧ XI c_9 (q_1 ++ q_3 ++ (q_4 ++ ByteArray.mk #[(10 : UInt8)])) c_4 c_8 (q_1 ++ q ++ ByteArray.mk #[(10 : UInt8), (63 : UInt8), (10 : UInt8)]) ∧ Int.toNat ((↑(List.length es) : Int) + (1 : Int) - c_9) < Int.toNat ((↑(List.length es) : Int) + (1 : Int) - n_3))))
                                                                                  ((0 : Int) ≤ n_3 ∧ n_3 < (↑n : Int) ∧ Option.isSome a = true ∧ (4 : Nat) = (4 : Nat) ∧ ∃ (n_5 : Int), atI I'_1 a (Int.toNat n_3 * (4 : Nat) + (0 : Nat)) = some (Value.int IntKind.u8 n_5) ∧ ∃ (n_6 : Int), atI I'_1 a (Int.toNat n_3 * (4 : Nat) + (1 : Nat)) = some (Value.int IntKind.i64 n_6) ∧ ∃ (n_7 : Int), atI I'_1 a (Int.toNat n_3 * (4 : Nat) + (2 : Nat)) = some (Value.int IntKind.i64 n_7) ∧ ∃ (a_3 : Option Addr), ∃ (n_8 : Nat), ∃ (c_5 : Nat), atI I'_1 a (Int.toNat n_3 * (4 : Nat) + (3 : Nat)) = some (Value.slice a_3 n_8 c_5) ∧ Ct Tryz.prog (Value.func (Fn.func (22 : Nat)) #[] #[]) #[Value.agg #[Value.int IntKind.u8 n_5, Value.int IntKind.i64 n_6, Value.int IntKind.i64 n_7, Value.slice a_3 n_8 c_5]] I'_1 fun (v : Value) (I' : Mem) => ∃ (q_3 : ByteArray), ∃ (n_9 : Int), v = Value.tuple #[Value.string q_3, Value.int IntKind.i64 n_9] ∧ Br (n_9 != (0 : Int)) (Value.bool false = Value.bool true) (ByteArray.size q_3 + (1 : Nat) ≤ (4611686018427387904 : Nat) ∧ ByteArray.size q_1 + ByteArray.size (q_3 ++ ByteArray.mk #[(10 : UInt8)]) ≤ (4611686018427387904 : Nat) ∧ Wr IntKind.i64 (n_2 + (1 : Int)) fun (c_6 : Int) => Wr IntKind.i64 (n_3 + (1 : Int)) fun (c_7 : Int) => SV.v (Value.slice a1 n1 c1) = SV.v (Value.slice a1 n1 c1) ∧ SV.v (Value.slice a n c) = SV.v (Value.slice a n c) ∧ SV.v (Value.int IntKind.i64 (Int.tmod c_1 c_2)) = SV.v (Value.int IntKind.i64 (Int.tmod c_1 c_2)) ∧ SV.v (Value.string q) = SV.v (Value.string q) ∧ SV.v (Value.int IntKind.i64 c_3) = SV.v (Value.int IntKind.i64 c_3) ∧ XI c_7 (q_1 ++ (q_3 ++ ByteArray.mk #[(10 : UInt8)])) c_4 c_6 (q_1 ++ q ++ ByteArray.mk #[(10 : UInt8), (63 : UInt8), (10 : UInt8)]) ∧ Int.toNat ((↑(List.length es) : Int) + (1 : Int) - c_7) < Int.toNat ((↑(List.length es) : Int) + (1 : Int) - n_3))))
                                                                  ((0 : Int) ≤ n_3 ∧ n_3 < (↑n : Int) ∧ Option.isSome a = true ∧ (4 : Nat) = (4 : Nat) ∧ ∃ (n_4 : Int), atI I'_1 a (Int.toNat n_3 * (4 : Nat) + (0 : Nat)) = some (Value.int IntKind.u8 n_4) ∧ ∃ (n_5 : Int), atI I'_1 a (Int.toNat n_3 * (4 : Nat) + (1 : Nat)) = some (Value.int IntKind.i64 n_5) ∧ ∃ (n_6 : Int), atI I'_1 a (Int.toNat n_3 * (4 : Nat) + (2 : Nat)) = some (Value.int IntKind.i64 n_6) ∧ ∃ (a_3 : Option Addr), ∃ (n_7 : Nat), ∃ (c_5 : Nat), atI I'_1 a (Int.toNat n_3 * (4 : Nat) + (3 : Nat)) = some (Value.slice a_3 n_7 c_5) ∧ Ct Tryz.prog (Value.func (Fn.func (22 : Nat)) #[] #[]) #[Value.agg #[Value.int IntKind.u8 n_4, Value.int IntKind.i64 n_5, Value.int IntKind.i64 n_6, Value.slice a_3 n_7 c_5]] I'_1 fun (v : Value) (I' : Mem) => ∃ (q_3 : ByteArray), ∃ (n_8 : Int), v = Value.tuple #[Value.string q_3, Value.int IntKind.i64 n_8] ∧ Br (n_8 != (0 : Int)) (Value.bool false = Value.bool true) (ByteArray.size q_3 + (1 : Nat) ≤ (4611686018427387904 : Nat) ∧ ByteArray.size q_1 + ByteArray.size (q_3 ++ ByteArray.mk #[(10 : UInt8)]) ≤ (4611686018427387904 : Nat) ∧ Wr IntKind.i64 (n_2 + (1 : Int)) fun (c_6 : Int) => Wr IntKind.i64 (n_3 + (1 : Int)) fun (c_7 : Int) => SV.v (Value.slice a1 n1 c1) = SV.v (Value.slice a1 n1 c1) ∧ SV.v (Value.slice a n c) = SV.v (Value.slice a n c) ∧ SV.v (Value.int IntKind.i64 (Int.tmod c_1 c_2)) = SV.v (Value.int IntKind.i64 (Int.tmod c_1 c_2)) ∧ SV.v (Value.string q) = SV.v (Value.string q) ∧ SV.v (Value.int IntKind.i64 c_3) = SV.v (Value.int IntKind.i64 c_3) ∧ XI c_7 (q_1 ++ (q_3 ++ ByteArray.mk #[(10 : UInt8)])) c_4 c_6 (q_1 ++ q ++ ByteArray.mk #[(10 : UInt8), (63 : UInt8), (10 : UInt8)]) ∧ Int.toNat ((↑(List.length es) : Int) + (1 : Int) - c_7) < Int.toNat ((↑(List.length es) : Int) + (1 : Int) - n_3)))))
                                                        (Br (n_3 == (↑n : Int)) (Ct Tryz.prog (Value.func (Fn.func (36 : Nat)) #[] #[]) #[Value.string q_1] I'_1 fun (v : Value) (I' : Mem) => ∃ (a_3 : Option Addr), ∃ (n_4 : Nat), ∃ (c_4 : Nat), ∃ (n_5 : Int), ∃ (n_6 : Int), v = Value.tuple #[Value.slice a_3 n_4 c_4, Value.int IntKind.i64 n_5, Value.int IntKind.i64 n_6] ∧ Ct Tryz.prog (Value.func (Fn.func (36 : Nat)) #[] #[]) #[Value.string q_2] I' fun (v : Value) (I' : Mem) => ∃ (a_4 : Option Addr), ∃ (n_7 : Nat), ∃ (c_5 : Nat), ∃ (n_8 : Int), ∃ (n_9 : Int), v = Value.tuple #[Value.slice a_4 n_7 c_5, Value.int IntKind.i64 n_8, Value.int IntKind.i64 n_9] ∧ Br (n_6 == (0 : Int)) (Br (n_5 == (0 : Int)) (Ct Tryz.prog (Value.func (Fn.func (18 : Nat)) #[] #[]) #[Value.slice a_3 n_4 c_4, Value.slice a n c] I' fun (v : Value) (I' : Mem) => ∃ (b : Bool), v = Value.bool b ∧ Br b (Br ((↑n_7 : Int) == (0 : Int)) (Br (n_8 == n_1) (Value.bool (n_9 == (411 : Int)) = Value.bool true) (Value.bool false = Value.bool true)) (Value.bool false = Value.bool true)) (Value.bool false = Value.bool true)) (Value.bool false = Value.bool true)) (Value.bool false = Value.bool true))
                                                          (Br (decide ((0 : Int) < (↑n1 : Int)))
                                                            ((↑n1 : Int) ≠ (0 : Int) ∧
                                                              (0 : Int) ≤ Int.tmod n_3 (↑n1 : Int) ∧
                                                                Int.tmod n_3 (↑n1 : Int) < (↑n1 : Int) ∧
                                                                  Option.isSome a1 = true ∧
                                                                    ∃ (n_4 : Int),
                                                                      atI I'_1 a1 (Int.toNat (Int.tmod n_3 (↑n1 : Int)) * (1 : Nat) + (0 : Nat)) = some (Value.int IntKind.u8 n_4) ∧
                                                                        (4 : Int) ≠ (0 : Int) ∧
                                                                          Br (decide ((0 : Int) < Int.tmod n_4 (4 : Int)))
                                                                            ((3 : Int) ≠ (0 : Int) ∧
                                                                              (0 : Int) ≤ Int.tmod n_2 (3 : Int) ∧
                                                                                Int.tmod n_2 (3 : Int) < (3 : Int) ∧
                                                                                  ∃ (q_3 : ByteArray),
                                                                                    (Option.bind [SV.v (Value.string (ByteArray.mk #[(10 : UInt8)])), SV.v (Value.string (ByteArray.mk #[(35 : UInt8), (32 : UInt8), (120 : UInt8), (10 : UInt8)])), SV.v (Value.string (ByteArray.mk #[(35 : UInt8), (10 : UInt8)]))][(0 : Nat) + Int.toNat (Int.tmod n_2 (3 : Int)) * (1 : Nat) + (0 : Nat)]? fun (x : SV) =>
                                                                                          match x with
                                                                                          | SV.v x => some x
                                                                                          | x => none) =
                                                                                        some (Value.string q_3) ∧
                                                                                      ByteArray.size q_1 + ByteArray.size q_3 ≤ (4611686018427387904 : Nat) ∧
                                                                                        Wr IntKind.i64 (n_2 + (1 : Int)) fun (c_4 : Int) =>
                                                                                          Wr IntKind.u8 (1 : Int) fun (c_5 : Int) =>
                                                                                            Br (decide (c_5 < Int.tmod n_4 (4 : Int)))
                                                                                              ((3 : Int) ≠ (0 : Int) ∧
                                                                                                (0 : Int) ≤ Int.tmod c_4 (3 : Int) ∧
                                                                                                  Int.tmod c_4 (3 : Int) < (3 : Int) ∧
                                                                                                    ∃ (q_4 : ByteArray),
                                                                                                      (Option.bind [SV.v (Value.string (ByteArray.mk #[(10 : UInt8)])), SV.v (Value.string (ByteArray.mk #[(35 : UInt8), (32 : UInt8), (120 : UInt8), (10 : UInt8)])), SV.v (Value.string (ByteArray.mk #[(35 : UInt8), (10 : UInt8)]))][(0 : Nat) + Int.toNat (Int.tmod c_4 (3 : Int)) * (1 : Nat) + (0 : Nat)]? fun (x : SV) =>
                                                                                                            match x with
                                                                                                            | SV.v x => some x
                                                                                                            | x => none) =
                                                                                                          some (Value.string q_4) ∧
                                                                                                        ByteArray.size (q_1 ++ q_3) + ByteArray.size q_4 ≤ (4611686018427387904 : Nat) ∧
                                                                                                          Wr IntKind.i64 (c_4 + (1 : Int)) fun (c_6 : Int) =>
                                                                                                            Wr IntKind.u8 (c_5 + (1 : Int)) fun (c_7 : Int) =>
                                                                                                              Br (decide (c_7 < Int.tmod n_4 (4 : Int)))
                                                                                                                ((3 : Int) ≠ (0 : Int) ∧
                                                                                                                  (0 : Int) ≤ Int.tmod c_6 (3 : Int) ∧
                                                                                                                    Int.tmod c_6 (3 : Int) < (3 : Int) ∧
                                                                                                                      ∃ (q_5 : ByteArray),
                                                                                                                        (Option.bind [SV.v (Value.string (ByteArray.mk #[(10 : UInt8)])), SV.v (Value.string (ByteArray.mk #[(35 : UInt8), (32 : UInt8), (120 : UInt8), (10 : UInt8)])), SV.v (Value.string (ByteArray.mk #[(35 : UInt8), (10 : UInt8)]))][(0 : Nat) + Int.toNat (Int.tmod c_6 (3 : Int)) * (1 : Nat) + (0 : Nat)]? fun (x : SV) =>
                                                                                                                              match x with
                                                                                                                              | SV.v x => some x
                                                                                                                              | x => none) =
                                                                                                                            some (Value.string q_5) ∧
                                                                                                                          ByteArray.size (q_1 ++ q_3 ++ q_4) + ByteArray.size q_5 ≤ (4611686018427387904 : Nat) ∧
                                                                                                                            Wr IntKind.i64 (c_6 + (1 : Int)) fun (c_8 : Int) =>
                                                                                                                              Wr IntKind.u8 (c_7 + (1 : Int)) fun (c_9 : Int) =>
                                                                                                                                Br (decide (c_9 < Int.tmod n_4 (4 : Int)))
                                                                                                                                  ((3 : Int) ≠ (0 : Int) ∧
                                                                                                                                    (0 : Int) ≤ Int.tmod c_8 (3 : Int) ∧
                                                                                                                                      Int.tmod c_8 (3 : Int) < (3 : Int) ∧
                                                                                                                                        ∃ (q : ByteArray),
                                                                                                                                          (Option.bind [SV.v (Value.string (ByteArray.mk #[(10 : UInt8)])), SV.v (Value.string (ByteArray.mk #[(35 : UInt8), (32 : UInt8), (120 : UInt8), (10 : UInt8)])), SV.v (Value.string (ByteArray.mk #[(35 : UInt8), (10 : UInt8)]))][(0 : Nat) + Int.toNat (Int.tmod c_8 (3 : Int)) * (1 : Nat) + (0 : Nat)]? fun (x : SV) =>
                                                                                                                                                match x with
                                                                                                                                                | SV.v x => some x
                                                                                                                                                | x => none) =
                                                                                                                                              some (Value.string q) ∧
                                                                                                                                            ByteArray.size (q_1 ++ q_3 ++ q_4 ++ q_5) + ByteArray.size q ≤ (4611686018427387904 : Nat) ∧ Wr IntKind.i64 (c_8 + (1 : Int)) fun (c : Int) => Wr IntKind.u8 (c_9 + (1 : Int)) fun (c : Int) => False)
                                                                                                                                  ((0 : Int) ≤ n_3 ∧ n_3 < (↑n : Int) ∧ Option.isSome a = true ∧ (4 : Nat) = (4 : Nat) ∧ ∃ (n_5 : Int), atI I'_1 a (Int.toNat n_3 * (4 : Nat) + (0 : Nat)) = some (Value.int IntKind.u8 n_5) ∧ ∃ (n_6 : Int), atI I'_1 a (Int.toNat n_3 * (4 : Nat) + (1 : Nat)) = some (Value.int IntKind.i64 n_6) ∧ ∃ (n_7 : Int), atI I'_1 a (Int.toNat n_3 * (4 : Nat) + (2 : Nat)) = some (Value.int IntKind.i64 n_7) ∧ ∃ (a_3 : Option Addr), ∃ (n_8 : Nat), ∃ (c_10 : Nat), atI I'_1 a (Int.toNat n_3 * (4 : Nat) + (3 : Nat)) = some (Value.slice a_3 n_8 c_10) ∧ Ct Tryz.prog (Value.func (Fn.func (22 : Nat)) #[] #[]) #[Value.agg #[Value.int IntKind.u8 n_5, Value.int IntKind.i64 n_6, Value.int IntKind.i64 n_7, Value.slice a_3 n_8 c_10]] I'_1 fun (v : Value) (I' : Mem) => ∃ (q_6 : ByteArray), ∃ (n_9 : Int), v = Value.tuple #[Value.string q_6, Value.int IntKind.i64 n_9] ∧ Br (n_9 != (0 : Int)) (Value.bool false = Value.bool true) (ByteArray.size q_6 + (1 : Nat) ≤ (4611686018427387904 : Nat) ∧ ByteArray.size (q_1 ++ q_3 ++ q_4 ++ q_5) + ByteArray.size (q_6 ++ ByteArray.mk #[(10 : UInt8)]) ≤ (4611686018427387904 : Nat) ∧ Wr IntKind.i64 (c_8 + (1 : Int)) fun (c_11 : Int) => Wr IntKind.i64 (n_3 + (1 : Int)) fun (c_12 : Int) => SV.v (Value.slice a1 n1 c1) = SV.v (Value.slice a1 n1 c1) ∧ SV.v (Value.slice a n c) = SV.v (Value.slice a n c) ∧ SV.v (Value.int IntKind.i64 (Int.tmod c_1 c_2)) = SV.v (Value.int IntKind.i64 (Int.tmod c_1 c_2)) ∧ SV.v (Value.string q) = SV.v (Value.string q) ∧ SV.v (Value.int IntKind.i64 c_3) = SV.v (Value.int IntKind.i64 c_3) ∧ XI c_12 (q_1 ++ q_3 ++ q_4 ++ q_5 ++ (q_6 ++ ByteArray.mk #[(10 : UInt8)])) n_1 c_11 q_2 ∧ Int.toNat ((↑(List.length es) : Int) + (1 : Int) - c_12) < Int.toNat ((↑(List.length es) : Int) + (1 : Int) - n_3))))
                                                                                                                ((0 : Int) ≤ n_3 ∧ n_3 < (↑n : Int) ∧ Option.isSome a = true ∧ (4 : Nat) = (4 : Nat) ∧ ∃ (n_5 : Int), atI I'_1 a (Int.toNat n_3 * (4 : Nat) + (0 : Nat)) = some (Value.int IntKind.u8 n_5) ∧ ∃ (n_6 : Int), atI I'_1 a (Int.toNat n_3 * (4 : Nat) + (1 : Nat)) = some (Value.int IntKind.i64 n_6) ∧ ∃ (n_7 : Int), atI I'_1 a (Int.toNat n_3 * (4 : Nat) + (2 : Nat)) = some (Value.int IntKind.i64 n_7) ∧ ∃ (a_3 : Option Addr), ∃ (n_8 : Nat), ∃ (c_8 : Nat), atI I'_1 a (Int.toNat n_3 * (4 : Nat) + (3 : Nat)) = some (Value.slice a_3 n_8 c_8) ∧ Ct Tryz.prog (Value.func (Fn.func (22 : Nat)) #[] #[]) #[Value.agg #[Value.int IntKind.u8 n_5, Value.int IntKind.i64 n_6, Value.int IntKind.i64 n_7, Value.slice a_3 n_8 c_8]] I'_1 fun (v : Value) (I' : Mem) => ∃ (q_5 : ByteArray), ∃ (n_9 : Int), v = Value.tuple #[Value.string q_5, Value.int IntKind.i64 n_9] ∧ Br (n_9 != (0 : Int)) (Value.bool false = Value.bool true) (ByteArray.size q_5 + (1 : Nat) ≤ (4611686018427387904 : Nat) ∧ ByteArray.size (q_1 ++ q_3 ++ q_4) + ByteArray.size (q_5 ++ ByteArray.mk #[(10 : UInt8)]) ≤ (4611686018427387904 : Nat) ∧ Wr IntKind.i64 (c_6 + (1 : Int)) fun (c_9 : Int) => Wr IntKind.i64 (n_3 + (1 : Int)) fun (c_10 : Int) => SV.v (Value.slice a1 n1 c1) = SV.v (Value.slice a1 n1 c1) ∧ SV.v (Value.slice a n c) = SV.v (Value.slice a n c) ∧ SV.v (Value.int IntKind.i64 (Int.tmod c_1 c_2)) = SV.v (Value.int IntKind.i64 (Int.tmod c_1 c_2)) ∧ SV.v (Value.string q) = SV.v (Value.string q) ∧ SV.v (Value.int IntKind.i64 c_3) = SV.v (Value.int IntKind.i64 c_3) ∧ XI c_10 (q_1 ++ q_3 ++ q_4 ++ (q_5 ++ ByteArray.mk #[(10 : UInt8)])) n_1 c_9 q_2 ∧ Int.toNat ((↑(List.length es) : Int) + (1 : Int) - c_10) < Int.toNat ((↑(List.length es) : Int) + (1 : Int) - n_3))))
                                                                                              ((0 : Int) ≤ n_3 ∧ n_3 < (↑n : Int) ∧ Option.isSome a = true ∧ (4 : Nat) = (4 : Nat) ∧ ∃ (n_5 : Int), atI I'_1 a (Int.toNat n_3 * (4 : Nat) + (0 : Nat)) = some (Value.int IntKind.u8 n_5) ∧ ∃ (n_6 : Int), atI I'_1 a (Int.toNat n_3 * (4 : Nat) + (1 : Nat)) = some (Value.int IntKind.i64 n_6) ∧ ∃ (n_7 : Int), atI I'_1 a (Int.toNat n_3 * (4 : Nat) + (2 : Nat)) = some (Value.int IntKind.i64 n_7) ∧ ∃ (a_3 : Option Addr), ∃ (n_8 : Nat), ∃ (c_6 : Nat), atI I'_1 a (Int.toNat n_3 * (4 : Nat) + (3 : Nat)) = some (Value.slice a_3 n_8 c_6) ∧ Ct Tryz.prog (Value.func (Fn.func (22 : Nat)) #[] #[]) #[Value.agg #[Value.int IntKind.u8 n_5, Value.int IntKind.i64 n_6, Value.int IntKind.i64 n_7, Value.slice a_3 n_8 c_6]] I'_1 fun (v : Value) (I' : Mem) => ∃ (q_4 : ByteArray), ∃ (n_9 : Int), v = Value.tuple #[Value.string q_4, Value.int IntKind.i64 n_9] ∧ Br (n_9 != (0 : Int)) (Value.bool false = Value.bool true) (ByteArray.size q_4 + (1 : Nat) ≤ (4611686018427387904 : Nat) ∧ ByteArray.size (q_1 ++ q_3) + ByteArray.size (q_4 ++ ByteArray.mk #[(10 : UInt8)]) ≤ (4611686018427387904 : Nat) ∧ Wr IntKind.i64 (c_4 + (1 : Int)) fun (c_7 : Int) => Wr IntKind.i64 (n_3 + (1 : Int)) fun (c_8 : Int) => SV.v (Value.slice a1 n1 c1) = SV.v (Value.slice a1 n1 c1) ∧ SV.v (Value.slice a n c) = SV.v (Value.slice a n c) ∧ SV.v (Value.int IntKind.i64 (Int.tmod c_1 c_2)) = SV.v (Value.int IntKind.i64 (Int.tmod c_1 c_2)) ∧ SV.v (Value.string q) = SV.v (Value.string q) ∧ SV.v (Value.int IntKind.i64 c_3) = SV.v (Value.int IntKind.i64 c_3) ∧ XI c_8 (q_1 ++ q_3 ++ (q_4 ++ ByteArray.mk #[(10 : UInt8)])) n_1 c_7 q_2 ∧ Int.toNat ((↑(List.length es) : Int) + (1 : Int) - c_8) < Int.toNat ((↑(List.length es) : Int) + (1 : Int) - n_3))))
                                                                            ((0 : Int) ≤ n_3 ∧ n_3 < (↑n : Int) ∧ Option.isSome a = true ∧ (4 : Nat) = (4 : Nat) ∧ ∃ (n_5 : Int), atI I'_1 a (Int.toNat n_3 * (4 : Nat) + (0 : Nat)) = some (Value.int IntKind.u8 n_5) ∧ ∃ (n_6 : Int), atI I'_1 a (Int.toNat n_3 * (4 : Nat) + (1 : Nat)) = some (Value.int IntKind.i64 n_6) ∧ ∃ (n_7 : Int), atI I'_1 a (Int.toNat n_3 * (4 : Nat) + (2 : Nat)) = some (Value.int IntKind.i64 n_7) ∧ ∃ (a_3 : Option Addr), ∃ (n_8 : Nat), ∃ (c_4 : Nat), atI I'_1 a (Int.toNat n_3 * (4 : Nat) + (3 : Nat)) = some (Value.slice a_3 n_8 c_4) ∧ Ct Tryz.prog (Value.func (Fn.func (22 : Nat)) #[] #[]) #[Value.agg #[Value.int IntKind.u8 n_5, Value.int IntKind.i64 n_6, Value.int IntKind.i64 n_7, Value.slice a_3 n_8 c_4]] I'_1 fun (v : Value) (I' : Mem) => ∃ (q_3 : ByteArray), ∃ (n_9 : Int), v = Value.tuple #[Value.string q_3, Value.int IntKind.i64 n_9] ∧ Br (n_9 != (0 : Int)) (Value.bool false = Value.bool true) (ByteArray.size q_3 + (1 : Nat) ≤ (4611686018427387904 : Nat) ∧ ByteArray.size q_1 + ByteArray.size (q_3 ++ ByteArray.mk #[(10 : UInt8)]) ≤ (4611686018427387904 : Nat) ∧ Wr IntKind.i64 (n_2 + (1 : Int)) fun (c_5 : Int) => Wr IntKind.i64 (n_3 + (1 : Int)) fun (c_6 : Int) => SV.v (Value.slice a1 n1 c1) = SV.v (Value.slice a1 n1 c1) ∧ SV.v (Value.slice a n c) = SV.v (Value.slice a n c) ∧ SV.v (Value.int IntKind.i64 (Int.tmod c_1 c_2)) = SV.v (Value.int IntKind.i64 (Int.tmod c_1 c_2)) ∧ SV.v (Value.string q) = SV.v (Value.string q) ∧ SV.v (Value.int IntKind.i64 c_3) = SV.v (Value.int IntKind.i64 c_3) ∧ XI c_6 (q_1 ++ (q_3 ++ ByteArray.mk #[(10 : UInt8)])) n_1 c_5 q_2 ∧ Int.toNat ((↑(List.length es) : Int) + (1 : Int) - c_6) < Int.toNat ((↑(List.length es) : Int) + (1 : Int) - n_3))))
                                                            ((0 : Int) ≤ n_3 ∧ n_3 < (↑n : Int) ∧ Option.isSome a = true ∧ (4 : Nat) = (4 : Nat) ∧ ∃ (n_4 : Int), atI I'_1 a (Int.toNat n_3 * (4 : Nat) + (0 : Nat)) = some (Value.int IntKind.u8 n_4) ∧ ∃ (n_5 : Int), atI I'_1 a (Int.toNat n_3 * (4 : Nat) + (1 : Nat)) = some (Value.int IntKind.i64 n_5) ∧ ∃ (n_6 : Int), atI I'_1 a (Int.toNat n_3 * (4 : Nat) + (2 : Nat)) = some (Value.int IntKind.i64 n_6) ∧ ∃ (a_3 : Option Addr), ∃ (n_7 : Nat), ∃ (c_4 : Nat), atI I'_1 a (Int.toNat n_3 * (4 : Nat) + (3 : Nat)) = some (Value.slice a_3 n_7 c_4) ∧ Ct Tryz.prog (Value.func (Fn.func (22 : Nat)) #[] #[]) #[Value.agg #[Value.int IntKind.u8 n_4, Value.int IntKind.i64 n_5, Value.int IntKind.i64 n_6, Value.slice a_3 n_7 c_4]] I'_1 fun (v : Value) (I' : Mem) => ∃ (q_3 : ByteArray), ∃ (n_8 : Int), v = Value.tuple #[Value.string q_3, Value.int IntKind.i64 n_8] ∧ Br (n_8 != (0 : Int)) (Value.bool false = Value.bool true) (ByteArray.size q_3 + (1 : Nat) ≤ (4611686018427387904 : Nat) ∧ ByteArray.size q_1 + ByteArray.size (q_3 ++ ByteArray.mk #[(10 : UInt8)]) ≤ (4611686018427387904 : Nat) ∧ Wr IntKind.i64 (n_2 + (1 : Int)) fun (c_5 : Int) => Wr IntKind.i64 (n_3 + (1 : Int)) fun (c_6 : Int) => SV.v (Value.slice a1 n1 c1) = SV.v (Value.slice a1 n1 c1) ∧ SV.v (Value.slice a n c) = SV.v (Value.slice a n c) ∧ SV.v (Value.int IntKind.i64 (Int.tmod c_1 c_2)) = SV.v (Value.int IntKind.i64 (Int.tmod c_1 c_2)) ∧ SV.v (Value.string q) = SV.v (Value.string q) ∧ SV.v (Value.int IntKind.i64 c_3) = SV.v (Value.int IntKind.i64 c_3) ∧ XI c_6 (q_1 ++ (q_3 ++ ByteArray.mk #[(10 : UInt8)])) n_1 c_5 q_2 ∧ Int.toNat ((↑(List.length es) : Int) + (1 : Int) - c_6) < Int.toNat ((↑(List.length es) : Int) + (1 : Int) - n_3))))))
                                                      (Ct Tryz.prog (Value.func (Fn.func (36 : Nat)) #[] #[]) #[Value.string q_1] I'_1 fun (v : Value) (I' : Mem) => ∃ (a_3 : Option Addr), ∃ (n_4 : Nat), ∃ (c_4 : Nat), ∃ (n_5 : Int), ∃ (n_6 : Int), v = Value.tuple #[Value.slice a_3 n_4 c_4, Value.int IntKind.i64 n_5, Value.int IntKind.i64 n_6] ∧ Ct Tryz.prog (Value.func (Fn.func (36 : Nat)) #[] #[]) #[Value.string q_2] I' fun (v : Value) (I' : Mem) => ∃ (a_4 : Option Addr), ∃ (n_7 : Nat), ∃ (c_5 : Nat), ∃ (n_8 : Int), ∃ (n_9 : Int), v = Value.tuple #[Value.slice a_4 n_7 c_5, Value.int IntKind.i64 n_8, Value.int IntKind.i64 n_9] ∧ Br (n_6 == (0 : Int)) (Br (n_5 == (0 : Int)) (Ct Tryz.prog (Value.func (Fn.func (18 : Nat)) #[] #[]) #[Value.slice a_3 n_4 c_4, Value.slice a n c] I' fun (v : Value) (I' : Mem) => ∃ (b : Bool), v = Value.bool b ∧ Br b (Br ((↑n_7 : Int) == (0 : Int)) (Br (n_8 == n_1) (Value.bool (n_9 == (411 : Int)) = Value.bool true) (Value.bool false = Value.bool true)) (Value.bool false = Value.bool true)) (Value.bool false = Value.bool true)) (Value.bool false = Value.bool true)) (Value.bool false = Value.bool true)))) (by kernel_rfl) ?_
  simp only [Rf, eq_self, true_and]
  have hsn : ∀ x ∈ l, okSn x := by
    obtain ⟨xs, _, hr⟩ := h
    exact hr.all fun h => h.1
  obtain ⟨hgood, hl30⟩ := madeL_good hsn
  rw [← hes] at hgood hl30
  have hA0 : 0 ≤ AT := by rw [hAT]; exact Int.tmod_nonneg _ hm.1
  have hA1 : AT ≤ es.length := by
    have := Int.tmod_lt_of_pos m (show 0 < (es.length : Int) + 1 by omega)
    omega
  refine (ct14 I hG).mono fun v b lb hv => ⟨_, hv, Br.f rfl ((ct16 l a n c b (h.mono lb) hc).mono fun e f lf ⟨g, i, j, hv, hM, hij, hjm⟩ => ⟨g, i, j, hv, ?_⟩)⟩
  rw [← hes] at hM
  have hil : es.length = i := SlR.len (by decide) hM
  have hGf := hG.mono (Mem.le_trans lb lf)
  have hbf := hb.mono (Mem.le_trans lb lf)
  obtain ⟨k1, k2, q, hq, hget⟩ := lits_get badLs (n := k) (m := 9) hk.1 rfl (by decide)
  refine wr_i64 (by omega) (by omega) (wr_i64 (by omega) (by omega) ⟨by omega, by decide, k1, k2, q, ?_, wr_i64 (by omega) (by omega) ⟨?_, fun J _ lJ s x1 x2 y i3 hx => ?_⟩⟩)
  · show ((badLs.map fun q => SV.v (.string q))[_]?).bind _ = _
    rw [hget]; rfl
  · rw [hXI]
    exact ⟨by omega, by omega, by omega, by omega, ⟨[], rfl, acc_nil es, Nat.zero_le _⟩, fun h => by omega⟩
  have hAi : m.tmod ((i : Int) + 1) = AT := by rw [hAT, hil]
  rw [hAi]
  have hx' := hx
  rw [hXI] at hx
  have hMJ : EnM J g i es := hM.mono lJ
  have hGJ := hGf.mono lJ
  have hbJ := hbf.mono lJ
  have hs := lin_size hx (by decide) hl30
  have hqs := (badLs_read q hq).1
  have hn0 := hx.2.2.1
  have hi0 := hx.1
  have hi1 := hx.2.1
  have hn1 := hx.2.2.2.1
  have lit : ∀ {nn : Int}, 0 ≤ nn → 0 ≤ nn.tmod 3 ∧ nn.tmod 3 < 3 ∧ ∃ q, ((comLs.map fun q => SV.v (.string q))[0 + (nn.tmod 3).toNat * 1 + 0]?.bind fun | .v x => some x | _ => none) = some (.string q) ∧ ComT q ∧ q.size ≤ 4 := fun h => by
    obtain ⟨k1, k2, q, hq, hget⟩ := lits_get comLs (m := 3) h rfl (by decide)
    obtain ⟨x, e, _, _, hx3⟩ := comLs_ok q hq
    exact ⟨k1, k2, q, by rw [hget]; rfl, comLs_ok q hq, by rw [e, strT_size]; simp; omega⟩
  refine Br.mk (fun h1 => Br.mk (fun h2 => ⟨by omega, by rw [ByteArray.size_append]; omega, wr_i64 (by omega) (by omega) (have hL := lin_bent hx hq hl30; ?_)⟩) (fun h2 => have hL := lin_not hx (by simpa using h2); ?_)) (fun h1 => absurd (of_decide_eq_false h1) (by omega))
  all_goals
    refine Br.mk (fun h4 => fin_ok hGJ hMJ hl30 hL (by have : i3 = (i : Int) := by simpa using h4
                                                       omega) hA1) (fun h4 => ?_)
    have hlt : i3 < (es.length : Int) := by
      have : i3 ≠ (i : Int) := by simpa using h4
      omega
    refine Br.mk (fun h5 => ?_) (fun _ => tail_ok hGJ hMJ hgood hl30 hL (by decide) hlt hXI)
    have h5 := of_decide_eq_true h5
    obtain ⟨z, hz, hzb⟩ := hbJ.intAt (Int.tmod_nonneg (n1 : Int) hi0) (Int.tmod_lt_of_pos i3 h5)
    have hz4 : z.tmod 4 < 4 := Int.tmod_lt_of_pos _ (by decide)
    refine ⟨by omega, Int.tmod_nonneg _ hi0, Int.tmod_lt_of_pos _ h5, hbJ.isSome (by omega), z, hzb, by decide, Br.mk (fun _ => ?_) (fun _ => tail_ok hGJ hMJ hgood hl30 hL (by decide) hlt hXI)⟩
    obtain ⟨m1, m2, r1, hr1, hc1, hs1⟩ := lit hn0
    have hL1 := lin_skip hL (by decide) hc1
    refine ⟨by decide, m1, m2, r1, hr1, by omega, wr_i64 (by omega) (by omega) (wr_u8 (by decide) (by decide) (Br.mk (fun _ => ?_) (fun _ => tail_ok hGJ hMJ hgood hl30 hL1 (by decide) hlt hXI)))⟩
    obtain ⟨m1, m2, r2, hr2, hc2, hs2⟩ := lit hL1.2.2.1
    have hL2 := lin_skip hL1 (by decide) hc2
    refine ⟨by decide, m1, m2, r2, hr2, by simp only [ByteArray.size_append]; omega, wr_i64 (by omega) (by omega) (wr_u8 (by decide) (by decide) (Br.mk (fun _ => ?_) (fun _ => tail_ok hGJ hMJ hgood hl30 hL2 (by decide) hlt hXI)))⟩
    obtain ⟨m1, m2, r3, hr3, hc3, hs3⟩ := lit hL2.2.2.1
    have hL3 := lin_skip hL2 (by decide) hc3
    refine ⟨by decide, m1, m2, r3, hr3, by simp only [ByteArray.size_append]; omega, wr_i64 (by omega) (by omega) (wr_u8 (by decide) (by decide) (Br.mk (fun h9 => ?_) (fun _ => tail_ok hGJ hMJ hgood hl30 hL3 (by decide) hlt hXI)))⟩
    have h9 := of_decide_eq_true h9
    omega
theorem ct10Q (I : Mem) (hG : Globs I) (v0 v1 v2 v3 : Value) (h0 : Q28 I v0) (h1 : Q24 I v1) (h2 : Q5 I v2) (h3 : Q5 I v3) : Ct Tryz.prog (fnv 10) #[v0, v1, v2, v3] I (fun v _ => v = .bool true) := by
  obtain ⟨a, n, c, l, rfl, hM, hc, _⟩ := h0
  obtain ⟨a1, n1, c1, bs, rfl, hb, _, _, hbs⟩ := h1
  obtain ⟨k, rfl, hk⟩ := h2
  obtain ⟨m, rfl, hm⟩ := h3
  exact ct10 I hG l a n c hM hc a1 n1 c1 bs hb hbs k m hk hm
