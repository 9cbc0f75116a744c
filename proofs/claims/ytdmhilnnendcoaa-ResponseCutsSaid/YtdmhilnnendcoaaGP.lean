/- Part of a proof by the rules of the symbolic walk (see the law's own text): contracts of functions of the program. -/
import Derived.Test.YtdmhilnnendcoaaProg
import Derived.Test.YtdmhilnnendcoaaSe22
open Go Go.Proofs Go.SE Go.RowKit
set_option linter.unusedVariables false

/-- How many digits a number has to the base 256. -/
def digN (x : Nat) : Nat := if h : x = 0 then 0 else 1 + digN (x / 256)
termination_by x
decreasing_by omega
def sizeN (x : Nat) : Nat := if x ≤ 246 then 1 else 1 + digN x
theorem digN_le : ∀ {k x : Nat}, x < 256 ^ k → digN x ≤ k
  | 0, x, h => by
    have : x = 0 := by simpa using h
    subst this
    unfold digN; simp
  | k + 1, x, h => by
    unfold digN
    split
    · omega
    · have : x / 256 < 256 ^ k := by rw [Nat.div_lt_iff_lt_mul (by omega)]; rw [Nat.pow_succ] at h; exact h
      have := digN_le this
      omega
theorem digN_pos {x : Nat} (h : 0 < x) : digN x = 1 + digN (x / 256) := by
  rw [digN, dif_neg (by omega)]
theorem digN_zero : digN 0 = 0 := by rw [digN, dif_pos rfl]

theorem ct90 (x : Int) (h : 0 ≤ x ∧ x ≤ 18446744073709551615) (I : Mem) : Ct Try.prog (fnv 90) #[.int .u64 x] I (fun v _ => v = .int .i64 (sizeN x.toNat)) := by
  refine viaR (ct_via (A := { loops := [(4, ⟨[(0, .sh (.int .u64)), (3, .sh (.int .i64))], [], [], fun vals _ _ _ => match vals with
    | [.int .u64 y, .int .i64 n] => 0 ≤ y ∧ y ≤ 18446744073709551615 ∧ n + digN y.toNat = 1 + digN x.toNat ∧ 1 ≤ n | _ => False, fun vals _ => match vals with | [.int .u64 y, _] => y.toNat | _ => 0⟩)] }) Try.func90 rfl Try.call90 rfl rfl) (Br (decide (x ≤ (246 : Int))) (Value.int IntKind.i64 (1 : Int) = Value.int IntKind.i64 (↑(sizeN (Int.toNat x)) : Int)) (((0 : Int) ≤ x ∧ x ≤ (18446744073709551615 : Int) ∧ (1 : Int) + (↑(digN (Int.toNat x)) : Int) = (1 : Int) + (↑(digN (Int.toNat x)) : Int) ∧ (1 : Int) ≤ (1 : Int)) ∧ ∀ (I' G' : Mem), Mem.le I I' → ∀ (n n_1 : Int), (0 : Int) ≤ n ∧ n ≤ (18446744073709551615 : Int) ∧ n_1 + (↑(digN (Int.toNat n)) : Int) = (1 : Int) + (↑(digN (Int.toNat x)) : Int) ∧ (1 : Int) ≤ n_1 → Br (decide ((0 : Int) < n)) (Wr IntKind.i64 (n_1 + (1 : Int)) fun (c : Int) => (0 : Int) ≤ (8 : Int) ∧ ((0 : Int) ≤ Int.fdiv n (256 : Int) ∧ Int.fdiv n (256 : Int) ≤ (18446744073709551615 : Int) ∧ c + (↑(digN (Int.toNat (Int.fdiv n (256 : Int)))) : Int) = (1 : Int) + (↑(digN (Int.toNat x)) : Int) ∧ (1 : Int) ≤ c) ∧ Int.toNat (Int.fdiv n (256 : Int)) < Int.toNat n) (Value.int IntKind.i64 n_1 = Value.int IntKind.i64 (↑(sizeN (Int.toNat x)) : Int)))) (by kernel_rfl) ?_
  have hd8 : digN x.toNat ≤ 8 := digN_le (k := 8) (by omega)
  refine Br.mk (fun h1 => ?_) (fun h1 => ⟨⟨h.1, h.2, rfl, by omega⟩, fun I1 _ _ y n ⟨h2, h3, h4, h5⟩ => Br.mk (fun hp => ?_) (fun hp => ?_)⟩)
  · have h1 := of_decide_eq_true h1
    rw [sizeN, if_pos (by omega)]; rfl
  · have hp := of_decide_eq_true hp
    have hf : y.fdiv 256 = y / 256 := Int.fdiv_eq_ediv_of_nonneg _ (by decide)
    have hd := digN_pos (x := y.toNat) (by omega)
    have ht : (y / 256).toNat = y.toNat / 256 := by omega
    rw [hf]
    exact wr_i64 (by omega) (by omega) ⟨by omega, ⟨by omega, by omega, by rw [ht]; omega, by omega⟩, by omega⟩
  · have hp := of_decide_eq_false hp
    have h1 := of_decide_eq_false h1
    obtain rfl : y = 0 := by omega
    rw [show (0 : Int).toNat = 0 from rfl, digN_zero] at h4
    rw [sizeN, if_neg (by omega)]
    congr 1; omega
def be : Nat → Nat → List Int
  | 0, _ => []
  | k + 1, x => be k (x / 256) ++ [((x % 256 : Nat) : Int)]
def formN (x : Nat) : List Int := if x ≤ 246 then [(x : Int)] else ((246 + digN x : Nat) : Int) :: be (digN x) x
theorem be_len : ∀ (k x : Nat), (be k x).length = k
  | 0, _ => rfl
  | k + 1, x => by simp [be, be_len k]
theorem be_top : ∀ (k x : Nat), be (k + 1) x = ((x / 256 ^ k % 256 : Nat) : Int) :: be k x
  | 0, x => by simp [be]
  | k + 1, x => by
    rw [be, be_top k (x / 256), be, List.cons_append]
    congr 3
    rw [Nat.div_div_eq_div_mul, Nat.pow_succ, Nat.mul_comm]
def zs8 (n : Nat) : List Value := List.replicate n (.int .u8 0)
def stA (d K x : Nat) : List Value := zs8 (d - K) ++ ints .u8 (be K x) ++ zs8 (8 - d)
theorem stA_step {d K x : Nat} (hK : K < d) (hd : d ≤ 8) : splice (stA d K x) (d - 1 - K) [.int .u8 ((x / 256 ^ K % 256 : Nat) : Int)] = stA d (K + 1) x := by
  have h1 : zs8 (d - K) = zs8 (d - 1 - K) ++ [.int .u8 0] := by
    rw [zs8, show d - K = (d - 1 - K) + 1 by omega, List.replicate_succ']; rfl
  have hl : (zs8 (d - 1 - K)).length = d - 1 - K := by simp [zs8]
  unfold stA splice
  rw [h1, be_top, show d - (K + 1) = d - 1 - K by omega]
  simp only [List.append_assoc]
  rw [List.set_append_right _ _ (by rw [hl]; omega), hl, Nat.sub_self]
  simp [ints]
theorem cs59 (xs : List Value) (n : Nat) (x : Int) (h : 0 ≤ x ∧ x ≤ 18446744073709551615) (hn : n = xs.length) (hl : xs.length ≤ 100000000) (I : Mem) :
    CtS Try.prog (.v (fnv 59)) [.rsl 0 n, .v (.int .u64 x)] [⟨.row xs 1 5, none⟩] I (fun v H' _ => v = .rsl 0 (n + (formN x.toNat).length) ∧ H' = [⟨.row (xs ++ ints .u8 (formN x.toNat)) 1 5, none⟩]) := by
  refine viaR (ctS_via (A := { loops := [(6, ⟨[(0, .keep), (1, .sh (.int .u64)), (5, .keep), (6, .keep), (7, .sh (.int .i64))], [(0, .keep), (1, .vec)], [], fun vals xss _ _ => match vals, xss with
    | [.int .u64 v1, .int .i64 v7], [ys] => ∃ K : Nat, K ≤ digN x.toNat ∧ v7 = (digN x.toNat : Int) - 1 - K ∧ v1 = ((x.toNat / 256 ^ K : Nat) : Int) ∧ ys = stA (digN x.toNat) K x.toNat | _, _ => False, fun vals _ => match vals with | [_, .int .i64 v7] => (v7 + 1).toNat | _ => 0⟩)] }) Try.func59 rfl Try.call59 [0] rfl) (Ct Try.prog (Value.func (Fn.func (90 : Nat)) #[] #[]) #[Value.int IntKind.u64 x] I fun (v : Value) (I' : Mem) => ∃ (n_1 : Int), v = Value.int IntKind.i64 n_1 ∧ Br (n_1 == (1 : Int)) (Wr IntKind.u8 x fun (c : Int) => List.length xs = n * (1 : Nat) ∧ n + (1 : Nat) ≤ (9223372036854775807 : Nat) ∧ (n + (1 : Nat)) * (1 : Nat) ≤ (140737488355328 : Nat) ∧ SV.rsl (0 : Nat) (n + (1 : Nat)) = SV.rsl (0 : Nat) (n + List.length (formN (Int.toNat x))) ∧ [Ent.mk (EO.row (xs ++ [Value.int IntKind.u8 c]) (1 : Nat) (5 : Nat)) none] = [Ent.mk (EO.row (xs ++ List.map (Value.int IntKind.u8) (formN (Int.toNat x))) (1 : Nat) (5 : Nat)) none]) (Wr IntKind.i64 (n_1 - (2 : Int)) fun (c : Int) => (Ent.mk (EO.row xs (1 : Nat) (5 : Nat)) none = Ent.mk (EO.row xs (1 : Nat) (5 : Nat)) none ∧ @none Nat = @none Nat ∧ SV.rsl (0 : Nat) n = SV.rsl (0 : Nat) n ∧ SV.v (Value.int IntKind.i64 n_1) = SV.v (Value.int IntKind.i64 n_1) ∧ SV.ptr (1 : Nat) (0 : Nat) = SV.ptr (1 : Nat) (0 : Nat) ∧ ∃ (K : Nat), K ≤ digN (Int.toNat x) ∧ c = (↑(digN (Int.toNat x)) : Int) - (1 : Int) - (↑K : Int) ∧ x = (↑(Int.toNat x / (256 : Nat) ^ K) : Int) ∧ [Value.int IntKind.u8 (0 : Int), Value.int IntKind.u8 (0 : Int), Value.int IntKind.u8 (0 : Int), Value.int IntKind.u8 (0 : Int), Value.int IntKind.u8 (0 : Int), Value.int IntKind.u8 (0 : Int), Value.int IntKind.u8 (0 : Int), Value.int IntKind.u8 (0 : Int)] = stA (digN (Int.toNat x)) K (Int.toNat x)) ∧ ∀ (I'_1 G' : Mem), Mem.le I' I'_1 → ∀ (xs_1 : List Value) (n_2 n_3 : Int), (∃ (K : Nat), K ≤ digN (Int.toNat x) ∧ n_3 = (↑(digN (Int.toNat x)) : Int) - (1 : Int) - (↑K : Int) ∧ n_2 = (↑(Int.toNat x / (256 : Nat) ^ K) : Int) ∧ xs_1 = stA (digN (Int.toNat x)) K (Int.toNat x)) → Br (decide ((0 : Int) ≤ n_3)) (Wr IntKind.u8 n_2 fun (c : Int) => (0 : Int) ≤ n_3 ∧ n_3 < (8 : Int) ∧ (0 : Nat) + Int.toNat n_3 * (1 : Nat) + (1 : Nat) ≤ List.length xs_1 ∧ (0 : Int) ≤ (8 : Int) ∧ Wr IntKind.i64 (n_3 - (1 : Int)) fun (c_1 : Int) => Ent.mk (EO.row xs (1 : Nat) (5 : Nat)) none = Ent.mk (EO.row xs (1 : Nat) (5 : Nat)) none ∧ @none Nat = @none Nat ∧ SV.rsl (0 : Nat) n = SV.rsl (0 : Nat) n ∧ SV.v (Value.int IntKind.i64 n_1) = SV.v (Value.int IntKind.i64 n_1) ∧ SV.ptr (1 : Nat) (0 : Nat) = SV.ptr (1 : Nat) (0 : Nat) ∧ (∃ (K : Nat), K ≤ digN (Int.toNat x) ∧ c_1 = (↑(digN (Int.toNat x)) : Int) - (1 : Int) - (↑K : Int) ∧ Int.fdiv n_2 (256 : Int) = (↑(Int.toNat x / (256 : Nat) ^ K) : Int) ∧ splice xs_1 ((0 : Nat) + Int.toNat n_3 * (1 : Nat)) [Value.int IntKind.u8 c] = stA (digN (Int.toNat x)) K (Int.toNat x)) ∧ Int.toNat (c_1 + (1 : Int)) < Int.toNat (n_3 + (1 : Int))) (Wr IntKind.i64 ((246 : Int) + n_1) fun (c : Int) => Wr IntKind.i64 (c - (1 : Int)) fun (c : Int) => Wr IntKind.u8 c fun (c : Int) => Wr IntKind.i64 (n_1 - (1 : Int)) fun (c_1 : Int) => (0 : Int) ≤ c_1 ∧ c_1 ≤ (8 : Int) ∧ List.length xs = n * (1 : Nat) ∧ n + (1 : Nat) ≤ (9223372036854775807 : Nat) ∧ (n + (1 : Nat)) * (1 : Nat) ≤ (140737488355328 : Nat) ∧ (0 : Nat) + Int.toNat c_1 * (1 : Nat) ≤ List.length xs_1 ∧ (∀ (v : Value), v ∈ List.take (Int.toNat c_1 * (1 : Nat)) xs_1 → Value.oneCell' v = true) ∧ List.length (xs ++ [Value.int IntKind.u8 c]) = (n + (1 : Nat)) * (1 : Nat) ∧ n + (1 : Nat) + Int.toNat c_1 ≤ (9223372036854775807 : Nat) ∧ (n + (1 : Nat) + Int.toNat c_1) * (1 : Nat) ≤ (140737488355328 : Nat) ∧ SV.rsl (0 : Nat) (n + (1 : Nat) + Int.toNat c_1) = SV.rsl (0 : Nat) (n + List.length (formN (Int.toNat x))) ∧ [Ent.mk (EO.row (xs ++ [Value.int IntKind.u8 c] ++ List.take (Int.toNat c_1 * (1 : Nat)) xs_1) (1 : Nat) (5 : Nat)) none] = [Ent.mk (EO.row (xs ++ List.map (Value.int IntKind.u8) (formN (Int.toNat x))) (1 : Nat) (5 : Nat)) none]))) (by kernel_rfl) ?_
  simp only [eq_self, true_and]
  have hX : x.toNat < 256 ^ 8 := by omega
  have hd8 : digN x.toNat ≤ 8 := digN_le hX
  refine (ct90 x h I).mono fun v I1 _ hv => ⟨_, hv, Br.mk (fun h1 => ?_) (fun h1 => ?_)⟩
  · have h1 : (sizeN x.toNat : Int) = 1 := by simpa using h1
    have hle : x.toNat ≤ 246 := by
      rcases Nat.lt_or_ge 246 x.toNat with hgt | hle
      · rw [sizeN, if_neg (by omega), digN_pos (by omega)] at h1
        omega
      · exact hle
    have hf : formN x.toNat = [x] := by rw [formN, if_pos hle]; congr 1; omega
    rw [hf]
    exact ⟨x, IntWalk.u8_in x ⟨h.1, by omega⟩, by omega, by omega, by omega, rfl, rfl⟩
  · have hgt : 246 < x.toNat := by
      rcases Nat.lt_or_ge 246 x.toNat with hgt | hle
      · exact hgt
      · rw [sizeN, if_pos hle] at h1
        simp at h1
    have hs : sizeN x.toNat = 1 + digN x.toNat := by rw [sizeN, if_neg (by omega)]
    have hd1 : 1 ≤ digN x.toNat := by rw [digN_pos (by omega)]; omega
    have hf : formN x.toNat = ((246 + digN x.toNat : Nat) : Int) :: be (digN x.toNat) x.toNat := by rw [formN, if_neg (by omega)]
    rw [hs, hf]
    generalize hdd : digN x.toNat = d at hd8 hd1 ⊢
    refine wr_i64 (by omega) (by omega) ⟨⟨0, by omega, by omega, by simp; omega, ?_⟩, fun I2 G2 _ ys v1 v7 ⟨K, k1, k2, k3, k4⟩ => Br.mk (fun hge => ?_) (fun hlt => ?_)⟩
    · show List.replicate 8 (Value.int .u8 0) = _
      rw [stA, be]
      simp only [ints, List.map_nil, List.append_nil, zs8, List.replicate_append_replicate]
      congr 1; omega
    · have hge := of_decide_eq_true hge
      have hv7 : v7.toNat = d - 1 - K := by omega
      have hq : x.toNat / 256 ^ K / 256 = x.toNat / 256 ^ (K + 1) := by rw [Nat.div_div_eq_div_mul, Nat.pow_succ]
      have hfd : v1.fdiv 256 = v1 / 256 := Int.fdiv_eq_ediv_of_nonneg _ (by decide)
      refine ⟨((x.toNat / 256 ^ K % 256 : Nat) : Int), by rw [IntKind.wrap_u8, k3]; omega, hge, by omega, ?_, by omega, wr_i64 (by omega) (by omega) ⟨⟨K + 1, by omega, by omega, by rw [hfd, k3, ← hq]; omega, ?_⟩, by omega⟩⟩
      · rw [k4, stA]; simp [zs8, ints_len, be_len]; omega
      · rw [show 0 + v7.toNat * 1 = d - 1 - K by omega, k4]
        exact stA_step (by omega) hd8
    · have hlt := of_decide_eq_false hlt
      obtain rfl : K = d := by omega
      have hys : ys = ints .u8 (be K x.toNat) ++ zs8 (8 - K) := by rw [k4, stA]; simp [zs8]
      have ht : ys.take K = ints .u8 (be K x.toNat) := by rw [hys, List.take_left' (by rw [ints_len, be_len])]
      have hylen : ys.length = 8 := by rw [hys]; simp [zs8, ints_len, be_len]; omega
      refine wr_i64 (by omega) (by omega) (wr_i64 (by omega) (by omega) ⟨((246 + K : Nat) : Int), by rw [IntWalk.u8_in _ ⟨by omega, by omega⟩]; omega, wr_i64 (by omega) (by omega) ?_⟩)
      rw [show ((1 + K : Nat) : Int) - 1 = (K : Int) by omega, Int.toNat_natCast, show K * 1 = K from Nat.mul_one K, ht]
      refine ⟨by omega, by omega, by omega, by omega, by omega, by omega, fun v hv => ?_, by simp; omega, by omega, by omega, ?_, ?_⟩
      · simp only [ints, List.mem_map] at hv
        obtain ⟨z, _, rfl⟩ := hv
        rfl
      · congr 1; simp [be_len]; omega
      · simp [ints]

/-- The number that digits to the base 256 are. -/
def valN (ds : List Int) : Int := ds.foldl (fun x d => x * 256 + d) 0
theorem val_bd : ∀ (ds : List Int) (x : Int) (k : Nat), (∀ d ∈ ds, 0 ≤ d ∧ d ≤ 255) → 0 ≤ x ∧ x < 256 ^ k → 0 ≤ ds.foldl (fun x d => x * 256 + d) x ∧ ds.foldl (fun x d => x * 256 + d) x < 256 ^ (k + ds.length)
  | [], x, k, _, hx => hx
  | d :: r, x, k, h, hx => by
    have hd := h d (by simp)
    have := val_bd r (x * 256 + d) (k + 1) (fun y hy => h y (by simp [hy])) (by rw [Int.pow_succ]; omega)
    rw [List.foldl_cons, List.length_cons, show k + (r.length + 1) = k + 1 + r.length by omega]
    exact this
theorem valN_bd (ds : List Int) (h : ∀ d ∈ ds, 0 ≤ d ∧ d ≤ 255) : 0 ≤ valN ds ∧ valN ds < 256 ^ ds.length := by
  have := val_bd ds 0 0 h (by simp)
  simpa [valN] using this
theorem valN_snoc (ds : List Int) (d : Int) : valN (ds ++ [d]) = valN ds * 256 + d := by simp [valN]
theorem take_succ' {α : Type} {l : List α} {j : Nat} {x : α} (h : l[j]? = some x) : l.take (j + 1) = l.take j ++ [x] := by
  rw [List.take_add_one, h]; rfl
theorem pow7 : ∀ l : Nat, l < 8 → (256 : Int) ^ l ≤ 72057594037927936 := by decide
theorem or_low {y d : Int} (hy : 0 ≤ y) (hy2 : y < 72057594037927936) (hd : 0 ≤ d ∧ d ≤ 255) : bitsV .or .u64 (y * 256) d = y * 256 + d := by
  have h1 : (BitVec.ofInt 64 (y * 256)).toNat = 2 ^ 8 * y.toNat := by rw [BitVec.toNat_ofInt]; omega
  have h2 : (BitVec.ofInt 64 d).toNat = d.toNat := by rw [BitVec.toNat_ofInt]; omega
  show IntKind.u64.wrap ((BitVec.ofInt 64 (y * 256) ||| BitVec.ofInt 64 d).toNat : Int) = _
  rw [BitVec.toNat_or, h1, h2, ← Nat.two_pow_add_eq_or_of_lt (by omega), IntWalk.u64_in _ ⟨by omega, by omega⟩]
  omega
/-- What is read at an offset: the number, its form's length, the error. -/
def digs (bs : List Int) (at_ : Int) (b : Int) : List Int := (bs.drop (at_.toNat + 1)).take (b - 246).toNat
def readN (bs : List Int) (at_ : Int) : Int × Int × Int :=
  if at_ < 0 ∨ (bs.length : Int) < at_ then (0, 0, 2)
  else match bs[at_.toNat]? with
    | none => (0, 0, 10)
    | some b => if b ≤ 246 then (b, 1, 0) else if b = 255 then (0, 0, 11) else
      if (bs.length : Int) - at_ - 1 < b - 246 then (0, 0, 10) else
      if (digs bs at_ b)[0]? = some 0 then (0, 0, 11) else
      if valN (digs bs at_ b) ≤ 246 then (0, 0, 11) else (valN (digs bs at_ b), b - 246 + 1, 0)
def T3 (p : Int × Int × Int) : Value := .tuple #[.int .u64 p.1, .int .i64 p.2.1, .int .i64 p.2.2]
theorem ct80 (bs : List Int) (hbs : ∀ b ∈ bs, 0 ≤ b ∧ b ≤ 255) (a : Option Addr) (n c : Nat) (at_ : Int) (hat : -1000000 ≤ at_ ∧ at_ ≤ 1000000000) (I : Mem) (h : SlM I a n 1 (ints .u8 bs)) (hl : n ≤ 1000000000) :
    Ct Try.prog (fnv 80) #[.slice a n c, .int .i64 at_] I (fun v _ => v = T3 (readN bs at_)) := by
  refine viaR (ct_via (A := { loops := [(15, ⟨[(0, .keep), (1, .keep), (7, .keep), (8, .sh (.int .u64)), (9, .sh (.int .i64)), (56, .keep), (57, .sh (.int .i64))], [], [], fun vals _ _ _ => match vals with | [.int .u64 v8, .int .i64 v9, .int .i64 i] => 0 ≤ i ∧ i ≤ (bs[at_.toNat]?).getD 0 - 246 ∧ v9 = 0 ∧ v8 = valN ((digs bs at_ ((bs[at_.toNat]?).getD 0)).take i.toNat) ∧ (0 < i → (digs bs at_ ((bs[at_.toNat]?).getD 0))[0]? ≠ some 0) | _ => False, fun vals _ => match vals with | [_, _, .int .i64 i] => (9 - i).toNat | _ => 0⟩)] }) Try.func80 rfl Try.call80 rfl rfl) (Br (decide (at_ < (0 : Int))) (Value.tuple #[Value.int IntKind.u64 (0 : Int), Value.int IntKind.i64 (0 : Int), Value.int IntKind.i64 (2 : Int)] = Value.tuple #[Value.int IntKind.u64 (Prod.fst (readN bs at_)), Value.int IntKind.i64 (Prod.fst (Prod.snd (readN bs at_))), Value.int IntKind.i64 (Prod.snd (Prod.snd (readN bs at_)))]) (Br (decide ((↑n : Int) < at_)) (Value.tuple #[Value.int IntKind.u64 (0 : Int), Value.int IntKind.i64 (0 : Int), Value.int IntKind.i64 (2 : Int)] = Value.tuple #[Value.int IntKind.u64 (Prod.fst (readN bs at_)), Value.int IntKind.i64 (Prod.fst (Prod.snd (readN bs at_))), Value.int IntKind.i64 (Prod.snd (Prod.snd (readN bs at_)))]) (Br (at_ == (↑n : Int)) (Value.tuple #[Value.int IntKind.u64 (0 : Int), Value.int IntKind.i64 (0 : Int), Value.int IntKind.i64 (10 : Int)] = Value.tuple #[Value.int IntKind.u64 (Prod.fst (readN bs at_)), Value.int IntKind.i64 (Prod.fst (Prod.snd (readN bs at_))), Value.int IntKind.i64 (Prod.snd (Prod.snd (readN bs at_)))]) ((0 : Int) ≤ at_ ∧ at_ < (↑n : Int) ∧ Option.isSome a = true ∧ ∃ (n_1 : Int), atI I a (Int.toNat at_ * (1 : Nat) + (0 : Nat)) = some (Value.int IntKind.u8 n_1) ∧ Br (decide (n_1 ≤ (246 : Int))) ((0 : Int) ≤ at_ ∧ at_ < (↑n : Int) ∧ Option.isSome a = true ∧ ∃ (n : Int), atI I a (Int.toNat at_ * (1 : Nat) + (0 : Nat)) = some (Value.int IntKind.u8 n) ∧ Wr IntKind.u64 n fun (c : Int) => Value.tuple #[Value.int IntKind.u64 c, Value.int IntKind.i64 (1 : Int), Value.int IntKind.i64 (0 : Int)] = Value.tuple #[Value.int IntKind.u64 (Prod.fst (readN bs at_)), Value.int IntKind.i64 (Prod.fst (Prod.snd (readN bs at_))), Value.int IntKind.i64 (Prod.snd (Prod.snd (readN bs at_)))]) ((0 : Int) ≤ at_ ∧ at_ < (↑n : Int) ∧ Option.isSome a = true ∧ ∃ (n_2 : Int), atI I a (Int.toNat at_ * (1 : Nat) + (0 : Nat)) = some (Value.int IntKind.u8 n_2) ∧ Br (n_2 == (255 : Int)) (Value.tuple #[Value.int IntKind.u64 (0 : Int), Value.int IntKind.i64 (0 : Int), Value.int IntKind.i64 (11 : Int)] = Value.tuple #[Value.int IntKind.u64 (Prod.fst (readN bs at_)), Value.int IntKind.i64 (Prod.fst (Prod.snd (readN bs at_))), Value.int IntKind.i64 (Prod.snd (Prod.snd (readN bs at_)))]) ((0 : Int) ≤ at_ ∧ at_ < (↑n : Int) ∧ Option.isSome a = true ∧ ∃ (n_3 : Int), atI I a (Int.toNat at_ * (1 : Nat) + (0 : Nat)) = some (Value.int IntKind.u8 n_3) ∧ Wr IntKind.i64 n_3 fun (c_1 : Int) => Wr IntKind.i64 (c_1 - (246 : Int)) fun (c_2 : Int) => Wr IntKind.i64 ((↑n : Int) - at_) fun (c_3 : Int) => Wr IntKind.i64 (c_3 - (1 : Int)) fun (c_4 : Int) => Br (decide (c_4 < c_2)) (Value.tuple #[Value.int IntKind.u64 (0 : Int), Value.int IntKind.i64 (0 : Int), Value.int IntKind.i64 (10 : Int)] = Value.tuple #[Value.int IntKind.u64 (Prod.fst (readN bs at_)), Value.int IntKind.i64 (Prod.fst (Prod.snd (readN bs at_))), Value.int IntKind.i64 (Prod.snd (Prod.snd (readN bs at_)))]) ((SV.v (Value.slice a n c) = SV.v (Value.slice a n c) ∧ SV.v (Value.int IntKind.i64 at_) = SV.v (Value.int IntKind.i64 at_) ∧ SV.v (Value.int IntKind.i64 c_2) = SV.v (Value.int IntKind.i64 c_2) ∧ SV.v (Value.int IntKind.i64 c_2) = SV.v (Value.int IntKind.i64 c_2) ∧ (0 : Int) ≤ (0 : Int) ∧ (0 : Int) ≤ Option.getD bs[Int.toNat at_]? (0 : Int) - (246 : Int) ∧ (0 : Int) = (0 : Int) ∧ (0 : Int) = (0 : Int) ∧ ((0 : Int) < (0 : Int) → (digs bs at_ (Option.getD bs[Int.toNat at_]? (0 : Int)))[(0 : Nat)]? ≠ some (0 : Int))) ∧ ∀ (I' G' : Mem), Mem.le I I' → ∀ (n_4 n_5 n_6 : Int), (0 : Int) ≤ n_6 ∧ n_6 ≤ Option.getD bs[Int.toNat at_]? (0 : Int) - (246 : Int) ∧ n_5 = (0 : Int) ∧ n_4 = valN (List.take (Int.toNat n_6) (digs bs at_ (Option.getD bs[Int.toNat at_]? (0 : Int)))) ∧ ((0 : Int) < n_6 → (digs bs at_ (Option.getD bs[Int.toNat at_]? (0 : Int)))[(0 : Nat)]? ≠ some (0 : Int)) → Br (decide (n_6 < c_2)) (Wr IntKind.i64 (at_ + (1 : Int)) fun (c_5 : Int) => Wr IntKind.i64 (c_5 + n_6) fun (c_6 : Int) => (0 : Int) ≤ c_6 ∧ c_6 < (↑n : Int) ∧ Option.isSome a = true ∧ ∃ (n_7 : Int), atI I' a (Int.toNat c_6 * (1 : Nat) + (0 : Nat)) = some (Value.int IntKind.u8 n_7) ∧ Br (n_6 == (0 : Int)) (Br (n_7 == (0 : Int)) (Value.tuple #[Value.int IntKind.u64 (0 : Int), Value.int IntKind.i64 (0 : Int), Value.int IntKind.i64 (11 : Int)] = Value.tuple #[Value.int IntKind.u64 (Prod.fst (readN bs at_)), Value.int IntKind.i64 (Prod.fst (Prod.snd (readN bs at_))), Value.int IntKind.i64 (Prod.snd (Prod.snd (readN bs at_)))]) ((0 : Int) ≤ (8 : Int) ∧ Wr IntKind.u64 (n_4 * (256 : Int)) fun (c_7 : Int) => Wr IntKind.u64 n_7 fun (c_8 : Int) => Wr IntKind.i64 (n_6 + (1 : Int)) fun (c_9 : Int) => SV.v (Value.slice a n c) = SV.v (Value.slice a n c) ∧ SV.v (Value.int IntKind.i64 at_) = SV.v (Value.int IntKind.i64 at_) ∧ SV.v (Value.int IntKind.i64 c_2) = SV.v (Value.int IntKind.i64 c_2) ∧ SV.v (Value.int IntKind.i64 c_2) = SV.v (Value.int IntKind.i64 c_2) ∧ ((0 : Int) ≤ c_9 ∧ c_9 ≤ Option.getD bs[Int.toNat at_]? (0 : Int) - (246 : Int) ∧ n_5 = (0 : Int) ∧ bitsV BinOp.or IntKind.u64 c_7 c_8 = valN (List.take (Int.toNat c_9) (digs bs at_ (Option.getD bs[Int.toNat at_]? (0 : Int)))) ∧ ((0 : Int) < c_9 → (digs bs at_ (Option.getD bs[Int.toNat at_]? (0 : Int)))[(0 : Nat)]? ≠ some (0 : Int))) ∧ Int.toNat ((9 : Int) - c_9) < Int.toNat ((9 : Int) - n_6))) ((0 : Int) ≤ (8 : Int) ∧ Wr IntKind.u64 (n_4 * (256 : Int)) fun (c_7 : Int) => Wr IntKind.u64 n_7 fun (c_8 : Int) => Wr IntKind.i64 (n_6 + (1 : Int)) fun (c_9 : Int) => SV.v (Value.slice a n c) = SV.v (Value.slice a n c) ∧ SV.v (Value.int IntKind.i64 at_) = SV.v (Value.int IntKind.i64 at_) ∧ SV.v (Value.int IntKind.i64 c_2) = SV.v (Value.int IntKind.i64 c_2) ∧ SV.v (Value.int IntKind.i64 c_2) = SV.v (Value.int IntKind.i64 c_2) ∧ ((0 : Int) ≤ c_9 ∧ c_9 ≤ Option.getD bs[Int.toNat at_]? (0 : Int) - (246 : Int) ∧ n_5 = (0 : Int) ∧ bitsV BinOp.or IntKind.u64 c_7 c_8 = valN (List.take (Int.toNat c_9) (digs bs at_ (Option.getD bs[Int.toNat at_]? (0 : Int)))) ∧ ((0 : Int) < c_9 → (digs bs at_ (Option.getD bs[Int.toNat at_]? (0 : Int)))[(0 : Nat)]? ≠ some (0 : Int))) ∧ Int.toNat ((9 : Int) - c_9) < Int.toNat ((9 : Int) - n_6))) (Br (n_5 != (0 : Int)) (Value.tuple #[Value.int IntKind.u64 (0 : Int), Value.int IntKind.i64 (0 : Int), Value.int IntKind.i64 (11 : Int)] = Value.tuple #[Value.int IntKind.u64 (Prod.fst (readN bs at_)), Value.int IntKind.i64 (Prod.fst (Prod.snd (readN bs at_))), Value.int IntKind.i64 (Prod.snd (Prod.snd (readN bs at_)))]) (Br (decide (n_4 ≤ (246 : Int))) (Value.tuple #[Value.int IntKind.u64 (0 : Int), Value.int IntKind.i64 (0 : Int), Value.int IntKind.i64 (11 : Int)] = Value.tuple #[Value.int IntKind.u64 (Prod.fst (readN bs at_)), Value.int IntKind.i64 (Prod.fst (Prod.snd (readN bs at_))), Value.int IntKind.i64 (Prod.snd (Prod.snd (readN bs at_)))]) (Wr IntKind.i64 (c_2 + (1 : Int)) fun (c : Int) => Value.tuple #[Value.int IntKind.u64 n_4, Value.int IntKind.i64 c, Value.int IntKind.i64 (0 : Int)] = Value.tuple #[Value.int IntKind.u64 (Prod.fst (readN bs at_)), Value.int IntKind.i64 (Prod.fst (Prod.snd (readN bs at_))), Value.int IntKind.i64 (Prod.snd (Prod.snd (readN bs at_)))])))))))))) (by kernel_rfl) ?_
  simp only [eq_self, true_and]
  have hn := h.numLen
  refine Br.mk (fun h0 => ?_) (fun h0 => Br.mk (fun h1 => ?_) (fun h1 => Br.mk (fun h2 => ?_) (fun h2 => ?_)))
  · have h0 := of_decide_eq_true h0
    rw [readN, if_pos (.inl h0)]
  · have h1 := of_decide_eq_true h1
    rw [readN, if_pos (.inr (by omega))]
  · have h2 : at_ = n := by simpa using h2
    rw [readN, if_neg (by omega), List.getElem?_eq_none (by omega)]
  have h0 := of_decide_eq_false h0
  have h1 := of_decide_eq_false h1
  have h2 : at_ ≠ n := by simpa using h2
  obtain ⟨b, hb, hcell⟩ := h.intAt (i := at_) (by omega) (by omega)
  have hbr := hbs b (List.mem_of_getElem? hb)
  have hrd : readN bs at_ = if b ≤ 246 then (b, 1, 0) else if b = 255 then (0, 0, 11) else
      if (bs.length : Int) - at_ - 1 < b - 246 then (0, 0, 10) else
      if (digs bs at_ b)[0]? = some 0 then (0, 0, 11) else
      if valN (digs bs at_ b) ≤ 246 then (0, 0, 11) else (valN (digs bs at_ b), b - 246 + 1, 0) := by
    rw [readN, if_neg (by omega), hb]
  rw [hrd]
  have hsome := h.isSome (by omega)
  refine ⟨by omega, by omega, hsome, b, hcell, Br.mk (fun h3 => ?_) (fun h3 => ?_)⟩
  · have h3 := of_decide_eq_true h3
    refine ⟨by omega, by omega, hsome, b, hcell, b, IntWalk.u64_in b ⟨hbr.1, by omega⟩, ?_⟩
    rw [if_pos h3]
  have h3 := of_decide_eq_false h3
  rw [if_neg h3]
  refine ⟨by omega, by omega, hsome, b, hcell, Br.mk (fun h4 => ?_) (fun h4 => ?_)⟩
  · have h4 : b = 255 := by simpa using h4
    rw [if_pos h4]
  have h4 : b ≠ 255 := by simpa using h4
  rw [if_neg h4]
  refine ⟨by omega, by omega, hsome, b, hcell, wr_i64 (by omega) (by omega) (wr_i64 (by omega) (by omega) (wr_i64 (by omega) (by omega) (wr_i64 (by omega) (by omega) (Br.mk (fun h5 => ?_) (fun h5 => ?_)))))⟩
  · have h5 := of_decide_eq_true h5
    rw [if_pos (by omega)]
  have h5 := of_decide_eq_false h5
  rw [if_neg (by omega)]
  simp only [hb, Option.getD_some]
  have hk8 : b - 246 ≤ 8 := by omega
  have hdl : (digs bs at_ b).length = (b - 246).toNat := by simp only [digs, List.length_take, List.length_drop]; omega
  have hdat : ∀ i : Nat, i < (b - 246).toNat → (digs bs at_ b)[i]? = bs[at_.toNat + 1 + i]? := fun i hi => by
    rw [digs, List.getElem?_take, if_pos hi, List.getElem?_drop]
  have hdb : ∀ d ∈ digs bs at_ b, 0 ≤ d ∧ d ≤ 255 := fun d hd => hbs d (List.mem_of_mem_drop (List.mem_of_mem_take hd))
  refine ⟨⟨by omega, by omega, fun h => by omega⟩, fun I1 G1 hI1 x e i ⟨k0, k1, k2, k3, k4⟩ => Br.mk (fun hlt => ?_) (fun hge => ?_)⟩
  · have hlt := of_decide_eq_true hlt
    have hS := h.mono hI1
    obtain ⟨d, hd, hdc⟩ := hS.intAt (i := at_ + 1 + i) (by omega) (by omega)
    have hdr := hbs d (List.mem_of_getElem? hd)
    have hdi : (digs bs at_ b)[i.toNat]? = some d := by rw [hdat _ (by omega), ← hd]; congr 1; omega
    have hxb := valN_bd ((digs bs at_ b).take i.toNat) fun y hy => hdb y (List.mem_of_mem_take hy)
    have hxl : ((digs bs at_ b).take i.toNat).length ≤ 7 := by rw [List.length_take]; omega
    have hx7 : x < 72057594037927936 := by
      rw [k3]
      refine Int.lt_of_lt_of_le hxb.2 ?_
      exact pow7 _ (by omega)
    have hx0 : 0 ≤ x := by rw [k3]; exact hxb.1
    have hstep : bitsV .or .u64 (x * 256) d = valN ((digs bs at_ b).take (i + 1).toNat) := by
      rw [or_low hx0 hx7 hdr, show (i + 1).toNat = i.toNat + 1 by omega, take_succ' hdi, valN_snoc, k3]
    refine wr_i64 (by omega) (by omega) (wr_i64 (by omega) (by omega) ⟨by omega, by omega, hsome, d, hdc, Br.mk (fun h6 => Br.mk (fun h7 => ?_) (fun h7 => ?_)) (fun h6 => ?_)⟩)
    · have h6 : i = 0 := by simpa using h6
      have h7 : d = 0 := by simpa using h7
      rw [if_pos (by rw [← h7, ← hdi, h6]; rfl)]
    · have h6 : i = 0 := by simpa using h6
      have h7 : d ≠ 0 := by simpa using h7
      refine ⟨by omega, _, IntWalk.u64_in _ ⟨by omega, by omega⟩, _, IntWalk.u64_in _ ⟨hdr.1, by omega⟩, wr_i64 (by omega) (by omega) ⟨⟨by omega, by omega, k2, hstep, fun _ h8 => h7 ?_⟩, by omega⟩⟩
      rw [h6] at hdi
      rw [show (0 : Int).toNat = 0 from rfl, h8] at hdi
      exact (Option.some.inj hdi).symm
    · have h6 : i ≠ 0 := by simpa using h6
      exact ⟨by omega, _, IntWalk.u64_in _ ⟨by omega, by omega⟩, _, IntWalk.u64_in _ ⟨hdr.1, by omega⟩, wr_i64 (by omega) (by omega) ⟨⟨by omega, by omega, k2, hstep, fun _ => k4 (by omega)⟩, by omega⟩⟩
  · have hge := of_decide_eq_false hge
    have hix : x = valN (digs bs at_ b) := by rw [k3, List.take_of_length_le (by rw [hdl]; omega)]
    refine Br.f (by simp [k2]) ?_
    rw [if_neg (k4 (by omega))]
    refine Br.mk (fun h8 => ?_) (fun h8 => wr_i64 (by omega) (by omega) ?_)
    · have h8 := of_decide_eq_true h8
      rw [if_pos (by omega)]
    · have h8 := of_decide_eq_false h8
      rw [if_neg (by omega), hix]

/-- Bytes that are one form. -/
def lastN (bs : List Int) : Int × Int × Int :=
  if (readN bs 0).2.2 ≠ 0 then (0, 0, (readN bs 0).2.2) else if (readN bs 0).2.1 < bs.length then (0, 0, 11) else ((readN bs 0).1, (readN bs 0).2.1, 0)
theorem readN_nonneg (bs : List Int) (hbs : ∀ b ∈ bs, 0 ≤ b ∧ b ≤ 255) (at_ : Int) : 0 ≤ (readN bs at_).1 := by
  unfold readN
  split
  · decide
  · split
    · decide
    · rename_i b hb
      have := hbs b (List.mem_of_getElem? hb)
      split
      · exact this.1
      · split
        · decide
        · split
          · decide
          · split
            · decide
            · split
              · decide
              · exact (valN_bd _ fun d hd => hbs d (List.mem_of_mem_drop (List.mem_of_mem_take hd))).1
def intN (bs : List Int) (at_ least most : Int) : Int × Int × Int :=
  if (readN bs at_).2.2 ≠ 0 then (0, 0, (readN bs at_).2.2) else if most < 0 ∨ most < (readN bs at_).1 ∨ (0 < least ∧ (readN bs at_).1 < least) then (0, 0, 12) else ((readN bs at_).1, (readN bs at_).2.1, 0)
def T3i (p : Int × Int × Int) : Value := .tuple #[.int .i64 p.1, .int .i64 p.2.1, .int .i64 p.2.2]
theorem ct75 (bs : List Int) (hbs : ∀ b ∈ bs, 0 ≤ b ∧ b ≤ 255) (a : Option Addr) (n c : Nat) (at_ least most : Int) (hat : -1000000 ≤ at_ ∧ at_ ≤ 1000000000) (hm : -9223372036854775808 ≤ most ∧ most ≤ 9223372036854775807) (hle : -9223372036854775808 ≤ least ∧ least ≤ 9223372036854775807)
    (I : Mem) (h : SlM I a n 1 (ints .u8 bs)) (hl : n ≤ 1000000000) :
    Ct Try.prog (fnv 75) #[.slice a n c, .int .i64 at_, .int .i64 least, .int .i64 most] I (fun v _ => v = T3i (intN bs at_ least most)) := by
  refine viaR (ct_via (A := {}) Try.func75 rfl Try.call75 rfl rfl) (Ct Try.prog (Value.func (Fn.func (80 : Nat)) #[] #[]) #[Value.slice a n c, Value.int IntKind.i64 at_] I fun (v : Value) (I' : Mem) => ∃ (n : Int), ∃ (n_1 : Int), ∃ (n_2 : Int), v = Value.tuple #[Value.int IntKind.u64 n, Value.int IntKind.i64 n_1, Value.int IntKind.i64 n_2] ∧ Br (n_2 != (0 : Int)) (Value.tuple #[Value.int IntKind.i64 (0 : Int), Value.int IntKind.i64 (0 : Int), Value.int IntKind.i64 n_2] = Value.tuple #[Value.int IntKind.i64 (Prod.fst (intN bs at_ least most)), Value.int IntKind.i64 (Prod.fst (Prod.snd (intN bs at_ least most))), Value.int IntKind.i64 (Prod.snd (Prod.snd (intN bs at_ least most)))]) (Br (decide (most < (0 : Int))) (Value.tuple #[Value.int IntKind.i64 (0 : Int), Value.int IntKind.i64 (0 : Int), Value.int IntKind.i64 (12 : Int)] = Value.tuple #[Value.int IntKind.i64 (Prod.fst (intN bs at_ least most)), Value.int IntKind.i64 (Prod.fst (Prod.snd (intN bs at_ least most))), Value.int IntKind.i64 (Prod.snd (Prod.snd (intN bs at_ least most)))]) (Wr IntKind.u64 most fun (c : Int) => Br (decide (c < n)) (Value.tuple #[Value.int IntKind.i64 (0 : Int), Value.int IntKind.i64 (0 : Int), Value.int IntKind.i64 (12 : Int)] = Value.tuple #[Value.int IntKind.i64 (Prod.fst (intN bs at_ least most)), Value.int IntKind.i64 (Prod.fst (Prod.snd (intN bs at_ least most))), Value.int IntKind.i64 (Prod.snd (Prod.snd (intN bs at_ least most)))]) (Br (decide ((0 : Int) < least)) (Wr IntKind.u64 least fun (c : Int) => Br (decide (n < c)) (Value.tuple #[Value.int IntKind.i64 (0 : Int), Value.int IntKind.i64 (0 : Int), Value.int IntKind.i64 (12 : Int)] = Value.tuple #[Value.int IntKind.i64 (Prod.fst (intN bs at_ least most)), Value.int IntKind.i64 (Prod.fst (Prod.snd (intN bs at_ least most))), Value.int IntKind.i64 (Prod.snd (Prod.snd (intN bs at_ least most)))]) (Wr IntKind.i64 n fun (c : Int) => Value.tuple #[Value.int IntKind.i64 c, Value.int IntKind.i64 n_1, Value.int IntKind.i64 (0 : Int)] = Value.tuple #[Value.int IntKind.i64 (Prod.fst (intN bs at_ least most)), Value.int IntKind.i64 (Prod.fst (Prod.snd (intN bs at_ least most))), Value.int IntKind.i64 (Prod.snd (Prod.snd (intN bs at_ least most)))])) (Wr IntKind.i64 n fun (c : Int) => Value.tuple #[Value.int IntKind.i64 c, Value.int IntKind.i64 n_1, Value.int IntKind.i64 (0 : Int)] = Value.tuple #[Value.int IntKind.i64 (Prod.fst (intN bs at_ least most)), Value.int IntKind.i64 (Prod.fst (Prod.snd (intN bs at_ least most))), Value.int IntKind.i64 (Prod.snd (Prod.snd (intN bs at_ least most)))]))))) (by kernel_rfl) ?_
  have wu : ∀ {n : Int} {K : Int → Prop}, 0 ≤ n → n ≤ 18446744073709551615 → K n → Wr .u64 n K := fun h0 h1 hk => ⟨_, IntWalk.u64_in _ ⟨h0, h1⟩, hk⟩
  refine (ct80 bs hbs a n c at_ hat I h hl).mono fun v I1 _ hv => ⟨_, _, _, hv, Br.mk (fun h1 => ?_) (fun h1 => Br.mk (fun h2 => ?_) (fun h2 => ?_))⟩
  · have h1 : (readN bs at_).2.2 ≠ 0 := by simpa using h1
    rw [intN, if_pos h1]
  · have h1 : ¬((readN bs at_).2.2 ≠ 0) := by simpa using h1
    have h2 := of_decide_eq_true h2
    rw [intN, if_neg h1, if_pos (.inl h2)]
  have h1 : ¬((readN bs at_).2.2 ≠ 0) := by simpa using h1
  have h2 := of_decide_eq_false h2
  have hx := readN_nonneg bs hbs at_
  refine wu (by omega) (by omega) (Br.mk (fun h3 => ?_) (fun h3 => Br.mk (fun h4 => ?_) (fun h4 => ?_)))
  · have h3 := of_decide_eq_true h3
    rw [intN, if_neg h1, if_pos (.inr (.inl h3))]
  · have h3 := of_decide_eq_false h3
    have h4 := of_decide_eq_true h4
    refine wu (by omega) (by omega) (Br.mk (fun h5 => ?_) (fun h5 => ?_))
    · have h5 := of_decide_eq_true h5
      rw [intN, if_neg h1, if_pos (.inr (.inr ⟨h4, h5⟩))]
    · have h5 := of_decide_eq_false h5
      refine wr_i64 (by omega) (by omega) ?_
      rw [intN, if_neg h1, if_neg (by omega)]
  · have h3 := of_decide_eq_false h3
    have h4 := of_decide_eq_false h4
    refine wr_i64 (by omega) (by omega) ?_
    rw [intN, if_neg h1, if_neg (by omega)]

theorem valN_be : ∀ k x : Nat, valN (be k x) = ((x % 256 ^ k : Nat) : Int)
  | 0, x => by simp [be, valN, Nat.mod_one]
  | k + 1, x => by
    rw [be, valN_snoc, valN_be k (x / 256)]
    have : x % 256 ^ (k + 1) = x % 256 + 256 * (x / 256 % 256 ^ k) := by rw [Nat.pow_succ, Nat.mul_comm, Nat.mod_mul]
    omega
theorem val_from : ∀ (ds : List Int) (x : Int), ds.foldl (fun x d => x * 256 + d) x = x * 256 ^ ds.length + valN ds
  | [], x => by simp [valN]
  | d :: r, x => by
    have h1 := val_from r (x * 256 + d)
    have h2 := val_from r d
    rw [List.foldl_cons, h1]
    have : valN (d :: r) = d * 256 ^ r.length + valN r := by
      have : valN (d :: r) = r.foldl (fun x d => x * 256 + d) (0 * 256 + d) := rfl
      rw [this, Int.zero_mul, Int.zero_add, h2]
    rw [this, List.length_cons, Int.pow_succ, Int.add_mul, Int.mul_assoc, Int.mul_comm 256]
    omega
theorem valN_cons (d : Int) (r : List Int) : valN (d :: r) = d * 256 ^ r.length + valN r := by
  have : valN (d :: r) = r.foldl (fun x d => x * 256 + d) (0 * 256 + d) := rfl
  rw [this, Int.zero_mul, Int.zero_add, val_from]
theorem be_valN : ∀ (k : Nat) (ds : List Int), ds.length = k → (∀ d ∈ ds, 0 ≤ d ∧ d ≤ 255) → be k (valN ds).toNat = ds
  | 0, ds, h, _ => by
    have : ds = [] := List.eq_nil_of_length_eq_zero h
    subst this; rfl
  | k + 1, ds, h, hd => by
    have hne : ds ≠ [] := by intro e; subst e; simp at h
    have e := List.dropLast_concat_getLast hne
    have hl : ds.dropLast.length = k := by simp; omega
    have hb : ∀ d ∈ ds.dropLast, 0 ≤ d ∧ d ≤ 255 := fun d hx => hd d (List.dropLast_subset _ hx)
    have hd' := hd _ (List.getLast_mem hne)
    have h0 := (valN_bd _ hb).1
    have ih := be_valN k ds.dropLast hl hb
    generalize ds.getLast hne = d at e hd'
    generalize ds.dropLast = r at *
    subst e
    rw [valN_snoc, be]
    have e1 : (valN r * 256 + d).toNat / 256 = (valN r).toNat := by omega
    have e2 : (((valN r * 256 + d).toNat % 256 : Nat) : Int) = d := by omega
    rw [e1, e2, ih]
theorem digN_bd : ∀ {x : Nat}, 0 < x → 256 ^ (digN x - 1) ≤ x ∧ x < 256 ^ digN x := by
  intro x
  induction x using Nat.strongRecOn with
  | ind x ih =>
    intro h
    rw [digN_pos h]
    by_cases h0 : x / 256 = 0
    · rw [h0, digN_zero]; omega
    · have := ih (x / 256) (by omega) (by omega)
      have hp : digN (x / 256) = digN (x / 256) - 1 + 1 := by rw [digN_pos (by omega)]; omega
      generalize digN (x / 256) = k at this hp ⊢
      cases k with
      | zero => omega
      | succ k =>
        simp only [Nat.add_sub_cancel] at this
        rw [show 1 + (k + 1) - 1 = k + 1 by omega, show 1 + (k + 1) = (k + 1) + 1 by omega, Nat.pow_succ 256 (k + 1), Nat.pow_succ 256 k] at *
        omega
theorem digN_eq {k x : Nat} (h1 : 256 ^ k ≤ x) (h2 : x < 256 ^ (k + 1)) : digN x = k + 1 := by
  have hx : 0 < x := Nat.lt_of_lt_of_le (Nat.pow_pos (by omega)) h1
  have := digN_bd hx
  have a : digN x - 1 < k + 1 := (Nat.pow_lt_pow_iff_right (a := 256) (by omega)).1 (Nat.lt_of_le_of_lt this.1 h2)
  have b : k < digN x := (Nat.pow_lt_pow_iff_right (a := 256) (by omega)).1 (Nat.lt_of_le_of_lt h1 this.2)
  omega
theorem formN_len (x : Nat) : (formN x).length = sizeN x := by
  unfold formN sizeN
  split
  · rfl
  · simp [be_len]; omega
theorem formN_bytes {x : Nat} (h : x < 256 ^ 8) : ∀ d ∈ formN x, 0 ≤ d ∧ d ≤ 255 := by
  have hb : ∀ k x, ∀ d ∈ be k x, 0 ≤ d ∧ d ≤ 255 := fun k => by
    induction k with
    | zero => intro x d hd; simp [be] at hd
    | succ k ih =>
      intro x d hd
      rw [be] at hd
      rcases List.mem_append.1 hd with hd | hd
      · exact ih _ d hd
      · cases List.mem_singleton.1 hd
        omega
  have hd8 : digN x ≤ 8 := digN_le h
  unfold formN
  split
  · intro d hd; cases List.mem_singleton.1 hd; omega
  · intro d hd
    rcases List.mem_cons.1 hd with rfl | hd
    · omega
    · exact hb _ _ d hd
/-- What is written is read. -/
theorem readN_form (pre post : List Int) (x : Nat) (h : x < 256 ^ 8) : readN (pre ++ (formN x ++ post)) pre.length = ((x : Int), ((formN x).length : Int), 0) := by
  have hlen : (pre ++ (formN x ++ post)).length = pre.length + ((formN x).length + post.length) := by simp
  have hd8 : digN x ≤ 8 := digN_le h
  have hat : (pre ++ (formN x ++ post))[pre.length]? = (formN x ++ post)[0]? := by rw [List.getElem?_append_right (by omega), Nat.sub_self]
  unfold readN
  rw [if_neg (by omega), Int.toNat_natCast, hat]
  by_cases hx : x ≤ 246
  · have : formN x = [(x : Int)] := by rw [formN, if_pos hx]
    rw [this]
    simp only [List.cons_append, List.nil_append, List.getElem?_cons_zero, if_pos (show (x : Int) ≤ 246 by omega)]
    rfl
  · have hf : formN x = ((246 + digN x : Nat) : Int) :: be (digN x) x := by rw [formN, if_neg hx]
    have hbd := digN_bd (x := x) (by omega)
    have hdp : 1 ≤ digN x := by rw [digN_pos (by omega)]; omega
    have hl2 := hlen
    rw [hf] at hl2
    simp only [List.length_cons, be_len] at hl2
    rw [hf]
    simp only [List.cons_append, List.getElem?_cons_zero]
    have hds : digs (pre ++ ((246 + digN x : Nat) : Int) :: (be (digN x) x ++ post)) pre.length ((246 + digN x : Nat) : Int) = be (digN x) x := by
      unfold digs
      rw [Int.toNat_natCast, show (((246 + digN x : Nat) : Int) - 246).toNat = digN x by omega, List.drop_append, List.drop_eq_nil_of_le (by omega), List.nil_append, show pre.length + 1 - pre.length = 1 by omega]
      rw [show (((246 + digN x : Nat) : Int) :: (be (digN x) x ++ post)).drop 1 = be (digN x) x ++ post from rfl, List.take_left' (be_len _ _)]
    rw [hds, if_neg (by omega), if_neg (by omega), if_neg (by simp [be_len]; omega)]
    have hv : valN (be (digN x) x) = (x : Int) := by rw [valN_be, Nat.mod_eq_of_lt hbd.2]
    have h0 : (be (digN x) x)[0]? ≠ some 0 := by
      obtain ⟨k, hk⟩ : ∃ k, digN x = k + 1 := ⟨digN x - 1, by omega⟩
      rw [hk] at hbd ⊢
      simp only [Nat.add_sub_cancel] at hbd
      rw [be_top, List.getElem?_cons_zero]
      intro e
      have hp : 0 < 256 ^ k := Nat.pow_pos (by omega)
      have q1 : 1 ≤ x / 256 ^ k := (Nat.le_div_iff_mul_le hp).2 (by omega)
      have q2 : x / 256 ^ k < 256 := (Nat.div_lt_iff_lt_mul hp).2 (by rw [Nat.mul_comm, ← Nat.pow_succ]; exact hbd.2)
      rw [Nat.mod_eq_of_lt q2] at e
      injection e with e
      omega
    rw [if_neg h0, hv, if_neg (by omega)]
    simp [be_len]; omega
/-- What is read is written so. -/
theorem readN_back {bs : List Int} (hbs : ∀ b ∈ bs, 0 ≤ b ∧ b ≤ 255) {at_ x n : Int} (h : readN bs at_ = (x, n, 0)) :
    0 ≤ at_ ∧ at_ ≤ bs.length ∧ 0 ≤ x ∧ x.toNat < 256 ^ 8 ∧ n = (formN x.toNat).length ∧ bs.drop at_.toNat = formN x.toNat ++ bs.drop (at_ + n).toNat ∧ at_ + n ≤ bs.length := by
  unfold readN at h
  split at h
  · cases h
  rename_i hr
  have h0 : 0 ≤ at_ := by omega
  have h1 : at_ ≤ bs.length := by omega
  split at h
  · cases h
  rename_i b hb
  have hb' := hbs b (List.mem_of_getElem? hb)
  have hlt := (List.getElem?_eq_some_iff.1 hb).1
  have hcons : bs.drop at_.toNat = b :: bs.drop (at_.toNat + 1) := by
    rw [List.drop_eq_getElem_cons hlt, (List.getElem?_eq_some_iff.1 hb).2]
  split at h
  · injection h with e1 e2
    injection e2 with e2 e3
    subst e1; subst e2
    have hf : formN b.toNat = [b] := by rw [formN, if_pos (by omega)]; congr 1; omega
    rw [hf]
    refine ⟨h0, h1, hb'.1, by omega, rfl, ?_, by omega⟩
    rw [hcons, show (at_ + 1).toNat = at_.toNat + 1 by omega]; rfl
  split at h
  · cases h
  split at h
  · cases h
  split at h
  · cases h
  split at h
  · cases h
  rename_i c1 c2 c3 c4 c5
  injection h with e1 e2
  injection e2 with e2 e3
  have hdb : ∀ d ∈ digs bs at_ b, 0 ≤ d ∧ d ≤ 255 := fun d hd => hbs d (List.mem_of_mem_drop (List.mem_of_mem_take hd))
  have hdl : (digs bs at_ b).length = (b - 246).toNat := by unfold digs; simp; omega
  have hbd := valN_bd _ hdb
  have happ : bs.drop (at_.toNat + 1) = digs bs at_ b ++ bs.drop (at_ + n).toNat := by
    rw [show (at_ + n).toNat = at_.toNat + 1 + (b - 246).toNat by omega, digs, ← List.drop_drop (i := (b - 246).toNat), List.take_append_drop]
  obtain ⟨k, hk⟩ : ∃ k, (b - 246).toNat = k + 1 := ⟨(b - 246).toNat - 1, by omega⟩
  have hk8 : k < 8 := by omega
  rw [hk] at hdl
  generalize digs bs at_ b = ds at *
  rw [hdl] at hbd
  have hdig : digN x.toNat = k + 1 := by
    cases ds with
    | nil => simp at hdl
    | cons d r =>
      have hd0 := hdb d (by simp)
      have hr : r.length = k := by simpa using hdl
      have : d ≠ 0 := fun e => c4 (by rw [e]; rfl)
      have hv := valN_cons d r
      have hr0 := (valN_bd r fun y hy => hdb y (by simp [hy])).1
      rw [hr] at hv
      have hp : (0 : Int) < 256 ^ k := Int.pow_pos (by omega)
      have : (256 : Int) ^ k ≤ d * 256 ^ k := by
        have : 1 * (256 : Int) ^ k ≤ d * 256 ^ k := Int.mul_le_mul_of_nonneg_right (by omega) (by omega)
        omega
      refine digN_eq ?_ ?_
      · have : ((256 ^ k : Nat) : Int) = (256 : Int) ^ k := by simp
        omega
      · have : ((256 ^ (k + 1) : Nat) : Int) = (256 : Int) ^ (k + 1) := by simp
        omega
  have hx8 : x.toNat < 256 ^ 8 := by
    have h8 : 256 ^ (k + 1) ≤ 256 ^ 8 := Nat.pow_le_pow_right (by omega) (by omega)
    have : ((256 ^ (k + 1) : Nat) : Int) = (256 : Int) ^ (k + 1) := by simp
    omega
  have hf : formN x.toNat = b :: ds := by
    rw [formN, if_neg (by omega), hdig]
    have := be_valN (k + 1) ds hdl hdb
    rw [← e1, this]
    congr 1; omega
  refine ⟨h0, h1, by omega, hx8, by rw [hf]; simp; omega, ?_, by omega⟩
  rw [hf, hcons, happ]; rfl

/-- A field as the program may hold it. -/
def okFld (f : Int × List Int) : Prop := (-9223372036854775808 ≤ f.1 ∧ f.1 ≤ 9223372036854775807) ∧ ∀ z ∈ f.2, 0 ≤ z ∧ z ≤ 255
/-- Cells that are fields. -/
def FR (I : Mem) : List Value → List (Int × List Int) → Prop
  | [], [] => True
  | x :: y :: xs, f :: l => (okFld f ∧ x = .int .i64 f.1 ∧ BySl I y f.2) ∧ FR I xs l
  | _, _ => False
theorem FR.nil {I : Mem} : FR I [] [] := trivial
theorem FR.cons {I : Mem} {x y : Value} {xs : List Value} {f : Int × List Int} {l : List (Int × List Int)} (h : okFld f ∧ x = .int .i64 f.1 ∧ BySl I y f.2) (h' : FR I xs l) : FR I (x :: y :: xs) (f :: l) := ⟨h, h'⟩
theorem FR.cases {I : Mem} : ∀ {xs : List Value} {l : List (Int × List Int)}, FR I xs l → (xs = [] ∧ l = []) ∨ ∃ x y xs' f l', xs = x :: y :: xs' ∧ l = f :: l' ∧ (okFld f ∧ x = .int .i64 f.1 ∧ BySl I y f.2) ∧ FR I xs' l'
  | [], [], _ => .inl ⟨rfl, rfl⟩
  | [], _ :: _, h => h.elim
  | [_], [], h => h.elim
  | [_], _ :: _, h => h.elim
  | _ :: _ :: _, [], h => h.elim
  | x :: y :: xs, f :: l, h => .inr ⟨x, y, xs, f, l, rfl, rfl, h.1, h.2⟩
theorem FR.mono {I J : Mem} (hle : I.le J) : ∀ {l : List (Int × List Int)} {xs : List Value}, FR I xs l → FR J xs l := by
  intro l
  induction l with
  | nil =>
    intro xs h
    rcases h.cases with ⟨rfl, _⟩ | ⟨_, _, _, _, _, _, h, _⟩
    · trivial
    · cases h
  | cons f l ih =>
    intro xs h
    rcases h.cases with ⟨_, h⟩ | ⟨x, y, xs', f', l', rfl, h2, h3, h4⟩
    · cases h
    · cases h2
      exact ⟨⟨h3.1, h3.2.1, h3.2.2.mono hle⟩, ih h4⟩
theorem FR.len {I : Mem} : ∀ {l : List (Int × List Int)} {xs : List Value}, FR I xs l → xs.length = l.length * 2 := by
  intro l
  induction l with
  | nil =>
    intro xs h
    rcases h.cases with ⟨rfl, _⟩ | ⟨_, _, _, _, _, _, h, _⟩
    · rfl
    · cases h
  | cons f l ih =>
    intro xs h
    rcases h.cases with ⟨_, h⟩ | ⟨x, y, xs', f', l', rfl, h2, h3, h4⟩
    · cases h
    · cases h2
      simp [ih h4]; omega
theorem FR.app {I : Mem} {ys : List Value} {m : List (Int × List Int)} (h' : FR I ys m) : ∀ {l : List (Int × List Int)} {xs : List Value}, FR I xs l → FR I (xs ++ ys) (l ++ m) := by
  intro l
  induction l with
  | nil =>
    intro xs h
    rcases h.cases with ⟨rfl, _⟩ | ⟨_, _, _, _, _, _, h, _⟩
    · exact h'
    · cases h
  | cons f l ih =>
    intro xs h
    rcases h.cases with ⟨_, h⟩ | ⟨x, y, xs', f', l', rfl, h2, h3, h4⟩
    · cases h
    · cases h2
      exact ⟨h3, ih h4⟩
theorem FR.snoc {I : Mem} {xs : List Value} {l : List (Int × List Int)} {x y : Value} {f : Int × List Int} (h : FR I xs l) (h' : okFld f ∧ x = .int .i64 f.1 ∧ BySl I y f.2) : FR I (xs ++ [x, y]) (l ++ [f]) :=
  FR.app (ys := [x, y]) (m := [f]) (FR.cons h' FR.nil) h
theorem FR.get {I : Mem} : ∀ {l : List (Int × List Int)} {xs : List Value}, FR I xs l → ∀ {j : Nat} {f : Int × List Int}, l[j]? = some f → okFld f ∧ xs[j * 2 + 0]? = some (.int .i64 f.1) ∧ ∃ y, xs[j * 2 + 1]? = some y ∧ BySl I y f.2 := by
  intro l
  induction l with
  | nil => intro xs h j f hj; simp at hj
  | cons f l ih =>
    intro xs h j g hj
    rcases h.cases with ⟨_, h⟩ | ⟨x, y, xs', f', l', rfl, h2, h3, h4⟩
    · cases h
    · cases h2
      cases j with
      | zero => simp at hj; subst hj; exact ⟨h3.1, by simp [h3.2.1], y, by simp, h3.2.2⟩
      | succ j =>
        have := ih h4 (j := j) (f := g) (by simpa using hj)
        rw [show (j + 1) * 2 + 0 = (j * 2 + 0) + 2 by omega, show (j + 1) * 2 + 1 = (j * 2 + 1) + 2 by omega]
        simpa using this
theorem FR.ok {I : Mem} {xs : List Value} {l : List (Int × List Int)} (h : FR I xs l) : ∀ f ∈ l, okFld f := fun f hf => by
  obtain ⟨j, hj, rfl⟩ := List.mem_iff_getElem.1 hf
  exact (h.get (List.getElem?_eq_getElem hj)).1
theorem FR.take {I : Mem} : ∀ (k : Nat) {l : List (Int × List Int)} {xs : List Value}, FR I xs l → FR I (xs.take (k * 2)) (l.take k) := by
  intro k
  induction k with
  | zero => intro l xs h; simp [FR]
  | succ k ih =>
    intro l xs h
    rcases h.cases with ⟨rfl, rfl⟩ | ⟨x, y, xs', f', l', rfl, rfl, h3, h4⟩
    · simp [FR]
    · rw [show (k + 1) * 2 = k * 2 + 1 + 1 by omega]
      exact ⟨h3, ih h4⟩
/-- A slice of fields. -/
def FldM (I : Mem) (a : Option Addr) (n : Nat) (l : List (Int × List Int)) : Prop := ∃ xs, SlM I a n 2 xs ∧ FR I xs l
theorem FldM.mono {I J : Mem} {a : Option Addr} {n : Nat} {l : List (Int × List Int)} (h : FldM I a n l) (hle : I.le J) : FldM J a n l := by
  obtain ⟨xs, h1, h2⟩ := h
  exact ⟨xs, h1.mono hle, h2.mono hle⟩
theorem FldM.len {I : Mem} {a : Option Addr} {n : Nat} {l : List (Int × List Int)} (h : FldM I a n l) : l.length = n := by
  obtain ⟨xs, h1, h2⟩ := h
  have := h1.len
  have := h2.len
  omega
theorem FldM.max {I : Mem} {a : Option Addr} {n : Nat} {l : List (Int × List Int)} (h : FldM I a n l) : n ≤ maxLen := by
  obtain ⟨xs, h1, h2⟩ := h
  exact h1.max
theorem FldM.ok {I : Mem} {a : Option Addr} {n : Nat} {l : List (Int × List Int)} (h : FldM I a n l) : ∀ f ∈ l, okFld f := by
  obtain ⟨xs, h1, h2⟩ := h
  exact h2.ok
theorem FldM.isSome {I : Mem} {a : Option Addr} {n : Nat} {l : List (Int × List Int)} (h : FldM I a n l) (hn : 0 < n) : a.isSome = true := by
  obtain ⟨xs, h1, h2⟩ := h
  exact h1.isSome hn
theorem FldM.nil {I : Mem} {a : Option Addr} {n : Nat} {l : List (Int × List Int)} (h : FldM I a n l) (hn : a = none) : n = 0 := by
  obtain ⟨xs, h1, h2⟩ := h
  exact h1.nil hn
theorem fldM_nil (I : Mem) : FldM I none 0 [] := ⟨[], sl_nil I 2, trivial⟩
theorem FldM.at_ {I : Mem} {a : Option Addr} {n : Nat} {l : List (Int × List Int)} (h : FldM I a n l) {i : Int} (h0 : 0 ≤ i) (h1 : i < n) :
    ∃ f b m c, l[i.toNat]? = some f ∧ okFld f ∧ atI I a (i.toNat * 2 + 0) = some (.int .i64 f.1) ∧ atI I a (i.toNat * 2 + 1) = some (.slice b m c) ∧ SlM I b m 1 (ints .u8 f.2) ∧ m ≤ c ∧ c ≤ maxLen := by
  have hl := h.len
  obtain ⟨xs, hs, hf⟩ := h
  have hg : l[i.toNat]? = some l[i.toNat] := List.getElem?_eq_getElem (by omega)
  obtain ⟨g1, g2, y, g3, b, m, c, rfl, g4, g5, g6⟩ := hf.get hg
  exact ⟨_, b, m, c, hg, g1, hs.at_ _ _ g2, hs.at_ _ _ g3, g4, g5, g6⟩
theorem fldM_row {I : Mem} {a : Option Addr} {cp : Nat} {xs : List Value} {l : List (Int × List Int)} (h : RowM I a cp 2 xs) (hf : FR I xs l) : FldM I a l.length l :=
  ⟨xs, h.sl (by omega) hf.len, hf⟩
open Go Go.Proofs Go.SE Go.RowKit
set_option linter.unusedVariables false
def rightStep : Int → Int → List (Int × List Int) → Bool
  | _, _, [] => true
  | last, left, f :: r => if f.1 ≤ last ∨ 200 < f.1 ∨ left < f.2.length then false else rightStep f.1 (left - f.2.length) r
def rightF (l : List (Int × List Int)) : Bool := rightStep 0 16384 l && decide ((l.length : Int) ≤ 64)
theorem drop_cons {α : Type} {l : List α} {j : Nat} {x : α} (h : l[j]? = some x) : l.drop j = x :: l.drop (j + 1) := by
  obtain ⟨hl, rfl⟩ := List.getElem?_eq_some_iff.1 h
  exact List.drop_eq_getElem_cons hl
theorem ct58 (l : List (Int × List Int)) (a : Option Addr) (n c : Nat) (I : Mem) (h : FldM I a n l) (hn : n ≤ 1000000) :
    Ct Try.prog (fnv 58) #[.slice a n c] I (fun v _ => v = .bool (rightF l)) := by
  refine viaR (ct_via (A := { loops := [(3, ⟨[(0, .keep), (3, .sh (.int .i64)), (4, .sh (.int .i64)), (7, .keep), (8, .keep), (9, .sh (.int .i64))], [], [], fun vals _ _ _ => match vals with | [.int .i64 last, .int .i64 left, .int .i64 j] => 0 ≤ j ∧ j ≤ n ∧ 0 ≤ last ∧ last ≤ 200 ∧ 0 ≤ left ∧ left ≤ 16384 ∧ rightStep 0 16384 l = rightStep last left (l.drop j.toNat) | _ => False, fun vals _ => match vals with | [_, _, .int .i64 j] => (n - j).toNat | _ => 0⟩)] }) Try.func58 rfl Try.call58 rfl rfl) ((SV.v (Value.slice a n c) = SV.v (Value.slice a n c) ∧ SV.v (Value.slice a n c) = SV.v (Value.slice a n c) ∧ SV.v (Value.int IntKind.i64 (↑n : Int)) = SV.v (Value.int IntKind.i64 (↑n : Int)) ∧ (0 : Int) ≤ (0 : Int) ∧ (0 : Int) ≤ (↑n : Int) ∧ (0 : Int) ≤ (0 : Int) ∧ (0 : Int) ≤ (200 : Int) ∧ (0 : Int) ≤ (16384 : Int) ∧ (16384 : Int) ≤ (16384 : Int) ∧ rightStep (0 : Int) (16384 : Int) l = rightStep (0 : Int) (16384 : Int) l) ∧ ∀ (I' G' : Mem), Mem.le I I' → ∀ (n_1 n_2 n_3 : Int), (0 : Int) ≤ n_3 ∧ n_3 ≤ (↑n : Int) ∧ (0 : Int) ≤ n_1 ∧ n_1 ≤ (200 : Int) ∧ (0 : Int) ≤ n_2 ∧ n_2 ≤ (16384 : Int) ∧ rightStep (0 : Int) (16384 : Int) l = rightStep n_1 n_2 (List.drop (Int.toNat n_3) l) → Br (decide (n_3 < (↑n : Int))) ((0 : Int) ≤ n_3 ∧ n_3 < (↑n : Int) ∧ Option.isSome a = true ∧ (2 : Nat) = (2 : Nat) ∧ ∃ (n_4 : Int), atI I' a (Int.toNat n_3 * (2 : Nat) + (0 : Nat)) = some (Value.int IntKind.i64 n_4) ∧ ∃ (a_3 : Option Addr), ∃ (n_5 : Nat), ∃ (c_1 : Nat), atI I' a (Int.toNat n_3 * (2 : Nat) + (1 : Nat)) = some (Value.slice a_3 n_5 c_1) ∧ Br (decide (n_4 ≤ n_1)) (Value.bool false = Value.bool (rightF l)) (Br (decide ((200 : Int) < n_4)) (Value.bool false = Value.bool (rightF l)) (Br (decide (n_2 < (↑n_5 : Int))) (Value.bool false = Value.bool (rightF l)) (Wr IntKind.i64 (n_2 - (↑n_5 : Int)) fun (c_2 : Int) => Wr IntKind.i64 (n_3 + (1 : Int)) fun (c_3 : Int) => SV.v (Value.slice a n c) = SV.v (Value.slice a n c) ∧ SV.v (Value.slice a n c) = SV.v (Value.slice a n c) ∧ SV.v (Value.int IntKind.i64 (↑n : Int)) = SV.v (Value.int IntKind.i64 (↑n : Int)) ∧ ((0 : Int) ≤ c_3 ∧ c_3 ≤ (↑n : Int) ∧ (0 : Int) ≤ n_4 ∧ n_4 ≤ (200 : Int) ∧ (0 : Int) ≤ c_2 ∧ c_2 ≤ (16384 : Int) ∧ rightStep (0 : Int) (16384 : Int) l = rightStep n_4 c_2 (List.drop (Int.toNat c_3) l)) ∧ Int.toNat ((↑n : Int) - c_3) < Int.toNat ((↑n : Int) - n_3))))) (Value.bool (decide ((↑n : Int) ≤ (64 : Int))) = Value.bool (rightF l))) (by kernel_rfl) ?_
  simp only [eq_self, true_and, and_true]
  have hl := h.len
  refine ⟨by omega, fun I1 _ hI last left j ⟨h0, h1, h2, h3, h4, h5, h6⟩ => Br.mk (fun hlt => ?_) (fun hge => ?_)⟩
  · have hlt := of_decide_eq_true hlt
    obtain ⟨f, b, m, c', hf, hok, e1, e2, hs, hm1, hm2⟩ := (h.mono hI).at_ h0 hlt
    have hm := hs.numLen
    rw [drop_cons hf, rightStep] at h6
    refine ⟨h0, hlt, h.isSome (by omega), _, e1, b, m, c', e2, Br.mk (fun g1 => ?_) (fun g1 => Br.mk (fun g2 => ?_) (fun g2 => Br.mk (fun g3 => ?_) (fun g3 => ?_)))⟩
    · have g1 := of_decide_eq_true g1
      rw [rightF, h6, if_pos (.inl g1)]; rfl
    · have g2 := of_decide_eq_true g2
      rw [rightF, h6, if_pos (.inr (.inl g2))]; rfl
    · have g3 := of_decide_eq_true g3
      rw [rightF, h6, if_pos (.inr (.inr (by omega)))]; rfl
    · have g1 := of_decide_eq_false g1
      have g2 := of_decide_eq_false g2
      have g3 := of_decide_eq_false g3
      rw [if_neg (by omega)] at h6
      refine wr_i64 (by omega) (by omega) (wr_i64 (by omega) (by omega) ⟨⟨by omega, by omega, by omega, by omega, by omega, by omega, ?_⟩, by omega⟩)
      rw [h6, show (j + 1).toNat = j.toNat + 1 by omega, hm]
  · have hge := of_decide_eq_false hge
    rw [List.drop_eq_nil_of_le (by omega)] at h6
    rw [rightF, h6, hl]; rfl
/-- Bytes as numbers of eight bits. -/
def u8s (l : List Int) : List UInt8 := l.map fun z => UInt8.ofNat z.toNat
theorem u8_nat {z : Int} (h : 0 ≤ z ∧ z ≤ 255) : (((UInt8.ofNat z.toNat).toNat : Nat) : Int) = z := by
  rw [UInt8.toNat_ofNat']
  omega
theorem u8s_inj {xs ys : List Int} (hx : byteL xs) (hy : byteL ys) (h : u8s xs = u8s ys) : xs = ys := by
  apply List.ext_getElem?
  intro i
  have := congrArg (fun l => l[i]?) h
  simp only [u8s, List.getElem?_map] at this
  cases hxi : xs[i]? with
  | none =>
    cases hyi : ys[i]? with
    | none => rfl
    | some y => rw [hxi, hyi] at this; cases this
  | some x =>
    cases hyi : ys[i]? with
    | none => rw [hxi, hyi] at this; cases this
    | some y =>
      rw [hxi, hyi] at this
      have h1 := u8_nat (hx x (List.mem_of_getElem? hxi))
      have h2 := u8_nat (hy y (List.mem_of_getElem? hyi))
      simp only [Option.map_some, Option.some.injEq] at this
      rw [this] at h1
      rw [← h1, h2]
theorem u8s_at {xs : List Int} (hb : byteL xs) {I : Mem} {a : Option Addr} {n : Nat} (h : SlM I a n 1 (ints .u8 xs)) : (u8s xs).length = n ∧ (a = none → n = 0) ∧ ∀ (j : Nat) (b : UInt8), (u8s xs)[j]? = some b → atI I a j = some (Value.int IntKind.u8 ↑b.toNat) := by
  refine ⟨by rw [u8s, List.length_map]; exact h.numLen.symm, h.nil, fun j b hj => ?_⟩
  simp only [u8s, List.getElem?_map, Option.map_eq_some_iff] at hj
  obtain ⟨x, hx, rfl⟩ := hj
  rw [u8_nat (hb x (List.mem_of_getElem? hx))]
  exact h.at_ j _ (ints_get hx)
theorem ct14 (xs ys : List Int) (hx : byteL xs) (hy : byteL ys) (a b : Option Addr) (n c m d : Nat) (I : Mem) (h : SlM I a n 1 (ints .u8 xs)) (h' : SlM I b m 1 (ints .u8 ys)) :
    Ct Try.prog (fnv 14) #[.slice a n c, .slice b m d] I (fun v _ => v = .bool (decide (xs = ys))) := by
  refine viaR (ct_via (A := { }) Try.func14 rfl Try.call14 rfl rfl) (∃ (q : List UInt8), List.length q = n ∧ (a = none → n = (0 : Nat)) ∧ (∀ (j : Nat) (b : UInt8), q[j]? = some b → atI I a j = some (Value.int IntKind.u8 (↑(UInt8.toNat b) : Int))) ∧ ∃ (q_1 : List UInt8), List.length q_1 = m ∧ (b = none → m = (0 : Nat)) ∧ (∀ (j : Nat) (b_1 : UInt8), q_1[j]? = some b_1 → atI I b j = some (Value.int IntKind.u8 (↑(UInt8.toNat b_1) : Int))) ∧ Value.bool (ByteArray.toList (ByteArray.mk (List.toArray q)) == ByteArray.toList (ByteArray.mk (List.toArray q_1))) = Value.bool (decide (xs = ys))) (by kernel_rfl) ?_
  obtain ⟨h1, h2, h3⟩ := u8s_at hx h
  obtain ⟨h4, h5, h6⟩ := u8s_at hy h'
  refine ⟨_, h1, h2, h3, _, h4, h5, h6, ?_⟩
  rw [str_eq]
  congr 1
  refine decide_eq_decide.2 ⟨fun e => u8s_inj hx hy ?_, fun e => by rw [e]⟩
  injection e with e
  exact Array.toList_inj.2 e |> fun e => by simpa using e
theorem one_ints {k : IntKind} {l : List Int} : ∀ v ∈ ints k l, v.oneCell' = true := fun v hv => by
  simp only [ints, List.mem_map] at hv
  obtain ⟨z, _, rfl⟩ := hv
  rfl
theorem row_bysl {I : Mem} {a : Option Addr} {cp n : Nat} {xs : List Int} (h : RowM I a cp 1 (ints .u8 xs)) (hn : n = xs.length) : BySl I (.slice a n cp) xs := by
  refine ⟨a, n, cp, rfl, h.sl (by omega) (by rw [ints_len]; omega), ?_, ?_⟩
  · have := h.1; rw [ints_len] at this; omega
  · exact h.2.1
/-- What is new of a value, if it is a slice. -/
def NewB (I0 I : Mem) (v : Value) : Prop := ∀ a n c, v = .slice a n c → NewS 1 I0 I a c ∧ n ≤ 1000000
theorem NewB.mono {I0 I J : Mem} {v : Value} (h : NewB I0 I v) (hle : I.le J) : NewB I0 J v := fun a n c hv => ⟨(h a n c hv).1.mono hle, (h a n c hv).2⟩
theorem NewB.anti {I0 J0 I : Mem} {v : Value} (h : NewB I0 I v) (hle : J0.le I0) : NewB J0 I v := fun a n c hv => ⟨(h a n c hv).1.anti hle, (h a n c hv).2⟩
theorem newB_sl {I0 I : Mem} {a : Option Addr} {n c : Nat} (h : NewS 1 I0 I a c) (hn : n ≤ 1000000) : NewB I0 I (.slice a n c) := fun a' n' c' hv => by
  cases hv
  exact ⟨h, hn⟩
theorem newB_int {I0 I : Mem} {k : IntKind} {x : Int} : NewB I0 I (.int k x) := fun a' n' c' hv => by cases hv
theorem ct36N (xs : List Int) (a : Option Addr) (n c : Nat) (I : Mem) (h : SlM I a n 1 (ints .u8 xs)) (hn : n ≤ 1000000) :
    Ct Try.prog (fnv 36) #[.slice a n c] I (fun v I' => BySl I' v xs ∧ NewB I I' v) := by
  refine viaR (ctF_via (A := { }) Try.func36 rfl Try.call36 rfl rfl) (Br (Option.isNone a) ((∃ (b : Option Addr), ∃ (m : Nat), ∃ (c : Nat), Value.slice none (0 : Nat) (0 : Nat) = Value.slice b m c ∧ SlM I b m (1 : Nat) (List.map (Value.int IntKind.u8) xs) ∧ m ≤ c ∧ c ≤ (9223372036854775807 : Nat)) ∧ NewB I I (Value.slice none (0 : Nat) (0 : Nat))) (∃ (ys : List Value), List.length ys = n * (1 : Nat) ∧ (a = none → n = (0 : Nat)) ∧ (∀ (j : Nat) (v : Value), ys[j]? = some v → atI I a j = some v) ∧ (∀ (v : Value), v ∈ ys → Value.oneCell' v = true) ∧ (0 : Nat) = (0 : Nat) ∧ (0 : Nat) + n ≤ (9223372036854775807 : Nat) ∧ ((0 : Nat) + n) * (1 : Nat) ≤ (140737488355328 : Nat) ∧ ∀ (a : Option Addr) (cp : Nat) (I' : Mem), Mem.le I I' → RowF I I' a cp (1 : Nat) ys → (∃ (b : Option Addr), ∃ (m : Nat), ∃ (c : Nat), Value.slice a ((0 : Nat) + n) cp = Value.slice b m c ∧ SlM I' b m (1 : Nat) (List.map (Value.int IntKind.u8) xs) ∧ m ≤ c ∧ c ≤ (9223372036854775807 : Nat)) ∧ NewB I I' (Value.slice a ((0 : Nat) + n) cp))) (by kernel_rfl) ?_
  refine Br.mk (fun h0 => ?_) (fun h0 => ⟨ints .u8 xs, h.len, h.nil, h.at_, one_ints, rfl, by omega, by omega, fun a' cp I' _ hrow => ⟨row_bysl hrow.row (by have := h.numLen; omega), newB_sl hrow.newS (by omega)⟩⟩)
  have h0 : a = none := by simpa using h0
  subst h0
  have hn := h.nil rfl
  subst hn
  exact ⟨⟨none, 0, 0, rfl, h, by omega, by omega⟩, newB_sl (fun hc => absurd hc (by omega)) hn⟩
theorem ct36 (xs : List Int) (a : Option Addr) (n c : Nat) (I : Mem) (h : SlM I a n 1 (ints .u8 xs)) (hn : n ≤ 1000000) :
    Ct Try.prog (fnv 36) #[.slice a n c] I (fun v I' => BySl I' v xs) := (ct36N xs a n c I h hn).mono fun _ _ _ h => h.1

def textAt (ts : List (List Int)) (i : Nat) : List Int := if ts.length = 0 then [] else ((ts[i % ts.length]?).getD []).take 100
def madeF (ts : List (List Int)) : Nat → Int → List Int → List (Int × List Int)
  | _, _, [] => []
  | i, tag, g :: r => (tag + (1 + g % 9), textAt ts i) :: madeF ts (i + 1) (tag + (1 + g % 9)) r
def madeV (gs : List Int) (ts : List (List Int)) : List (Int × List Int) := madeF ts 0 0 (gs.take 20)
theorem sl_take {I : Mem} {a : Option Addr} {n k : Nat} {bs : List Int} {kd : IntKind} (h : SlM I a n 1 (ints kd bs)) (hk : k ≤ n) : SlM I a k 1 (ints kd (bs.take k)) := by
  have hl := h.numLen
  refine ⟨by simp [ints]; omega, fun ha => by have := h.nil ha; omega, Nat.le_trans hk h.max, fun j v hj => ?_⟩
  simp only [ints, List.getElem?_map, Option.map_eq_some_iff] at hj
  obtain ⟨z, hj, rfl⟩ := hj
  rw [List.getElem?_take] at hj
  split at hj
  · exact h.at_ j _ (ints_get hj)
  · cases hj
theorem fr_row {I : Mem} {a : Option Addr} {cp : Nat} {xs : List Value} {l : List (Int × List Int)} (h : RowM I a cp 2 xs) (hf : FR I xs l) :
    ∃ a' n' c', Value.slice a (xs.length / 2) cp = .slice a' n' c' ∧ FldM I a' n' l ∧ n' ≤ c' ∧ c' ≤ maxLen := by
  have hl := hf.len
  have e : xs.length / 2 = l.length := by omega
  rw [e]
  refine ⟨a, l.length, cp, rfl, fldM_row h hf, ?_, h.2.1⟩
  have := h.1
  omega
def writeF (l : List (Int × List Int)) : List Int := l.flatMap fun f => f.1 :: (formN f.2.length ++ f.2)
theorem right_at : ∀ {l : List (Int × List Int)} {last left : Int}, rightStep last left l = true → ∀ f ∈ l, last < f.1 ∧ f.1 ≤ 200 ∧ (f.2.length : Int) ≤ left
  | [], _, _, _, f, hf => by cases hf
  | g :: r, last, left, h, f, hf => by
    rw [rightStep] at h
    split at h
    · cases h
    · rename_i hc
      rcases List.mem_cons.1 hf with rfl | hf
      · omega
      · have := right_at h f hf
        omega
theorem formN_le (x : Nat) (h : x < 256 ^ 8) : (formN x).length ≤ 9 ∧ 1 ≤ (formN x).length := by
  rw [formN_len, sizeN]
  have := digN_le h
  split <;> omega
theorem writeF_cons (f : Int × List Int) (r : List (Int × List Int)) : writeF (f :: r) = f.1 :: (formN f.2.length ++ (f.2 ++ writeF r)) := by simp [writeF]
theorem writeF_app (k l : List (Int × List Int)) : writeF (k ++ l) = writeF k ++ writeF l := by simp [writeF]
theorem right_len : ∀ {l : List (Int × List Int)} {last left : Int}, left ≤ 16384 → rightStep last left l = true → ∀ j, ((writeF (l.take j)).length : Int) ≤ max left 0 + 10 * l.length
  | [], last, left, _, _, j => by simp [writeF]; omega
  | g :: r, last, left, hl, h, 0 => by simp [writeF]; omega
  | g :: r, last, left, hl, h, j + 1 => by
    rw [rightStep] at h
    split at h
    · cases h
    · rename_i hc
      have ih := right_len (by omega) h j
      have := formN_le g.2.length (by omega)
      rw [List.take_succ_cons, writeF_cons]
      simp only [List.length_cons, List.length_append]
      omega
theorem rightF_iff {l : List (Int × List Int)} : rightF l = true ↔ rightStep 0 16384 l = true ∧ l.length ≤ 64 := by
  simp only [rightF, Bool.and_eq_true, decide_eq_true_eq]
  exact ⟨fun h => ⟨h.1, by omega⟩, fun h => ⟨h.1, by omega⟩⟩
theorem ct33 (l : List (Int × List Int)) (a : Option Addr) (n c : Nat) (I : Mem) (h : FldM I a n l) (hn : n ≤ 1000000) :
    Ct Try.prog (fnv 33) #[.slice a n c] I (fun v I' => ∃ a' n' c', v = .tuple #[.slice a' n' c', .int .i64 (if rightF l then 0 else 20)] ∧ SlM I' a' n' 1 (ints .u8 (if rightF l then writeF l else [])) ∧ n' ≤ c' ∧ c' ≤ maxLen) := by
  refine viaR (ct_via (A := { calls := [(26, .lend [0] (.row 0) [.row 1 5])], loops := [(5, ⟨[(4, .row 0), (10, .keep), (11, .keep), (12, .sh (.int .i64))], [(0, .row)], [(4, 1, 5)], fun vals xss I' _ => match vals, xss with | [.int .i64 j], [xs] => 0 ≤ j ∧ j ≤ n ∧ xs = ints .u8 (writeF (l.take j.toNat)) ∧ rightF l = true | _, _ => False, fun vals _ => match vals with | [.int .i64 j] => (n - j).toNat | _ => 0⟩)] }) Try.func33 rfl Try.call33 rfl rfl) (Ct Try.prog (Value.func (Fn.func (58 : Nat)) #[] #[]) #[Value.slice a n c] I fun (v : Value) (I' : Mem) => ∃ (b : Bool), v = Value.bool b ∧ Br (!b) (∃ (a' : Option Addr), ∃ (n' : Nat), ∃ (c' : Nat), Value.tuple #[Value.slice none (0 : Nat) (0 : Nat), Value.int IntKind.i64 (20 : Int)] = Value.tuple #[Value.slice a' n' c', Value.int IntKind.i64 (if rightF l = true then (0 : Int) else (20 : Int))] ∧ SlM I' a' n' (1 : Nat) (List.map (Value.int IntKind.u8) (if rightF l = true then writeF l else [])) ∧ n' ≤ c' ∧ c' ≤ (9223372036854775807 : Nat)) (((0 : Nat) = (0 : Nat) ∧ SV.v (Value.slice a n c) = SV.v (Value.slice a n c) ∧ SV.v (Value.int IntKind.i64 (↑n : Int)) = SV.v (Value.int IntKind.i64 (↑n : Int)) ∧ (0 : Int) ≤ (0 : Int) ∧ (0 : Int) ≤ (↑n : Int) ∧ @List.nil Value = @List.nil Value ∧ rightF l = true) ∧ ∀ (I'_1 G' : Mem), Mem.le I' I'_1 → ∀ (xs : List Value) (n_1 : Int), (0 : Int) ≤ n_1 ∧ n_1 ≤ (↑n : Int) ∧ xs = List.map (Value.int IntKind.u8) (writeF (List.take (Int.toNat n_1) l)) ∧ rightF l = true → Br (decide (n_1 < (↑n : Int))) ((0 : Int) ≤ n_1 ∧ n_1 < (↑n : Int) ∧ Option.isSome a = true ∧ (2 : Nat) = (2 : Nat) ∧ ∃ (n_2 : Int), atI I'_1 a (Int.toNat n_1 * (2 : Nat) + (0 : Nat)) = some (Value.int IntKind.i64 n_2) ∧ ∃ (a_3 : Option Addr), ∃ (n_3 : Nat), ∃ (c_1 : Nat), atI I'_1 a (Int.toNat n_1 * (2 : Nat) + (1 : Nat)) = some (Value.slice a_3 n_3 c_1) ∧ Wr IntKind.u8 n_2 fun (c_2 : Int) => Wr IntKind.u64 (↑n_3 : Int) fun (c_3 : Int) => List.length xs = List.length xs * (1 : Nat) ∧ List.length xs + (1 : Nat) ≤ (9223372036854775807 : Nat) ∧ (List.length xs + (1 : Nat)) * (1 : Nat) ≤ (140737488355328 : Nat) ∧ CtS Try.prog (SV.v (Value.func (Fn.func (59 : Nat)) #[] #[])) [SV.rsl (0 : Nat) (List.length xs + (1 : Nat)), SV.v (Value.int IntKind.u64 c_3)] [Ent.mk (EO.row (xs ++ [Value.int IntKind.u8 c_2]) (1 : Nat) (5 : Nat)) none] I'_1 fun (sv : SV) (H' : List Ent) (I' : Mem) => ∃ (n_4 : Nat), ∃ (xs : List Value), sv = SV.rsl (0 : Nat) n_4 ∧ H' = [Ent.mk (EO.row xs (1 : Nat) (5 : Nat)) none] ∧ ∃ (ys : List Value), List.length ys = n_3 * (1 : Nat) ∧ (a_3 = none → n_3 = (0 : Nat)) ∧ (∀ (j : Nat) (v : Value), ys[j]? = some v → atI I' a_3 j = some v) ∧ (∀ (v : Value), v ∈ ys → Value.oneCell' v = true) ∧ List.length xs = n_4 * (1 : Nat) ∧ n_4 + n_3 ≤ (9223372036854775807 : Nat) ∧ (n_4 + n_3) * (1 : Nat) ≤ (140737488355328 : Nat) ∧ Wr IntKind.i64 (n_1 + (1 : Int)) fun (c_4 : Int) => n_4 + n_3 = List.length (xs ++ ys) ∧ SV.v (Value.slice a n c) = SV.v (Value.slice a n c) ∧ SV.v (Value.int IntKind.i64 (↑n : Int)) = SV.v (Value.int IntKind.i64 (↑n : Int)) ∧ ((0 : Int) ≤ c_4 ∧ c_4 ≤ (↑n : Int) ∧ xs ++ ys = List.map (Value.int IntKind.u8) (writeF (List.take (Int.toNat c_4) l)) ∧ rightF l = true) ∧ Int.toNat ((↑n : Int) - c_4) < Int.toNat ((↑n : Int) - n_1)) (∀ (a : Option Addr) (cp : Nat) (I' : Mem), Mem.le I'_1 I' → RowM I' a cp (1 : Nat) xs → ∃ (a' : Option Addr), ∃ (n' : Nat), ∃ (c' : Nat), Value.tuple #[Value.slice a (List.length xs) cp, Value.int IntKind.i64 (0 : Int)] = Value.tuple #[Value.slice a' n' c', Value.int IntKind.i64 (if rightF l = true then (0 : Int) else (20 : Int))] ∧ SlM I' a' n' (1 : Nat) (List.map (Value.int IntKind.u8) (if rightF l = true then writeF l else [])) ∧ n' ≤ c' ∧ c' ≤ (9223372036854775807 : Nat)))) (by kernel_rfl) ?_
  simp only [eq_self, true_and]
  have hl := h.len
  refine (ct58 l a n c I h hn).mono fun v I0 l0 hv => ⟨_, hv, Br.mk (fun hr => ?_) (fun hr => ?_)⟩
  · have hr : rightF l = false := by simpa using hr
    rw [hr]
    exact ⟨none, 0, 0, rfl, sl_nil _ _, by omega, by omega⟩
  have hr : rightF l = true := by simpa using hr
  obtain ⟨hs, hl64⟩ := rightF_iff.1 hr
  refine ⟨⟨by omega, by omega, hr⟩, fun I1 _ l1 xs j ⟨h0, h1, h2, _⟩ => Br.mk (fun hlt => ?_) (fun hge => ?_)⟩
  · have hlt := of_decide_eq_true hlt
    obtain ⟨f, b, m, c', hf, hok, e1, e2, hsl, hm1, hm2⟩ := (h.mono (Mem.le_trans l0 l1)).at_ h0 hlt
    have hra := right_at hs f (List.mem_of_getElem? hf)
    have hm := hsl.numLen
    have hxl : xs.length ≤ 16384 + 640 := by
      rw [h2, List.length_map]
      have := right_len (by omega) hs j.toNat
      omega
    refine ⟨h0, hlt, h.isSome (by omega), f.1, e1, b, m, c', e2, ⟨f.1, IntWalk.u8_in _ ⟨by omega, by omega⟩, ⟨(m : Int), IntWalk.u64_in _ ⟨by omega, by omega⟩, ?_⟩⟩⟩
    have hfl := formN_le m (by omega)
    refine ⟨by omega, by omega, by omega, (cs59 (xs ++ [Value.int .u8 f.1]) (xs.length + 1) m (by omega) (by simp) (by simp; omega) I1).mono fun v H' I2 l2 ⟨hv, hH⟩ => ?_⟩
    rw [Int.toNat_natCast] at hv hH
    refine ⟨_, _, hv, hH, ints .u8 f.2, hsl.len, hsl.nil, (hsl.mono l2).at_, one_ints, by simp [ints]; omega, by omega, by omega, wr_i64 (by omega) (by omega) ⟨by simp [ints]; omega, ⟨by omega, by omega, ?_, hr⟩, by omega⟩⟩
    rw [show (j + 1).toNat = j.toNat + 1 by omega, take_succ' hf, writeF_app, h2, hm]
    simp [writeF, ints]
  · have hge := of_decide_eq_false hge
    rw [List.take_of_length_le (by omega)] at h2
    intro a' cp I2 l2 hrow
    rw [if_pos hr, if_pos hr]
    refine ⟨a', xs.length, cp, rfl, ?_, ?_, hrow.2.1⟩
    · rw [h2] at hrow ⊢
      exact hrow.sl (by omega) (by simp)
    · have := hrow.1; omega

theorem intN_ok {bs : List Int} (hbs : byteL bs) {at_ x n : Int} (h : intN bs at_ 0 16384 = (x, n, 0)) :
    0 ≤ at_ ∧ 0 ≤ x ∧ x ≤ 16384 ∧ n = (formN x.toNat).length ∧ bs.drop at_.toNat = formN x.toNat ++ bs.drop (at_ + n).toNat ∧ at_ + n ≤ bs.length := by
  unfold intN at h
  split at h
  · rename_i hc
    injection h with _ h
    injection h with _ h
    exact absurd h hc
  · rename_i hc
    split at h
    · cases h
    · rename_i hr
      injection h with h1 h
      injection h with h2 _
      have hc : (readN bs at_).2.2 = 0 := by simpa using hc
      have hre : readN bs at_ = (x, n, 0) := by rw [← h1, ← h2, ← hc]
      obtain ⟨g1, g2, g3, g4, g5, g6, g7⟩ := readN_back hbs hre
      rw [hre] at hr
      exact ⟨g1, g3, by simp only at hr; omega, g5, g6, g7⟩
theorem intN_bad {bs : List Int} {at_ : Int} (h : (intN bs at_ 0 16384).2.2 ≠ 0) : (intN bs at_ 0 16384).1 = 0 ∧ (intN bs at_ 0 16384).2.1 = 0 := by
  unfold intN at h ⊢
  split
  · exact ⟨rfl, rfl⟩
  · split
    · exact ⟨rfl, rfl⟩
    · rename_i h1 h2
      rw [if_neg h1, if_neg h2] at h
      exact absurd rfl h
/-- The field at an offset: its bytes, and where it ends. -/
def fstep (bs : List Int) (at_ : Nat) : Option (List Int × Nat) :=
  if (intN bs (at_ + 1) 0 16384).2.2 ≠ 0 ∨ (bs.length : Int) - (at_ + 1 + (intN bs (at_ + 1) 0 16384).2.1) < (intN bs (at_ + 1) 0 16384).1 then none
  else some ((bs.drop (at_ + 1 + (intN bs (at_ + 1) 0 16384).2.1).toNat).take (intN bs (at_ + 1) 0 16384).1.toNat, (at_ + 1 + (intN bs (at_ + 1) 0 16384).2.1 + (intN bs (at_ + 1) 0 16384).1).toNat)
/-- What the iterator gives. -/
def yields (bs : List Int) (at_ : Nat) : List (Nat × (Int × List Int)) :=
  if h : at_ < bs.length then
    match fstep bs at_ with
    | none => [(at_, (0, []))]
    | some p => (at_, ((bs[at_]?).getD 0, p.1)) :: (if hn : at_ < p.2 then yields bs p.2 else [])
  else []
termination_by bs.length - at_
def encF (bs : List Int) (k : Nat) (args : Array Value) (I : Mem) : Prop :=
  ∃ at_ f a n c, (yields bs 0)[k]? = some (at_, f) ∧ args = #[.int .i64 (at_ : Nat), .agg #[.int .i64 f.1, .slice a n c]] ∧ SlM I a n 1 (ints .u8 f.2) ∧ n ≤ c ∧ c ≤ maxLen
theorem sl_sub {I : Mem} {a : Option Addr} {n c f t : Nat} {bs : List Int} {kd : IntKind} (h : SlM I a n 1 (ints kd bs)) (hft : f ≤ t) (ht : t ≤ n) (hc : n ≤ c) : SlM I (sladdr a c f 1) (t - f) 1 (ints kd ((bs.drop f).take (t - f))) := by
  have hl := h.numLen
  refine ⟨by simp [ints]; omega, fun hs => ?_, Nat.le_trans (by omega) h.max, fun j v hj => ?_⟩
  · unfold sladdr at hs
    split at hs
    · omega
    · cases a with
      | none => have := h.nil rfl; omega
      | some ad => cases hs
  · simp only [ints, List.getElem?_map, Option.map_eq_some_iff] at hj
    obtain ⟨z, hj, rfl⟩ := hj
    rw [List.getElem?_take] at hj
    split at hj
    · rw [List.getElem?_drop] at hj
      have hat := h.at_ _ _ (ints_get (k := kd) hj)
      unfold sladdr
      rw [if_neg (by omega)]
      cases a with
      | none => have := h.nil rfl; omega
      | some ad =>
        simp only [Option.map_some, Nat.mul_one]
        simp only [atI, Option.bind_some] at hat ⊢
        rw [add_add]
        exact hat
    · cases hj
theorem gives56 (bs : List Int) (hbs : byteL bs) (b : Nat) (a : Option Addr) (n c : Nat) (I : Mem) (hb : I b = some (.cells #[.slice a n c] 47)) (h : SlM I a n 1 (ints .u8 bs)) (hn : n ≤ 1000000) (hc : n ≤ c) (hm : c ≤ maxLen) :
    Gives Try.prog (.func (.func 74) #[] #[.pointer (some ⟨b, 0, none⟩)]) I (yields bs 0).length (encF bs) := by
  refine ⟨fun Y W => ⟨74, _, run_semV_func.trans (Try.call74 _ _)⟩, fun Y J D I0 G0 hI0 hJ0 hJ hD hY => ?_⟩
  refine viaR (ctG_via (A := { loops := [(1, ⟨[(0, .keep), (1, .keep), (3, .sh (.int .i64))], [], [], fun vals _ I' G' => match vals with
    | [.int .i64 j] => 0 ≤ j ∧ j ≤ n ∧ ∃ pre, yields bs 0 = pre ++ yields bs j.toNat ∧ J pre.length I' G' | _ => False, fun vals _ => match vals with | [.int .i64 j] => (n - j).toNat | _ => 0⟩)], calls := [(37, .g), (52, .g)] }) Try.func74 rfl Try.call74 rfl rfl) ((SV.v Y = SV.v Y ∧ SV.v (Value.pointer (some (Addr.mk b (0 : Nat) none))) = SV.v (Value.pointer (some (Addr.mk b (0 : Nat) none))) ∧ (0 : Int) ≤ (0 : Int) ∧ (0 : Int) ≤ (↑n : Int) ∧ ∃ (pre : List (Nat × Int × List Int)), yields bs (0 : Nat) = pre ++ yields bs (0 : Nat) ∧ J (List.length pre) I0 G0) ∧ ∀ (I' G' : Mem), Mem.le I0 I' → ∀ (n_1 : Int), ((0 : Int) ≤ n_1 ∧ n_1 ≤ (↑n : Int) ∧ ∃ (pre : List (Nat × Int × List Int)), yields bs (0 : Nat) = pre ++ yields bs (Int.toNat n_1) ∧ J (List.length pre) I' G') → ∃ (a : Option Addr), ∃ (n_2 : Nat), ∃ (c : Nat), atI I' (some (Addr.mk b (0 : Nat) none)) (0 : Nat) = some (Value.slice a n_2 c) ∧ Br (decide (n_1 < (↑n_2 : Int))) (∃ (a : Option Addr), ∃ (n_3 : Nat), ∃ (c : Nat), atI I' (some (Addr.mk b (0 : Nat) none)) (0 : Nat) = some (Value.slice a n_3 c) ∧ Wr IntKind.i64 (n_1 + (1 : Int)) fun (c_1 : Int) => Ct Try.prog (Value.func (Fn.func (75 : Nat)) #[] #[]) #[Value.slice a n_3 c, Value.int IntKind.i64 c_1, Value.int IntKind.i64 (0 : Int), Value.int IntKind.i64 (16384 : Int)] I' fun (v : Value) (I' : Mem) => ∃ (n_4 : Int), ∃ (n_5 : Int), ∃ (n_6 : Int), v = Value.tuple #[Value.int IntKind.i64 n_4, Value.int IntKind.i64 n_5, Value.int IntKind.i64 n_6] ∧ Wr IntKind.i64 (n_1 + (1 : Int)) fun (c : Int) => Wr IntKind.i64 (c + n_5) fun (c : Int) => Br (n_6 != (0 : Int)) (CtH Try.prog Y #[Value.int IntKind.i64 n_1, Value.agg #[Value.int IntKind.i64 (0 : Int), Value.slice none (0 : Nat) (0 : Nat)]] I' G' fun (v : Value) (I' G' : Mem) => ∃ (b : Bool), v = Value.bool b ∧ (J (List.length (yields bs (0 : Nat))) I' G' ∨ D I' G')) (∃ (a : Option Addr), ∃ (n_7 : Nat), ∃ (c_2 : Nat), atI I' (some (Addr.mk b (0 : Nat) none)) (0 : Nat) = some (Value.slice a n_7 c_2) ∧ Wr IntKind.i64 ((↑n_7 : Int) - c) fun (c_3 : Int) => Br (decide (c_3 < n_4)) (CtH Try.prog Y #[Value.int IntKind.i64 n_1, Value.agg #[Value.int IntKind.i64 (0 : Int), Value.slice none (0 : Nat) (0 : Nat)]] I' G' fun (v : Value) (I' G' : Mem) => ∃ (b : Bool), v = Value.bool b ∧ (J (List.length (yields bs (0 : Nat))) I' G' ∨ D I' G')) (∃ (a : Option Addr), ∃ (n_8 : Nat), ∃ (c_4 : Nat), atI I' (some (Addr.mk b (0 : Nat) none)) (0 : Nat) = some (Value.slice a n_8 c_4) ∧ (0 : Int) ≤ n_1 ∧ n_1 < (↑n_8 : Int) ∧ Option.isSome a = true ∧ ∃ (n_9 : Int), atI I' a (Int.toNat n_1 * (1 : Nat) + (0 : Nat)) = some (Value.int IntKind.u8 n_9) ∧ Wr IntKind.i64 n_9 fun (c_5 : Int) => ∃ (a : Option Addr), ∃ (n_10 : Nat), ∃ (c_6 : Nat), atI I' (some (Addr.mk b (0 : Nat) none)) (0 : Nat) = some (Value.slice a n_10 c_6) ∧ Wr IntKind.i64 (c + n_4) fun (c_7 : Int) => (0 : Int) ≤ c ∧ c ≤ c_7 ∧ c_7 ≤ (↑c_6 : Int) ∧ CtH Try.prog Y #[Value.int IntKind.i64 n_1, Value.agg #[Value.int IntKind.i64 c_5, Value.slice (sladdr a c_6 (Int.toNat c) (1 : Nat)) (Int.toNat c_7 - Int.toNat c) (c_6 - Int.toNat c)]] I' G' fun (v : Value) (I' G' : Mem) => ∃ (b_1 : Bool), v = Value.bool b_1 ∧ Br (!b_1) (J (List.length (yields bs (0 : Nat))) I' G' ∨ D I' G') (Wr IntKind.i64 (c + n_4) fun (c : Int) => SV.v Y = SV.v Y ∧ SV.v (Value.pointer (some (Addr.mk b (0 : Nat) none))) = SV.v (Value.pointer (some (Addr.mk b (0 : Nat) none))) ∧ ((0 : Int) ≤ c ∧ c ≤ (↑n : Int) ∧ ∃ (pre : List (Nat × Int × List Int)), yields bs (0 : Nat) = pre ++ yields bs (Int.toNat c) ∧ J (List.length pre) I' G') ∧ Int.toNat ((↑n : Int) - c) < Int.toNat ((↑n : Int) - n_1))))) (J (List.length (yields bs (0 : Nat))) I' G' ∨ D I' G')) (by kernel_rfl) ?_
  simp only [eq_self, true_and]
  have hnl := h.numLen
  refine ⟨⟨by omega, by omega, [], by simp, hJ0⟩, fun I1 G1 l1 j ⟨h0, h1, pre, h2, h3⟩ => ?_⟩
  have hcell : ∀ {I' : Mem}, I1.le I' → atI I' (some ⟨b, 0, none⟩) 0 = some (.slice a n c) := fun {I'} hle => by
    have := hle _ _ (l1 _ _ (hI0 _ _ hb))
    simp [atI, cellM, Addr.add, this]
  have hS := h.mono (Mem.le_trans hI0 l1)
  refine ⟨a, n, c, hcell (Mem.le_refl _), Br.mk (fun hlt => ?_) (fun hge => ?_)⟩
  · have hlt := of_decide_eq_true hlt
    obtain ⟨x, hx, hatx⟩ := hS.intAt h0 hlt
    have hxr := hbs x (List.mem_of_getElem? hx)
    have hj : ((j.toNat : Nat) : Int) = j := by omega
    have hy : yields bs j.toNat = match fstep bs j.toNat with
      | none => [(j.toNat, (0, []))]
      | some p => (j.toNat, ((bs[j.toNat]?).getD 0, p.1)) :: (if hn : j.toNat < p.2 then yields bs p.2 else []) := by
      rw [yields, dif_pos (by omega)]
    have fail : ∀ {I' : Mem}, I1.le I' → fstep bs j.toNat = none → CtH Try.prog Y #[.int .i64 j, .agg #[.int .i64 0, .slice none 0 0]] I' G1 fun v I' G' => ∃ b, v = Value.bool b ∧ (J (yields bs 0).length I' G' ∨ D I' G') := fun {I'} hle hf => by
      rw [hf] at hy
      rw [hy] at h2
      refine (hY pre.length I' G1 _ (by rw [h2]; simp) (Mem.le_trans l1 hle) (hJ _ _ _ _ h3 hle) ⟨j.toNat, (0, []), none, 0, 0, by rw [h2, List.getElem?_append_right (by omega), Nat.sub_self]; rfl, by rw [hj], sl_nil _ _, by omega, by omega⟩).mono fun v I3 G3 _ hv => ?_
      rcases hv with ⟨hv, hj⟩ | ⟨hv, hd⟩
      · refine ⟨true, hv, .inl ?_⟩
        rw [h2, List.length_append]
        exact hj
      · exact ⟨false, hv, .inr hd⟩
    refine ⟨a, n, c, hcell (Mem.le_refl _), wr_i64 (by omega) (by omega) ((ct75 bs hbs a n c (j + 1) 0 16384 (by omega) (by omega) (by omega) I1 hS (by omega)).mono fun v I2 l2 hv => ⟨_, _, _, hv, ?_⟩)⟩
    have hfs : fstep bs j.toNat = if (intN bs (j + 1) 0 16384).2.2 ≠ 0 ∨ (bs.length : Int) - (j + 1 + (intN bs (j + 1) 0 16384).2.1) < (intN bs (j + 1) 0 16384).1 then none
      else some ((bs.drop (j + 1 + (intN bs (j + 1) 0 16384).2.1).toNat).take (intN bs (j + 1) 0 16384).1.toNat, (j + 1 + (intN bs (j + 1) 0 16384).2.1 + (intN bs (j + 1) 0 16384).1).toNat) := by
      unfold fstep; rw [hj]
    have hbad := intN_bad (bs := bs) (at_ := j + 1)
    clear hv
    generalize hr : intN bs (j + 1) 0 16384 = r at hfs hbad ⊢
    obtain ⟨sz, k, e⟩ := r
    simp only at hfs hbad ⊢
    by_cases he : e = 0
    · subst he
      obtain ⟨g1, g2, g3, g4, g5, g6⟩ := intN_ok hbs hr
      have hfl := formN_le sz.toNat (by omega)
      refine wr_i64 (by omega) (by omega) (wr_i64 (by omega) (by omega) (Br.f rfl ⟨a, n, c, hcell l2, wr_i64 (by omega) (by omega) (Br.mk (fun hs => ?_) (fun hs => ?_))⟩))
      · have hs := of_decide_eq_true hs
        exact fail l2 (by rw [hfs, if_pos (.inr (by omega))])
      · have hs := of_decide_eq_false hs
        rw [if_neg (by omega)] at hfs
        rw [hfs] at hy
        simp only at hy
        rw [dif_pos (by omega), hx, Option.getD_some] at hy
        rw [hy] at h2
        refine ⟨a, n, c, hcell l2, h0, hlt, h.isSome (by omega), x, atI_le l2 hatx, wr_i64 (by omega) (by omega) ⟨a, n, c, hcell l2, wr_i64 (by omega) (by omega) ⟨by omega, by omega, by omega, ?_⟩⟩⟩
        have hsub := sl_sub (hS.mono l2) (f := (j + 1 + k).toNat) (t := (j + 1 + k + sz).toNat) (by omega) (by omega) hc
        rw [show (j + 1 + k + sz).toNat - (j + 1 + k).toNat = sz.toNat by omega] at hsub ⊢
        refine (hY pre.length I2 G1 _ (by rw [h2]; simp) (Mem.le_trans l1 l2) (hJ _ _ _ _ h3 l2) ⟨j.toNat, (x, (bs.drop (j + 1 + k).toNat).take sz.toNat), _, _, _, by rw [h2, List.getElem?_append_right (by omega), Nat.sub_self]; rfl, by rw [hj], hsub, by omega, by omega⟩).mono fun v I3 G3 _ hv => ?_
        rcases hv with ⟨hv, hj'⟩ | ⟨hv, hd⟩
        · refine ⟨true, hv, Br.f rfl (wr_i64 (by omega) (by omega) ⟨⟨by omega, by omega, pre ++ [(j.toNat, (x, (bs.drop (j + 1 + k).toNat).take sz.toNat))], by rw [h2]; simp, ?_⟩, by omega⟩)⟩
          rw [List.length_append]
          exact hj'
        · exact ⟨false, hv, Br.t rfl (.inr hd)⟩
    · obtain ⟨rfl, rfl⟩ := hbad he
      exact wr_i64 (by omega) (by omega) (wr_i64 (by omega) (by omega) (Br.t (by simpa using he) (fail l2 (by rw [hfs, if_pos (.inl he)]))))
  · have hge := of_decide_eq_false hge
    have hy : yields bs j.toNat = [] := by rw [yields, dif_neg (by omega)]
    rw [hy, List.append_nil] at h2
    rw [h2]
    exact .inl h3
theorem ct35 (a : Option Addr) (n c : Nat) (I : Mem) : Ct Try.prog (fnv 35) #[.slice a n c] I (fun v I' => ∃ b, I' b = some (.cells #[.slice a n c] 47) ∧ v = .func (.func 74) #[] #[.pointer (some ⟨b, 0, none⟩)]) := by
  refine viaR (ct_via (A := {}) Try.func35 rfl Try.call35 rfl rfl) (∀ (b : Nat) (I' : Mem), Mem.le I I' → I' b = some (Obj.cells #[Value.slice a n c] (47 : Nat)) → ∃ (b_1 : Nat), I' b_1 = some (Obj.cells #[Value.slice a n c] (47 : Nat)) ∧ Value.func (Fn.func (74 : Nat)) #[] #[Value.pointer (some (Addr.mk b (0 : Nat) none))] = Value.func (Fn.func (74 : Nat)) #[] #[Value.pointer (some (Addr.mk b_1 (0 : Nat) none))]) (by kernel_rfl) ?_
  intro b I' hI hb
  exact ⟨b, hb, rfl⟩

/-- What is made of what the iterator gives: the offset of what is wrong (or -1), the fields. -/
def goF : List (Nat × (Int × List Int)) → Int → Int → List (Int × List Int) → Int × List (Int × List Int)
  | [], _, _, out => (-1, out)
  | y :: r, last, left, out => if y.2.1 ≤ last ∨ 200 < y.2.1 ∨ left < y.2.2.length ∨ 64 ≤ out.length then ((y.1 : Int), []) else goF r y.2.1 (left - y.2.2.length) (out ++ [y.2])
def readF (bs : List Int) : List (Int × List Int) × Int × Int :=
  if 16768 < bs.length then ([], 0, 3) else if 0 ≤ (goF (yields bs 0) 0 16384 []).1 then ([], (goF (yields bs 0) 0 16384 []).1, 21) else ((goF (yields bs 0) 0 16384 []).2, 0, 0)
theorem yields_at : ∀ {bs : List Int} {at_ k : Nat} {y : Nat × (Int × List Int)}, (yields bs at_)[k]? = some y → y.1 < bs.length := by
  intro bs at_
  induction hm : bs.length - at_ using Nat.strongRecOn generalizing at_ with
  | ind m ih =>
    intro k y hk
    rw [yields] at hk
    split at hk
    · rename_i hlt
      split at hk
      · cases k with
        | zero => simp at hk; subst hk; exact hlt
        | succ k => simp at hk
      · cases k with
        | zero => simp at hk; subst hk; exact hlt
        | succ k =>
          simp only [List.getElem?_cons_succ] at hk
          split at hk
          · rename_i p _ hn
            exact ih (bs.length - p.2) (by omega) rfl hk
          · simp at hk
    · simp at hk
theorem yields_len : ∀ {bs : List Int} {at_ : Nat}, (yields bs at_).length ≤ bs.length - at_ := by
  intro bs at_
  induction hm : bs.length - at_ using Nat.strongRecOn generalizing at_ with
  | ind m ih =>
    rw [yields]
    split
    · split
      · simp; omega
      · split
        · rename_i p _ hn
          have := ih (bs.length - p.2) (by omega) rfl
          simp only [List.length_cons]
          omega
        · simp; omega
    · simp
theorem yields_ok {bs : List Int} (hbs : byteL bs) : ∀ {at_ k : Nat} {y : Nat × (Int × List Int)}, (yields bs at_)[k]? = some y → okFld y.2 := by
  intro at_
  induction hm : bs.length - at_ using Nat.strongRecOn generalizing at_ with
  | ind m ih =>
    intro k y hk
    rw [yields] at hk
    split at hk
    · rename_i hlt
      split at hk
      · cases k with
        | zero => simp at hk; subst hk; exact ⟨by simp only; omega, fun z hz => by cases hz⟩
        | succ k => simp at hk
      · rename_i p hp
        cases k with
        | zero =>
          simp at hk; subst hk
          have hb := hbs _ (List.getElem_mem hlt)
          have he : bs[at_]?.getD 0 = bs[at_] := by rw [List.getElem?_eq_getElem hlt]; rfl
          refine ⟨by simp only [he]; omega, fun z hz => ?_⟩
          unfold fstep at hp
          split at hp
          · cases hp
          · cases hp
            exact hbs z (List.mem_of_mem_drop (List.mem_of_mem_take hz))
        | succ k =>
          simp only [List.getElem?_cons_succ] at hk
          split at hk
          · rename_i hn
            exact ih (bs.length - p.2) (by omega) rfl hk
          · simp at hk
    · simp at hk
/-- Slices of fields that may be overwritten. -/
def OvL (G : Mem) (a : Option Addr) (n : Nat) : Prop :=
  0 < n → ∃ (b off : Nat) (cur : Array Value) (el : TypeId), a = some ⟨b, off, none⟩ ∧ G b = some (.cells cur el (0, 0)) ∧ off + n * 2 ≤ cur.size ∧
    ∀ i, i < n → ∃ a' n' c', cur[off + (i * 2 + 1)]? = some (.slice a' n' c') ∧ n' ≤ c' ∧ n' ≤ 1000000 ∧ OwnS 1 G a' c' ∧ ∀ b' off' sp, 0 < c' → a' = some ⟨b', off', sp⟩ → b' ≠ b
def NewR (I0 I : Mem) (xs : List Value) : Prop := ∀ v ∈ xs, NewB I0 I v
theorem NewR.mono {I0 I J : Mem} {xs : List Value} (h : NewR I0 I xs) (hle : I.le J) : NewR I0 J xs := fun v hv => (h v hv).mono hle
theorem NewR.nil {I0 I : Mem} : NewR I0 I [] := fun v hv => by cases hv
theorem NewR.snoc {I0 I : Mem} {xs : List Value} {k : IntKind} {t : Int} {y : Value} (h : NewR I0 I xs) (hy : NewB I0 I y) : NewR I0 I (xs ++ [.int k t, y]) := fun v hv => by
  simp only [List.mem_append, List.mem_cons, List.not_mem_nil, or_false] at hv
  rcases hv with hv | rfl | rfl
  · exact h v hv
  · exact newB_int
  · exact hy
theorem ovl_row {I0 I I' : Mem} {a : Option Addr} {cp n : Nat} {xs : List Value} {L : List (Int × List Int)} (h : RowF I I' a cp 2 xs) (hl : I0.le I) (hle : I.le I') (hf : FR I xs L) (hn : NewR I0 I xs) (hxn : xs.length = n * 2) (G : Mem) :
    OvL (gained I0 I' G) a n := fun h0 => by
  cases a with
  | none => have := (h.row.2.2.1 rfl).1; subst this; simp at hxn; omega
  | some ad =>
    obtain ⟨h1, h2, h3, cur, el, h4, h5⟩ := h.new ad rfl
    obtain ⟨b, off, spot⟩ := ad
    simp only at h1 h2 h3 h4
    subst h2
    subst h3
    have hx1 := h.row.1
    have hfl := hf.len
    refine ⟨b, 0, cur, el, rfl, gained_new (Mem.none_of_le hl h1) h4, by omega, fun i hi => ?_⟩
    have hg : L[i]? = some L[i] := List.getElem?_eq_getElem (by omega)
    obtain ⟨g1, g2, y, g3, b', m, c', rfl, g4, g5, g6⟩ := hf.get hg
    have hat := h.row.2.2.2 _ _ g3
    simp only [atI, Option.bind_some, Addr.add_lit, cellM, h4, Option.isSome_none, Bool.false_eq_true, if_false] at hat
    obtain ⟨hns, hnb⟩ := hn _ (List.mem_of_getElem? g3) _ _ _ rfl
    refine ⟨_, _, _, hat, g5, hnb, fun hc => ?_, fun b2 off2 sp hc hb2 => ?_⟩
    · obtain ⟨b3, off3, cur3, el3, k1, k2, k3, k4⟩ := hns hc
      exact ⟨b3, off3, cur3, el3, k1, gained_new k2 (hle _ _ k3), k4⟩
    · obtain ⟨b3, off3, cur3, el3, k1, k2, k3, k4⟩ := hns hc
      rw [k1] at hb2
      cases hb2
      intro hbb
      subst hbb
      rw [h1] at k3
      cases k3
theorem ovl_nil (G : Mem) (a : Option Addr) : OvL G a 0 := fun h => absurd h (by omega)
theorem ct19N (bs : List Int) (hbs : byteL bs) (a : Option Addr) (n c : Nat) (I : Mem) (h : SlM I a n 1 (ints .u8 bs)) (hn : n ≤ 1000000) (hc : n ≤ c) (hm : c ≤ maxLen) :
    Ct Try.prog (fnv 19) #[.slice a n c] I (fun v I' => ∃ a' n' c', v = .tuple #[.slice a' n' c', .int .i64 (readF bs).2.1, .int .i64 (readF bs).2.2] ∧ FldM I' a' n' (readF bs).1 ∧ n' ≤ c' ∧ c' ≤ maxLen ∧ ∀ G, OvL (gained I I' G) a' n') := by
  refine viaR (ctF_via (A := { rfs := [(8, { n := (yields bs 0).length, enc := encF bs, ps := [.sh (.int .i64), .agg [.int .i64, .sl]], pre := [(5, 2, 77)], ents := [(0, .cells [.row 4]), (1, .cells [.sh (.int .i64)]), (2, .cells [.sh (.int .i64)]), (3, .cells [.sh (.int .i64)]), (4, .row)], inv := (fun k vals xss I' _ => match vals, xss with | [.int .i64 last, .int .i64 left, .int .i64 wrong], [xs] => wrong = -1 ∧ 0 ≤ last ∧ last ≤ 200 ∧ 0 ≤ left ∧ left ≤ 16384 ∧ ∃ L, FR I' xs L ∧ NewR I I' xs ∧ L.length ≤ 64 ∧ goF (yields bs 0) 0 16384 [] = goF ((yields bs 0).drop k) last left L | _, _ => False), jumps := [(.exit 0, [(3, .cells [.sh (.int .i64)])], fun vals _ _ _ => match vals with | [.int .i64 wrong] => 0 ≤ wrong ∧ goF (yields bs 0) 0 16384 [] = (wrong, []) | _ => False)] })] }) Try.func19 rfl Try.call19 rfl rfl) (Br (decide ((16768 : Int) < (↑n : Int))) (∃ (a' : Option Addr), ∃ (n' : Nat), ∃ (c' : Nat), Value.tuple #[Value.slice none (0 : Nat) (0 : Nat), Value.int IntKind.i64 (0 : Int), Value.int IntKind.i64 (3 : Int)] = Value.tuple #[Value.slice a' n' c', Value.int IntKind.i64 (Prod.fst (Prod.snd (readF bs))), Value.int IntKind.i64 (Prod.snd (Prod.snd (readF bs)))] ∧ FldM I a' n' (Prod.fst (readF bs)) ∧ n' ≤ c' ∧ c' ≤ (9223372036854775807 : Nat) ∧ ∀ (G : Mem), OvL (gained I I G) a' n')
        (Ct Try.prog (Value.func (Fn.func (35 : Nat)) #[] #[]) #[Value.slice a n c] I fun (v : Value) (I' : Mem) =>
          ∃ (x : Value),
            v = x ∧
              ∀ (b b_1 b_2 b_3 bd br : Nat) (rc : Loop),
                Gives Try.prog x I' (List.length (yields bs (0 : Nat)))
                    (RF.enc
                      (RF.mk (List.length (yields bs (0 : Nat))) (encF bs) [PSh.sh (Sh.int IntKind.i64), PSh.agg [Sh.int IntKind.i64, Sh.sl]] [((0 : Nat), EA.cells [TA.row (4 : Nat)]), ((1 : Nat), EA.cells [TA.sh (Sh.int IntKind.i64)]), ((2 : Nat), EA.cells [TA.sh (Sh.int IntKind.i64)]), ((3 : Nat), EA.cells [TA.sh (Sh.int IntKind.i64)]), ((4 : Nat), EA.row)]
                        (fun (k : Nat) (vals : List Value) (xss : List (List Value)) (I' x : Mem) =>
                          match vals, xss with
                          | [Value.int IntKind.i64 last, Value.int IntKind.i64 left, Value.int IntKind.i64 wrong], [xs] => wrong = (-1 : Int) ∧ (0 : Int) ≤ last ∧ last ≤ (200 : Int) ∧ (0 : Int) ≤ left ∧ left ≤ (16384 : Int) ∧ ∃ (L : List (Int × List Int)), FR I' xs L ∧ NewR I I' xs ∧ List.length L ≤ (64 : Nat) ∧ goF (yields bs (0 : Nat)) (0 : Int) (16384 : Int) [] = goF (List.drop k (yields bs (0 : Nat))) last left L
                          | x, x_1 => False)
                        [((5 : Nat), (2 : Nat), (77 : TypeId))]
                        [(SX.exit (0 : Nat), [((3 : Nat), EA.cells [TA.sh (Sh.int IntKind.i64)])], fun (vals : List Value) (x : List (List Value)) (x_1 x_2 : Mem) =>
                            match vals with
                            | [Value.int IntKind.i64 wrong] => (0 : Int) ≤ wrong ∧ goF (yields bs (0 : Nat)) (0 : Int) (16384 : Int) [] = (wrong, [])
                            | x => False)]
                        none)) ∧
                  (∀ (k : Nat) (args : Array Value) (I : Mem), encF bs k args I → psOk [PSh.sh (Sh.int IntKind.i64), PSh.agg [Sh.int IntKind.i64, Sh.sl]] (Array.toList args) = true) ∧ (Ent.mk (EO.raw (Obj.deferred (some []))) (some bd) = Ent.mk (EO.raw (Obj.deferred (some []))) (some bd) ∧ Ent.mk (EO.raw (Obj.loop (Loop.mk LoopState.ready none (Loop.fn rc) (Loop.tmps rc) (Loop.params rc) (Loop.assign rc) (Loop.body rc) (Loop.defers rc)))) (some br) = Ent.mk (EO.raw (Obj.loop (Loop.mk LoopState.ready none (Loop.fn rc) (Loop.tmps rc) (Loop.params rc) (Loop.assign rc) (Loop.body rc) (Loop.defers rc)))) (some br) ∧ some b = some b ∧ (0 : Nat) = (0 : Nat) ∧ some b_1 = some b_1 ∧ some b_2 = some b_2 ∧ some b_3 = some b_3 ∧ ((b = b ∧ b_1 = b_1 ∧ b_2 = b_2 ∧ b_3 = b_3 ∧ bd = bd ∧ br = br ∧ True) ∧ Obj.loop (Loop.mk LoopState.ready none (Loop.fn rc) (Loop.tmps rc) (Loop.params rc) (Loop.assign rc) (Loop.body rc) (Loop.defers rc)) = Obj.loop (Loop.mk LoopState.ready none (Loop.fn rc) (Loop.tmps rc) (Loop.params rc) (Loop.assign rc) (Loop.body rc) (Loop.defers rc))) ∧ (-1 : Int) = (-1 : Int) ∧ (0 : Int) ≤ (0 : Int) ∧ (0 : Int) ≤ (200 : Int) ∧ (0 : Int) ≤ (16384 : Int) ∧ (16384 : Int) ≤ (16384 : Int) ∧ ∃ (L : List (Int × List Int)), FR I' [] L ∧ NewR I I' [] ∧ List.length L ≤ (64 : Nat) ∧ goF (yields bs (0 : Nat)) (0 : Int) (16384 : Int) [] = goF (List.drop (0 : Nat) (yields bs (0 : Nat))) (0 : Int) (16384 : Int) L) ∧ (∀ (k : Nat) (I'_1 G' : Mem), k < List.length (yields bs (0 : Nat)) → Mem.le I' I'_1 → ∀ (xs : List Value) (n n_1 n_2 : Int), (n_2 = (-1 : Int) ∧ (0 : Int) ≤ n ∧ n ≤ (200 : Int) ∧ (0 : Int) ≤ n_1 ∧ n_1 ≤ (16384 : Int) ∧ ∃ (L : List (Int × List Int)), FR I'_1 xs L ∧ NewR I I'_1 xs ∧ List.length L ≤ (64 : Nat) ∧ goF (yields bs (0 : Nat)) (0 : Int) (16384 : Int) [] = goF (List.drop k (yields bs (0 : Nat))) n n_1 L) → ∀ (I2 : Mem), Mem.le I'_1 I2 → ∀ (n_3 n_4 : Int) (a : Option Addr) (n_5 c : Nat), encF bs k #[Value.int IntKind.i64 n_3, Value.agg #[Value.int IntKind.i64 n_4, Value.slice a n_5 c]] I2 → Obj.loop (Loop.mk LoopState.ready none (Loop.fn rc) (Loop.tmps rc) (Loop.params rc) (Loop.assign rc) (Loop.body rc) (Loop.defers rc)) = Obj.loop (Loop.mk LoopState.ready none (Loop.fn rc) (Loop.tmps rc) (Loop.params rc) (Loop.assign rc) (Loop.body rc) (Loop.defers rc)) ∧ some br = some br ∧ Br (decide (n_4 ≤ n)) (Obj.loop (Loop.mk LoopState.busy none (Loop.fn rc) (Loop.tmps rc) (Loop.params rc) (Loop.assign rc) (Loop.body rc) (Loop.defers rc)) = Obj.loop (Loop.mk LoopState.busy none (Loop.fn rc) (Loop.tmps rc) (Loop.params rc) (Loop.assign rc) (Loop.body rc) (Loop.defers rc)) ∧ some br = some br ∧ Ent.mk (EO.raw (Obj.deferred (some []))) (some bd) = Ent.mk (EO.raw (Obj.deferred (some []))) (some bd) ∧ Ent.mk (EO.raw (Obj.loop (Loop.mk LoopState.done (some (Code.exit (0 : Nat))) (Loop.fn rc) (Loop.tmps rc) (Loop.params rc) (Loop.assign rc) (Loop.body rc) (Loop.defers rc)))) (some br) = Ent.mk (EO.raw (Obj.loop (Loop.mk LoopState.done (some (Code.exit (0 : Nat))) (Loop.fn rc) (Loop.tmps rc) (Loop.params rc) (Loop.assign rc) (Loop.body rc) (Loop.defers rc)))) (some br) ∧ some b_3 = some b_3 ∧ ((b_3 = b_3 ∧ bd = bd ∧ br = br ∧ True) ∧ Obj.loop (Loop.mk LoopState.done (some (Code.exit (0 : Nat))) (Loop.fn rc) (Loop.tmps rc) (Loop.params rc) (Loop.assign rc) (Loop.body rc) (Loop.defers rc)) = Obj.loop (Loop.mk LoopState.done (some (Code.exit (0 : Nat))) (Loop.fn rc) (Loop.tmps rc) (Loop.params rc) (Loop.assign rc) (Loop.body rc) (Loop.defers rc))) ∧ (0 : Int) ≤ n_3 ∧ goF (yields bs (0 : Nat)) (0 : Int) (16384 : Int) [] = (n_3, [])) (Br (decide ((200 : Int) < n_4)) (Obj.loop (Loop.mk LoopState.busy none (Loop.fn rc) (Loop.tmps rc) (Loop.params rc) (Loop.assign rc) (Loop.body rc) (Loop.defers rc)) = Obj.loop (Loop.mk LoopState.busy none (Loop.fn rc) (Loop.tmps rc) (Loop.params rc) (Loop.assign rc) (Loop.body rc) (Loop.defers rc)) ∧ some br = some br ∧ Ent.mk (EO.raw (Obj.deferred (some []))) (some bd) = Ent.mk (EO.raw (Obj.deferred (some []))) (some bd) ∧ Ent.mk (EO.raw (Obj.loop (Loop.mk LoopState.done (some (Code.exit (0 : Nat))) (Loop.fn rc) (Loop.tmps rc) (Loop.params rc) (Loop.assign rc) (Loop.body rc) (Loop.defers rc)))) (some br) = Ent.mk (EO.raw (Obj.loop (Loop.mk LoopState.done (some (Code.exit (0 : Nat))) (Loop.fn rc) (Loop.tmps rc) (Loop.params rc) (Loop.assign rc) (Loop.body rc) (Loop.defers rc)))) (some br) ∧ some b_3 = some b_3 ∧ ((b_3 = b_3 ∧ bd = bd ∧ br = br ∧ True) ∧ Obj.loop (Loop.mk LoopState.done (some (Code.exit (0 : Nat))) (Loop.fn rc) (Loop.tmps rc) (Loop.params rc) (Loop.assign rc) (Loop.body rc) (Loop.defers rc)) = Obj.loop (Loop.mk LoopState.done (some (Code.exit (0 : Nat))) (Loop.fn rc) (Loop.tmps rc) (Loop.params rc) (Loop.assign rc) (Loop.body rc) (Loop.defers rc))) ∧ (0 : Int) ≤ n_3 ∧ goF (yields bs (0 : Nat)) (0 : Int) (16384 : Int) [] = (n_3, [])) (Br (decide (n_1 < (↑n_5 : Int))) (Obj.loop (Loop.mk LoopState.busy none (Loop.fn rc) (Loop.tmps rc) (Loop.params rc) (Loop.assign rc) (Loop.body rc) (Loop.defers rc)) = Obj.loop (Loop.mk LoopState.busy none (Loop.fn rc) (Loop.tmps rc) (Loop.params rc) (Loop.assign rc) (Loop.body rc) (Loop.defers rc)) ∧ some br = some br ∧ Ent.mk (EO.raw (Obj.deferred (some []))) (some bd) = Ent.mk (EO.raw (Obj.deferred (some []))) (some bd) ∧ Ent.mk (EO.raw (Obj.loop (Loop.mk LoopState.done (some (Code.exit (0 : Nat))) (Loop.fn rc) (Loop.tmps rc) (Loop.params rc) (Loop.assign rc) (Loop.body rc) (Loop.defers rc)))) (some br) = Ent.mk (EO.raw (Obj.loop (Loop.mk LoopState.done (some (Code.exit (0 : Nat))) (Loop.fn rc) (Loop.tmps rc) (Loop.params rc) (Loop.assign rc) (Loop.body rc) (Loop.defers rc)))) (some br) ∧ some b_3 = some b_3 ∧ ((b_3 = b_3 ∧ bd = bd ∧ br = br ∧ True) ∧ Obj.loop (Loop.mk LoopState.done (some (Code.exit (0 : Nat))) (Loop.fn rc) (Loop.tmps rc) (Loop.params rc) (Loop.assign rc) (Loop.body rc) (Loop.defers rc)) = Obj.loop (Loop.mk LoopState.done (some (Code.exit (0 : Nat))) (Loop.fn rc) (Loop.tmps rc) (Loop.params rc) (Loop.assign rc) (Loop.body rc) (Loop.defers rc))) ∧ (0 : Int) ≤ n_3 ∧ goF (yields bs (0 : Nat)) (0 : Int) (16384 : Int) [] = (n_3, [])) (Br (decide ((64 : Int) ≤ (↑(List.length xs / (2 : Nat)) : Int))) (Obj.loop (Loop.mk LoopState.busy none (Loop.fn rc) (Loop.tmps rc) (Loop.params rc) (Loop.assign rc) (Loop.body rc) (Loop.defers rc)) = Obj.loop (Loop.mk LoopState.busy none (Loop.fn rc) (Loop.tmps rc) (Loop.params rc) (Loop.assign rc) (Loop.body rc) (Loop.defers rc)) ∧ some br = some br ∧ Ent.mk (EO.raw (Obj.deferred (some []))) (some bd) = Ent.mk (EO.raw (Obj.deferred (some []))) (some bd) ∧ Ent.mk (EO.raw (Obj.loop (Loop.mk LoopState.done (some (Code.exit (0 : Nat))) (Loop.fn rc) (Loop.tmps rc) (Loop.params rc) (Loop.assign rc) (Loop.body rc) (Loop.defers rc)))) (some br) = Ent.mk (EO.raw (Obj.loop (Loop.mk LoopState.done (some (Code.exit (0 : Nat))) (Loop.fn rc) (Loop.tmps rc) (Loop.params rc) (Loop.assign rc) (Loop.body rc) (Loop.defers rc)))) (some br) ∧ some b_3 = some b_3 ∧ ((b_3 = b_3 ∧ bd = bd ∧ br = br ∧ True) ∧ Obj.loop (Loop.mk LoopState.done (some (Code.exit (0 : Nat))) (Loop.fn rc) (Loop.tmps rc) (Loop.params rc) (Loop.assign rc) (Loop.body rc) (Loop.defers rc)) = Obj.loop (Loop.mk LoopState.done (some (Code.exit (0 : Nat))) (Loop.fn rc) (Loop.tmps rc) (Loop.params rc) (Loop.assign rc) (Loop.body rc) (Loop.defers rc))) ∧ (0 : Int) ≤ n_3 ∧ goF (yields bs (0 : Nat)) (0 : Int) (16384 : Int) [] = (n_3, [])) ((Wr IntKind.i64 (n_1 - (↑n_5 : Int)) fun (c_1 : Int) => (Ct Try.prog (Value.func (Fn.func (36 : Nat)) #[] #[]) #[Value.slice a n_5 c] I2 fun (v : Value) (I' : Mem) => ∃ (a : Option Addr), ∃ (n : Nat), ∃ (c : Nat), v = Value.slice a n c ∧ List.length xs = List.length xs / (2 : Nat) * (2 : Nat) ∧ List.length xs / (2 : Nat) + (1 : Nat) ≤ (9223372036854775807 : Nat) ∧ (List.length xs / (2 : Nat) + (1 : Nat)) * (32 : Nat) ≤ (140737488355328 : Nat) ∧ Obj.loop (Loop.mk LoopState.busy none (Loop.fn rc) (Loop.tmps rc) (Loop.params rc) (Loop.assign rc) (Loop.body rc) (Loop.defers rc)) = Obj.loop (Loop.mk LoopState.busy none (Loop.fn rc) (Loop.tmps rc) (Loop.params rc) (Loop.assign rc) (Loop.body rc) (Loop.defers rc)) ∧ some br = some br ∧ Ent.mk (EO.raw (Obj.deferred (some []))) (some bd) = Ent.mk (EO.raw (Obj.deferred (some []))) (some bd) ∧ Ent.mk (EO.raw (Obj.loop (Loop.mk LoopState.ready none (Loop.fn rc) (Loop.tmps rc) (Loop.params rc) (Loop.assign rc) (Loop.body rc) (Loop.defers rc)))) (some br) = Ent.mk (EO.raw (Obj.loop (Loop.mk LoopState.ready none (Loop.fn rc) (Loop.tmps rc) (Loop.params rc) (Loop.assign rc) (Loop.body rc) (Loop.defers rc)))) (some br) ∧ some b = some b ∧ List.length xs / (2 : Nat) + (1 : Nat) = List.length (xs ++ [Value.int IntKind.i64 n_4, Value.slice a n c]) / (2 : Nat) ∧ some b_1 = some b_1 ∧ some b_2 = some b_2 ∧ some b_3 = some b_3 ∧ ((b = b ∧ b_1 = b_1 ∧ b_2 = b_2 ∧ b_3 = b_3 ∧ bd = bd ∧ br = br ∧ True) ∧ Obj.loop (Loop.mk LoopState.ready none (Loop.fn rc) (Loop.tmps rc) (Loop.params rc) (Loop.assign rc) (Loop.body rc) (Loop.defers rc)) = Obj.loop (Loop.mk LoopState.ready none (Loop.fn rc) (Loop.tmps rc) (Loop.params rc) (Loop.assign rc) (Loop.body rc) (Loop.defers rc))) ∧ n_2 = (-1 : Int) ∧ (0 : Int) ≤ n_4 ∧ n_4 ≤ (200 : Int) ∧ (0 : Int) ≤ c_1 ∧ c_1 ≤ (16384 : Int) ∧ ∃ (L : List (Int × List Int)), FR I' (xs ++ [Value.int IntKind.i64 n_4, Value.slice a n c]) L ∧ NewR I I' (xs ++ [Value.int IntKind.i64 n_4, Value.slice a n c]) ∧ List.length L ≤ (64 : Nat) ∧ goF (yields bs (0 : Nat)) (0 : Int) (16384 : Int) [] = goF (List.drop (k + (1 : Nat)) (yields bs (0 : Nat))) n_4 c_1 L) ∧ Ct Try.prog (Value.func (Fn.func (36 : Nat)) #[] #[]) #[Value.slice a n_5 c] I2 fun (v : Value) (I' : Mem) => ∃ (a : Option Addr), ∃ (n : Nat), ∃ (c : Nat), v = Value.slice a n c ∧ (List.length xs = List.length xs / (2 : Nat) * (2 : Nat) ∧ List.length xs / (2 : Nat) + (1 : Nat) ≤ (9223372036854775807 : Nat) ∧ (List.length xs / (2 : Nat) + (1 : Nat)) * (32 : Nat) ≤ (140737488355328 : Nat) ∧ Obj.loop (Loop.mk LoopState.busy none (Loop.fn rc) (Loop.tmps rc) (Loop.params rc) (Loop.assign rc) (Loop.body rc) (Loop.defers rc)) = Obj.loop (Loop.mk LoopState.busy none (Loop.fn rc) (Loop.tmps rc) (Loop.params rc) (Loop.assign rc) (Loop.body rc) (Loop.defers rc)) ∧ some br = some br ∧ Ent.mk (EO.raw (Obj.deferred (some []))) (some bd) = Ent.mk (EO.raw (Obj.deferred (some []))) (some bd) ∧ Ent.mk (EO.raw (Obj.loop (Loop.mk LoopState.ready none (Loop.fn rc) (Loop.tmps rc) (Loop.params rc) (Loop.assign rc) (Loop.body rc) (Loop.defers rc)))) (some br) = Ent.mk (EO.raw (Obj.loop (Loop.mk LoopState.ready none (Loop.fn rc) (Loop.tmps rc) (Loop.params rc) (Loop.assign rc) (Loop.body rc) (Loop.defers rc)))) (some br) ∧ some b = some b ∧ List.length xs / (2 : Nat) + (1 : Nat) = List.length (xs ++ [Value.int IntKind.i64 n_4, Value.slice a n c]) / (2 : Nat) ∧ some b_1 = some b_1 ∧ some b_2 = some b_2 ∧ some b_3 = some b_3 ∧ ((b = b ∧ b_1 = b_1 ∧ b_2 = b_2 ∧ b_3 = b_3 ∧ bd = bd ∧ br = br ∧ True) ∧ Obj.loop (Loop.mk LoopState.ready none (Loop.fn rc) (Loop.tmps rc) (Loop.params rc) (Loop.assign rc) (Loop.body rc) (Loop.defers rc)) = Obj.loop (Loop.mk LoopState.ready none (Loop.fn rc) (Loop.tmps rc) (Loop.params rc) (Loop.assign rc) (Loop.body rc) (Loop.defers rc))) ∧ n_2 = (-1 : Int) ∧ (0 : Int) ≤ n_4 ∧ n_4 ≤ (200 : Int) ∧ (0 : Int) ≤ c_1 ∧ c_1 ≤ (16384 : Int) ∧ ∃ (L : List (Int × List Int)), FR I' (xs ++ [Value.int IntKind.i64 n_4, Value.slice a n c]) L ∧ NewR I I' (xs ++ [Value.int IntKind.i64 n_4, Value.slice a n c]) ∧ List.length L ≤ (64 : Nat) ∧ goF (yields bs (0 : Nat)) (0 : Int) (16384 : Int) [] = goF (List.drop (k + (1 : Nat)) (yields bs (0 : Nat))) n_4 c_1 L) ∧ List.length xs = List.length xs / (2 : Nat) * (2 : Nat) ∧ List.length xs / (2 : Nat) + (1 : Nat) ≤ (9223372036854775807 : Nat) ∧ (List.length xs / (2 : Nat) + (1 : Nat)) * (32 : Nat) ≤ (140737488355328 : Nat) ∧ Obj.loop (Loop.mk LoopState.busy none (Loop.fn rc) (Loop.tmps rc) (Loop.params rc) (Loop.assign rc) (Loop.body rc) (Loop.defers rc)) = Obj.loop (Loop.mk LoopState.busy none (Loop.fn rc) (Loop.tmps rc) (Loop.params rc) (Loop.assign rc) (Loop.body rc) (Loop.defers rc)) ∧ some br = some br ∧ Ent.mk (EO.raw (Obj.deferred (some []))) (some bd) = Ent.mk (EO.raw (Obj.deferred (some []))) (some bd) ∧ Ent.mk (EO.raw (Obj.loop (Loop.mk LoopState.ready none (Loop.fn rc) (Loop.tmps rc) (Loop.params rc) (Loop.assign rc) (Loop.body rc) (Loop.defers rc)))) (some br) = Ent.mk (EO.raw (Obj.loop (Loop.mk LoopState.ready none (Loop.fn rc) (Loop.tmps rc) (Loop.params rc) (Loop.assign rc) (Loop.body rc) (Loop.defers rc)))) (some br) ∧ some b = some b ∧ List.length xs / (2 : Nat) + (1 : Nat) = List.length (xs ++ [Value.int IntKind.i64 n_4, Value.slice a n c]) / (2 : Nat) ∧ some b_1 = some b_1 ∧ some b_2 = some b_2 ∧ some b_3 = some b_3 ∧ ((b = b ∧ b_1 = b_1 ∧ b_2 = b_2 ∧ b_3 = b_3 ∧ bd = bd ∧ br = br ∧ True) ∧ Obj.loop (Loop.mk LoopState.ready none (Loop.fn rc) (Loop.tmps rc) (Loop.params rc) (Loop.assign rc) (Loop.body rc) (Loop.defers rc)) = Obj.loop (Loop.mk LoopState.ready none (Loop.fn rc) (Loop.tmps rc) (Loop.params rc) (Loop.assign rc) (Loop.body rc) (Loop.defers rc))) ∧ n_2 = (-1 : Int) ∧ (0 : Int) ≤ n_4 ∧ n_4 ≤ (200 : Int) ∧ (0 : Int) ≤ c_1 ∧ c_1 ≤ (16384 : Int) ∧ ∃ (L : List (Int × List Int)), FR I' (xs ++ [Value.int IntKind.i64 n_4, Value.slice a n c]) L ∧ NewR I I' (xs ++ [Value.int IntKind.i64 n_4, Value.slice a n c]) ∧ List.length L ≤ (64 : Nat) ∧ goF (yields bs (0 : Nat)) (0 : Int) (16384 : Int) [] = goF (List.drop (k + (1 : Nat)) (yields bs (0 : Nat))) n_4 c_1 L) ∧ Wr IntKind.i64 (n_1 - (↑n_5 : Int)) fun (c_1 : Int) => (Ct Try.prog (Value.func (Fn.func (36 : Nat)) #[] #[]) #[Value.slice a n_5 c] I2 fun (v : Value) (I' : Mem) => ∃ (a : Option Addr), ∃ (n : Nat), ∃ (c : Nat), v = Value.slice a n c ∧ List.length xs = List.length xs / (2 : Nat) * (2 : Nat) ∧ List.length xs / (2 : Nat) + (1 : Nat) ≤ (9223372036854775807 : Nat) ∧ (List.length xs / (2 : Nat) + (1 : Nat)) * (32 : Nat) ≤ (140737488355328 : Nat) ∧ Obj.loop (Loop.mk LoopState.busy none (Loop.fn rc) (Loop.tmps rc) (Loop.params rc) (Loop.assign rc) (Loop.body rc) (Loop.defers rc)) = Obj.loop (Loop.mk LoopState.busy none (Loop.fn rc) (Loop.tmps rc) (Loop.params rc) (Loop.assign rc) (Loop.body rc) (Loop.defers rc)) ∧ some br = some br ∧ Ent.mk (EO.raw (Obj.deferred (some []))) (some bd) = Ent.mk (EO.raw (Obj.deferred (some []))) (some bd) ∧ Ent.mk (EO.raw (Obj.loop (Loop.mk LoopState.ready none (Loop.fn rc) (Loop.tmps rc) (Loop.params rc) (Loop.assign rc) (Loop.body rc) (Loop.defers rc)))) (some br) = Ent.mk (EO.raw (Obj.loop (Loop.mk LoopState.ready none (Loop.fn rc) (Loop.tmps rc) (Loop.params rc) (Loop.assign rc) (Loop.body rc) (Loop.defers rc)))) (some br) ∧ some b = some b ∧ List.length xs / (2 : Nat) + (1 : Nat) = List.length (xs ++ [Value.int IntKind.i64 n_4, Value.slice a n c]) / (2 : Nat) ∧ some b_1 = some b_1 ∧ some b_2 = some b_2 ∧ some b_3 = some b_3 ∧ ((b = b ∧ b_1 = b_1 ∧ b_2 = b_2 ∧ b_3 = b_3 ∧ bd = bd ∧ br = br ∧ True) ∧ Obj.loop (Loop.mk LoopState.ready none (Loop.fn rc) (Loop.tmps rc) (Loop.params rc) (Loop.assign rc) (Loop.body rc) (Loop.defers rc)) = Obj.loop (Loop.mk LoopState.ready none (Loop.fn rc) (Loop.tmps rc) (Loop.params rc) (Loop.assign rc) (Loop.body rc) (Loop.defers rc))) ∧ n_2 = (-1 : Int) ∧ (0 : Int) ≤ n_4 ∧ n_4 ≤ (200 : Int) ∧ (0 : Int) ≤ c_1 ∧ c_1 ≤ (16384 : Int) ∧ ∃ (L : List (Int × List Int)), FR I' (xs ++ [Value.int IntKind.i64 n_4, Value.slice a n c]) L ∧ NewR I I' (xs ++ [Value.int IntKind.i64 n_4, Value.slice a n c]) ∧ List.length L ≤ (64 : Nat) ∧ goF (yields bs (0 : Nat)) (0 : Int) (16384 : Int) [] = goF (List.drop (k + (1 : Nat)) (yields bs (0 : Nat))) n_4 c_1 L) ∧ Ct Try.prog (Value.func (Fn.func (36 : Nat)) #[] #[]) #[Value.slice a n_5 c] I2 fun (v : Value) (I' : Mem) => ∃ (a : Option Addr), ∃ (n : Nat), ∃ (c : Nat), v = Value.slice a n c ∧ (List.length xs = List.length xs / (2 : Nat) * (2 : Nat) ∧ List.length xs / (2 : Nat) + (1 : Nat) ≤ (9223372036854775807 : Nat) ∧ (List.length xs / (2 : Nat) + (1 : Nat)) * (32 : Nat) ≤ (140737488355328 : Nat) ∧ Obj.loop (Loop.mk LoopState.busy none (Loop.fn rc) (Loop.tmps rc) (Loop.params rc) (Loop.assign rc) (Loop.body rc) (Loop.defers rc)) = Obj.loop (Loop.mk LoopState.busy none (Loop.fn rc) (Loop.tmps rc) (Loop.params rc) (Loop.assign rc) (Loop.body rc) (Loop.defers rc)) ∧ some br = some br ∧ Ent.mk (EO.raw (Obj.deferred (some []))) (some bd) = Ent.mk (EO.raw (Obj.deferred (some []))) (some bd) ∧ Ent.mk (EO.raw (Obj.loop (Loop.mk LoopState.ready none (Loop.fn rc) (Loop.tmps rc) (Loop.params rc) (Loop.assign rc) (Loop.body rc) (Loop.defers rc)))) (some br) = Ent.mk (EO.raw (Obj.loop (Loop.mk LoopState.ready none (Loop.fn rc) (Loop.tmps rc) (Loop.params rc) (Loop.assign rc) (Loop.body rc) (Loop.defers rc)))) (some br) ∧ some b = some b ∧ List.length xs / (2 : Nat) + (1 : Nat) = List.length (xs ++ [Value.int IntKind.i64 n_4, Value.slice a n c]) / (2 : Nat) ∧ some b_1 = some b_1 ∧ some b_2 = some b_2 ∧ some b_3 = some b_3 ∧ ((b = b ∧ b_1 = b_1 ∧ b_2 = b_2 ∧ b_3 = b_3 ∧ bd = bd ∧ br = br ∧ True) ∧ Obj.loop (Loop.mk LoopState.ready none (Loop.fn rc) (Loop.tmps rc) (Loop.params rc) (Loop.assign rc) (Loop.body rc) (Loop.defers rc)) = Obj.loop (Loop.mk LoopState.ready none (Loop.fn rc) (Loop.tmps rc) (Loop.params rc) (Loop.assign rc) (Loop.body rc) (Loop.defers rc))) ∧ n_2 = (-1 : Int) ∧ (0 : Int) ≤ n_4 ∧ n_4 ≤ (200 : Int) ∧ (0 : Int) ≤ c_1 ∧ c_1 ≤ (16384 : Int) ∧ ∃ (L : List (Int × List Int)), FR I' (xs ++ [Value.int IntKind.i64 n_4, Value.slice a n c]) L ∧ NewR I I' (xs ++ [Value.int IntKind.i64 n_4, Value.slice a n c]) ∧ List.length L ≤ (64 : Nat) ∧ goF (yields bs (0 : Nat)) (0 : Int) (16384 : Int) [] = goF (List.drop (k + (1 : Nat)) (yields bs (0 : Nat))) n_4 c_1 L) ∧ List.length xs = List.length xs / (2 : Nat) * (2 : Nat) ∧ List.length xs / (2 : Nat) + (1 : Nat) ≤ (9223372036854775807 : Nat) ∧ (List.length xs / (2 : Nat) + (1 : Nat)) * (32 : Nat) ≤ (140737488355328 : Nat) ∧ Obj.loop (Loop.mk LoopState.busy none (Loop.fn rc) (Loop.tmps rc) (Loop.params rc) (Loop.assign rc) (Loop.body rc) (Loop.defers rc)) = Obj.loop (Loop.mk LoopState.busy none (Loop.fn rc) (Loop.tmps rc) (Loop.params rc) (Loop.assign rc) (Loop.body rc) (Loop.defers rc)) ∧ some br = some br ∧ Ent.mk (EO.raw (Obj.deferred (some []))) (some bd) = Ent.mk (EO.raw (Obj.deferred (some []))) (some bd) ∧ Ent.mk (EO.raw (Obj.loop (Loop.mk LoopState.ready none (Loop.fn rc) (Loop.tmps rc) (Loop.params rc) (Loop.assign rc) (Loop.body rc) (Loop.defers rc)))) (some br) = Ent.mk (EO.raw (Obj.loop (Loop.mk LoopState.ready none (Loop.fn rc) (Loop.tmps rc) (Loop.params rc) (Loop.assign rc) (Loop.body rc) (Loop.defers rc)))) (some br) ∧ some b = some b ∧ List.length xs / (2 : Nat) + (1 : Nat) = List.length (xs ++ [Value.int IntKind.i64 n_4, Value.slice a n c]) / (2 : Nat) ∧ some b_1 = some b_1 ∧ some b_2 = some b_2 ∧ some b_3 = some b_3 ∧ ((b = b ∧ b_1 = b_1 ∧ b_2 = b_2 ∧ b_3 = b_3 ∧ bd = bd ∧ br = br ∧ True) ∧ Obj.loop (Loop.mk LoopState.ready none (Loop.fn rc) (Loop.tmps rc) (Loop.params rc) (Loop.assign rc) (Loop.body rc) (Loop.defers rc)) = Obj.loop (Loop.mk LoopState.ready none (Loop.fn rc) (Loop.tmps rc) (Loop.params rc) (Loop.assign rc) (Loop.body rc) (Loop.defers rc))) ∧ n_2 = (-1 : Int) ∧ (0 : Int) ≤ n_4 ∧ n_4 ≤ (200 : Int) ∧ (0 : Int) ≤ c_1 ∧ c_1 ≤ (16384 : Int) ∧ ∃ (L : List (Int × List Int)), FR I' (xs ++ [Value.int IntKind.i64 n_4, Value.slice a n c]) L ∧ NewR I I' (xs ++ [Value.int IntKind.i64 n_4, Value.slice a n c]) ∧ List.length L ≤ (64 : Nat) ∧ goF (yields bs (0 : Nat)) (0 : Int) (16384 : Int) [] = goF (List.drop (k + (1 : Nat)) (yields bs (0 : Nat))) n_4 c_1 L))))) ∧ (∀ (I'_1 G' : Mem), Mem.le I' I'_1 → ∀ (xs : List Value) (n n_1 n_2 : Int), (n_2 = (-1 : Int) ∧ (0 : Int) ≤ n ∧ n ≤ (200 : Int) ∧ (0 : Int) ≤ n_1 ∧ n_1 ≤ (16384 : Int) ∧ ∃ (L : List (Int × List Int)), FR I'_1 xs L ∧ NewR I I'_1 xs ∧ List.length L ≤ (64 : Nat) ∧ goF (yields bs (0 : Nat)) (0 : Int) (16384 : Int) [] = goF (List.drop (List.length (yields bs (0 : Nat))) (yields bs (0 : Nat))) n n_1 L) → ∀ (I2 : Mem), Mem.le I'_1 I2 → Br (decide ((0 : Int) ≤ n_2)) (∃ (a' : Option Addr), ∃ (n' : Nat), ∃ (c' : Nat), Value.tuple #[Value.slice none (0 : Nat) (0 : Nat), Value.int IntKind.i64 n_2, Value.int IntKind.i64 (21 : Int)] = Value.tuple #[Value.slice a' n' c', Value.int IntKind.i64 (Prod.fst (Prod.snd (readF bs))), Value.int IntKind.i64 (Prod.snd (Prod.snd (readF bs)))] ∧ FldM I2 a' n' (Prod.fst (readF bs)) ∧ n' ≤ c' ∧ c' ≤ (9223372036854775807 : Nat) ∧ ∀ (G : Mem), OvL (gained I I2 G) a' n') (∀ (a : Option Addr) (cp : Nat) (I' : Mem), Mem.le I2 I' → RowF I2 I' a cp (2 : Nat) xs → ∃ (a' : Option Addr), ∃ (n' : Nat), ∃ (c' : Nat), Value.tuple #[Value.slice a (List.length xs / (2 : Nat)) cp, Value.int IntKind.i64 (0 : Int), Value.int IntKind.i64 (0 : Int)] = Value.tuple #[Value.slice a' n' c', Value.int IntKind.i64 (Prod.fst (Prod.snd (readF bs))), Value.int IntKind.i64 (Prod.snd (Prod.snd (readF bs)))] ∧ FldM I' a' n' (Prod.fst (readF bs)) ∧ n' ≤ c' ∧ c' ≤ (9223372036854775807 : Nat) ∧ ∀ (G : Mem), OvL (gained I I' G) a' n')) ∧ ∀ (I'_1 G' : Mem), Mem.le I' I'_1 → ∀ (n : Int), (0 : Int) ≤ n ∧ goF (yields bs (0 : Nat)) (0 : Int) (16384 : Int) [] = (n, []) → ∀ (I2 : Mem), Mem.le I'_1 I2 → Br (decide ((0 : Int) ≤ n)) (∃ (a' : Option Addr), ∃ (n' : Nat), ∃ (c' : Nat), Value.tuple #[Value.slice none (0 : Nat) (0 : Nat), Value.int IntKind.i64 n, Value.int IntKind.i64 (21 : Int)] = Value.tuple #[Value.slice a' n' c', Value.int IntKind.i64 (Prod.fst (Prod.snd (readF bs))), Value.int IntKind.i64 (Prod.snd (Prod.snd (readF bs)))] ∧ FldM I2 a' n' (Prod.fst (readF bs)) ∧ n' ≤ c' ∧ c' ≤ (9223372036854775807 : Nat) ∧ ∀ (G : Mem), OvL (gained I I2 G) a' n') False)) (by kernel_rfl) ?_
  simp only [eq_self, true_and]
  have hnl := h.numLen
  refine Br.mk (fun hlong => ?_) (fun hlong => (ct35 a n c I).mono fun v I1 l1 ⟨b, hb, hv⟩ => ⟨_, rfl, fun _ _ _ _ bd br rc => ⟨?_, ?_, ⟨by omega, by omega, by omega, by omega, [], trivial, NewR.nil, by simp, rfl⟩, ?_, ?_, ?_⟩⟩)
  · have hlong := of_decide_eq_true hlong
    have : readF bs = ([], 0, 3) := by rw [readF, if_pos (by omega)]
    rw [this]
    exact ⟨none, 0, 0, rfl, fldM_nil _, by omega, by omega, fun G => ovl_nil _ _⟩
  · subst hv; exact gives56 bs hbs b a n c I1 hb (h.mono l1) hn hc hm
  · rintro k args I2 ⟨at_, f, a1, n1, c1, _, rfl, _⟩; rfl
  · rintro k I2 G2 hk l2 xs last left wrong ⟨hw, h0, h1, h2, h3, L, h4, hnr, h5, h6⟩ I3 l3 at_ t0 a1 n1 c1 ⟨at', f, a2, n2, c2, hy, hargs, hsl, hnc, hcm⟩
    obtain ⟨t, body⟩ := f
    cases hargs
    have hok := yields_ok hbs hy
    have hat := yields_at hy
    have hlen : n1 = body.length := hsl.numLen
    have hxl := h4.len
    rw [drop_cons hy] at h6
    have bad : (t ≤ last ∨ 200 < t ∨ left < body.length ∨ 64 ≤ L.length) → 0 ≤ ((at' : Nat) : Int) ∧ goF (yields bs 0) 0 16384 [] = (((at' : Nat) : Int), []) := fun hc => by
      rw [goF, if_pos hc] at h6
      exact ⟨by omega, h6⟩
    refine Br.mk (fun e1 => bad (.inl (of_decide_eq_true e1))) (fun e1 => Br.mk (fun e2 => bad (.inr (.inl (of_decide_eq_true e2)))) (fun e2 => Br.mk (fun e3 => bad (.inr (.inr (.inl ?_)))) (fun e3 => Br.mk (fun e4 => bad (.inr (.inr (.inr ?_)))) (fun e4 => ?_))))
    · have := of_decide_eq_true e3; omega
    · have := of_decide_eq_true e4; omega
    · have e1 := of_decide_eq_false e1
      have e2 := of_decide_eq_false e2
      have e3 := of_decide_eq_false e3
      have e4 := of_decide_eq_false e4
      rw [goF, if_neg (by simp only; omega)] at h6
      simp only at h6
      have hb1 : n1 ≤ 1000000 := by omega
      have hleft : 0 ≤ left - n1 ∧ left - n1 ≤ 16384 := by omega
      rw [← hlen] at h6
      have hsn : ∀ {I4 : Mem} {y : Value}, I3.le I4 → BySl I4 y body → FR I4 (xs ++ [.int .i64 t, y]) (L ++ [(t, body)]) := fun hle hy => FR.snoc (h4.mono (Mem.le_trans l3 hle)) ⟨hok, rfl, hy⟩
      have hns : ∀ {I4 : Mem} {y : Value}, I3.le I4 → NewB I3 I4 y → NewR I I4 (xs ++ [.int .i64 t, y]) := fun hle hy => NewR.snoc (hnr.mono (Mem.le_trans l3 hle)) (hy.anti (Mem.le_trans l1 (Mem.le_trans l2 l3)))
      have q1 : xs.length = xs.length / 2 * 2 := by omega
      have q2 : xs.length / 2 + 1 ≤ 9223372036854775807 := by omega
      have q3 : (xs.length / 2 + 1) * 32 ≤ 140737488355328 := by omega
      have q4 : ∀ y, xs.length / 2 + 1 = (xs ++ [Value.int IntKind.i64 t, y]).length / 2 := fun y => by simp
      have q5 : (L ++ [(t, body)]).length ≤ 64 := by simp; omega
      refine ⟨wr_i64 (by omega) (by omega) ⟨(ct36N body _ _ _ I3 hsl hb1).mono fun v I4 l4 ⟨hv, hvn⟩ => ?_, (ct36N body _ _ _ I3 hsl hb1).mono fun v I4 l4 ⟨hv, hvn⟩ => ?_⟩, wr_i64 (by omega) (by omega) ⟨(ct36N body _ _ _ I3 hsl hb1).mono fun v I4 l4 ⟨hv, hvn⟩ => ?_, (ct36N body _ _ _ I3 hsl hb1).mono fun v I4 l4 ⟨hv, hvn⟩ => ?_⟩⟩
      all_goals
        have hv2 := hv
        obtain ⟨b2, m2, c2, rfl, _⟩ := hv
        first
          | exact ⟨_, _, _, rfl, q1, q2, q3, q4 _, hw, by omega, by omega, hleft.1, hleft.2, _, hsn l4 hv2, hns l4 hvn, q5, h6⟩
          | exact ⟨_, _, _, rfl, ⟨q1, q2, q3, q4 _, hw, by omega, by omega, hleft.1, hleft.2, _, hsn l4 hv2, hns l4 hvn, q5, h6⟩, q1, q2, q3, q4 _, hw, by omega, by omega, hleft.1, hleft.2, _, hsn l4 hv2, hns l4 hvn, q5, h6⟩
  · rintro I2 G2 l2 xs last left wrong ⟨hw, h0, h1, h2, h3, L, h4, hnr, h5, h6⟩ I3 l3
    rw [List.drop_length, goF] at h6
    have hlong := of_decide_eq_false hlong
    have : readF bs = (L, 0, 0) := by rw [readF, if_neg (by omega), h6]; rfl
    rw [this]
    refine Br.f (by subst hw; rfl) fun a2 cp I4 l4 hrow => ?_
    obtain ⟨a3, n3, c3, e1, e2, e3, e4⟩ := fr_row hrow.row (h4.mono (Mem.le_trans l3 l4))
    cases e1
    have hxl := h4.len
    exact ⟨_, _, _, rfl, e2, e3, e4, fun G => ovl_row hrow (Mem.le_trans l1 (Mem.le_trans l2 l3)) l4 (h4.mono l3) (hnr.mono l3) (by omega) G⟩
  · rintro I2 G2 l2 wrong ⟨hw, h6⟩ I3 l3
    have hlong := of_decide_eq_false hlong
    have : readF bs = ([], wrong, 21) := by rw [readF, if_neg (by omega), h6, if_pos hw]
    rw [this]
    exact Br.t (by simpa using hw) ⟨none, 0, 0, rfl, fldM_nil _, by omega, by omega, fun G => ovl_nil _ _⟩

theorem ct19 (bs : List Int) (hbs : byteL bs) (a : Option Addr) (n c : Nat) (I : Mem) (h : SlM I a n 1 (ints .u8 bs)) (hn : n ≤ 1000000) (hc : n ≤ c) (hm : c ≤ maxLen) :
    Ct Try.prog (fnv 19) #[.slice a n c] I (fun v I' => ∃ a' n' c', v = .tuple #[.slice a' n' c', .int .i64 (readF bs).2.1, .int .i64 (readF bs).2.2] ∧ FldM I' a' n' (readF bs).1 ∧ n' ≤ c' ∧ c' ≤ maxLen) :=
  (ct19N bs hbs a n c I h hn hc hm).mono fun _ _ _ ⟨a', n', c', h1, h2, h3, h4, _⟩ => ⟨a', n', c', h1, h2, h3, h4⟩

theorem ct59 (x : Int) (h : 0 ≤ x ∧ x ≤ 18446744073709551615) (I : Mem) :
    Ct Try.prog (fnv 59) #[.slice none 0 0, .int .u64 x] I (fun v I' => BySl I' v (formN x.toNat)) := by
  refine viaR (ct_via (A := { loops := [(6, ⟨[(0, .keep), (1, .sh (.int .u64)), (5, .keep), (6, .keep), (7, .sh (.int .i64))], [(0, .vec)], [], fun vals xss _ _ => match vals, xss with
    | [.int .u64 v1, .int .i64 v7], [ys] => ∃ K : Nat, K ≤ digN x.toNat ∧ v7 = (digN x.toNat : Int) - 1 - K ∧ v1 = ((x.toNat / 256 ^ K : Nat) : Int) ∧ ys = stA (digN x.toNat) K x.toNat | _, _ => False, fun vals _ => match vals with | [_, .int .i64 v7] => (v7 + 1).toNat | _ => 0⟩)] }) Try.func59 rfl Try.call59 rfl rfl) (Ct Try.prog (Value.func (Fn.func (90 : Nat)) #[] #[]) #[Value.int IntKind.u64 x] I fun (v : Value) (I' : Mem) => ∃ (n : Int), v = Value.int IntKind.i64 n ∧ Br (n == (1 : Int)) (Wr IntKind.u8 x fun (c : Int) => (1 : Nat) ≤ (9223372036854775807 : Nat) ∧ (1 : Nat) ≤ (140737488355328 : Nat) ∧ ∀ (a : Option Addr) (cp : Nat) (I'_1 : Mem), Mem.le I' I'_1 → RowM I'_1 a cp (1 : Nat) [Value.int IntKind.u8 c] → ∃ (b : Option Addr), ∃ (m : Nat), ∃ (c : Nat), Value.slice a (1 : Nat) cp = Value.slice b m c ∧ SlM I'_1 b m (1 : Nat) (List.map (Value.int IntKind.u8) (formN (Int.toNat x))) ∧ m ≤ c ∧ c ≤ (9223372036854775807 : Nat)) (Wr IntKind.i64 (n - (2 : Int)) fun (c : Int) => (@none Nat = @none Nat ∧ SV.v (Value.slice none (0 : Nat) (0 : Nat)) = SV.v (Value.slice none (0 : Nat) (0 : Nat)) ∧ SV.v (Value.int IntKind.i64 n) = SV.v (Value.int IntKind.i64 n) ∧ SV.ptr (0 : Nat) (0 : Nat) = SV.ptr (0 : Nat) (0 : Nat) ∧ ∃ (K : Nat), K ≤ digN (Int.toNat x) ∧ c = (↑(digN (Int.toNat x)) : Int) - (1 : Int) - (↑K : Int) ∧ x = (↑(Int.toNat x / (256 : Nat) ^ K) : Int) ∧ [Value.int IntKind.u8 (0 : Int), Value.int IntKind.u8 (0 : Int), Value.int IntKind.u8 (0 : Int), Value.int IntKind.u8 (0 : Int), Value.int IntKind.u8 (0 : Int), Value.int IntKind.u8 (0 : Int), Value.int IntKind.u8 (0 : Int), Value.int IntKind.u8 (0 : Int)] = stA (digN (Int.toNat x)) K (Int.toNat x)) ∧ ∀ (I'_1 G' : Mem), Mem.le I' I'_1 → ∀ (xs : List Value) (n_1 n_2 : Int), (∃ (K : Nat), K ≤ digN (Int.toNat x) ∧ n_2 = (↑(digN (Int.toNat x)) : Int) - (1 : Int) - (↑K : Int) ∧ n_1 = (↑(Int.toNat x / (256 : Nat) ^ K) : Int) ∧ xs = stA (digN (Int.toNat x)) K (Int.toNat x)) → Br (decide ((0 : Int) ≤ n_2)) (Wr IntKind.u8 n_1 fun (c : Int) => (0 : Int) ≤ n_2 ∧ n_2 < (8 : Int) ∧ (0 : Nat) + Int.toNat n_2 * (1 : Nat) + (1 : Nat) ≤ List.length xs ∧ (0 : Int) ≤ (8 : Int) ∧ Wr IntKind.i64 (n_2 - (1 : Int)) fun (c_1 : Int) => @none Nat = @none Nat ∧ SV.v (Value.slice none (0 : Nat) (0 : Nat)) = SV.v (Value.slice none (0 : Nat) (0 : Nat)) ∧ SV.v (Value.int IntKind.i64 n) = SV.v (Value.int IntKind.i64 n) ∧ SV.ptr (0 : Nat) (0 : Nat) = SV.ptr (0 : Nat) (0 : Nat) ∧ (∃ (K : Nat), K ≤ digN (Int.toNat x) ∧ c_1 = (↑(digN (Int.toNat x)) : Int) - (1 : Int) - (↑K : Int) ∧ Int.fdiv n_1 (256 : Int) = (↑(Int.toNat x / (256 : Nat) ^ K) : Int) ∧ splice xs ((0 : Nat) + Int.toNat n_2 * (1 : Nat)) [Value.int IntKind.u8 c] = stA (digN (Int.toNat x)) K (Int.toNat x)) ∧ Int.toNat (c_1 + (1 : Int)) < Int.toNat (n_2 + (1 : Int))) (Wr IntKind.i64 ((246 : Int) + n) fun (c : Int) => Wr IntKind.i64 (c - (1 : Int)) fun (c : Int) => Wr IntKind.u8 c fun (c : Int) => Wr IntKind.i64 (n - (1 : Int)) fun (c_1 : Int) => (0 : Int) ≤ c_1 ∧ c_1 ≤ (8 : Int) ∧ (1 : Nat) ≤ (9223372036854775807 : Nat) ∧ (1 : Nat) ≤ (140737488355328 : Nat) ∧ (0 : Nat) + Int.toNat c_1 * (1 : Nat) ≤ List.length xs ∧ (∀ (v : Value), v ∈ List.take (Int.toNat c_1 * (1 : Nat)) xs → Value.oneCell' v = true) ∧ (1 : Nat) = (1 : Nat) ∧ (1 : Nat) + Int.toNat c_1 ≤ (9223372036854775807 : Nat) ∧ ((1 : Nat) + Int.toNat c_1) * (1 : Nat) ≤ (140737488355328 : Nat) ∧ ∀ (a : Option Addr) (cp : Nat) (I' : Mem), Mem.le I'_1 I' → RowM I' a cp (1 : Nat) (Value.int IntKind.u8 c :: List.append ([] : List Value) (List.take (Int.toNat c_1 * 1) (List.drop (0 : Nat) xs))) → ∃ (b : Option Addr), ∃ (m : Nat), ∃ (c : Nat), Value.slice a ((1 : Nat) + Int.toNat c_1) cp = Value.slice b m c ∧ SlM I' b m (1 : Nat) (List.map (Value.int IntKind.u8) (formN (Int.toNat x))) ∧ m ≤ c ∧ c ≤ (9223372036854775807 : Nat)))) (by kernel_rfl) ?_
  simp only [eq_self, true_and]
  have hX : x.toNat < 256 ^ 8 := by omega
  have hd8 : digN x.toNat ≤ 8 := digN_le hX
  refine (ct90 x h I).mono fun v I1 _ hv => ⟨_, hv, Br.mk (fun h1 => ?_) (fun h1 => ?_)⟩
  · have h1 : (sizeN x.toNat : Int) = 1 := by simpa using h1
    have hle : x.toNat ≤ 246 := by
      rcases Nat.lt_or_ge 246 x.toNat with hgt | hle
      · rw [sizeN, if_neg (by omega), digN_pos (by omega)] at h1
        omega
      · exact hle
    have hf : formN x.toNat = [x] := by rw [formN, if_pos hle]; congr 1; omega
    rw [hf]
    exact ⟨x, IntWalk.u8_in x ⟨h.1, by omega⟩, by omega, by omega, fun a cp I2 _ hrow => row_bysl (xs := [x]) hrow rfl⟩
  · have hgt : 246 < x.toNat := by
      rcases Nat.lt_or_ge 246 x.toNat with hgt | hle
      · exact hgt
      · rw [sizeN, if_pos hle] at h1
        simp at h1
    have hs : sizeN x.toNat = 1 + digN x.toNat := by rw [sizeN, if_neg (by omega)]
    have hd1 : 1 ≤ digN x.toNat := by rw [digN_pos (by omega)]; omega
    have hf : formN x.toNat = ((246 + digN x.toNat : Nat) : Int) :: be (digN x.toNat) x.toNat := by rw [formN, if_neg (by omega)]
    rw [hs, hf]
    generalize hdd : digN x.toNat = d at hd8 hd1 ⊢
    refine wr_i64 (by omega) (by omega) ⟨⟨0, by omega, by omega, by simp; omega, ?_⟩, fun I2 G2 _ ys v1 v7 ⟨K, k1, k2, k3, k4⟩ => Br.mk (fun hge => ?_) (fun hlt => ?_)⟩
    · show List.replicate 8 (Value.int .u8 0) = _
      rw [stA, be]
      simp only [ints, List.map_nil, List.append_nil, zs8, List.replicate_append_replicate]
      congr 1; omega
    · have hge := of_decide_eq_true hge
      have hv7 : v7.toNat = d - 1 - K := by omega
      have hq : x.toNat / 256 ^ K / 256 = x.toNat / 256 ^ (K + 1) := by rw [Nat.div_div_eq_div_mul, Nat.pow_succ]
      have hfd : v1.fdiv 256 = v1 / 256 := Int.fdiv_eq_ediv_of_nonneg _ (by decide)
      refine ⟨((x.toNat / 256 ^ K % 256 : Nat) : Int), by rw [IntKind.wrap_u8, k3]; omega, hge, by omega, ?_, by omega, wr_i64 (by omega) (by omega) ⟨⟨K + 1, by omega, by omega, by rw [hfd, k3, ← hq]; omega, ?_⟩, by omega⟩⟩
      · rw [k4, stA]; simp [zs8, ints_len, be_len]; omega
      · rw [show 0 + v7.toNat * 1 = d - 1 - K by omega, k4]
        exact stA_step (by omega) hd8
    · have hlt := of_decide_eq_false hlt
      obtain rfl : K = d := by omega
      have hys : ys = ints .u8 (be K x.toNat) ++ zs8 (8 - K) := by rw [k4, stA]; simp [zs8]
      have ht : ys.take K = ints .u8 (be K x.toNat) := by rw [hys, List.take_left' (by rw [ints_len, be_len])]
      have hylen : ys.length = 8 := by rw [hys]; simp [zs8, ints_len, be_len]; omega
      refine wr_i64 (by omega) (by omega) (wr_i64 (by omega) (by omega) ⟨((246 + K : Nat) : Int), by rw [IntWalk.u8_in _ ⟨by omega, by omega⟩]; omega, wr_i64 (by omega) (by omega) ?_⟩)
      rw [show ((1 + K : Nat) : Int) - 1 = (K : Int) by omega, Int.toNat_natCast, show K * 1 = K from Nat.mul_one K, ht]
      refine ⟨by omega, by omega, by omega, by omega, by omega, one_ints, by omega, by omega, fun a cp I3 _ hrow => ?_⟩
      have hrow : RowM I3 a cp 1 (ints .u8 (((246 + K : Nat) : Int) :: be K x.toNat)) := by
        change RowM I3 a cp 1 (Value.int .u8 ((246 + K : Nat) : Int) :: ys.take K) at hrow
        rw [ht] at hrow
        exact hrow
      exact row_bysl hrow (by simp [be_len]; omega)
theorem cs58 (l : List (Int × List Int)) (xs : List Value) (n : Nat) (hn : n = l.length) (I : Mem) (h : FR I xs l) (hl : n ≤ 1000000) :
    CtS Try.prog (.v (fnv 58)) [.rsl 0 n] [⟨.row xs 2 77, none⟩] I (fun v H' _ => v = .v (.bool (rightF l)) ∧ H' = [⟨.row xs 2 77, none⟩]) := by
  refine viaR (ctS_via (A := { loops := [(3, ⟨[(0, .keep), (3, .sh (.int .i64)), (4, .sh (.int .i64)), (7, .keep), (8, .keep), (9, .sh (.int .i64))], [(0, .keep)], [], fun vals _ _ _ => match vals with | [.int .i64 last, .int .i64 left, .int .i64 j] => 0 ≤ j ∧ j ≤ n ∧ 0 ≤ last ∧ last ≤ 200 ∧ 0 ≤ left ∧ left ≤ 16384 ∧ rightStep 0 16384 l = rightStep last left (l.drop j.toNat) | _ => False, fun vals _ => match vals with | [_, _, .int .i64 j] => (n - j).toNat | _ => 0⟩)] }) Try.func58 rfl Try.call58 [0] rfl) ((Ent.mk (EO.row xs (2 : Nat) (77 : Nat)) none = Ent.mk (EO.row xs (2 : Nat) (77 : Nat)) none ∧ SV.rsl (0 : Nat) n = SV.rsl (0 : Nat) n ∧ SV.rsl (0 : Nat) n = SV.rsl (0 : Nat) n ∧ SV.v (Value.int IntKind.i64 (↑n : Int)) = SV.v (Value.int IntKind.i64 (↑n : Int)) ∧ (0 : Int) ≤ (0 : Int) ∧ (0 : Int) ≤ (↑n : Int) ∧ (0 : Int) ≤ (0 : Int) ∧ (0 : Int) ≤ (200 : Int) ∧ (0 : Int) ≤ (16384 : Int) ∧ (16384 : Int) ≤ (16384 : Int) ∧ rightStep (0 : Int) (16384 : Int) l = rightStep (0 : Int) (16384 : Int) l) ∧ ∀ (I' G' : Mem), Mem.le I I' → ∀ (n_1 n_2 n_3 : Int), (0 : Int) ≤ n_3 ∧ n_3 ≤ (↑n : Int) ∧ (0 : Int) ≤ n_1 ∧ n_1 ≤ (200 : Int) ∧ (0 : Int) ≤ n_2 ∧ n_2 ≤ (16384 : Int) ∧ rightStep (0 : Int) (16384 : Int) l = rightStep n_1 n_2 (List.drop (Int.toNat n_3) l) → Br (decide (n_3 < (↑n : Int))) ((0 : Int) ≤ n_3 ∧ n_3 < (↑n : Int) ∧ n * (2 : Nat) ≤ List.length xs ∧ (2 : Nat) = (2 : Nat) ∧ ∃ (n_4 : Int), xs[Int.toNat n_3 * (2 : Nat) + (0 : Nat)]? = some (Value.int IntKind.i64 n_4) ∧ ∃ (a : Option Addr), ∃ (n_5 : Nat), ∃ (c : Nat), xs[Int.toNat n_3 * (2 : Nat) + (1 : Nat)]? = some (Value.slice a n_5 c) ∧ Br (decide (n_4 ≤ n_1)) (SV.v (Value.bool false) = SV.v (Value.bool (rightF l)) ∧ [Ent.mk (EO.row xs (2 : Nat) (77 : Nat)) none] = [Ent.mk (EO.row xs (2 : Nat) (77 : Nat)) none]) (Br (decide ((200 : Int) < n_4)) (SV.v (Value.bool false) = SV.v (Value.bool (rightF l)) ∧ [Ent.mk (EO.row xs (2 : Nat) (77 : Nat)) none] = [Ent.mk (EO.row xs (2 : Nat) (77 : Nat)) none]) (Br (decide (n_2 < (↑n_5 : Int))) (SV.v (Value.bool false) = SV.v (Value.bool (rightF l)) ∧ [Ent.mk (EO.row xs (2 : Nat) (77 : Nat)) none] = [Ent.mk (EO.row xs (2 : Nat) (77 : Nat)) none]) (Wr IntKind.i64 (n_2 - (↑n_5 : Int)) fun (c : Int) => Wr IntKind.i64 (n_3 + (1 : Int)) fun (c_1 : Int) => Ent.mk (EO.row xs (2 : Nat) (77 : Nat)) none = Ent.mk (EO.row xs (2 : Nat) (77 : Nat)) none ∧ SV.rsl (0 : Nat) n = SV.rsl (0 : Nat) n ∧ SV.rsl (0 : Nat) n = SV.rsl (0 : Nat) n ∧ SV.v (Value.int IntKind.i64 (↑n : Int)) = SV.v (Value.int IntKind.i64 (↑n : Int)) ∧ ((0 : Int) ≤ c_1 ∧ c_1 ≤ (↑n : Int) ∧ (0 : Int) ≤ n_4 ∧ n_4 ≤ (200 : Int) ∧ (0 : Int) ≤ c ∧ c ≤ (16384 : Int) ∧ rightStep (0 : Int) (16384 : Int) l = rightStep n_4 c (List.drop (Int.toNat c_1) l)) ∧ Int.toNat ((↑n : Int) - c_1) < Int.toNat ((↑n : Int) - n_3))))) (SV.v (Value.bool (decide ((↑n : Int) ≤ (64 : Int)))) = SV.v (Value.bool (rightF l)) ∧ [Ent.mk (EO.row xs (2 : Nat) (77 : Nat)) none] = [Ent.mk (EO.row xs (2 : Nat) (77 : Nat)) none])) (by kernel_rfl) ?_
  simp only [eq_self, true_and, and_true]
  have hxl := h.len
  refine ⟨by omega, fun I1 _ l1 last left j ⟨h0, h1, h2, h3, h4, h5, h6⟩ => Br.mk (fun hlt => ?_) (fun hge => ?_)⟩
  · have hlt := of_decide_eq_true hlt
    have hf : l[j.toNat]? = some l[j.toNat] := List.getElem?_eq_getElem (by omega)
    generalize l[j.toNat] = f at hf
    obtain ⟨hok, e1, y, e2, b, m, c', rfl, hs, hm1, hm2⟩ := h.get hf
    have hm := hs.numLen
    rw [drop_cons hf, rightStep] at h6
    refine ⟨h0, hlt, by omega, _, e1, b, m, c', e2, Br.mk (fun g1 => ?_) (fun g1 => Br.mk (fun g2 => ?_) (fun g2 => Br.mk (fun g3 => ?_) (fun g3 => ?_)))⟩
    · have g1 := of_decide_eq_true g1
      rw [rightF, h6, if_pos (.inl g1)]; rfl
    · have g2 := of_decide_eq_true g2
      rw [rightF, h6, if_pos (.inr (.inl g2))]; rfl
    · have g3 := of_decide_eq_true g3
      rw [rightF, h6, if_pos (.inr (.inr (by omega)))]; rfl
    · have g1 := of_decide_eq_false g1
      have g2 := of_decide_eq_false g2
      have g3 := of_decide_eq_false g3
      rw [if_neg (by omega)] at h6
      refine wr_i64 (by omega) (by omega) (wr_i64 (by omega) (by omega) ⟨⟨by omega, by omega, by omega, by omega, by omega, by omega, ?_⟩, by omega⟩)
      rw [h6, show (j + 1).toNat = j.toNat + 1 by omega, hm]
  · have hge := of_decide_eq_false hge
    rw [List.drop_eq_nil_of_le (by omega)] at h6
    rw [rightF, h6, hn]; rfl
theorem ct60 (t : Int) (x : Int) (h : 0 ≤ x ∧ x ≤ 18446744073709551615) (I : Mem) :
    Ct Try.prog (fnv 60) #[.int .i64 t, .int .u64 x] I (fun v I' => ∃ y, v = .agg #[.int .i64 t, y] ∧ BySl I' y (formN x.toNat)) := by
  refine viaR (ct_via (A := {}) Try.func60 rfl Try.call60 rfl rfl) (Ct Try.prog (Value.func (Fn.func (59 : Nat)) #[] #[]) #[Value.slice none (0 : Nat) (0 : Nat), Value.int IntKind.u64 x] I fun (v : Value) (I' : Mem) => ∃ (a : Option Addr), ∃ (n : Nat), ∃ (c : Nat), v = Value.slice a n c ∧ ∃ (y : Value), Value.agg #[Value.int IntKind.i64 t, Value.slice a n c] = Value.agg #[Value.int IntKind.i64 t, y] ∧ ∃ (b : Option Addr), ∃ (m : Nat), ∃ (c : Nat), y = Value.slice b m c ∧ SlM I' b m (1 : Nat) (List.map (Value.int IntKind.u8) (formN (Int.toNat x))) ∧ m ≤ c ∧ c ≤ (9223372036854775807 : Nat)) (by kernel_rfl) ?_
  refine (ct59 x h I).mono fun v I1 _ hv => ?_
  have hv2 := hv
  obtain ⟨b, m, c, rfl, _⟩ := hv
  exact ⟨_, _, _, rfl, _, rfl, hv2⟩
open Go Go.Proofs Go.SE Go.RowKit
set_option linter.unusedVariables false
/-- A want: its tag, whether it must be there, the least and the most. -/
abbrev Wnt := Int × Bool × Int × Int
def wc (w : Wnt) : List Value := [.int .i64 w.1, .bool w.2.1, .int .i64 w.2.2.1, .int .i64 w.2.2.2]
def okW (w : Wnt) : Prop := (-9223372036854775808 ≤ w.1 ∧ w.1 ≤ 9223372036854775807) ∧ (-9223372036854775808 ≤ w.2.2.1 ∧ w.2.2.1 ≤ 9223372036854775807) ∧ (-9223372036854775808 ≤ w.2.2.2 ∧ w.2.2.2 ≤ 9223372036854775807)
theorem wc_len : ∀ (ws : List Wnt), (ws.flatMap wc).length = ws.length * 4
  | [] => rfl
  | w :: r => by rw [List.flatMap_cons, List.length_append, wc_len r]; simp [wc]; omega
theorem wc_at : ∀ {ws : List Wnt} {j : Nat} {w : Wnt}, ws[j]? = some w → (ws.flatMap wc)[j * 4 + 0]? = some (.int .i64 w.1) ∧ (ws.flatMap wc)[j * 4 + 1]? = some (.bool w.2.1) ∧ (ws.flatMap wc)[j * 4 + 2]? = some (.int .i64 w.2.2.1) ∧ (ws.flatMap wc)[j * 4 + 3]? = some (.int .i64 w.2.2.2)
  | [], j, w, h => by simp at h
  | v :: r, 0, w, h => by
    simp at h; subst h
    simp [wc]
  | v :: r, j + 1, w, h => by
    have ih := wc_at (ws := r) (j := j) (w := w) (by simpa using h)
    have e : ∀ k, (j + 1) * 4 + k = (j * 4 + k) + 4 := fun k => by omega
    rw [e, e, e, e]
    simpa [wc] using ih
def WntM (I : Mem) (a : Option Addr) (n : Nat) (ws : List Wnt) : Prop := SlM I a n 4 (ws.flatMap wc) ∧ ∀ w ∈ ws, okW w
theorem WntM.mono {I J : Mem} {a : Option Addr} {n : Nat} {ws : List Wnt} (h : WntM I a n ws) (hle : I.le J) : WntM J a n ws := ⟨h.1.mono hle, h.2⟩
theorem WntM.len {I : Mem} {a : Option Addr} {n : Nat} {ws : List Wnt} (h : WntM I a n ws) : ws.length = n := by
  have := h.1.len
  rw [wc_len] at this
  omega
theorem WntM.isSome {I : Mem} {a : Option Addr} {n : Nat} {ws : List Wnt} (h : WntM I a n ws) (hn : 0 < n) : a.isSome = true := h.1.isSome hn
theorem WntM.at_ {I : Mem} {a : Option Addr} {n : Nat} {ws : List Wnt} (h : WntM I a n ws) {i : Int} (h0 : 0 ≤ i) (h1 : i < n) :
    ∃ w, ws[i.toNat]? = some w ∧ okW w ∧ atI I a (i.toNat * 4 + 0) = some (.int .i64 w.1) ∧ atI I a (i.toNat * 4 + 1) = some (.bool w.2.1) ∧ atI I a (i.toNat * 4 + 2) = some (.int .i64 w.2.2.1) ∧ atI I a (i.toNat * 4 + 3) = some (.int .i64 w.2.2.2) := by
  have hl := h.len
  have hg : ws[i.toNat]? = some ws[i.toNat] := List.getElem?_eq_getElem (by omega)
  obtain ⟨g1, g2, g3, g4⟩ := wc_at hg
  exact ⟨_, hg, h.2 _ (List.mem_of_getElem? hg), h.1.at_ _ _ g1, h.1.at_ _ _ g2, h.1.at_ _ _ g3, h.1.at_ _ _ g4⟩
def rightWS : Int → List Wnt → Bool
  | _, [] => true
  | last, w :: r => if w.1 ≤ last ∨ 200 < w.1 ∨ w.2.2.1 < 0 ∨ w.2.2.2 < w.2.2.1 ∨ 16384 < w.2.2.2 then false else rightWS w.1 r
def rightW (ws : List Wnt) : Bool := rightWS 0 ws && decide ((ws.length : Int) ≤ 64)
def idxW (p : Wnt → Bool) (ws : List Wnt) : Int := match ws.findIdx? p with | some i => (i : Int) | none => -1
theorem idxW_some {p : Wnt → Bool} {ws : List Wnt} {j : Int} {w : Wnt} (hw : ws[j.toNat]? = some w) (hp : p w = true) (h : ∀ (i : Nat) (x : Wnt), (i : Int) < j → ws[i]? = some x → p x = false) : idxW p ws = (j.toNat : Int) := by
  have : ws.findIdx? p = some j.toNat := by
    rw [List.findIdx?_eq_some_iff_getElem]
    obtain ⟨hl, hg⟩ := List.getElem?_eq_some_iff.1 hw
    exact ⟨hl, hg ▸ hp, fun i hi => by rw [h i _ (by omega) (List.getElem?_eq_getElem (by omega))]; simp⟩
  simp only [idxW, this]
theorem idxW_none {p : Wnt → Bool} {ws : List Wnt} (h : ∀ (i : Nat) (x : Wnt), ws[i]? = some x → p x = false) : idxW p ws = -1 := by
  have : ws.findIdx? p = none := by
    rw [List.findIdx?_eq_none_iff]
    intro x hx
    obtain ⟨i, hi, rfl⟩ := List.mem_iff_getElem.1 hx
    exact h i _ (List.getElem?_eq_getElem hi)
  simp only [idxW, this]
theorem weq (a b : Wnt) : (a.1 == b.1 && (a.2.1 == b.2.1 && (a.2.2.1 == b.2.2.1 && a.2.2.2 == b.2.2.2))) = decide (a = b) := by
  obtain ⟨a1, a2, a3, a4⟩ := a
  obtain ⟨b1, b2, b3, b4⟩ := b
  rw [Bool.eq_iff_iff]
  simp
theorem fstep_form (pre rest : List Int) (f : Int × List Int) (h : f.2.length ≤ 16384) :
    fstep (pre ++ (f.1 :: (formN f.2.length ++ (f.2 ++ rest)))) pre.length = some (f.2, pre.length + 1 + (formN f.2.length).length + f.2.length) := by
  have e : pre ++ (f.1 :: (formN f.2.length ++ (f.2 ++ rest))) = (pre ++ [f.1]) ++ (formN f.2.length ++ (f.2 ++ rest)) := by simp
  have hr := readN_form (pre ++ [f.1]) (f.2 ++ rest) f.2.length (by omega)
  have hp : ((pre ++ [f.1]).length : Int) = (pre.length : Int) + 1 := by simp
  rw [← e, hp] at hr
  have hi : intN (pre ++ (f.1 :: (formN f.2.length ++ (f.2 ++ rest)))) ((pre.length : Nat) + 1) 0 16384 = ((f.2.length : Int), ((formN f.2.length).length : Int), 0) := by
    unfold intN
    rw [hr, if_neg (by simp), if_neg (by simp only; omega)]
  have hl : (pre ++ (f.1 :: (formN f.2.length ++ (f.2 ++ rest)))).length = pre.length + 1 + (formN f.2.length).length + f.2.length + rest.length := by simp; omega
  unfold fstep
  rw [hi, if_neg (by simp only [hl]; omega)]
  simp only [Int.toNat_natCast]
  have hd : (pre ++ (f.1 :: (formN f.2.length ++ (f.2 ++ rest)))).drop ((pre.length : Int) + 1 + ((formN f.2.length).length : Int)).toNat = f.2 ++ rest := by
    have e2 : pre ++ (f.1 :: (formN f.2.length ++ (f.2 ++ rest))) = (pre ++ [f.1] ++ formN f.2.length) ++ (f.2 ++ rest) := by simp
    rw [e2, List.drop_left' (by simp; omega)]
  rw [hd, List.take_left' rfl]
  congr 2
theorem yields_form (pre : List Int) (f : Int × List Int) (r : List (Int × List Int)) (h : f.2.length ≤ 16384) :
    yields (pre ++ writeF (f :: r)) pre.length = (pre.length, f) :: yields ((pre ++ writeF [f]) ++ writeF r) (pre ++ writeF [f]).length := by
  have e : writeF (f :: r) = f.1 :: (formN f.2.length ++ (f.2 ++ writeF r)) := writeF_cons f r
  have e1 : writeF [f] = f.1 :: (formN f.2.length ++ f.2) := by rw [writeF_cons]; simp [writeF]
  have e2 : (pre ++ writeF [f]) ++ writeF r = pre ++ writeF (f :: r) := by rw [e, e1]; simp
  have hn : (pre ++ writeF [f]).length = pre.length + 1 + (formN f.2.length).length + f.2.length := by rw [e1]; simp; omega
  rw [e2, hn]
  rw [yields, dif_pos (by rw [e]; simp)]
  have hfs := fstep_form pre (writeF r) f h
  rw [← e] at hfs
  rw [hfs]
  simp only
  rw [dif_pos (by omega)]
  congr 2
  rw [List.getElem?_append_right (by omega), Nat.sub_self, e]; rfl
theorem goF_write : ∀ (r : List (Int × List Int)) (pre : List Int) (last left : Int) (out : List (Int × List Int)), left ≤ 16384 → rightStep last left r = true → out.length + r.length ≤ 64 →
    goF (yields (pre ++ writeF r) pre.length) last left out = (-1, out ++ r)
  | [], pre, last, left, out, _, _, _ => by
    rw [yields, dif_neg (by simp [writeF]), goF]; simp
  | f :: r, pre, last, left, out, hl, h, hn => by
    rw [rightStep] at h
    split at h
    · cases h
    · rename_i hc
      rw [yields_form pre f r (by omega), goF, if_neg (by simp only; simp at hn; omega)]
      simp only
      rw [goF_write r (pre ++ writeF [f]) f.1 (left - f.2.length) (out ++ [f]) (by omega) h (by simp at hn ⊢; omega)]
      simp
theorem write_len {l : List (Int × List Int)} (h : rightF l = true) : (writeF l).length ≤ 16384 + 640 := by
  obtain ⟨h1, h2⟩ := rightF_iff.1 h
  have h3 := right_len (by omega) h1 l.length
  rw [List.take_length] at h3
  omega
theorem write_len2 : ∀ {l : List (Int × List Int)} {last left : Int}, left ≤ 16384 → 0 ≤ left → rightStep last left l = true → ((writeF l).length : Int) ≤ left + 6 * l.length
  | [], last, left, _, h0, _ => by simp [writeF]; omega
  | g :: r, last, left, hl, h0, h => by
    rw [rightStep] at h
    split at h
    · cases h
    · rename_i hc
      have ih := write_len2 (by omega) (by omega) h
      have h3 : (formN g.2.length).length ≤ 3 := by
        rw [formN_len, sizeN]
        have : digN g.2.length ≤ 2 := digN_le (by omega)
        split <;> omega
      rw [writeF_cons]
      simp only [List.length_cons, List.length_append]
      omega
/-- What is written is read back. -/
theorem read_write {l : List (Int × List Int)} (h : rightF l = true) : readF (writeF l) = (l, 0, 0) := by
  obtain ⟨h1, h2⟩ := rightF_iff.1 h
  have h3 := write_len2 (by omega) (by omega) h1
  have hg := goF_write l [] 0 16384 [] (by omega) h1 (by simp; omega)
  simp only [List.nil_append, List.length_nil] at hg
  rw [readF, if_neg (by omega), hg]
  rfl
theorem write_bytes {l : List (Int × List Int)} (hr : rightF l = true) (hok : ∀ f ∈ l, okFld f) : byteL (writeF l) := fun z hz => by
  obtain ⟨h1, _⟩ := rightF_iff.1 hr
  simp only [writeF, List.mem_flatMap] at hz
  obtain ⟨f, hf, hz⟩ := hz
  have hra := right_at h1 f hf
  rcases List.mem_cons.1 hz with rfl | hz
  · omega
  · rcases List.mem_append.1 hz with hz | hz
    · exact formN_bytes (by omega) z hz
    · exact (hok f hf).2 z hz
theorem fstep_some {bs : List Int} (hbs : byteL bs) {at_ : Nat} {p : List Int × Nat} (h : fstep bs at_ = some p) :
    at_ < p.2 ∧ p.2 ≤ bs.length ∧ p.1.length ≤ 16384 ∧ bs.drop (at_ + 1) = formN p.1.length ++ (p.1 ++ bs.drop p.2) := by
  unfold fstep at h
  split at h
  · cases h
  · rename_i hc
    have he : (intN bs (at_ + 1) 0 16384).2.2 = 0 := by
      rcases Int.instDecidableEq (intN bs (at_ + 1) 0 16384).2.2 0 with hne | he
      · exact absurd (.inl hne) hc
      · exact he
    generalize hr : intN bs (at_ + 1) 0 16384 = r at h hc he
    obtain ⟨sz, k, e⟩ := r
    simp only at he hc h
    subst he
    obtain ⟨g1, g2, g3, g4, g5, g6⟩ := intN_ok hbs hr
    have hfl := formN_le sz.toNat (by omega)
    have hsz : ¬((bs.length : Int) - (at_ + 1 + k) < sz) := fun hx => hc (.inr hx)
    cases h
    simp only
    have hlen : ((bs.drop ((at_ : Int) + 1 + k).toNat).take sz.toNat).length = sz.toNat := by simp; omega
    refine ⟨by omega, by omega, by omega, ?_⟩
    rw [hlen]
    have e1 : ((at_ : Int) + 1).toNat = at_ + 1 := by omega
    rw [e1] at g5
    rw [g5]
    congr 1
    have e2 : ((at_ : Int) + 1 + k + sz).toNat = ((at_ : Int) + 1 + k).toNat + sz.toNat := by omega
    rw [e2, ← List.drop_drop, List.take_append_drop]
/-- What is read is written so. -/
theorem goF_back {bs : List Int} (hbs : byteL bs) : ∀ {at_ : Nat} {last left : Int} {out L : List (Int × List Int)}, 0 ≤ last → at_ ≤ bs.length → out.length ≤ 64 → goF (yields bs at_) last left out = (-1, L) →
    ∃ r, L = out ++ r ∧ rightStep last left r = true ∧ bs.drop at_ = writeF r ∧ L.length ≤ 64 := by
  intro at_
  induction hm : bs.length - at_ using Nat.strongRecOn generalizing at_ with
  | ind m ih =>
    intro last left out L h0 hat hout h
    rw [yields] at h
    split at h
    · rename_i hlt
      split at h
      · rw [goF, if_pos (.inl h0)] at h
        injection h with h1
        omega
      · rename_i p hp
        obtain ⟨g1, g2, g3, g4⟩ := fstep_some hbs hp
        rw [goF] at h
        split at h
        · injection h with h1
          simp only at h1
          omega
        · rename_i hc
          simp only at hc h
          have hb : (bs[at_]?).getD 0 = bs[at_] := by rw [List.getElem?_eq_getElem hlt]; rfl
          rw [hb] at hc h
          obtain ⟨r, r1, r2, r3, r4⟩ := ih (bs.length - p.2) (by omega) rfl (by omega) g2 (by simp; omega) h
          refine ⟨(bs[at_], p.1) :: r, by rw [r1]; simp, ?_, ?_, r4⟩
          · rw [rightStep, if_neg (by simp only; omega)]
            exact r2
          · rw [List.drop_eq_getElem_cons hlt, g4, writeF_cons, r3]
    · rw [goF] at h
      cases h
      refine ⟨[], by simp, rfl, ?_, hout⟩
      rw [List.drop_eq_nil_of_le (by omega)]; rfl
theorem goF_sign : ∀ {ys : List (Nat × (Int × List Int))} {last left : Int} {out : List (Int × List Int)}, (goF ys last left out).1 = -1 ∨ (0 ≤ (goF ys last left out).1 ∧ (goF ys last left out).2 = [])
  | [], _, _, _ => .inl rfl
  | y :: r, last, left, out => by
    rw [goF]
    split
    · exact .inr ⟨by simp, rfl⟩
    · exact goF_sign
theorem read_cases (bs : List Int) (hbs : byteL bs) : ((readF bs).2.2 = 0 ∧ (readF bs).2.1 = 0 ∧ rightF (readF bs).1 = true ∧ writeF (readF bs).1 = bs) ∨ ((readF bs).1 = [] ∧ ((readF bs).2.2 = 3 ∧ 16768 < bs.length ∨ (readF bs).2.2 = 21)) := by
  unfold readF
  split
  · exact .inr ⟨rfl, .inl ⟨rfl, by assumption⟩⟩
  · split
    · exact .inr ⟨rfl, .inr rfl⟩
    · rename_i h1 h2
      have hs := goF_sign (ys := yields bs 0) (last := 0) (left := 16384) (out := [])
      have hw : (goF (yields bs 0) 0 16384 []).1 = -1 := by omega
      obtain ⟨r, r1, r2, r3, r4⟩ := goF_back hbs (at_ := 0) (last := 0) (left := 16384) (out := []) (L := (goF (yields bs 0) 0 16384 []).2) (by omega) (by omega) (by simp) (by rw [← hw])
      rw [List.nil_append] at r1
      rw [List.drop_zero] at r3
      refine .inl ⟨rfl, rfl, rightF_iff.2 ⟨by rw [r1]; exact r2, r4⟩, by simp only [r1]; exact r3.symm⟩
theorem write_inj {k l : List (Int × List Int)} (hk : rightF k = true) (hl : rightF l = true) (h : writeF k = writeF l) : k = l := by
  have h1 := read_write hk
  rw [h, read_write hl] at h1
  injection h1 with h1
  exact h1.symm
theorem textAt_len (ts : List (List Int)) (i : Nat) : (textAt ts i).length ≤ 100 := by
  unfold textAt
  split
  · simp
  · simp; omega
theorem madeF_right (ts : List (List Int)) : ∀ (r : List Int) (i : Nat) (tag last left : Int), last ≤ tag → tag + 9 * r.length ≤ 200 → 100 * (r.length : Int) ≤ left → rightStep last left (madeF ts i tag r) = true
  | [], _, _, _, _, _, _, _ => rfl
  | g :: r, i, tag, last, left, h1, h2, h3 => by
    have := textAt_len ts i
    simp only [List.length_cons] at h2 h3
    rw [madeF, rightStep, if_neg (by simp only; omega)]
    exact madeF_right ts r (i + 1) (tag + (1 + g % 9)) (tag + (1 + g % 9)) (left - (textAt ts i).length) (by omega) (by omega) (by omega)
theorem madeF_len (ts : List (List Int)) : ∀ (r : List Int) (i : Nat) (tag : Int), (madeF ts i tag r).length = r.length
  | [], _, _ => rfl
  | g :: r, i, tag => by rw [madeF, List.length_cons, List.length_cons, madeF_len ts r]
theorem madeV_len (gs : List Int) (ts : List (List Int)) : (madeV gs ts).length ≤ 20 := by rw [madeV, madeF_len]; simp; omega
theorem madeV_right (gs : List Int) (ts : List (List Int)) : rightF (madeV gs ts) = true := by
  have h20 : (gs.take 20).length ≤ 20 := by simp; omega
  have := madeV_len gs ts
  exact rightF_iff.2 ⟨madeF_right ts _ 0 0 0 16384 (by omega) (by omega) (by omega), by omega⟩
theorem right_short {l : List (Int × List Int)} (h : rightF l = true) : ∀ f ∈ l, f.2.length ≤ 1000000 := fun f hf => by
  have := right_at (rightF_iff.1 h).1 f hf
  omega

def foldZ (x : Int) : Int := if 0 ≤ x then 2 * x else -2 * x - 1
def unfoldZ (y : Int) : Int := if y % 2 = 0 then y / 2 else -(y / 2) - 1
theorem w64 (x : Int) : IntKind.u64.wrap x = x % 18446744073709551616 := rfl
theorem nat64 (x : Int) : (BitVec.ofInt 64 x).toNat = (x % 18446744073709551616).toNat := by
  rw [BitVec.toNat_ofInt]; rfl
theorem xor_u0 {c : Int} (h : 0 ≤ c ∧ c < 18446744073709551616) : bitsV .xor .u64 c 0 = c := by
  show IntKind.u64.wrap (((BitVec.ofInt 64 c ^^^ BitVec.ofInt 64 0).toNat : Nat) : Int) = c
  have h0 : BitVec.ofInt 64 0 = 0#64 := rfl
  rw [h0, BitVec.xor_zero, nat64, w64]
  omega
theorem ones : BitVec.ofInt 64 18446744073709551615 = BitVec.allOnes 64 := by decide
theorem ones' : BitVec.ofInt 64 (-1) = BitVec.allOnes 64 := by decide
theorem xor_u1 {c : Int} (h : 0 ≤ c ∧ c < 18446744073709551616) : bitsV .xor .u64 c 18446744073709551615 = 18446744073709551615 - c := by
  show IntKind.u64.wrap (((BitVec.ofInt 64 c ^^^ BitVec.ofInt 64 18446744073709551615).toNat : Nat) : Int) = _
  rw [ones, BitVec.xor_allOnes, BitVec.toNat_not, nat64, w64]
  omega
theorem i64_big {x : Int} (h : 9223372036854775808 ≤ x ∧ x < 18446744073709551616) : IntKind.i64.wrap x = x - 18446744073709551616 := by
  rw [IntKind.wrap_i64]
  skip
  omega
theorem xor_i0 {c : Int} (h : 0 ≤ c ∧ c ≤ 9223372036854775807) : bitsV .xor .i64 c 0 = c := by
  show IntKind.i64.wrap (((BitVec.ofInt 64 c ^^^ BitVec.ofInt 64 0).toNat : Nat) : Int) = c
  have h0 : BitVec.ofInt 64 0 = 0#64 := rfl
  rw [h0, BitVec.xor_zero, nat64, IntWalk.i64_in _ ⟨by omega, by omega⟩]
  omega
theorem xor_i1 {c : Int} (h : 0 ≤ c ∧ c ≤ 9223372036854775807) : bitsV .xor .i64 c (-1) = -c - 1 := by
  show IntKind.i64.wrap (((BitVec.ofInt 64 c ^^^ BitVec.ofInt 64 (-1)).toNat : Nat) : Int) = _
  rw [ones', BitVec.xor_allOnes, BitVec.toNat_not, nat64, i64_big (by omega)]
  omega
theorem and_1 {y : Int} (h : 0 ≤ y ∧ y < 18446744073709551616) : bitsV .and .u64 y 1 = y % 2 := by
  show IntKind.u64.wrap (((BitVec.ofInt 64 y &&& BitVec.ofInt 64 1).toNat : Nat) : Int) = _
  rw [BitVec.toNat_and, nat64, nat64, w64]
  have : (1 % 18446744073709551616 : Int).toNat = 1 := by decide
  rw [this, Nat.and_one_is_mod]
  omega
theorem ct67 (x : Int) (hx : -9223372036854775808 ≤ x ∧ x ≤ 9223372036854775807) (I : Mem) : Ct Try.prog (fnv 67) #[.int .i64 x] I (fun v _ => v = .int .u64 (foldZ x)) := by
  refine viaR (ct_via (A := { }) Try.func67 rfl Try.call67 rfl rfl) (Wr IntKind.u64 x fun (c : Int) => (0 : Int) ≤ (1 : Int) ∧ Wr IntKind.u64 (c * (2 : Int)) fun (c : Int) => (0 : Int) ≤ (63 : Int) ∧ Wr IntKind.u64 (Int.fdiv x (9223372036854775808 : Int)) fun (c_1 : Int) => Value.int IntKind.u64 (bitsV BinOp.xor IntKind.u64 c c_1) = Value.int IntKind.u64 (foldZ x)) (by kernel_rfl) ?_
  have h1 : (x.fdiv 9223372036854775808 : Int) = if 0 ≤ x then 0 else -1 := by
    rw [Int.fdiv_eq_ediv_of_nonneg _ (by decide)]
    split <;> omega
  refine ⟨_, rfl, by omega, _, rfl, by omega, _, rfl, ?_⟩
  rw [w64, w64, w64, h1, foldZ]
  congr 1
  split
  · rw [show (0 : Int) % 18446744073709551616 = 0 by decide, xor_u0 (by omega)]; omega
  · rw [show (-1 : Int) % 18446744073709551616 = 18446744073709551615 by decide, xor_u1 (by omega)]; omega
theorem ct44 (y : Int) (hy : 0 ≤ y ∧ y ≤ 18446744073709551615) (I : Mem) : Ct Try.prog (fnv 44) #[.int .u64 y] I (fun v _ => v = .int .i64 (unfoldZ y)) := by
  refine viaR (ct_via (A := { }) Try.func44 rfl Try.call44 rfl rfl) ((0 : Int) ≤ (1 : Int) ∧ Wr IntKind.i64 (Int.fdiv y (2 : Int)) fun (c : Int) => Wr IntKind.i64 (bitsV BinOp.and IntKind.u64 y (1 : Int)) fun (c_1 : Int) => Wr IntKind.i64 ((0 : Int) - c_1) fun (c_2 : Int) => Value.int IntKind.i64 (bitsV BinOp.xor IntKind.i64 c c_2) = Value.int IntKind.i64 (unfoldZ y)) (by kernel_rfl) ?_
  rw [and_1 (by omega), Int.fdiv_eq_ediv_of_nonneg _ (by decide)]
  refine ⟨by omega, wr_i64 (by omega) (by omega) (wr_i64 (by omega) (by omega) (wr_i64 (by omega) (by omega) ?_))⟩
  rw [unfoldZ]
  congr 1
  rcases (by omega : y % 2 = 0 ∨ y % 2 = 1) with h | h
  · rw [h, if_pos rfl, Int.sub_zero, xor_i0 (by omega)]
  · rw [h, if_neg (by decide), show (0 : Int) - 1 = -1 by decide, xor_i1 (by omega)]
