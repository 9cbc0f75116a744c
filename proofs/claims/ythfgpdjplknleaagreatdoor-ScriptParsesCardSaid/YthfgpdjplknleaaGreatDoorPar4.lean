/- Part of a proof by the rules of the symbolic walk (see the law's own text): contracts of functions of the program. -/
import Derived.Test.YthfgpdjplknleaaGreatDoorProg
import Derived.Test.YthfgpdjplknleaaGreatDoorPar3
set_option linter.unusedVariables false
set_option linter.unusedSimpArgs false
open Go Go.Proofs Go.SE Go.RowKit
set_option linter.unusedVariables false
set_option maxRecDepth 100000
def digN (x : Nat) : Nat := if h : x = 0 then 0 else 1 + digN (x / 256)
termination_by x
decreasing_by omega
def sizeN (x : Nat) : Nat := if x <= 246 then 1 else 1 + digN x
theorem digN_le : ∀ {k x : Nat}, x < 256 ^ k -> digN x <= k
 | 0, x, h => by
  have : x = 0 := by simpa using h
  subst this
  unfold digN; simp
 | k + 1, x, h => by
  unfold digN;split
  · omega
  · have : x / 256 < 256 ^ k := by rw [Nat.div_lt_iff_lt_mul (by omega)]; rw [Nat.pow_succ] at h; exact h
    have := digN_le this;omega
theorem digN_pos {x : Nat} (h : 0 < x) : digN x = 1 + digN (x / 256) := by
 rw [digN, dif_neg (by omega)]
theorem digN_zero : digN 0 = 0 := by rw [digN, dif_pos rfl]
theorem ct166 (x : Int) (h : 0 <= x /\ x <= 18446744073709551615) (I : Mem) : Ct Tryz.prog (fnv 166) #[.int .u64 x] I (fun v _ => v = .int .i64 (sizeN x.toNat)) := by
 refine viaR (ct_via (A := { loops := [(4, ⟨[(0, .sh (.int .u64)), (3, .sh (.int .i64))], [], [], fun vals _ _ _ => match vals with
  | [.int .u64 y, .int .i64 n] => 0 <= y /\ y <= 18446744073709551615 /\ n + digN y.toNat = 1 + digN x.toNat /\ 1 <= n | _ => False, fun vals _ => match vals with | [.int .u64 y, _] => y.toNat | _ => 0⟩)] }) Tryz.func166 rfl Tryz.call166 rfl rfl) (Br (decide (x <= 246)) (Value.int .i64 1 = .int .i64 (sizeN x.toNat : Int)) ((0 <= x /\ x <= 18446744073709551615 /\ Rf (1 + (digN x.toNat : Int)) /\ (1 : Int) <= 1) /\ ∀ (a : Mem), Mem -> I.le a -> ∀ (n b : Int), 0 <= n /\ n <= 18446744073709551615 /\ b + (digN n.toNat : Int) = 1 + (digN x.toNat : Int) /\ 1 <= b -> Br (decide (0 < n)) (Wr .i64 (b + 1) (fun c => (0 : Int) <= 8 /\ (0 <= n.fdiv 256 /\ n.fdiv 256 <= 18446744073709551615 /\ c + (digN (n.fdiv 256).toNat : Int) = 1 + (digN x.toNat : Int) /\ 1 <= c) /\ (n.fdiv 256).toNat < n.toNat)) (Value.int .i64 b = .int .i64 (sizeN x.toNat : Int)))) (by kernel_rfl) ?_
 have hd8 : digN x.toNat <= 8 := digN_le (k := 8) (by omega)
 refine Br.mk (fun h1 => ?_) (fun h1 => ⟨⟨h.1, h.2, rfl, by omega⟩, fun I1 _ _ y n ⟨h2, h3, h4, h5⟩ => Br.mk (fun hp => ?_) (fun hp => ?_)⟩)
 · have h1 := of_decide_eq_true h1
   rw [sizeN, if_pos (by omega)]; rfl
 · have hp := of_decide_eq_true hp
   have hf : y.fdiv 256 = y / 256 := Int.fdiv_eq_ediv_of_nonneg _ (by decide)
   have hd := digN_pos (x := y.toNat) (by omega)
   have ht : (y / 256).toNat = y.toNat / 256 := by omega
   rw [hf]
   exact wr_i64 (by omega) (by omega) ⟨by omega, ⟨by omega, by omega, by rw [ht]; omega, by omega⟩, by omega⟩
 · have hp := of_decide_eq_false hp
   have h1 := of_decide_eq_false h1
   obtain rfl : y = 0 := by omega
   rw [show (0 : Int).toNat = 0 from rfl, digN_zero] at h4
   rw [sizeN, if_neg (by omega)]
   congr 1; omega
def be : Nat -> Nat -> List Int
 | 0, _ => []
 | k + 1, x => be k (x / 256) ++ [((x % 256 : Nat) : Int)]
def formN (x : Nat) : List Int := if x <= 246 then [(x : Int)] else ((246 + digN x : Nat) : Int) :: be (digN x) x
theorem be_len : ∀ (k x : Nat), (be k x).length = k
 | 0, _ => rfl
 | k + 1, x => by simp [be, be_len k]
theorem be_top : ∀ (k x : Nat), be (k + 1) x = ((x / 256 ^ k % 256 : Nat) : Int) :: be k x
 | 0, x => by simp [be]
 | k + 1, x => by
  rw [be, be_top k (x / 256), be, List.cons_append]
  congr 3
  rw [Nat.div_div_eq_div_mul, Nat.pow_succ, Nat.mul_comm]
def zs8 (n : Nat) : List Value := List.replicate n (.int .u8 0)
def stA (d K x : Nat) : List Value := zs8 (d - K) ++ ints .u8 (be K x) ++ zs8 (8 - d)
theorem stA_step {d K x : Nat} (hK : K < d) (hd : d <= 8) : splice (stA d K x) (d - 1 - K) [.int .u8 ((x / 256 ^ K % 256 : Nat) : Int)] = stA d (K + 1) x := by
 have h1 : zs8 (d - K) = zs8 (d - 1 - K) ++ [.int .u8 0] := by
  rw [zs8, show d - K = (d - 1 - K) + 1 by omega, List.replicate_succ']; rfl
 have hl : (zs8 (d - 1 - K)).length = d - 1 - K := by simp [zs8]
 unfold stA splice
 rw [h1, be_top, show d - (K + 1) = d - 1 - K by omega]
 simp only [List.append_assoc]
 rw [List.set_append_right _ _ (by rw [hl]; omega), hl, Nat.sub_self]
 simp [ints]
theorem cs131 (xs : List Value) (n : Nat) (x : Int) (h : 0 <= x /\ x <= 18446744073709551615) (hn : n = xs.length) (hl : xs.length <= 100000000) (I : Mem) :
 CtS Tryz.prog (.v (fnv 131)) [.rsl 0 n, .v (.int .u64 x)] [⟨.row xs 1 5, none⟩] I (fun v H' _ => v = .rsl 0 (n + (formN x.toNat).length) /\ H' = [⟨.row (xs ++ ints .u8 (formN x.toNat)) 1 5, none⟩]) := by
 refine viaR (ctS_via (A := { loops := [(6, ⟨[(0, .keep), (1, .sh (.int .u64)), (5, .keep), (6, .keep), (7, .sh (.int .i64))], [(0, .keep), (1, .vec)], [], fun vals xss _ _ => match vals, xss with
  | [.int .u64 v1, .int .i64 v7], [ys] => ∃ K : Nat, K <= digN x.toNat /\ v7 = (digN x.toNat : Int) - 1 - K /\ v1 = ((x.toNat / 256 ^ K : Nat) : Int) /\ ys = stA (digN x.toNat) K x.toNat | _, _ => False, fun vals _ => match vals with | [_, .int .i64 v7] => (v7 + 1).toNat | _ => 0⟩)] }) Tryz.func131 rfl Tryz.call131 [0] rfl) (Ct Tryz.prog (fnv 166) #[.int .u64 x] I fun v a => ∃ b, v = .int .i64 b /\ Br (b == 1) (Wr .u8 x (fun c => xs.length = n * 1 /\ n + 1 <= 9223372036854775807 /\ (n + 1) * 1 <= 140737488355328 /\ SV.rsl 0 (n + 1) = .rsl 0 (n + (formN x.toNat).length) /\ [Ent.mk (.row (xs ++ [.int .u8 c]) 1 5) none] = [⟨.row (xs ++ List.map (Value.int .u8) (formN x.toNat)) 1 5, none⟩])) (Wr .i64 (b - 2) (fun c => (Rf (Ent.mk (.row xs 1 5) none) /\ Rf (none : Option Nat) /\ Rf (SV.rsl 0 n) /\ Rf (SV.v (.int .i64 b)) /\ Rf (SV.ptr 1 0) /\ ∃ K, K <= digN x.toNat /\ c = (digN x.toNat : Int) - 1 - (K : Int) /\ x = ((x.toNat / 256 ^ K : Nat) : Int) /\ [Value.int .u8 0, .int .u8 0, .int .u8 0, .int .u8 0, .int .u8 0, .int .u8 0, .int .u8 0, .int .u8 0] = stA (digN x.toNat) K x.toNat) /\ ∀ (d : Mem), Mem -> a.le d -> ∀ (e : List Value) (f g : Int), (∃ K, K <= digN x.toNat /\ g = (digN x.toNat : Int) - 1 - (K : Int) /\ f = ((x.toNat / 256 ^ K : Nat) : Int) /\ e = stA (digN x.toNat) K x.toNat) -> Br (decide (0 <= g)) (Wr .u8 f (fun i => 0 <= g /\ g < 8 /\ 0 + g.toNat * 1 + 1 <= e.length /\ (0 : Int) <= 8 /\ Wr .i64 (g - 1) fun j => Rf (Ent.mk (.row xs 1 5) none) /\ Rf (none : Option Nat) /\ Rf (SV.rsl 0 n) /\ Rf (SV.v (.int .i64 b)) /\ Rf (SV.ptr 1 0) /\ (∃ K, K <= digN x.toNat /\ j = (digN x.toNat : Int) - 1 - (K : Int) /\ f.fdiv 256 = ((x.toNat / 256 ^ K : Nat) : Int) /\ splice e (0 + g.toNat * 1) [.int .u8 i] = stA (digN x.toNat) K x.toNat) /\ Int.toNat (j + 1) < Int.toNat (g + 1))) (Wr .i64 (246 + b) (fun i => Wr .i64 (i - 1) fun j => Wr .u8 j fun k => Wr .i64 (b - 1) fun l => 0 <= l /\ l <= 8 /\ xs.length = n * 1 /\ n + 1 <= 9223372036854775807 /\ (n + 1) * 1 <= 140737488355328 /\ 0 + l.toNat * 1 <= e.length /\ (∀ (m : Value), Membership.mem (List.take (l.toNat * 1) e) m -> m.oneCell' = true) /\ List.length (xs ++ [.int .u8 k]) = (n + 1) * 1 /\ n + 1 + l.toNat <= 9223372036854775807 /\ (n + 1 + l.toNat) * 1 <= 140737488355328 /\ SV.rsl 0 (n + 1 + l.toNat) = .rsl 0 (n + (formN x.toNat).length) /\ [Ent.mk (.row (xs ++ [.int .u8 k] ++ List.take (l.toNat * 1) e) 1 5) none] = [⟨.row (xs ++ List.map (Value.int .u8) (formN x.toNat)) 1 5, none⟩]))))) (by kernel_rfl) ?_
 simp only [eq_self, true_and]
 have hX : x.toNat < 256 ^ 8 := by omega
 have hd8 : digN x.toNat <= 8 := digN_le hX;refine (ct166 x h I).mono fun v I1 _ hv => ⟨_, hv, Br.mk (fun h1 => ?_) (fun h1 => ?_)⟩
 · have h1 : (sizeN x.toNat : Int) = 1 := by simpa using h1
   have hle : x.toNat <= 246 := by
    rcases Nat.lt_or_ge 246 x.toNat with hgt | hle
    · rw [sizeN, if_neg (by omega), digN_pos (by omega)] at h1
      omega
    · exact hle
   have hf : formN x.toNat = [x] := by rw [formN, if_pos hle]; congr 1; omega
   rw [hf]
   exact ⟨x, IntWalk.u8_in x ⟨h.1, by omega⟩, by omega, by omega, by omega, rfl, rfl⟩
 · have hgt : 246 < x.toNat := by
    rcases Nat.lt_or_ge 246 x.toNat with hgt | hle
    · exact hgt
    · rw [sizeN, if_pos hle] at h1
      simp at h1
   have hs : sizeN x.toNat = 1 + digN x.toNat := by rw [sizeN, if_neg (by omega)]
   have hd1 : 1 <= digN x.toNat := by rw [digN_pos (by omega)]; omega
   have hf : formN x.toNat = ((246 + digN x.toNat : Nat) : Int) :: be (digN x.toNat) x.toNat := by rw [formN, if_neg (by omega)]
   rw [hs, hf];generalize hdd : digN x.toNat = d at hd8 hd1 ⊢
   refine wr_i64 (by omega) (by omega) ⟨⟨0, by omega, by omega, by simp; omega, ?_⟩, fun I2 G2 _ ys v1 v7 ⟨K, k1, k2, k3, k4⟩ => Br.mk (fun hge => ?_) (fun hlt => ?_)⟩
   · show List.replicate 8 (Value.int .u8 0) = _
     rw [stA, be];simp only [ints, List.map_nil, List.append_nil, zs8, List.replicate_append_replicate]
     congr 1; omega
   · have hge := of_decide_eq_true hge
     have hv7 : v7.toNat = d - 1 - K := by omega
     have hq : x.toNat / 256 ^ K / 256 = x.toNat / 256 ^ (K + 1) := by rw [Nat.div_div_eq_div_mul, Nat.pow_succ]
     have hfd : v1.fdiv 256 = v1 / 256 := Int.fdiv_eq_ediv_of_nonneg _ (by decide)
     refine ⟨((x.toNat / 256 ^ K % 256 : Nat) : Int), by rw [IntKind.wrap_u8, k3]; omega, hge, by omega, ?_, by omega, wr_i64 (by omega) (by omega) ⟨⟨K + 1, by omega, by omega, by rw [hfd, k3, <- hq]; omega, ?_⟩, by omega⟩⟩
     · rw [k4, stA]; simp [zs8, ints_len, be_len]; omega
     · rw [show 0 + v7.toNat * 1 = d - 1 - K by omega, k4]
       exact stA_step (by omega) hd8
   · have hlt := of_decide_eq_false hlt
     obtain rfl : K = d := by omega
     have hys : ys = ints .u8 (be K x.toNat) ++ zs8 (8 - K) := by rw [k4, stA]; simp [zs8]
     have ht : ys.take K = ints .u8 (be K x.toNat) := by rw [hys, List.take_left' (by rw [ints_len, be_len])]
     have hylen : ys.length = 8 := by rw [hys]; simp [zs8, ints_len, be_len]; omega
     refine wr_i64 (by omega) (by omega) (wr_i64 (by omega) (by omega) ⟨((246 + K : Nat) : Int), by rw [IntWalk.u8_in _ ⟨by omega, by omega⟩]; omega, wr_i64 (by omega) (by omega) ?_⟩)
     rw [show ((1 + K : Nat) : Int) - 1 = (K : Int) by omega, Int.toNat_natCast, show K * 1 = K from Nat.mul_one K, ht]
     refine ⟨by omega, by omega, by omega, by omega, by omega, by omega, fun v hv => ?_, by simp; omega, by omega, by omega, ?_, ?_⟩
     · simp only [ints, List.mem_map] at hv
       obtain ⟨z, _, rfl⟩ := hv;rfl
     · congr 1; simp [be_len]; omega
     · simp [ints]
def valN (ds : List Int) : Int := ds.foldl (fun x d => x * 256 + d) 0
theorem val_bd : ∀ (ds : List Int) (x : Int) (k : Nat), (∀ d ∈ ds, 0 <= d /\ d <= 255) -> 0 <= x /\ x < 256 ^ k -> 0 <= ds.foldl (fun x d => x * 256 + d) x /\ ds.foldl (fun x d => x * 256 + d) x < 256 ^ (k + ds.length)
 | [], x, k, _, hx => hx
 | d :: r, x, k, h, hx => by
  have hd := h d (by simp)
  have := val_bd r (x * 256 + d) (k + 1) (fun y hy => h y (by simp [hy])) (by rw [Int.pow_succ]; omega)
  rw [List.foldl_cons, List.length_cons, show k + (r.length + 1) = k + 1 + r.length by omega]
  exact this
theorem valN_bd (ds : List Int) (h : ∀ d ∈ ds, 0 <= d /\ d <= 255) : 0 <= valN ds /\ valN ds < 256 ^ ds.length := by
 have := val_bd ds 0 0 h (by simp)
 simpa [valN] using this
theorem valN_snoc (ds : List Int) (d : Int) : valN (ds ++ [d]) = valN ds * 256 + d := by simp [valN]
theorem take_succ' {α : Type} {l : List α} {j : Nat} {x : α} (h : l[j]? = some x) : l.take (j + 1) = l.take j ++ [x] := by
 rw [List.take_add_one, h]; rfl
theorem pow7 : ∀ l : Nat, l < 8 -> (256 : Int) ^ l <= 72057594037927936 := by decide
theorem or_low {y d : Int} (hy : 0 <= y) (hy2 : y < 72057594037927936) (hd : 0 <= d /\ d <= 255) : bitsV .or .u64 (y * 256) d = y * 256 + d := by
 have h1 : (BitVec.ofInt 64 (y * 256)).toNat = 2 ^ 8 * y.toNat := by rw [BitVec.toNat_ofInt]; omega
 have h2 : (BitVec.ofInt 64 d).toNat = d.toNat := by rw [BitVec.toNat_ofInt]; omega
 show IntKind.u64.wrap ((BitVec.ofInt 64 (y * 256) ||| BitVec.ofInt 64 d).toNat : Int) = _
 rw [BitVec.toNat_or, h1, h2, <- Nat.two_pow_add_eq_or_of_lt (by omega), IntWalk.u64_in _ ⟨by omega, by omega⟩]
 omega
def digs (bs : List Int) (at_ : Int) (b : Int) : List Int := (bs.drop (at_.toNat + 1)).take (b - 246).toNat
def readN (bs : List Int) (at_ : Int) : Int × Int × Int :=
 if at_ < 0 \/ (bs.length : Int) < at_ then (0, 0, 2)
 else match bs[at_.toNat]? with
  | none => (0, 0, 10)
  | some b => if b <= 246 then (b, 1, 0) else if b = 255 then (0, 0, 11) else
   if (bs.length : Int) - at_ - 1 < b - 246 then (0, 0, 10) else
   if (digs bs at_ b)[0]? = some 0 then (0, 0, 11) else
   if valN (digs bs at_ b) <= 246 then (0, 0, 11) else (valN (digs bs at_ b), b - 246 + 1, 0)
def T3 (p : Int × Int × Int) : Value := .tuple #[.int .u64 p.1, .int .i64 p.2.1, .int .i64 p.2.2]
theorem ct143 (bs : List Int) (hbs : ∀ b ∈ bs, 0 <= b /\ b <= 255) (a : Option Addr) (n c : Nat) (at_ : Int) (hat : -1000000 <= at_ /\ at_ <= 1000000000) (I : Mem) (h : SlM I a n 1 (ints .u8 bs)) (hl : n <= 1000000000) :
 Ct Tryz.prog (fnv 143) #[.slice a n c, .int .i64 at_] I (fun v _ => v = T3 (readN bs at_)) := by
 refine viaR (ct_via (A := { loops := [(15, ⟨[(0, .keep), (1, .keep), (7, .keep), (8, .sh (.int .u64)), (9, .sh (.int .i64)), (56, .keep), (57, .sh (.int .i64))], [], [], fun vals _ _ _ => match vals with | [.int .u64 v8, .int .i64 v9, .int .i64 i] => 0 <= i /\ i <= (bs[at_.toNat]?).getD 0 - 246 /\ v9 = 0 /\ v8 = valN ((digs bs at_ ((bs[at_.toNat]?).getD 0)).take i.toNat) /\ (0 < i -> (digs bs at_ ((bs[at_.toNat]?).getD 0))[0]? ≠ some 0) | _ => False, fun vals _ => match vals with | [_, _, .int .i64 i] => (9 - i).toNat | _ => 0⟩)] }) Tryz.func143 rfl Tryz.call143 rfl rfl) (Br (decide (at_ < 0)) (Value.tuple #[.int .u64 0, .int .i64 0, .int .i64 2] = .tuple #[.int .u64 (readN bs at_).1, .int .i64 (readN bs at_).2.1, .int .i64 (readN bs at_).2.2]) (Br (decide ((n : Int) < at_)) (Value.tuple #[.int .u64 0, .int .i64 0, .int .i64 2] = .tuple #[.int .u64 (readN bs at_).1, .int .i64 (readN bs at_).2.1, .int .i64 (readN bs at_).2.2]) (Br (at_ == (n : Int)) (Value.tuple #[.int .u64 0, .int .i64 0, .int .i64 10] = .tuple #[.int .u64 (readN bs at_).1, .int .i64 (readN bs at_).2.1, .int .i64 (readN bs at_).2.2]) (0 <= at_ /\ at_ < (n : Int) /\ a.isSome = true /\ ∃ b, atI I a (at_.toNat * 1 + 0) = some (.int .u8 b) /\ Br (decide (b <= 246)) (0 <= at_ /\ at_ < (n : Int) /\ a.isSome = true /\ ∃ d, atI I a (at_.toNat * 1 + 0) = some (.int .u8 d) /\ Wr .u64 d fun e => Value.tuple #[.int .u64 e, .int .i64 1, .int .i64 0] = .tuple #[.int .u64 (readN bs at_).1, .int .i64 (readN bs at_).2.1, .int .i64 (readN bs at_).2.2]) (0 <= at_ /\ at_ < (n : Int) /\ a.isSome = true /\ ∃ d, atI I a (at_.toNat * 1 + 0) = some (.int .u8 d) /\ Br (d == 255) (Value.tuple #[.int .u64 0, .int .i64 0, .int .i64 11] = .tuple #[.int .u64 (readN bs at_).1, .int .i64 (readN bs at_).2.1, .int .i64 (readN bs at_).2.2]) (0 <= at_ /\ at_ < (n : Int) /\ a.isSome = true /\ ∃ e, atI I a (at_.toNat * 1 + 0) = some (.int .u8 e) /\ Wr .i64 e fun f => Wr .i64 (f - 246) fun g => Wr .i64 ((n : Int) - at_) fun i => Wr .i64 (i - 1) fun j => Br (decide (j < g)) (Value.tuple #[.int .u64 0, .int .i64 0, .int .i64 10] = .tuple #[.int .u64 (readN bs at_).1, .int .i64 (readN bs at_).2.1, .int .i64 (readN bs at_).2.2]) ((Rf (SV.v (.slice a n c)) /\ Rf (SV.v (.int .i64 at_)) /\ Rf (SV.v (.int .i64 g)) /\ Rf (SV.v (.int .i64 g)) /\ (0 : Int) <= 0 /\ 0 <= bs[at_.toNat]?.getD (0 : Int) - 246 /\ (0 : Int) = 0 /\ (0 : Int) = 0 /\ ((0 : Int) < 0 -> (digs bs at_ (bs[at_.toNat]?.getD (0 : Int)))[0]? ≠ some 0)) /\ ∀ (k : Mem), Mem -> I.le k -> ∀ (l m o : Int), 0 <= o /\ o <= bs[at_.toNat]?.getD (0 : Int) - 246 /\ m = 0 /\ l = valN (List.take o.toNat (digs bs at_ (bs[at_.toNat]?.getD (0 : Int)))) /\ (0 < o -> (digs bs at_ (bs[at_.toNat]?.getD (0 : Int)))[0]? ≠ some 0) -> Br (decide (o < g)) (Wr .i64 (at_ + 1) (fun p => Wr .i64 (p + o) fun q => 0 <= q /\ q < (n : Int) /\ a.isSome = true /\ ∃ r, atI k a (q.toNat * 1 + 0) = some (.int .u8 r) /\ Br (o == 0) (Br (r == 0) (Value.tuple #[.int .u64 0, .int .i64 0, .int .i64 11] = .tuple #[.int .u64 (readN bs at_).1, .int .i64 (readN bs at_).2.1, .int .i64 (readN bs at_).2.2]) ((0 : Int) <= 8 /\ Wr .u64 (l * 256) fun s => Wr .u64 r fun t => Wr .i64 (o + 1) fun u => Rf (SV.v (.slice a n c)) /\ Rf (SV.v (.int .i64 at_)) /\ Rf (SV.v (.int .i64 g)) /\ Rf (SV.v (.int .i64 g)) /\ (0 <= u /\ u <= bs[at_.toNat]?.getD (0 : Int) - 246 /\ m = 0 /\ bitsV .or .u64 s t = valN (List.take u.toNat (digs bs at_ (bs[at_.toNat]?.getD (0 : Int)))) /\ (0 < u -> (digs bs at_ (bs[at_.toNat]?.getD (0 : Int)))[0]? ≠ some 0)) /\ Int.toNat (9 - u) < Int.toNat (9 - o))) ((0 : Int) <= 8 /\ Wr .u64 (l * 256) fun s => Wr .u64 r fun t => Wr .i64 (o + 1) fun u => Rf (SV.v (.slice a n c)) /\ Rf (SV.v (.int .i64 at_)) /\ Rf (SV.v (.int .i64 g)) /\ Rf (SV.v (.int .i64 g)) /\ (0 <= u /\ u <= bs[at_.toNat]?.getD (0 : Int) - 246 /\ m = 0 /\ bitsV .or .u64 s t = valN (List.take u.toNat (digs bs at_ (bs[at_.toNat]?.getD (0 : Int)))) /\ (0 < u -> (digs bs at_ (bs[at_.toNat]?.getD (0 : Int)))[0]? ≠ some 0)) /\ Int.toNat (9 - u) < Int.toNat (9 - o)))) (Br (m != 0) (Value.tuple #[.int .u64 0, .int .i64 0, .int .i64 11] = .tuple #[.int .u64 (readN bs at_).1, .int .i64 (readN bs at_).2.1, .int .i64 (readN bs at_).2.2]) (Br (decide (l <= 246)) (Value.tuple #[.int .u64 0, .int .i64 0, .int .i64 11] = .tuple #[.int .u64 (readN bs at_).1, .int .i64 (readN bs at_).2.1, .int .i64 (readN bs at_).2.2]) (Wr .i64 (g + 1) (fun p => Value.tuple #[.int .u64 l, .int .i64 p, .int .i64 0] = .tuple #[.int .u64 (readN bs at_).1, .int .i64 (readN bs at_).2.1, .int .i64 (readN bs at_).2.2]))))))))))) (by kernel_rfl) ?_
 simp only [eq_self, true_and];have hn := h.numLen;refine Br.mk (fun h0 => ?_) (fun h0 => Br.mk (fun h1 => ?_) (fun h1 => Br.mk (fun h2 => ?_) (fun h2 => ?_)))
 · have h0 := of_decide_eq_true h0
   rw [readN, if_pos (.inl h0)]
 · have h1 := of_decide_eq_true h1
   rw [readN, if_pos (.inr (by omega))]
 · have h2 : at_ = n := by simpa using h2
   rw [readN, if_neg (by omega), List.getElem?_eq_none (by omega)]
 have h0 := of_decide_eq_false h0;have h1 := of_decide_eq_false h1
 have h2 : at_ ≠ n := by simpa using h2
 obtain ⟨b, hb, hcell⟩ := h.intAt (i := at_) (by omega) (by omega)
 have hbr := hbs b (List.mem_of_getElem? hb)
 have hrd : readN bs at_ = if b <= 246 then (b, 1, 0) else if b = 255 then (0, 0, 11) else
  if (bs.length : Int) - at_ - 1 < b - 246 then (0, 0, 10) else
  if (digs bs at_ b)[0]? = some 0 then (0, 0, 11) else
  if valN (digs bs at_ b) <= 246 then (0, 0, 11) else (valN (digs bs at_ b), b - 246 + 1, 0) := by
  rw [readN, if_neg (by omega), hb]
 rw [hrd]
 have hsome := h.isSome (by omega)
 refine ⟨by omega, by omega, hsome, b, hcell, Br.mk (fun h3 => ?_) (fun h3 => ?_)⟩
 · have h3 := of_decide_eq_true h3
   refine ⟨by omega, by omega, hsome, b, hcell, b, IntWalk.u64_in b ⟨hbr.1, by omega⟩, ?_⟩
   rw [if_pos h3]
 have h3 := of_decide_eq_false h3;rw [if_neg h3]
 refine ⟨by omega, by omega, hsome, b, hcell, Br.mk (fun h4 => ?_) (fun h4 => ?_)⟩
 · have h4 : b = 255 := by simpa using h4
   rw [if_pos h4]
 have h4 : b ≠ 255 := by simpa using h4
 rw [if_neg h4]
 refine ⟨by omega, by omega, hsome, b, hcell, wr_i64 (by omega) (by omega) (wr_i64 (by omega) (by omega) (wr_i64 (by omega) (by omega) (wr_i64 (by omega) (by omega) (Br.mk (fun h5 => ?_) (fun h5 => ?_)))))⟩
 · have h5 := of_decide_eq_true h5
   rw [if_pos (by omega)]
 have h5 := of_decide_eq_false h5
 rw [if_neg (by omega)]
 simp only [hb, Option.getD_some]
 have hk8 : b - 246 <= 8 := by omega
 have hdl : (digs bs at_ b).length = (b - 246).toNat := by simp only [digs, List.length_take, List.length_drop]; omega
 have hdat : ∀ i : Nat, i < (b - 246).toNat -> (digs bs at_ b)[i]? = bs[at_.toNat + 1 + i]? := fun i hi => by
  rw [digs, List.getElem?_take, if_pos hi, List.getElem?_drop]
 have hdb : ∀ d ∈ digs bs at_ b, 0 <= d /\ d <= 255 := fun d hd => hbs d (List.mem_of_mem_drop (List.mem_of_mem_take hd))
 refine ⟨⟨by omega, by omega, fun h => by omega⟩, fun I1 G1 hI1 x e i ⟨k0, k1, k2, k3, k4⟩ => Br.mk (fun hlt => ?_) (fun hge => ?_)⟩
 · have hlt := of_decide_eq_true hlt
   have hS := h.mono hI1
   obtain ⟨d, hd, hdc⟩ := hS.intAt (i := at_ + 1 + i) (by omega) (by omega)
   have hdr := hbs d (List.mem_of_getElem? hd)
   have hdi : (digs bs at_ b)[i.toNat]? = some d := by rw [hdat _ (by omega), <- hd]; congr 1; omega
   have hxb := valN_bd ((digs bs at_ b).take i.toNat) fun y hy => hdb y (List.mem_of_mem_take hy)
   have hxl : ((digs bs at_ b).take i.toNat).length <= 7 := by rw [List.length_take]; omega
   have hx7 : x < 72057594037927936 := by
    rw [k3];refine Int.lt_of_lt_of_le hxb.2 ?_
    exact pow7 _ (by omega)
   have hx0 : 0 <= x := by rw [k3]; exact hxb.1
   have hstep : bitsV .or .u64 (x * 256) d = valN ((digs bs at_ b).take (i + 1).toNat) := by
    rw [or_low hx0 hx7 hdr, show (i + 1).toNat = i.toNat + 1 by omega, take_succ' hdi, valN_snoc, k3]
   refine wr_i64 (by omega) (by omega) (wr_i64 (by omega) (by omega) ⟨by omega, by omega, hsome, d, hdc, Br.mk (fun h6 => Br.mk (fun h7 => ?_) (fun h7 => ?_)) (fun h6 => ?_)⟩)
   · have h6 : i = 0 := by simpa using h6
     have h7 : d = 0 := by simpa using h7
     rw [if_pos (by rw [<- h7, <- hdi, h6]; rfl)]
   · have h6 : i = 0 := by simpa using h6
     have h7 : d ≠ 0 := by simpa using h7
     refine ⟨by omega, _, IntWalk.u64_in _ ⟨by omega, by omega⟩, _, IntWalk.u64_in _ ⟨hdr.1, by omega⟩, wr_i64 (by omega) (by omega) ⟨⟨by omega, by omega, k2, hstep, fun _ h8 => h7 ?_⟩, by omega⟩⟩
     rw [h6] at hdi
     rw [show (0 : Int).toNat = 0 from rfl, h8] at hdi
     exact (Option.some.inj hdi).symm
   · have h6 : i ≠ 0 := by simpa using h6
     exact ⟨by omega, _, IntWalk.u64_in _ ⟨by omega, by omega⟩, _, IntWalk.u64_in _ ⟨hdr.1, by omega⟩, wr_i64 (by omega) (by omega) ⟨⟨by omega, by omega, k2, hstep, fun _ => k4 (by omega)⟩, by omega⟩⟩
 · have hge := of_decide_eq_false hge
   have hix : x = valN (digs bs at_ b) := by rw [k3, List.take_of_length_le (by rw [hdl]; omega)]
   refine Br.f (by simp [k2]) ?_
   rw [if_neg (k4 (by omega))]
   refine Br.mk (fun h8 => ?_) (fun h8 => wr_i64 (by omega) (by omega) ?_)
   · have h8 := of_decide_eq_true h8
     rw [if_pos (by omega)]
   · have h8 := of_decide_eq_false h8
     rw [if_neg (by omega), hix]
def lastN (bs : List Int) : Int × Int × Int :=
 if (readN bs 0).2.2 ≠ 0 then (0, 0, (readN bs 0).2.2) else if (readN bs 0).2.1 < bs.length then (0, 0, 11) else ((readN bs 0).1, (readN bs 0).2.1, 0)
theorem ct107 (bs : List Int) (hbs : ∀ b ∈ bs, 0 <= b /\ b <= 255) (a : Option Addr) (n c : Nat) (I : Mem) (h : SlM I a n 1 (ints .u8 bs)) (hl : n <= 1000000000) :
 Ct Tryz.prog (fnv 107) #[.slice a n c] I (fun v _ => v = T3 (lastN bs)) := by
 refine viaR (ct_via (A := {}) Tryz.func107 rfl Tryz.call107 rfl rfl) (Ct Tryz.prog (fnv 143) #[.slice a n c, .int .i64 0] I fun v b => ∃ d e f, v = .tuple #[.int .u64 d, .int .i64 e, .int .i64 f] /\ Br (f != 0) (Value.tuple #[.int .u64 0, .int .i64 0, .int .i64 f] = .tuple #[.int .u64 (lastN bs).1, .int .i64 (lastN bs).2.1, .int .i64 (lastN bs).2.2]) (Br (decide (e < (n : Int))) (Value.tuple #[.int .u64 0, .int .i64 0, .int .i64 11] = .tuple #[.int .u64 (lastN bs).1, .int .i64 (lastN bs).2.1, .int .i64 (lastN bs).2.2]) (Value.tuple #[.int .u64 d, .int .i64 e, .int .i64 0] = .tuple #[.int .u64 (lastN bs).1, .int .i64 (lastN bs).2.1, .int .i64 (lastN bs).2.2]))) (by kernel_rfl) ?_
 have hn := h.numLen
 refine (ct143 bs hbs a n c 0 (by omega) I h hl).mono fun v I1 _ hv => ⟨_, _, _, hv, Br.mk (fun h1 => ?_) (fun h1 => Br.mk (fun h2 => ?_) (fun h2 => ?_))⟩
 · have h1 : (readN bs 0).2.2 ≠ 0 := by simpa using h1
   rw [lastN, if_pos h1]
 · have h1 : ¬((readN bs 0).2.2 ≠ 0) := by simpa using h1
   have h2 := of_decide_eq_true h2
   rw [lastN, if_neg h1, if_pos (by omega)]
 · have h1 : ¬((readN bs 0).2.2 ≠ 0) := by simpa using h1
   have h2 := of_decide_eq_false h2
   rw [lastN, if_neg h1, if_neg (by omega)]
theorem readN_nonneg (bs : List Int) (hbs : ∀ b ∈ bs, 0 <= b /\ b <= 255) (at_ : Int) : 0 <= (readN bs at_).1 := by
 unfold readN;split
 · decide
 · split
   · decide
   · rename_i b hb
     have := hbs b (List.mem_of_getElem? hb);split
     · exact this.1
     · split
       · decide
       · split
         · decide
         · split
           · decide
           · split
             · decide
             · exact (valN_bd _ fun d hd => hbs d (List.mem_of_mem_drop (List.mem_of_mem_take hd))).1
def intN (bs : List Int) (at_ least most : Int) : Int × Int × Int :=
 if (readN bs at_).2.2 ≠ 0 then (0, 0, (readN bs at_).2.2) else if most < 0 \/ most < (readN bs at_).1 \/ (0 < least /\ (readN bs at_).1 < least) then (0, 0, 12) else ((readN bs at_).1, (readN bs at_).2.1, 0)
def T3i (p : Int × Int × Int) : Value := .tuple #[.int .i64 p.1, .int .i64 p.2.1, .int .i64 p.2.2]
theorem ct142 (bs : List Int) (hbs : ∀ b ∈ bs, 0 <= b /\ b <= 255) (a : Option Addr) (n c : Nat) (at_ least most : Int) (hat : -1000000 <= at_ /\ at_ <= 1000000000) (hm : -9223372036854775808 <= most /\ most <= 9223372036854775807) (hle : -9223372036854775808 <= least /\ least <= 9223372036854775807)
 (I : Mem) (h : SlM I a n 1 (ints .u8 bs)) (hl : n <= 1000000000) :
 Ct Tryz.prog (fnv 142) #[.slice a n c, .int .i64 at_, .int .i64 least, .int .i64 most] I (fun v _ => v = T3i (intN bs at_ least most)) := by
 refine viaR (ct_via (A := {}) Tryz.func142 rfl Tryz.call142 rfl rfl) (Ct Tryz.prog (fnv 143) #[.slice a n c, .int .i64 at_] I fun v b => ∃ d e f, v = .tuple #[.int .u64 d, .int .i64 e, .int .i64 f] /\ Br (f != 0) (Value.tuple #[.int .i64 0, .int .i64 0, .int .i64 f] = .tuple #[.int .i64 (intN bs at_ least most).1, .int .i64 (intN bs at_ least most).2.1, .int .i64 (intN bs at_ least most).2.2]) (Br (decide (most < 0)) (Value.tuple #[.int .i64 0, .int .i64 0, .int .i64 12] = .tuple #[.int .i64 (intN bs at_ least most).1, .int .i64 (intN bs at_ least most).2.1, .int .i64 (intN bs at_ least most).2.2]) (Wr .u64 most (fun g => Br (decide (g < d)) (Value.tuple #[.int .i64 0, .int .i64 0, .int .i64 12] = .tuple #[.int .i64 (intN bs at_ least most).1, .int .i64 (intN bs at_ least most).2.1, .int .i64 (intN bs at_ least most).2.2]) (Br (decide (0 < least)) (Wr .u64 least (fun i => Br (decide (d < i)) (Value.tuple #[.int .i64 0, .int .i64 0, .int .i64 12] = .tuple #[.int .i64 (intN bs at_ least most).1, .int .i64 (intN bs at_ least most).2.1, .int .i64 (intN bs at_ least most).2.2]) (Wr .i64 d (fun j => Value.tuple #[.int .i64 j, .int .i64 e, .int .i64 0] = .tuple #[.int .i64 (intN bs at_ least most).1, .int .i64 (intN bs at_ least most).2.1, .int .i64 (intN bs at_ least most).2.2])))) (Wr .i64 d (fun i => Value.tuple #[.int .i64 i, .int .i64 e, .int .i64 0] = .tuple #[.int .i64 (intN bs at_ least most).1, .int .i64 (intN bs at_ least most).2.1, .int .i64 (intN bs at_ least most).2.2]))))))) (by kernel_rfl) ?_
 have wu : ∀ {n : Int} {K : Int -> Prop}, 0 <= n -> n <= 18446744073709551615 -> K n -> Wr .u64 n K := fun h0 h1 hk => ⟨_, IntWalk.u64_in _ ⟨h0, h1⟩, hk⟩;refine (ct143 bs hbs a n c at_ hat I h hl).mono fun v I1 _ hv => ⟨_, _, _, hv, Br.mk (fun h1 => ?_) (fun h1 => Br.mk (fun h2 => ?_) (fun h2 => ?_))⟩
 · have h1 : (readN bs at_).2.2 ≠ 0 := by simpa using h1
   rw [intN, if_pos h1]
 · have h1 : ¬((readN bs at_).2.2 ≠ 0) := by simpa using h1
   have h2 := of_decide_eq_true h2;rw [intN, if_neg h1, if_pos (.inl h2)]
 have h1 : ¬((readN bs at_).2.2 ≠ 0) := by simpa using h1
 have h2 := of_decide_eq_false h2;have hx := readN_nonneg bs hbs at_
 refine wu (by omega) (by omega) (Br.mk (fun h3 => ?_) (fun h3 => Br.mk (fun h4 => ?_) (fun h4 => ?_)))
 · have h3 := of_decide_eq_true h3
   rw [intN, if_neg h1, if_pos (.inr (.inl h3))]
 · have h3 := of_decide_eq_false h3
   have h4 := of_decide_eq_true h4
   refine wu (by omega) (by omega) (Br.mk (fun h5 => ?_) (fun h5 => ?_))
   · have h5 := of_decide_eq_true h5
     rw [intN, if_neg h1, if_pos (.inr (.inr ⟨h4, h5⟩))]
   · have h5 := of_decide_eq_false h5
     refine wr_i64 (by omega) (by omega) ?_
     rw [intN, if_neg h1, if_neg (by omega)]
 · have h3 := of_decide_eq_false h3
   have h4 := of_decide_eq_false h4
   refine wr_i64 (by omega) (by omega) ?_
   rw [intN, if_neg h1, if_neg (by omega)]
theorem valN_be : ∀ k x : Nat, valN (be k x) = ((x % 256 ^ k : Nat) : Int)
 | 0, x => by simp [be, valN, Nat.mod_one]
 | k + 1, x => by
  rw [be, valN_snoc, valN_be k (x / 256)]
  have : x % 256 ^ (k + 1) = x % 256 + 256 * (x / 256 % 256 ^ k) := by rw [Nat.pow_succ, Nat.mul_comm, Nat.mod_mul]
  omega
theorem val_from : ∀ (ds : List Int) (x : Int), ds.foldl (fun x d => x * 256 + d) x = x * 256 ^ ds.length + valN ds
 | [], x => by simp [valN]
 | d :: r, x => by
  have h1 := val_from r (x * 256 + d);have h2 := val_from r d;rw [List.foldl_cons, h1]
  have : valN (d :: r) = d * 256 ^ r.length + valN r := by
   have : valN (d :: r) = r.foldl (fun x d => x * 256 + d) (0 * 256 + d) := rfl;rw [this, Int.zero_mul, Int.zero_add, h2]
  rw [this, List.length_cons, Int.pow_succ, Int.add_mul, Int.mul_assoc, Int.mul_comm 256];omega
theorem valN_cons (d : Int) (r : List Int) : valN (d :: r) = d * 256 ^ r.length + valN r := by
 have : valN (d :: r) = r.foldl (fun x d => x * 256 + d) (0 * 256 + d) := rfl;rw [this, Int.zero_mul, Int.zero_add, val_from]
theorem be_valN : ∀ (k : Nat) (ds : List Int), ds.length = k -> (∀ d ∈ ds, 0 <= d /\ d <= 255) -> be k (valN ds).toNat = ds
 | 0, ds, h, _ => by
  have : ds = [] := List.eq_nil_of_length_eq_zero h
  subst this; rfl
 | k + 1, ds, h, hd => by
  have hne : ds ≠ [] := by intro e; subst e; simp at h
  have e := List.dropLast_concat_getLast hne
  have hl : ds.dropLast.length = k := by simp; omega
  have hb : ∀ d ∈ ds.dropLast, 0 <= d /\ d <= 255 := fun d hx => hd d (List.dropLast_subset _ hx);have hd' := hd _ (List.getLast_mem hne);have h0 := (valN_bd _ hb).1;have ih := be_valN k ds.dropLast hl hb;generalize ds.getLast hne = d at e hd';generalize ds.dropLast = r at *;subst e;rw [valN_snoc, be]
  have e1 : (valN r * 256 + d).toNat / 256 = (valN r).toNat := by omega
  have e2 : (((valN r * 256 + d).toNat % 256 : Nat) : Int) = d := by omega
  rw [e1, e2, ih]
theorem digN_bd : ∀ {x : Nat}, 0 < x -> 256 ^ (digN x - 1) <= x /\ x < 256 ^ digN x := by
 intro x
 induction x using Nat.strongRecOn with
 | ind x ih =>
  intro h;rw [digN_pos h]
  by_cases h0 : x / 256 = 0
  · rw [h0, digN_zero]; omega
  · have := ih (x / 256) (by omega) (by omega)
    have hp : digN (x / 256) = digN (x / 256) - 1 + 1 := by rw [digN_pos (by omega)]; omega
    generalize digN (x / 256) = k at this hp ⊢
    cases k with
    | zero => omega
    | succ k =>
     simp only [Nat.add_sub_cancel] at this
     rw [show 1 + (k + 1) - 1 = k + 1 by omega, show 1 + (k + 1) = (k + 1) + 1 by omega, Nat.pow_succ 256 (k + 1), Nat.pow_succ 256 k] at *
     omega
theorem digN_eq {k x : Nat} (h1 : 256 ^ k <= x) (h2 : x < 256 ^ (k + 1)) : digN x = k + 1 := by
 have hx : 0 < x := Nat.lt_of_lt_of_le (Nat.pow_pos (by omega)) h1
 have := digN_bd hx
 have a : digN x - 1 < k + 1 := (Nat.pow_lt_pow_iff_right (a := 256) (by omega)).1 (Nat.lt_of_le_of_lt this.1 h2)
 have b : k < digN x := (Nat.pow_lt_pow_iff_right (a := 256) (by omega)).1 (Nat.lt_of_le_of_lt h1 this.2)
 omega
theorem formN_len (x : Nat) : (formN x).length = sizeN x := by
 unfold formN sizeN;split
 · rfl
 · simp [be_len]; omega
theorem formN_bytes {x : Nat} (h : x < 256 ^ 8) : ∀ d ∈ formN x, 0 <= d /\ d <= 255 := by
 have hb : ∀ k x, ∀ d ∈ be k x, 0 <= d /\ d <= 255 := fun k => by
  induction k with
  | zero => intro x d hd; simp [be] at hd
  | succ k ih =>
   intro x d hd;rw [be] at hd
   rcases List.mem_append.1 hd with hd | hd
   · exact ih _ d hd
   · cases List.mem_singleton.1 hd
     omega
 have hd8 : digN x <= 8 := digN_le h;unfold formN;split
 · intro d hd; cases List.mem_singleton.1 hd; omega
 · intro d hd
   rcases List.mem_cons.1 hd with rfl | hd
   · omega
   · exact hb _ _ d hd
theorem readN_form (pre post : List Int) (x : Nat) (h : x < 256 ^ 8) : readN (pre ++ (formN x ++ post)) pre.length = ((x : Int), ((formN x).length : Int), 0) := by
 have hlen : (pre ++ (formN x ++ post)).length = pre.length + ((formN x).length + post.length) := by simp
 have hd8 : digN x <= 8 := digN_le h
 have hat : (pre ++ (formN x ++ post))[pre.length]? = (formN x ++ post)[0]? := by rw [List.getElem?_append_right (by omega), Nat.sub_self]
 unfold readN
 rw [if_neg (by omega), Int.toNat_natCast, hat]
 by_cases hx : x <= 246
 · have : formN x = [(x : Int)] := by rw [formN, if_pos hx]
   rw [this]
   simp only [List.cons_append, List.nil_append, List.getElem?_cons_zero, if_pos (show (x : Int) <= 246 by omega)]
   rfl
 · have hf : formN x = ((246 + digN x : Nat) : Int) :: be (digN x) x := by rw [formN, if_neg hx]
   have hbd := digN_bd (x := x) (by omega)
   have hdp : 1 <= digN x := by rw [digN_pos (by omega)]; omega
   have hl2 := hlen;rw [hf] at hl2;simp only [List.length_cons, be_len] at hl2;rw [hf];simp only [List.cons_append, List.getElem?_cons_zero]
   have hds : digs (pre ++ ((246 + digN x : Nat) : Int) :: (be (digN x) x ++ post)) pre.length ((246 + digN x : Nat) : Int) = be (digN x) x := by
    unfold digs
    rw [Int.toNat_natCast, show (((246 + digN x : Nat) : Int) - 246).toNat = digN x by omega, List.drop_append, List.drop_eq_nil_of_le (by omega), List.nil_append, show pre.length + 1 - pre.length = 1 by omega]
    rw [show (((246 + digN x : Nat) : Int) :: (be (digN x) x ++ post)).drop 1 = be (digN x) x ++ post from rfl, List.take_left' (be_len _ _)]
   rw [hds, if_neg (by omega), if_neg (by omega), if_neg (by simp [be_len]; omega)]
   have hv : valN (be (digN x) x) = (x : Int) := by rw [valN_be, Nat.mod_eq_of_lt hbd.2]
   have h0 : (be (digN x) x)[0]? ≠ some 0 := by
    obtain ⟨k, hk⟩ : ∃ k, digN x = k + 1 := ⟨digN x - 1, by omega⟩
    rw [hk] at hbd ⊢;simp only [Nat.add_sub_cancel] at hbd;rw [be_top, List.getElem?_cons_zero];intro e
    have hp : 0 < 256 ^ k := Nat.pow_pos (by omega)
    have q1 : 1 <= x / 256 ^ k := (Nat.le_div_iff_mul_le hp).2 (by omega)
    have q2 : x / 256 ^ k < 256 := (Nat.div_lt_iff_lt_mul hp).2 (by rw [Nat.mul_comm, <- Nat.pow_succ]; exact hbd.2)
    rw [Nat.mod_eq_of_lt q2] at e
    injection e with e
    omega
   rw [if_neg h0, hv, if_neg (by omega)]
   simp [be_len]; omega
theorem readN_back {bs : List Int} (hbs : ∀ b ∈ bs, 0 <= b /\ b <= 255) {at_ x n : Int} (h : readN bs at_ = (x, n, 0)) :
 0 <= at_ /\ at_ <= bs.length /\ 0 <= x /\ x.toNat < 256 ^ 8 /\ n = (formN x.toNat).length /\ bs.drop at_.toNat = formN x.toNat ++ bs.drop (at_ + n).toNat /\ at_ + n <= bs.length := by
 unfold readN at h
 split at h
 · cases h
 rename_i hr
 have h0 : 0 <= at_ := by omega
 have h1 : at_ <= bs.length := by omega
 split at h
 · cases h
 rename_i b hb;have hb' := hbs b (List.mem_of_getElem? hb);have hlt := (List.getElem?_eq_some_iff.1 hb).1
 have hcons : bs.drop at_.toNat = b :: bs.drop (at_.toNat + 1) := by
  rw [List.drop_eq_getElem_cons hlt, (List.getElem?_eq_some_iff.1 hb).2]
 split at h
 · injection h with e1 e2
   injection e2 with e2 e3
   subst e1; subst e2
   have hf : formN b.toNat = [b] := by rw [formN, if_pos (by omega)]; congr 1; omega
   rw [hf]
   refine ⟨h0, h1, hb'.1, by omega, rfl, ?_, by omega⟩
   rw [hcons, show (at_ + 1).toNat = at_.toNat + 1 by omega]; rfl
 split at h
 · cases h
 split at h
 · cases h
 split at h
 · cases h
 split at h
 · cases h
 rename_i c1 c2 c3 c4 c5
 injection h with e1 e2
 injection e2 with e2 e3
 have hdb : ∀ d ∈ digs bs at_ b, 0 <= d /\ d <= 255 := fun d hd => hbs d (List.mem_of_mem_drop (List.mem_of_mem_take hd))
 have hdl : (digs bs at_ b).length = (b - 246).toNat := by unfold digs; simp; omega
 have hbd := valN_bd _ hdb
 have happ : bs.drop (at_.toNat + 1) = digs bs at_ b ++ bs.drop (at_ + n).toNat := by
  rw [show (at_ + n).toNat = at_.toNat + 1 + (b - 246).toNat by omega, digs, <- List.drop_drop (i := (b - 246).toNat), List.take_append_drop]
 obtain ⟨k, hk⟩ : ∃ k, (b - 246).toNat = k + 1 := ⟨(b - 246).toNat - 1, by omega⟩
 have hk8 : k < 8 := by omega
 rw [hk] at hdl;generalize digs bs at_ b = ds at *;rw [hdl] at hbd
 have hdig : digN x.toNat = k + 1 := by
  cases ds with
  | nil => simp at hdl
  | cons d r =>
   have hd0 := hdb d (by simp)
   have hr : r.length = k := by simpa using hdl
   have : d ≠ 0 := fun e => c4 (by rw [e]; rfl)
   have hv := valN_cons d r
   have hr0 := (valN_bd r fun y hy => hdb y (by simp [hy])).1
   rw [hr] at hv
   have hp : (0 : Int) < 256 ^ k := Int.pow_pos (by omega)
   have : (256 : Int) ^ k <= d * 256 ^ k := by
    have : 1 * (256 : Int) ^ k <= d * 256 ^ k := Int.mul_le_mul_of_nonneg_right (by omega) (by omega)
    omega
   refine digN_eq ?_ ?_
   · have : ((256 ^ k : Nat) : Int) = (256 : Int) ^ k := by simp
     omega
   · have : ((256 ^ (k + 1) : Nat) : Int) = (256 : Int) ^ (k + 1) := by simp
     omega
 have hx8 : x.toNat < 256 ^ 8 := by
  have h8 : 256 ^ (k + 1) <= 256 ^ 8 := Nat.pow_le_pow_right (by omega) (by omega)
  have : ((256 ^ (k + 1) : Nat) : Int) = (256 : Int) ^ (k + 1) := by simp
  omega
 have hf : formN x.toNat = b :: ds := by
  rw [formN, if_neg (by omega), hdig]
  have := be_valN (k + 1) ds hdl hdb;rw [<- e1, this]
  congr 1; omega
 refine ⟨h0, h1, by omega, hx8, by rw [hf]; simp; omega, ?_, by omega⟩
 rw [hf, hcons, happ]; rfl
def okFld (f : Int × List Int) : Prop := (-9223372036854775808 <= f.1 /\ f.1 <= 9223372036854775807) /\ ∀ z ∈ f.2, 0 <= z /\ z <= 255
def FR (I : Mem) : List Value -> List (Int × List Int) -> Prop
 | [], [] => True
 | x :: y :: xs, f :: l => (okFld f /\ x = .int .i64 f.1 /\ BySl I y f.2) /\ FR I xs l
 | _, _ => False
theorem FR.nil {I : Mem} : FR I [] [] := trivial
theorem FR.cons {I : Mem} {x y : Value} {xs : List Value} {f : Int × List Int} {l : List (Int × List Int)} (h : okFld f /\ x = .int .i64 f.1 /\ BySl I y f.2) (h' : FR I xs l) : FR I (x :: y :: xs) (f :: l) := ⟨h, h'⟩
theorem FR.cases {I : Mem} : ∀ {xs : List Value} {l : List (Int × List Int)}, FR I xs l -> (xs = [] /\ l = []) \/ ∃ x y xs' f l', xs = x :: y :: xs' /\ l = f :: l' /\ (okFld f /\ x = .int .i64 f.1 /\ BySl I y f.2) /\ FR I xs' l'
 | [], [], _ => .inl ⟨rfl, rfl⟩
 | [], _ :: _, h => h.elim
 | [_], [], h => h.elim
 | [_], _ :: _, h => h.elim
 | _ :: _ :: _, [], h => h.elim
 | x :: y :: xs, f :: l, h => .inr ⟨x, y, xs, f, l, rfl, rfl, h.1, h.2⟩
theorem FR.mono {I J : Mem} (hle : I.le J) : ∀ {l : List (Int × List Int)} {xs : List Value}, FR I xs l -> FR J xs l := by
 intro l
 induction l with
 | nil =>
  intro xs h
  rcases h.cases with ⟨rfl, _⟩ | ⟨_, _, _, _, _, _, h, _⟩
  · trivial
  · cases h
 | cons f l ih =>
  intro xs h
  rcases h.cases with ⟨_, h⟩ | ⟨x, y, xs', f', l', rfl, h2, h3, h4⟩
  · cases h
  · cases h2
    exact ⟨⟨h3.1, h3.2.1, h3.2.2.mono hle⟩, ih h4⟩
theorem FR.len {I : Mem} : ∀ {l : List (Int × List Int)} {xs : List Value}, FR I xs l -> xs.length = l.length * 2 := by
 intro l
 induction l with
 | nil =>
  intro xs h
  rcases h.cases with ⟨rfl, _⟩ | ⟨_, _, _, _, _, _, h, _⟩
  · rfl
  · cases h
 | cons f l ih =>
  intro xs h
  rcases h.cases with ⟨_, h⟩ | ⟨x, y, xs', f', l', rfl, h2, h3, h4⟩
  · cases h
  · cases h2
    simp [ih h4]; omega
theorem FR.app {I : Mem} {ys : List Value} {m : List (Int × List Int)} (h' : FR I ys m) : ∀ {l : List (Int × List Int)} {xs : List Value}, FR I xs l -> FR I (xs ++ ys) (l ++ m) := by
 intro l
 induction l with
 | nil =>
  intro xs h
  rcases h.cases with ⟨rfl, _⟩ | ⟨_, _, _, _, _, _, h, _⟩
  · exact h'
  · cases h
 | cons f l ih =>
  intro xs h
  rcases h.cases with ⟨_, h⟩ | ⟨x, y, xs', f', l', rfl, h2, h3, h4⟩
  · cases h
  · cases h2
    exact ⟨h3, ih h4⟩
theorem FR.snoc {I : Mem} {xs : List Value} {l : List (Int × List Int)} {x y : Value} {f : Int × List Int} (h : FR I xs l) (h' : okFld f /\ x = .int .i64 f.1 /\ BySl I y f.2) : FR I (xs ++ [x, y]) (l ++ [f]) :=
 FR.app (ys := [x, y]) (m := [f]) (FR.cons h' FR.nil) h
theorem FR.get {I : Mem} : ∀ {l : List (Int × List Int)} {xs : List Value}, FR I xs l -> ∀ {j : Nat} {f : Int × List Int}, l[j]? = some f -> okFld f /\ xs[j * 2 + 0]? = some (.int .i64 f.1) /\ ∃ y, xs[j * 2 + 1]? = some y /\ BySl I y f.2 := by
 intro l
 induction l with
 | nil => intro xs h j f hj; simp at hj
 | cons f l ih =>
  intro xs h j g hj
  rcases h.cases with ⟨_, h⟩ | ⟨x, y, xs', f', l', rfl, h2, h3, h4⟩
  · cases h
  · cases h2
    cases j with
    | zero => simp at hj; subst hj; exact ⟨h3.1, by simp [h3.2.1], y, by simp, h3.2.2⟩
    | succ j =>
     have := ih h4 (j := j) (f := g) (by simpa using hj)
     rw [show (j + 1) * 2 + 0 = (j * 2 + 0) + 2 by omega, show (j + 1) * 2 + 1 = (j * 2 + 1) + 2 by omega]
     simpa using this
theorem FR.ok {I : Mem} {xs : List Value} {l : List (Int × List Int)} (h : FR I xs l) : ∀ f ∈ l, okFld f := fun f hf => by
 obtain ⟨j, hj, rfl⟩ := List.mem_iff_getElem.1 hf;exact (h.get (List.getElem?_eq_getElem hj)).1
theorem FR.take {I : Mem} : ∀ (k : Nat) {l : List (Int × List Int)} {xs : List Value}, FR I xs l -> FR I (xs.take (k * 2)) (l.take k) := by
 intro k
 induction k with
 | zero => intro l xs h; simp [FR]
 | succ k ih =>
  intro l xs h
  rcases h.cases with ⟨rfl, rfl⟩ | ⟨x, y, xs', f', l', rfl, rfl, h3, h4⟩
  · simp [FR]
  · rw [show (k + 1) * 2 = k * 2 + 1 + 1 by omega]
    exact ⟨h3, ih h4⟩
def FldM (I : Mem) (a : Option Addr) (n : Nat) (l : List (Int × List Int)) : Prop := ∃ xs, SlM I a n 2 xs /\ FR I xs l
theorem FldM.mono {I J : Mem} {a : Option Addr} {n : Nat} {l : List (Int × List Int)} (h : FldM I a n l) (hle : I.le J) : FldM J a n l := by
 obtain ⟨xs, h1, h2⟩ := h;exact ⟨xs, h1.mono hle, h2.mono hle⟩
theorem FldM.len {I : Mem} {a : Option Addr} {n : Nat} {l : List (Int × List Int)} (h : FldM I a n l) : l.length = n := by
 obtain ⟨xs, h1, h2⟩ := h;have := h1.len;have := h2.len;omega
theorem FldM.max {I : Mem} {a : Option Addr} {n : Nat} {l : List (Int × List Int)} (h : FldM I a n l) : n <= maxLen := by
 obtain ⟨xs, h1, h2⟩ := h;exact h1.max
theorem FldM.ok {I : Mem} {a : Option Addr} {n : Nat} {l : List (Int × List Int)} (h : FldM I a n l) : ∀ f ∈ l, okFld f := by
 obtain ⟨xs, h1, h2⟩ := h;exact h2.ok
theorem FldM.isSome {I : Mem} {a : Option Addr} {n : Nat} {l : List (Int × List Int)} (h : FldM I a n l) (hn : 0 < n) : a.isSome = true := by
 obtain ⟨xs, h1, h2⟩ := h;exact h1.isSome hn
theorem FldM.nil {I : Mem} {a : Option Addr} {n : Nat} {l : List (Int × List Int)} (h : FldM I a n l) (hn : a = none) : n = 0 := by
 obtain ⟨xs, h1, h2⟩ := h;exact h1.nil hn
theorem fldM_nil (I : Mem) : FldM I none 0 [] := ⟨[], sl_nil I 2, trivial⟩
theorem FldM.at_ {I : Mem} {a : Option Addr} {n : Nat} {l : List (Int × List Int)} (h : FldM I a n l) {i : Int} (h0 : 0 <= i) (h1 : i < n) :
 ∃ f b m c, l[i.toNat]? = some f /\ okFld f /\ atI I a (i.toNat * 2 + 0) = some (.int .i64 f.1) /\ atI I a (i.toNat * 2 + 1) = some (.slice b m c) /\ SlM I b m 1 (ints .u8 f.2) /\ m <= c /\ c <= maxLen := by
 have hl := h.len;obtain ⟨xs, hs, hf⟩ := h
 have hg : l[i.toNat]? = some l[i.toNat] := List.getElem?_eq_getElem (by omega)
 obtain ⟨g1, g2, y, g3, b, m, c, rfl, g4, g5, g6⟩ := hf.get hg;exact ⟨_, b, m, c, hg, g1, hs.at_ _ _ g2, hs.at_ _ _ g3, g4, g5, g6⟩
theorem fldM_row {I : Mem} {a : Option Addr} {cp : Nat} {xs : List Value} {l : List (Int × List Int)} (h : RowM I a cp 2 xs) (hf : FR I xs l) : FldM I a l.length l :=
 ⟨xs, h.sl (by omega) hf.len, hf⟩
def rightStep : Int -> Int -> List (Int × List Int) -> Bool
 | _, _, [] => true
 | last, left, f :: r => if f.1 <= last \/ 200 < f.1 \/ left < f.2.length then false else rightStep f.1 (left - f.2.length) r
def rightF (l : List (Int × List Int)) : Bool := rightStep 0 16384 l && decide ((l.length : Int) <= 64)
theorem drop_cons {α : Type} {l : List α} {j : Nat} {x : α} (h : l[j]? = some x) : l.drop j = x :: l.drop (j + 1) := by
 obtain ⟨hl, rfl⟩ := List.getElem?_eq_some_iff.1 h;exact List.drop_eq_getElem_cons hl
theorem ct130 (l : List (Int × List Int)) (a : Option Addr) (n c : Nat) (I : Mem) (h : FldM I a n l) (hn : n <= 1000000) :
 Ct Tryz.prog (fnv 130) #[.slice a n c] I (fun v _ => v = .bool (rightF l)) := by
 refine viaR (ct_via (A := { loops := [(3, ⟨[(0, .keep), (3, .sh (.int .i64)), (4, .sh (.int .i64)), (7, .keep), (8, .keep), (9, .sh (.int .i64))], [], [], fun vals _ _ _ => match vals with | [.int .i64 last, .int .i64 left, .int .i64 j] => 0 <= j /\ j <= n /\ 0 <= last /\ last <= 200 /\ 0 <= left /\ left <= 16384 /\ rightStep 0 16384 l = rightStep last left (l.drop j.toNat) | _ => False, fun vals _ => match vals with | [_, _, .int .i64 j] => (n - j).toNat | _ => 0⟩)] }) Tryz.func130 rfl Tryz.call130 rfl rfl) ((Rf (SV.v (.slice a n c)) /\ Rf (SV.v (.slice a n c)) /\ Rf (SV.v (.int .i64 (n : Int))) /\ (0 : Int) <= 0 /\ 0 <= (n : Int) /\ (0 : Int) <= 0 /\ (0 : Int) <= 200 /\ (0 : Int) <= 16384 /\ (16384 : Int) <= 16384 /\ Rf (rightStep 0 16384 l)) /\ ∀ (b : Mem), Mem -> I.le b -> ∀ (d e f : Int), 0 <= f /\ f <= (n : Int) /\ 0 <= d /\ d <= 200 /\ 0 <= e /\ e <= 16384 /\ rightStep 0 16384 l = rightStep d e (List.drop f.toNat l) -> Br (decide (f < (n : Int))) (0 <= f /\ f < (n : Int) /\ a.isSome = true /\ (2 : Nat) = 2 /\ ∃ g, atI b a (f.toNat * 2 + 0) = some (.int .i64 g) /\ ∃ i j k, atI b a (f.toNat * 2 + 1) = some (.slice i j k) /\ Br (decide (g <= d)) (Value.bool false = .bool (rightF l)) (Br (decide (200 < g)) (Value.bool false = .bool (rightF l)) (Br (decide (e < (j : Int))) (Value.bool false = .bool (rightF l)) (Wr .i64 (e - (j : Int)) (fun m => Wr .i64 (f + 1) fun o => Rf (SV.v (.slice a n c)) /\ Rf (SV.v (.slice a n c)) /\ Rf (SV.v (.int .i64 (n : Int))) /\ (0 <= o /\ o <= (n : Int) /\ 0 <= g /\ g <= 200 /\ 0 <= m /\ m <= 16384 /\ rightStep 0 16384 l = rightStep g m (List.drop o.toNat l)) /\ Int.toNat ((n : Int) - o) < Int.toNat ((n : Int) - f)))))) (Value.bool (decide ((n : Int) <= 64)) = .bool (rightF l))) (by kernel_rfl) ?_
 simp only [eq_self, true_and, and_true];have hl := h.len
 refine ⟨by omega, fun I1 _ hI last left j ⟨h0, h1, h2, h3, h4, h5, h6⟩ => Br.mk (fun hlt => ?_) (fun hge => ?_)⟩
 · have hlt := of_decide_eq_true hlt
   obtain ⟨f, b, m, c', hf, hok, e1, e2, hs, hm1, hm2⟩ := (h.mono hI).at_ h0 hlt;have hm := hs.numLen;rw [drop_cons hf, rightStep] at h6
   refine ⟨h0, hlt, h.isSome (by omega), _, e1, b, m, c', e2, Br.mk (fun g1 => ?_) (fun g1 => Br.mk (fun g2 => ?_) (fun g2 => Br.mk (fun g3 => ?_) (fun g3 => ?_)))⟩
   · have g1 := of_decide_eq_true g1
     rw [rightF, h6, if_pos (.inl g1)]; rfl
   · have g2 := of_decide_eq_true g2
     rw [rightF, h6, if_pos (.inr (.inl g2))]; rfl
   · have g3 := of_decide_eq_true g3
     rw [rightF, h6, if_pos (.inr (.inr (by omega)))]; rfl
   · have g1 := of_decide_eq_false g1
     have g2 := of_decide_eq_false g2;have g3 := of_decide_eq_false g3
     rw [if_neg (by omega)] at h6
     refine wr_i64 (by omega) (by omega) (wr_i64 (by omega) (by omega) ⟨⟨by omega, by omega, by omega, by omega, by omega, by omega, ?_⟩, by omega⟩)
     rw [h6, show (j + 1).toNat = j.toNat + 1 by omega, hm]
 · have hge := of_decide_eq_false hge
   rw [List.drop_eq_nil_of_le (by omega)] at h6
   rw [rightF, h6, hl]; rfl
def u8s (l : List Int) : List UInt8 := l.map fun z => UInt8.ofNat z.toNat
theorem u8_nat {z : Int} (h : 0 <= z /\ z <= 255) : (((UInt8.ofNat z.toNat).toNat : Nat) : Int) = z := by
 rw [UInt8.toNat_ofNat'];omega
theorem u8s_inj {xs ys : List Int} (hx : byteL xs) (hy : byteL ys) (h : u8s xs = u8s ys) : xs = ys := by
 apply List.ext_getElem?;intro i;have := congrArg (fun l => l[i]?) h;simp only [u8s, List.getElem?_map] at this
 cases hxi : xs[i]? with
 | none =>
  cases hyi : ys[i]? with
  | none => rfl
  | some y => rw [hxi, hyi] at this; cases this
 | some x =>
  cases hyi : ys[i]? with
  | none => rw [hxi, hyi] at this; cases this
  | some y =>
   rw [hxi, hyi] at this;have h1 := u8_nat (hx x (List.mem_of_getElem? hxi));have h2 := u8_nat (hy y (List.mem_of_getElem? hyi));simp only [Option.map_some, Option.some.injEq] at this;rw [this] at h1;rw [<- h1, h2]
theorem u8s_at {xs : List Int} (hb : byteL xs) {I : Mem} {a : Option Addr} {n : Nat} (h : SlM I a n 1 (ints .u8 xs)) : (u8s xs).length = n /\ (a = none -> n = 0) /\ ∀ (j : Nat) (b : UInt8), (u8s xs)[j]? = some b -> atI I a j = some (Value.int IntKind.u8 ↑b.toNat) := by
 refine ⟨by rw [u8s, List.length_map]; exact h.numLen.symm, h.nil, fun j b hj => ?_⟩
 simp only [u8s, List.getElem?_map, Option.map_eq_some_iff] at hj;obtain ⟨x, hx, rfl⟩ := hj;rw [u8_nat (hb x (List.mem_of_getElem? hx))];exact h.at_ j _ (ints_get hx)
theorem ct43 (xs ys : List Int) (hx : byteL xs) (hy : byteL ys) (a b : Option Addr) (n c m d : Nat) (I : Mem) (h : SlM I a n 1 (ints .u8 xs)) (h' : SlM I b m 1 (ints .u8 ys)) :
 Ct Tryz.prog (fnv 43) #[.slice a n c, .slice b m d] I (fun v _ => v = .bool (decide (xs = ys))) := by
 refine viaR (ct_via (A := { }) Tryz.func43 rfl Tryz.call43 rfl rfl) (∃ (q : List UInt8), q.length = n /\ (a = none -> n = 0) /\ (∀ (j : Nat) (e : UInt8), q[j]? = some e -> atI I a j = some (.int .u8 (e.toNat : Int))) /\ ∃ (e : List UInt8), e.length = m /\ (b = none -> m = 0) /\ (∀ (j : Nat) (f : UInt8), e[j]? = some f -> atI I b j = some (.int .u8 (f.toNat : Int))) /\ Value.bool ((ByteArray.mk q.toArray).toList == (ByteArray.mk e.toArray).toList) = .bool (decide (xs = ys))) (by kernel_rfl) ?_
 obtain ⟨h1, h2, h3⟩ := u8s_at hx h;obtain ⟨h4, h5, h6⟩ := u8s_at hy h';refine ⟨_, h1, h2, h3, _, h4, h5, h6, ?_⟩;rw [str_eq]
 congr 1
 refine decide_eq_decide.2 ⟨fun e => u8s_inj hx hy ?_, fun e => by rw [e]⟩
 injection e with e
 exact Array.toList_inj.2 e |> fun e => by simpa using e
theorem one_ints {k : IntKind} {l : List Int} : ∀ v ∈ ints k l, v.oneCell' = true := fun v hv => by
 simp only [ints, List.mem_map] at hv;obtain ⟨z, _, rfl⟩ := hv;rfl
theorem row_bysl {I : Mem} {a : Option Addr} {cp n : Nat} {xs : List Int} (h : RowM I a cp 1 (ints .u8 xs)) (hn : n = xs.length) : BySl I (.slice a n cp) xs := by
 refine ⟨a, n, cp, rfl, h.sl (by omega) (by rw [ints_len]; omega), ?_, ?_⟩
 · have := h.1; rw [ints_len] at this; omega
 · exact h.2.1
theorem ct89 (xs : List Int) (a : Option Addr) (n c : Nat) (I : Mem) (h : SlM I a n 1 (ints .u8 xs)) (hn : n <= 1000000) :
 Ct Tryz.prog (fnv 89) #[.slice a n c] I (fun v I' => BySl I' v xs) := by
 refine viaR (ct_via (A := { }) Tryz.func89 rfl Tryz.call89 rfl rfl) (∃ y, y.length = n * 1 /\ (a = none -> n = 0) /\ (∀ (j : Nat) (v : Value), y[j]? = some v -> atI I a j = some v) /\ (∀ (v : Value), Membership.mem y v -> v.oneCell' = true) /\ n <= 9223372036854775807 /\ n * 1 <= 140737488355328 /\ ∀ (b : Option Addr) (d : Nat) (e : Mem), I.le e -> RowM e b d 1 y -> ∃ f m g, Value.slice b n d = .slice f m g /\ SlM e f m 1 (List.map (Value.int .u8) xs) /\ m <= g /\ g <= 9223372036854775807) (by kernel_rfl) ?_
 exact ⟨ints .u8 xs, h.len, h.nil, h.at_, one_ints, by omega, by omega, fun a' cp I' _ hrow => row_bysl hrow h.numLen⟩
def NewB (I0 I : Mem) (v : Value) : Prop := ∀ a n c, v = .slice a n c -> NewS 1 I0 I a c /\ n <= 1000000
theorem NewB.mono {I0 I J : Mem} {v : Value} (h : NewB I0 I v) (hle : I.le J) : NewB I0 J v := fun a n c hv => ⟨(h a n c hv).1.mono hle, (h a n c hv).2⟩
theorem NewB.anti {I0 J0 I : Mem} {v : Value} (h : NewB I0 I v) (hle : J0.le I0) : NewB J0 I v := fun a n c hv => ⟨(h a n c hv).1.anti hle, (h a n c hv).2⟩
theorem newB_sl {I0 I : Mem} {a : Option Addr} {n c : Nat} (h : NewS 1 I0 I a c) (hn : n <= 1000000) : NewB I0 I (.slice a n c) := fun a' n' c' hv => by
 cases hv;exact ⟨h, hn⟩
theorem newB_int {I0 I : Mem} {k : IntKind} {x : Int} : NewB I0 I (.int k x) := fun a' n' c' hv => by cases hv
theorem ct50N (xs : List Int) (a : Option Addr) (n c : Nat) (I : Mem) (h : SlM I a n 1 (ints .u8 xs)) (hn : n <= 1000000) :
 Ct Tryz.prog (fnv 50) #[.slice a n c] I (fun v I' => BySl I' v xs /\ NewB I I' v) := by
 refine viaR (ctF_via (A := { }) Tryz.func50 rfl Tryz.call50 rfl rfl) (Br a.isNone ((∃ b m d, Value.slice none 0 0 = .slice b m d /\ SlM I b m 1 (List.map (Value.int .u8) xs) /\ m <= d /\ d <= 9223372036854775807) /\ NewB I I (.slice none 0 0)) (∃ y, y.length = n * 1 /\ (a = none -> n = 0) /\ (∀ (j : Nat) (v : Value), y[j]? = some v -> atI I a j = some v) /\ (∀ (v : Value), Membership.mem y v -> v.oneCell' = true) /\ (0 : Nat) = 0 /\ 0 + n <= 9223372036854775807 /\ (0 + n) * 1 <= 140737488355328 /\ ∀ (b : Option Addr) (d : Nat) (e : Mem), I.le e -> RowF I e b d 1 y 5 -> (∃ f m g, Value.slice b (0 + n) d = .slice f m g /\ SlM e f m 1 (List.map (Value.int .u8) xs) /\ m <= g /\ g <= 9223372036854775807) /\ NewB I e (.slice b (0 + n) d))) (by kernel_rfl) ?_
 refine Br.mk (fun h0 => ?_) (fun h0 => ⟨ints .u8 xs, h.len, h.nil, h.at_, one_ints, rfl, by omega, by omega, fun a' cp I' _ hrow => ⟨row_bysl hrow.row (by have := h.numLen; omega), newB_sl hrow.newS (by omega)⟩⟩)
 have h0 : a = none := by simpa using h0
 subst h0;have hn := h.nil rfl;subst hn
 exact ⟨⟨none, 0, 0, rfl, h, by omega, by omega⟩, newB_sl (fun hc => absurd hc (by omega)) hn⟩
theorem fr_row {I : Mem} {a : Option Addr} {cp : Nat} {xs : List Value} {l : List (Int × List Int)} (h : RowM I a cp 2 xs) (hf : FR I xs l) :
 ∃ a' n' c', Value.slice a (xs.length / 2) cp = .slice a' n' c' /\ FldM I a' n' l /\ n' <= c' /\ c' <= maxLen := by
 have hl := hf.len
 have e : xs.length / 2 = l.length := by omega
 rw [e];refine ⟨a, l.length, cp, rfl, fldM_row h hf, ?_, h.2.1⟩;have := h.1;omega
def writeF (l : List (Int × List Int)) : List Int := l.flatMap fun f => f.1 :: (formN f.2.length ++ f.2)
theorem right_at : ∀ {l : List (Int × List Int)} {last left : Int}, rightStep last left l = true -> ∀ f ∈ l, last < f.1 /\ f.1 <= 200 /\ (f.2.length : Int) <= left
 | [], _, _, _, f, hf => by cases hf
 | g :: r, last, left, h, f, hf => by
  rw [rightStep] at h
  split at h
  · cases h
  · rename_i hc
    rcases List.mem_cons.1 hf with rfl | hf
    · omega
    · have := right_at h f hf
      omega
theorem formN_le (x : Nat) (h : x < 256 ^ 8) : (formN x).length <= 9 /\ 1 <= (formN x).length := by
 rw [formN_len, sizeN];have := digN_le h
 split <;> omega
theorem writeF_cons (f : Int × List Int) (r : List (Int × List Int)) : writeF (f :: r) = f.1 :: (formN f.2.length ++ (f.2 ++ writeF r)) := by simp [writeF]
theorem writeF_app (k l : List (Int × List Int)) : writeF (k ++ l) = writeF k ++ writeF l := by simp [writeF]
theorem right_len : ∀ {l : List (Int × List Int)} {last left : Int}, left <= 16384 -> rightStep last left l = true -> ∀ j, ((writeF (l.take j)).length : Int) <= max left 0 + 10 * l.length
 | [], last, left, _, _, j => by simp [writeF]; omega
 | g :: r, last, left, hl, h, 0 => by simp [writeF]; omega
 | g :: r, last, left, hl, h, j + 1 => by
  rw [rightStep] at h
  split at h
  · cases h
  · rename_i hc
    have ih := right_len (by omega) h j
    have := formN_le g.2.length (by omega)
    rw [List.take_succ_cons, writeF_cons];simp only [List.length_cons, List.length_append];omega
theorem rightF_iff {l : List (Int × List Int)} : rightF l = true ↔ rightStep 0 16384 l = true /\ l.length <= 64 := by
 simp only [rightF, Bool.and_eq_true, decide_eq_true_eq]
 exact ⟨fun h => ⟨h.1, by omega⟩, fun h => ⟨h.1, by omega⟩⟩
theorem ct100 (l : List (Int × List Int)) (a : Option Addr) (n c : Nat) (I : Mem) (h : FldM I a n l) (hn : n <= 1000000) :
 Ct Tryz.prog (fnv 100) #[.slice a n c] I (fun v I' => ∃ a' n' c', v = .tuple #[.slice a' n' c', .int .i64 (if rightF l then 0 else 20)] /\ SlM I' a' n' 1 (ints .u8 (if rightF l then writeF l else [])) /\ n' <= c' /\ c' <= maxLen) := by
 refine viaR (ct_via (A := { calls := [(26, .lend [0] (.row 0) [.row 1 5])], loops := [(5, ⟨[(4, .row 0), (10, .keep), (11, .keep), (12, .sh (.int .i64))], [(0, .row)], [(4, 1, 5)], fun vals xss I' _ => match vals, xss with | [.int .i64 j], [xs] => 0 <= j /\ j <= n /\ xs = ints .u8 (writeF (l.take j.toNat)) /\ rightF l = true | _, _ => False, fun vals _ => match vals with | [.int .i64 j] => (n - j).toNat | _ => 0⟩)] }) Tryz.func100 rfl Tryz.call100 rfl rfl) (Ct Tryz.prog (fnv 130) #[.slice a n c] I fun v b => ∃ d, v = .bool d /\ Br (!d) (∃ e f g, Value.tuple #[.slice none 0 0, .int .i64 20] = .tuple #[.slice e f g, .int .i64 (if rightF l = true then 0 else 20)] /\ SlM b e f 1 (List.map (Value.int .u8) (if rightF l = true then writeF l else ([] : List Int))) /\ f <= g /\ g <= 9223372036854775807) (((0 : Nat) = 0 /\ Rf (SV.v (.slice a n c)) /\ Rf (SV.v (.int .i64 (n : Int))) /\ (0 : Int) <= 0 /\ 0 <= (n : Int) /\ Rf ([] : List Value) /\ rightF l = true) /\ ∀ (e : Mem), Mem -> b.le e -> ∀ (x : List Value) (f : Int), 0 <= f /\ f <= (n : Int) /\ x = List.map (Value.int .u8) (writeF (List.take f.toNat l)) /\ rightF l = true -> Br (decide (f < (n : Int))) (0 <= f /\ f < (n : Int) /\ a.isSome = true /\ (2 : Nat) = 2 /\ ∃ g, atI e a (f.toNat * 2 + 0) = some (.int .i64 g) /\ ∃ i j k, atI e a (f.toNat * 2 + 1) = some (.slice i j k) /\ Wr .u8 g fun m => Wr .u64 (j : Int) fun o => x.length = x.length * 1 /\ x.length + 1 <= 9223372036854775807 /\ (x.length + 1) * 1 <= 140737488355328 /\ CtS Tryz.prog (.v (fnv 131)) [.rsl 0 (x.length + 1), .v (.int .u64 o)] [⟨.row (x ++ [.int .u8 m]) 1 5, none⟩] e fun s H p => ∃ q r, s = .rsl 0 q /\ H = [⟨.row r 1 5, none⟩] /\ ∃ y, y.length = j * 1 /\ (i = none -> j = 0) /\ (∀ (t : Nat) (u : Value), y[t]? = some u -> atI p i t = some u) /\ (∀ (t : Value), Membership.mem y t -> t.oneCell' = true) /\ r.length = q * 1 /\ q + j <= 9223372036854775807 /\ (q + j) * 1 <= 140737488355328 /\ Wr .i64 (f + 1) fun t => q + j = List.length (r ++ y) /\ Rf (SV.v (.slice a n c)) /\ Rf (SV.v (.int .i64 (n : Int))) /\ (0 <= t /\ t <= (n : Int) /\ r ++ y = List.map (Value.int .u8) (writeF (List.take t.toNat l)) /\ rightF l = true) /\ Int.toNat ((n : Int) - t) < Int.toNat ((n : Int) - f)) (∀ (g : Option Addr) (i : Nat) (j : Mem), e.le j -> RowM j g i 1 x -> ∃ k m o, Value.tuple #[.slice g x.length i, .int .i64 0] = .tuple #[.slice k m o, .int .i64 (if rightF l = true then 0 else 20)] /\ SlM j k m 1 (List.map (Value.int .u8) (if rightF l = true then writeF l else ([] : List Int))) /\ m <= o /\ o <= 9223372036854775807))) (by kernel_rfl) ?_
 simp only [eq_self, true_and];have hl := h.len;refine (ct130 l a n c I h hn).mono fun v I0 l0 hv => ⟨_, hv, Br.mk (fun hr => ?_) (fun hr => ?_)⟩
 · have hr : rightF l = false := by simpa using hr
   rw [hr]
   exact ⟨none, 0, 0, rfl, sl_nil _ _, by omega, by omega⟩
 have hr : rightF l = true := by simpa using hr
 obtain ⟨hs, hl64⟩ := rightF_iff.1 hr
 refine ⟨⟨by omega, by omega, hr⟩, fun I1 _ l1 xs j ⟨h0, h1, h2, _⟩ => Br.mk (fun hlt => ?_) (fun hge => ?_)⟩
 · have hlt := of_decide_eq_true hlt
   obtain ⟨f, b, m, c', hf, hok, e1, e2, hsl, hm1, hm2⟩ := (h.mono (Mem.le_trans l0 l1)).at_ h0 hlt;have hra := right_at hs f (List.mem_of_getElem? hf);have hm := hsl.numLen
   have hxl : xs.length <= 16384 + 640 := by
    rw [h2, List.length_map]
    have := right_len (by omega) hs j.toNat
    omega
   refine ⟨h0, hlt, h.isSome (by omega), f.1, e1, b, m, c', e2, ⟨f.1, IntWalk.u8_in _ ⟨by omega, by omega⟩, ⟨(m : Int), IntWalk.u64_in _ ⟨by omega, by omega⟩, ?_⟩⟩⟩
   have hfl := formN_le m (by omega)
   refine ⟨by omega, by omega, by omega, (cs131 (xs ++ [Value.int .u8 f.1]) (xs.length + 1) m (by omega) (by simp) (by simp; omega) I1).mono fun v H' I2 l2 ⟨hv, hH⟩ => ?_⟩
   rw [Int.toNat_natCast] at hv hH
   refine ⟨_, _, hv, hH, ints .u8 f.2, hsl.len, hsl.nil, (hsl.mono l2).at_, one_ints, by simp [ints]; omega, by omega, by omega, wr_i64 (by omega) (by omega) ⟨by simp [ints]; omega, ⟨by omega, by omega, ?_, hr⟩, by omega⟩⟩
   rw [show (j + 1).toNat = j.toNat + 1 by omega, take_succ' hf, writeF_app, h2, hm]
   simp [writeF, ints]
 · have hge := of_decide_eq_false hge
   rw [List.take_of_length_le (by omega)] at h2
   intro a' cp I2 l2 hrow;rw [if_pos hr, if_pos hr];refine ⟨a', xs.length, cp, rfl, ?_, ?_, hrow.2.1⟩
   · rw [h2] at hrow ⊢
     exact hrow.sl (by omega) (by simp)
   · have := hrow.1; omega
theorem intN_ok {bs : List Int} (hbs : byteL bs) {at_ x n : Int} (h : intN bs at_ 0 16384 = (x, n, 0)) :
 0 <= at_ /\ 0 <= x /\ x <= 16384 /\ n = (formN x.toNat).length /\ bs.drop at_.toNat = formN x.toNat ++ bs.drop (at_ + n).toNat /\ at_ + n <= bs.length := by
 unfold intN at h
 split at h
 · rename_i hc
   injection h with _ h
   injection h with _ h
   exact absurd h hc
 · rename_i hc
   split at h
   · cases h
   · rename_i hr
     injection h with h1 h
     injection h with h2 _
     have hc : (readN bs at_).2.2 = 0 := by simpa using hc
     have hre : readN bs at_ = (x, n, 0) := by rw [<- h1, <- h2, <- hc]
     obtain ⟨g1, g2, g3, g4, g5, g6, g7⟩ := readN_back hbs hre;rw [hre] at hr
     exact ⟨g1, g3, by simp only at hr; omega, g5, g6, g7⟩
theorem intN_bad {bs : List Int} {at_ : Int} (h : (intN bs at_ 0 16384).2.2 ≠ 0) : (intN bs at_ 0 16384).1 = 0 /\ (intN bs at_ 0 16384).2.1 = 0 := by
 unfold intN at h ⊢;split
 · exact ⟨rfl, rfl⟩
 · split
   · exact ⟨rfl, rfl⟩
   · rename_i h1 h2
     rw [if_neg h1, if_neg h2] at h;exact absurd rfl h
def fstep (bs : List Int) (at_ : Nat) : Option (List Int × Nat) :=
 if (intN bs (at_ + 1) 0 16384).2.2 ≠ 0 \/ (bs.length : Int) - (at_ + 1 + (intN bs (at_ + 1) 0 16384).2.1) < (intN bs (at_ + 1) 0 16384).1 then none
 else some ((bs.drop (at_ + 1 + (intN bs (at_ + 1) 0 16384).2.1).toNat).take (intN bs (at_ + 1) 0 16384).1.toNat, (at_ + 1 + (intN bs (at_ + 1) 0 16384).2.1 + (intN bs (at_ + 1) 0 16384).1).toNat)
def yields (bs : List Int) (at_ : Nat) : List (Nat × (Int × List Int)) :=
 if h : at_ < bs.length then
  match fstep bs at_ with
  | none => [(at_, (0, []))]
  | some p => (at_, ((bs[at_]?).getD 0, p.1)) :: (if hn : at_ < p.2 then yields bs p.2 else [])
 else []
termination_by bs.length - at_
def encF (bs : List Int) (k : Nat) (args : Array Value) (I : Mem) : Prop :=
 ∃ at_ f a n c, (yields bs 0)[k]? = some (at_, f) /\ args = #[.int .i64 (at_ : Nat), .agg #[.int .i64 f.1, .slice a n c]] /\ SlM I a n 1 (ints .u8 f.2) /\ n <= c /\ c <= maxLen
theorem sl_sub {I : Mem} {a : Option Addr} {n c f t : Nat} {bs : List Int} {kd : IntKind} (h : SlM I a n 1 (ints kd bs)) (hft : f <= t) (ht : t <= n) (hc : n <= c) : SlM I (sladdr a c f 1) (t - f) 1 (ints kd ((bs.drop f).take (t - f))) := by
 have hl := h.numLen
 refine ⟨by simp [ints]; omega, fun hs => ?_, Nat.le_trans (by omega) h.max, fun j v hj => ?_⟩
 · unfold sladdr at hs
   split at hs
   · omega
   · cases a with
     | none => have := h.nil rfl; omega
     | some ad => cases hs
 · simp only [ints, List.getElem?_map, Option.map_eq_some_iff] at hj
   obtain ⟨z, hj, rfl⟩ := hj;rw [List.getElem?_take] at hj
   split at hj
   · rw [List.getElem?_drop] at hj
     have hat := h.at_ _ _ (ints_get (k := kd) hj);unfold sladdr
     rw [if_neg (by omega)]
     cases a with
     | none => have := h.nil rfl; omega
     | some ad =>
      simp only [Option.map_some, Nat.mul_one];simp only [atI, Option.bind_some] at hat ⊢;rw [add_add];exact hat
   · cases hj
theorem gives56 (bs : List Int) (hbs : byteL bs) (b : Nat) (a : Option Addr) (n c : Nat) (I : Mem) (hb : I b = some (.cells #[.slice a n c] 24)) (h : SlM I a n 1 (ints .u8 bs)) (hn : n <= 1000000) (hc : n <= c) (hm : c <= maxLen) :
 Gives Tryz.prog (.func (.func 141) #[] #[.pointer (some ⟨b, 0, none⟩)]) I (yields bs 0).length (encF bs) := by
 refine ⟨fun Y W => ⟨141, _, run_semV_func.trans (Tryz.call141 _ _)⟩, fun Y J D I0 G0 hI0 hJ0 hJ hD hY => ?_⟩
 refine viaR (ctG_via (A := { loops := [(1, ⟨[(0, .keep), (1, .keep), (3, .sh (.int .i64))], [], [], fun vals _ I' G' => match vals with
  | [.int .i64 j] => 0 <= j /\ j <= n /\ ∃ pre, yields bs 0 = pre ++ yields bs j.toNat /\ J pre.length I' G' | _ => False, fun vals _ => match vals with | [.int .i64 j] => (n - j).toNat | _ => 0⟩)], calls := [(37, .g), (52, .g)] }) Tryz.func141 rfl Tryz.call141 rfl rfl) ((Rf (SV.v Y) /\ Rf (SV.v (.pointer (some ⟨b, 0, none⟩))) /\ (0 : Int) <= 0 /\ 0 <= (n : Int) /\ ∃ p, yields bs 0 = p ++ yields bs 0 /\ J p.length I0 G0) /\ ∀ (d G : Mem), Mem.le I0 d -> ∀ (e : Int), 0 <= e /\ e <= (n : Int) /\ (∃ p, yields bs 0 = p ++ yields bs e.toNat /\ J p.length d G) -> ∃ f g i, atI d (some ⟨b, 0, none⟩) 0 = some (.slice f g i) /\ Br (decide (e < (g : Int))) (∃ j k l, atI d (some ⟨b, 0, none⟩) 0 = some (.slice j k l) /\ Wr .i64 (e + 1) fun m => Ct Tryz.prog (fnv 142) #[.slice j k l, .int .i64 m, .int .i64 0, .int .i64 16384] d fun v o => ∃ p q r, v = .tuple #[.int .i64 p, .int .i64 q, .int .i64 r] /\ Wr .i64 (e + 1) fun s => Wr .i64 (s + q) fun t => Br (r != 0) (CtH Tryz.prog Y #[.int .i64 e, .agg #[.int .i64 0, .slice none 0 0]] o G (fun u w x => ∃ y, u = .bool y /\ (J (yields bs 0).length w x \/ D w x))) (∃ u w x, atI o (some ⟨b, 0, none⟩) 0 = some (.slice u w x) /\ Wr .i64 ((w : Int) - t) fun y => Br (decide (y < p)) (CtH Tryz.prog Y #[.int .i64 e, .agg #[.int .i64 0, .slice none 0 0]] o G (fun z I1 G1 => ∃ b1, z = .bool b1 /\ (J (yields bs 0).length I1 G1 \/ D I1 G1))) (∃ z n1 c1, atI o (some ⟨b, 0, none⟩) 0 = some (.slice z n1 c1) /\ 0 <= e /\ e < (n1 : Int) /\ z.isSome = true /\ ∃ n2, atI o z (e.toNat * 1 + 0) = some (.int .u8 n2) /\ Wr .i64 n2 fun c2 => ∃ a1 n3 c3, atI o (some ⟨b, 0, none⟩) 0 = some (.slice a1 n3 c3) /\ Wr .i64 (t + p) fun c4 => 0 <= t /\ t <= c4 /\ c4 <= (c3 : Int) /\ CtH Tryz.prog Y #[.int .i64 e, .agg #[.int .i64 c2, .slice (sladdr a1 c3 t.toNat 1) (c4.toNat - t.toNat) (c3 - t.toNat)]] o G fun v1 I1 G1 => ∃ b1, v1 = .bool b1 /\ Br (!b1) (J (yields bs 0).length I1 G1 \/ D I1 G1) (Wr .i64 (t + p) (fun c5 => Rf (SV.v Y) /\ Rf (SV.v (.pointer (some ⟨b, 0, none⟩))) /\ (0 <= c5 /\ c5 <= (n : Int) /\ ∃ p1, yields bs 0 = p1 ++ yields bs c5.toNat /\ J p1.length I1 G1) /\ Int.toNat ((n : Int) - c5) < Int.toNat ((n : Int) - e)))))) (J (yields bs 0).length d G \/ D d G)) (by kernel_rfl) ?_
 simp only [eq_self, true_and];have hnl := h.numLen
 refine ⟨⟨by omega, by omega, [], by simp, hJ0⟩, fun I1 G1 l1 j ⟨h0, h1, pre, h2, h3⟩ => ?_⟩
 have hcell : ∀ {I' : Mem}, I1.le I' -> atI I' (some ⟨b, 0, none⟩) 0 = some (.slice a n c) := fun {I'} hle => by
  have := hle _ _ (l1 _ _ (hI0 _ _ hb));simp [atI, cellM, Addr.add, this]
 have hS := h.mono (Mem.le_trans hI0 l1);refine ⟨a, n, c, hcell (Mem.le_refl _), Br.mk (fun hlt => ?_) (fun hge => ?_)⟩
 · have hlt := of_decide_eq_true hlt
   obtain ⟨x, hx, hatx⟩ := hS.intAt h0 hlt;have hxr := hbs x (List.mem_of_getElem? hx)
   have hj : ((j.toNat : Nat) : Int) = j := by omega
   have hy : yields bs j.toNat = match fstep bs j.toNat with
    | none => [(j.toNat, (0, []))]
    | some p => (j.toNat, ((bs[j.toNat]?).getD 0, p.1)) :: (if hn : j.toNat < p.2 then yields bs p.2 else []) := by
    rw [yields, dif_pos (by omega)]
   have fail : ∀ {I' : Mem}, I1.le I' -> fstep bs j.toNat = none -> CtH Tryz.prog Y #[.int .i64 j, .agg #[.int .i64 0, .slice none 0 0]] I' G1 fun v I' G' => ∃ b, v = Value.bool b /\ (J (yields bs 0).length I' G' \/ D I' G') := fun {I'} hle hf => by
    rw [hf] at hy;rw [hy] at h2
    refine (hY pre.length I' G1 _ (by rw [h2]; simp) (Mem.le_trans l1 hle) (hJ _ _ _ _ h3 hle) ⟨j.toNat, (0, []), none, 0, 0, by rw [h2, List.getElem?_append_right (by omega), Nat.sub_self]; rfl, by rw [hj], sl_nil _ _, by omega, by omega⟩).mono fun v I3 G3 _ hv => ?_
    rcases hv with ⟨hv, hj⟩ | ⟨hv, hd⟩
    · refine ⟨true, hv, .inl ?_⟩
      rw [h2, List.length_append];exact hj
    · exact ⟨false, hv, .inr hd⟩
   refine ⟨a, n, c, hcell (Mem.le_refl _), wr_i64 (by omega) (by omega) ((ct142 bs hbs a n c (j + 1) 0 16384 (by omega) (by omega) (by omega) I1 hS (by omega)).mono fun v I2 l2 hv => ⟨_, _, _, hv, ?_⟩)⟩
   have hfs : fstep bs j.toNat = if (intN bs (j + 1) 0 16384).2.2 ≠ 0 \/ (bs.length : Int) - (j + 1 + (intN bs (j + 1) 0 16384).2.1) < (intN bs (j + 1) 0 16384).1 then none
    else some ((bs.drop (j + 1 + (intN bs (j + 1) 0 16384).2.1).toNat).take (intN bs (j + 1) 0 16384).1.toNat, (j + 1 + (intN bs (j + 1) 0 16384).2.1 + (intN bs (j + 1) 0 16384).1).toNat) := by
    unfold fstep; rw [hj]
   have hbad := intN_bad (bs := bs) (at_ := j + 1)
   clear hv
   generalize hr : intN bs (j + 1) 0 16384 = r at hfs hbad ⊢;obtain ⟨sz, k, e⟩ := r
   simp only at hfs hbad ⊢
   by_cases he : e = 0
   · subst he
     obtain ⟨g1, g2, g3, g4, g5, g6⟩ := intN_ok hbs hr
     have hfl := formN_le sz.toNat (by omega)
     refine wr_i64 (by omega) (by omega) (wr_i64 (by omega) (by omega) (Br.f rfl ⟨a, n, c, hcell l2, wr_i64 (by omega) (by omega) (Br.mk (fun hs => ?_) (fun hs => ?_))⟩))
     · have hs := of_decide_eq_true hs
       exact fail l2 (by rw [hfs, if_pos (.inr (by omega))])
     · have hs := of_decide_eq_false hs
       rw [if_neg (by omega)] at hfs
       rw [hfs] at hy
       simp only at hy
       rw [dif_pos (by omega), hx, Option.getD_some] at hy
       rw [hy] at h2
       refine ⟨a, n, c, hcell l2, h0, hlt, h.isSome (by omega), x, atI_le l2 hatx, wr_i64 (by omega) (by omega) ⟨a, n, c, hcell l2, wr_i64 (by omega) (by omega) ⟨by omega, by omega, by omega, ?_⟩⟩⟩
       have hsub := sl_sub (hS.mono l2) (f := (j + 1 + k).toNat) (t := (j + 1 + k + sz).toNat) (by omega) (by omega) hc
       rw [show (j + 1 + k + sz).toNat - (j + 1 + k).toNat = sz.toNat by omega] at hsub ⊢
       refine (hY pre.length I2 G1 _ (by rw [h2]; simp) (Mem.le_trans l1 l2) (hJ _ _ _ _ h3 l2) ⟨j.toNat, (x, (bs.drop (j + 1 + k).toNat).take sz.toNat), _, _, _, by rw [h2, List.getElem?_append_right (by omega), Nat.sub_self]; rfl, by rw [hj], hsub, by omega, by omega⟩).mono fun v I3 G3 _ hv => ?_
       rcases hv with ⟨hv, hj'⟩ | ⟨hv, hd⟩
       · refine ⟨true, hv, Br.f rfl (wr_i64 (by omega) (by omega) ⟨⟨by omega, by omega, pre ++ [(j.toNat, (x, (bs.drop (j + 1 + k).toNat).take sz.toNat))], by rw [h2]; simp, ?_⟩, by omega⟩)⟩
         rw [List.length_append];exact hj'
       · exact ⟨false, hv, Br.t rfl (.inr hd)⟩
   · obtain ⟨rfl, rfl⟩ := hbad he
     exact wr_i64 (by omega) (by omega) (wr_i64 (by omega) (by omega) (Br.t (by simpa using he) (fail l2 (by rw [hfs, if_pos (.inl he)]))))
 · have hge := of_decide_eq_false hge
   have hy : yields bs j.toNat = [] := by rw [yields, dif_neg (by omega)]
   rw [hy, List.append_nil] at h2;rw [h2];exact .inl h3
theorem ct106 (a : Option Addr) (n c : Nat) (I : Mem) : Ct Tryz.prog (fnv 106) #[.slice a n c] I (fun v I' => ∃ b, I' b = some (.cells #[.slice a n c] 24) /\ v = .func (.func 141) #[] #[.pointer (some ⟨b, 0, none⟩)]) := by
 refine viaR (ct_via (A := {}) Tryz.func106 rfl Tryz.call106 rfl rfl) (∀ (b : Nat) (d : Mem), I.le d -> d b = some (.cells #[.slice a n c] 24 (0, 0)) -> ∃ e, d e = some (.cells #[.slice a n c] 24 (0, 0)) /\ Value.func (.func 141) #[] #[.pointer (some ⟨b, 0, none⟩)] = .func (.func 141) #[] #[.pointer (some ⟨e, 0, none⟩)]) (by kernel_rfl) ?_
 intro b I' hI hb;exact ⟨b, hb, rfl⟩
def goF : List (Nat × (Int × List Int)) -> Int -> Int -> List (Int × List Int) -> Int × List (Int × List Int)
 | [], _, _, out => (-1, out)
 | y :: r, last, left, out => if y.2.1 <= last \/ 200 < y.2.1 \/ left < y.2.2.length \/ 64 <= out.length then ((y.1 : Int), []) else goF r y.2.1 (left - y.2.2.length) (out ++ [y.2])
def readF (bs : List Int) : List (Int × List Int) × Int × Int :=
 if 16768 < bs.length then ([], 0, 3) else if 0 <= (goF (yields bs 0) 0 16384 []).1 then ([], (goF (yields bs 0) 0 16384 []).1, 21) else ((goF (yields bs 0) 0 16384 []).2, 0, 0)
theorem yields_at : ∀ {bs : List Int} {at_ k : Nat} {y : Nat × (Int × List Int)}, (yields bs at_)[k]? = some y -> y.1 < bs.length := by
 intro bs at_
 induction hm : bs.length - at_ using Nat.strongRecOn generalizing at_ with
 | ind m ih =>
  intro k y hk;rw [yields] at hk
  split at hk
  · rename_i hlt
    split at hk
    · cases k with
      | zero => simp at hk; subst hk; exact hlt
      | succ k => simp at hk
    · cases k with
      | zero => simp at hk; subst hk; exact hlt
      | succ k =>
       simp only [List.getElem?_cons_succ] at hk
       split at hk
       · rename_i p _ hn
         exact ih (bs.length - p.2) (by omega) rfl hk
       · simp at hk
  · simp at hk
theorem yields_ok {bs : List Int} (hbs : byteL bs) : ∀ {at_ k : Nat} {y : Nat × (Int × List Int)}, (yields bs at_)[k]? = some y -> okFld y.2 := by
 intro at_
 induction hm : bs.length - at_ using Nat.strongRecOn generalizing at_ with
 | ind m ih =>
  intro k y hk;rw [yields] at hk
  split at hk
  · rename_i hlt
    split at hk
    · cases k with
      | zero => simp at hk; subst hk; exact ⟨by simp only; omega, fun z hz => by cases hz⟩
      | succ k => simp at hk
    · rename_i p hp
      cases k with
      | zero =>
       simp at hk; subst hk
       have hb := hbs _ (List.getElem_mem hlt)
       have he : bs[at_]?.getD 0 = bs[at_] := by rw [List.getElem?_eq_getElem hlt]; rfl
       refine ⟨by simp only [he]; omega, fun z hz => ?_⟩
       unfold fstep at hp
       split at hp
       · cases hp
       · cases hp
         exact hbs z (List.mem_of_mem_drop (List.mem_of_mem_take hz))
      | succ k =>
       simp only [List.getElem?_cons_succ] at hk
       split at hk
       · rename_i hn
         exact ih (bs.length - p.2) (by omega) rfl hk
       · simp at hk
  · simp at hk
def OvL (G : Mem) (a : Option Addr) (n : Nat) : Prop :=
 0 < n -> ∃ (b off : Nat) (cur : Array Value) (el : TypeId) (fz : Nat × Nat), a = some ⟨b, off, none⟩ /\ G b = some (.cells cur el fz) /\ thaw fz cur.size /\ off + n * 2 <= cur.size /\
  ∀ i, i < n -> ∃ a' n' c', cur[off + (i * 2 + 1)]? = some (.slice a' n' c') /\ n' <= c' /\ n' <= 1000000 /\ OwnS 1 G a' c' /\ ∀ b' off' sp, 0 < c' -> a' = some ⟨b', off', sp⟩ -> b' ≠ b
def NewR (I0 I : Mem) (xs : List Value) : Prop := ∀ v ∈ xs, NewB I0 I v
theorem NewR.mono {I0 I J : Mem} {xs : List Value} (h : NewR I0 I xs) (hle : I.le J) : NewR I0 J xs := fun v hv => (h v hv).mono hle
theorem NewR.nil {I0 I : Mem} : NewR I0 I [] := fun v hv => by cases hv
theorem NewR.snoc {I0 I : Mem} {xs : List Value} {k : IntKind} {t : Int} {y : Value} (h : NewR I0 I xs) (hy : NewB I0 I y) : NewR I0 I (xs ++ [.int k t, y]) := fun v hv => by
 simp only [List.mem_append, List.mem_cons, List.not_mem_nil, or_false] at hv
 rcases hv with hv | rfl | rfl
 · exact h v hv
 · exact newB_int
 · exact hy
theorem ovl_row {I0 I I' : Mem} {a : Option Addr} {cp n : Nat} {xs : List Value} {L : List (Int × List Int)} {el : TypeId} (h : RowF I I' a cp 2 xs el) (hl : I0.le I) (hle : I.le I') (hf : FR I xs L) (hn : NewR I0 I xs) (hxn : xs.length = n * 2) (G : Mem) :
 OvL (gained I0 I' G) a n := fun h0 => by
 cases a with
 | none => have := (h.row.2.2.1 rfl).1; subst this; simp at hxn; omega
 | some ad =>
  obtain ⟨h1, h2, h3, cur, fz, h4, hfz, h5⟩ := h.new ad rfl;obtain ⟨b, off, spot⟩ := ad
  simp only at h1 h2 h3 h4
  subst h2;subst h3;have hx1 := h.row.1;have hfl := hf.len
  refine ⟨b, 0, cur, el, fz, rfl, gained_new (Mem.none_of_le hl h1) h4, hfz, by omega, fun i hi => ?_⟩
  have hg : L[i]? = some L[i] := List.getElem?_eq_getElem (by omega)
  obtain ⟨g1, g2, y, g3, b', m, c', rfl, g4, g5, g6⟩ := hf.get hg;have hat := h.row.2.2.2 _ _ g3;simp only [atI, Option.bind_some, Addr.add_lit, cellM, h4, Option.isSome_none, Bool.false_eq_true, if_false] at hat;obtain ⟨hns, hnb⟩ := hn _ (List.mem_of_getElem? g3) _ _ _ rfl;refine ⟨_, _, _, hat, g5, hnb, fun hc => ?_, fun b2 off2 sp hc hb2 => ?_⟩
  · obtain ⟨b3, off3, cur3, el3, fz3, k1, k2, k3, k4⟩ := hns hc
    exact ⟨b3, off3, cur3, el3, fz3, k1, gained_new k2 (hle _ _ k3), k4⟩
  · obtain ⟨b3, off3, cur3, el3, fz3, k1, k2, k3, k4⟩ := hns hc
    rw [k1] at hb2;cases hb2;intro hbb;subst hbb;rw [h1] at k3;cases k3
theorem ovl_nil (G : Mem) (a : Option Addr) : OvL G a 0 := fun h => absurd h (by omega)
theorem ct59N (bs : List Int) (hbs : byteL bs) (a : Option Addr) (n c : Nat) (I : Mem) (h : SlM I a n 1 (ints .u8 bs)) (hn : n <= 1000000) (hc : n <= c) (hm : c <= maxLen) :
 Ct Tryz.prog (fnv 59) #[.slice a n c] I (fun v I' => ∃ a' n' c', v = .tuple #[.slice a' n' c', .int .i64 (readF bs).2.1, .int .i64 (readF bs).2.2] /\ FldM I' a' n' (readF bs).1 /\ n' <= c' /\ c' <= maxLen /\ ∀ G, OvL (gained I I' G) a' n') := by
 refine viaR (ctF_via (A := { rfs := [(8, { n := (yields bs 0).length, enc := encF bs, ps := [.sh (.int .i64), .agg [.int .i64, .sl]], pre := [(5, 2, 104)], ents := [(0, .cells [.row 4]), (1, .cells [.sh (.int .i64)]), (2, .cells [.sh (.int .i64)]), (3, .cells [.sh (.int .i64)]), (4, .row)], inv := (fun k vals xss I' _ => match vals, xss with | [.int .i64 last, .int .i64 left, .int .i64 wrong], [xs] => wrong = -1 /\ 0 <= last /\ last <= 200 /\ 0 <= left /\ left <= 16384 /\ ∃ L, FR I' xs L /\ NewR I I' xs /\ L.length <= 64 /\ goF (yields bs 0) 0 16384 [] = goF ((yields bs 0).drop k) last left L | _, _ => False), jumps := [(.exit 0, [(3, .cells [.sh (.int .i64)])], fun vals _ _ _ => match vals with | [.int .i64 wrong] => 0 <= wrong /\ goF (yields bs 0) 0 16384 [] = (wrong, []) | _ => False)] })] }) Tryz.func59 rfl Tryz.call59 rfl rfl) (let E1 := fun (x : Loop) => .loop ⟨.done, some (.exit 0), x.fn, x.tmps, x.params, x.assign, x.body, x.defers⟩
  Br (decide (16768 < (n : Int))) (∃ b d e, Value.tuple #[.slice none 0 0, .int .i64 0, .int .i64 3] = .tuple #[.slice b d e, .int .i64 (readF bs).2.1, .int .i64 (readF bs).2.2] /\ FldM I b d (readF bs).1 /\ d <= e /\ e <= 9223372036854775807 /\ ∀ (G : Mem), OvL (gained I I G) b d) (Ct Tryz.prog (fnv 106) #[.slice a n c] I (fun v b => ∃ x, v = x /\ ∀ (d e f g i j : Nat) (r : Loop), Gives Tryz.prog x b (yields bs 0).length (encF bs) /\ (∀ (k : Nat) (l : Array Value) (m : Mem), encF bs k l m -> psOk [.sh (.int .i64), .agg [.int .i64, .sl]] l.toList = true) /\ (Rf (Ent.mk (.raw (.deferred (some []))) (some i)) /\ Rf (Ent.mk (.raw (.loop ⟨.ready, none, r.fn, r.tmps, r.params, r.assign, r.body, r.defers⟩)) (some j)) /\ Rf (some d) /\ (0 : Nat) = 0 /\ Rf (some e) /\ Rf (some f) /\ Rf (some g) /\ ((d = d /\ e = e /\ f = f /\ g = g /\ i = i /\ j = j /\ True) /\ Rf (Obj.loop ⟨.ready, none, r.fn, r.tmps, r.params, r.assign, r.body, r.defers⟩)) /\ Rf (-1 : Int) /\ (0 : Int) <= 0 /\ (0 : Int) <= 200 /\ (0 : Int) <= 16384 /\ (16384 : Int) <= 16384 /\ ∃ L, FR b [] L /\ NewR I b [] /\ L.length <= 64 /\ goF (yields bs 0) 0 16384 [] = goF (List.drop 0 (yields bs 0)) 0 16384 L) /\ (∀ (k : Nat) (l : Mem), Mem -> k < (yields bs 0).length -> b.le l -> ∀ (m : List Value) (o p q : Int), q = -1 /\ 0 <= o /\ o <= 200 /\ 0 <= p /\ p <= 16384 /\ (∃ L, FR l m L /\ NewR I l m /\ L.length <= 64 /\ goF (yields bs 0) 0 16384 [] = goF (List.drop k (yields bs 0)) o p L) -> ∀ (s : Mem), l.le s -> ∀ (t u : Int) (w : Option Addr) (y z : Nat), encF bs k #[.int .i64 t, .agg #[.int .i64 u, .slice w y z]] s -> Rf (Obj.loop ⟨.ready, none, r.fn, r.tmps, r.params, r.assign, r.body, r.defers⟩) /\ Rf (some j) /\ Br (decide (u <= o)) (Rf (Obj.loop ⟨.busy, none, r.fn, r.tmps, r.params, r.assign, r.body, r.defers⟩) /\ Rf (some j) /\ Rf (Ent.mk (.raw (.deferred (some []))) (some i)) /\ Rf (Ent.mk (.raw (E1 r)) (some j)) /\ Rf (some g) /\ ((g = g /\ i = i /\ j = j /\ True) /\ Rf (E1 r)) /\ 0 <= t /\ goF (yields bs 0) 0 16384 [] = (t, [])) (Br (decide (200 < u)) (Rf (Obj.loop ⟨.busy, none, r.fn, r.tmps, r.params, r.assign, r.body, r.defers⟩) /\ Rf (some j) /\ Rf (Ent.mk (.raw (.deferred (some []))) (some i)) /\ Rf (Ent.mk (.raw (E1 r)) (some j)) /\ Rf (some g) /\ ((g = g /\ i = i /\ j = j /\ True) /\ Rf (E1 r)) /\ 0 <= t /\ goF (yields bs 0) 0 16384 [] = (t, [])) (Br (decide (p < (y : Int))) (Rf (Obj.loop ⟨.busy, none, r.fn, r.tmps, r.params, r.assign, r.body, r.defers⟩) /\ Rf (some j) /\ Rf (Ent.mk (.raw (.deferred (some []))) (some i)) /\ Rf (Ent.mk (.raw (E1 r)) (some j)) /\ Rf (some g) /\ ((g = g /\ i = i /\ j = j /\ True) /\ Rf (E1 r)) /\ 0 <= t /\ goF (yields bs 0) 0 16384 [] = (t, [])) (Br (decide (64 <= ((m.length / 2 : Nat) : Int))) (Rf (Obj.loop ⟨.busy, none, r.fn, r.tmps, r.params, r.assign, r.body, r.defers⟩) /\ Rf (some j) /\ Rf (Ent.mk (.raw (.deferred (some []))) (some i)) /\ Rf (Ent.mk (.raw (E1 r)) (some j)) /\ Rf (some g) /\ ((g = g /\ i = i /\ j = j /\ True) /\ Rf (E1 r)) /\ 0 <= t /\ goF (yields bs 0) 0 16384 [] = (t, [])) (Wr .i64 (p - (y : Int)) (fun c1 => Ct Tryz.prog (fnv 50) #[.slice w y z] s fun v1 I1 => ∃ a1 n1 c2, v1 = .slice a1 n1 c2 /\ m.length = m.length / 2 * 2 /\ m.length / 2 + 1 <= 9223372036854775807 /\ (m.length / 2 + 1) * 32 <= 140737488355328 /\ Rf (Obj.loop ⟨.busy, none, r.fn, r.tmps, r.params, r.assign, r.body, r.defers⟩) /\ Rf (some j) /\ Rf (Ent.mk (.raw (.deferred (some []))) (some i)) /\ Rf (Ent.mk (.raw (.loop ⟨.ready, none, r.fn, r.tmps, r.params, r.assign, r.body, r.defers⟩)) (some j)) /\ Rf (some d) /\ m.length / 2 + 1 = List.length (m ++ [.int .i64 u, .slice a1 n1 c2]) / 2 /\ Rf (some e) /\ Rf (some f) /\ Rf (some g) /\ ((d = d /\ e = e /\ f = f /\ g = g /\ i = i /\ j = j /\ True) /\ Rf (Obj.loop ⟨.ready, none, r.fn, r.tmps, r.params, r.assign, r.body, r.defers⟩)) /\ q = -1 /\ 0 <= u /\ u <= 200 /\ 0 <= c1 /\ c1 <= 16384 /\ ∃ L, FR I1 (m ++ [.int .i64 u, .slice a1 n1 c2]) L /\ NewR I I1 (m ++ [.int .i64 u, .slice a1 n1 c2]) /\ L.length <= 64 /\ goF (yields bs 0) 0 16384 [] = goF (List.drop (k + 1) (yields bs 0)) u c1 L)))))) /\ (∀ (k : Mem), Mem -> b.le k -> ∀ (l : List Value) (m o p : Int), p = -1 /\ 0 <= m /\ m <= 200 /\ 0 <= o /\ o <= 16384 /\ (∃ L, FR k l L /\ NewR I k l /\ L.length <= 64 /\ goF (yields bs 0) 0 16384 [] = goF (List.drop (yields bs 0).length (yields bs 0)) m o L) -> ∀ (q : Mem), k.le q -> Br (decide (0 <= p)) (∃ s t u, Value.tuple #[.slice none 0 0, .int .i64 p, .int .i64 21] = .tuple #[.slice s t u, .int .i64 (readF bs).2.1, .int .i64 (readF bs).2.2] /\ FldM q s t (readF bs).1 /\ t <= u /\ u <= 9223372036854775807 /\ ∀ (G : Mem), OvL (gained I q G) s t) (∀ (s : Option Addr) (t : Nat) (u : Mem), q.le u -> RowF q u s t 2 l 104 -> ∃ w y z, Value.tuple #[.slice s (l.length / 2) t, .int .i64 0, .int .i64 0] = .tuple #[.slice w y z, .int .i64 (readF bs).2.1, .int .i64 (readF bs).2.2] /\ FldM u w y (readF bs).1 /\ y <= z /\ z <= 9223372036854775807 /\ ∀ (G : Mem), OvL (gained I u G) w y)) /\ ∀ (k : Mem), Mem -> b.le k -> ∀ (l : Int), 0 <= l /\ goF (yields bs 0) 0 16384 [] = (l, []) -> ∀ (m : Mem), k.le m -> Br (decide (0 <= l)) (∃ o p q, Value.tuple #[.slice none 0 0, .int .i64 l, .int .i64 21] = .tuple #[.slice o p q, .int .i64 (readF bs).2.1, .int .i64 (readF bs).2.2] /\ FldM m o p (readF bs).1 /\ p <= q /\ q <= 9223372036854775807 /\ ∀ (G : Mem), OvL (gained I m G) o p) False))) (by kernel_rfl) ?_
 intro E1;simp only [eq_self, true_and];have hnl := h.numLen
 refine Br.mk (fun hlong => ?_) (fun hlong => (ct106 a n c I).mono fun v I1 l1 ⟨b, hb, hv⟩ => ⟨_, rfl, fun _ _ _ _ bd br rc => ⟨?_, ?_, ⟨by omega, by omega, by omega, by omega, [], trivial, NewR.nil, by simp, rfl⟩, ?_, ?_, ?_⟩⟩)
 · have hlong := of_decide_eq_true hlong
   have : readF bs = ([], 0, 3) := by rw [readF, if_pos (by omega)]
   rw [this]
   exact ⟨none, 0, 0, rfl, fldM_nil _, by omega, by omega, fun G => ovl_nil _ _⟩
 · subst hv; exact gives56 bs hbs b a n c I1 hb (h.mono l1) hn hc hm
 · rintro k args I2 ⟨at_, f, a1, n1, c1, _, rfl, _⟩; rfl
 · rintro k I2 G2 hk l2 xs last left wrong ⟨hw, h0, h1, h2, h3, L, h4, hnr, h5, h6⟩ I3 l3 at_ t0 a1 n1 c1 ⟨at', f, a2, n2, c2, hy, hargs, hsl, hnc, hcm⟩
   obtain ⟨t, body⟩ := f;cases hargs;have hok := yields_ok hbs hy;have hat := yields_at hy;have hlen : n1 = body.length := hsl.numLen;have hxl := h4.len;rw [drop_cons hy] at h6
   have bad : (t <= last \/ 200 < t \/ left < body.length \/ 64 <= L.length) -> 0 <= ((at' : Nat) : Int) /\ goF (yields bs 0) 0 16384 [] = (((at' : Nat) : Int), []) := fun hc => by
    rw [goF, if_pos hc] at h6
    exact ⟨by omega, h6⟩
   refine Br.mk (fun e1 => bad (.inl (of_decide_eq_true e1))) (fun e1 => Br.mk (fun e2 => bad (.inr (.inl (of_decide_eq_true e2)))) (fun e2 => Br.mk (fun e3 => bad (.inr (.inr (.inl ?_)))) (fun e3 => Br.mk (fun e4 => bad (.inr (.inr (.inr ?_)))) (fun e4 => ?_))))
   · have := of_decide_eq_true e3; omega
   · have := of_decide_eq_true e4; omega
   · have e1 := of_decide_eq_false e1
     have e2 := of_decide_eq_false e2;have e3 := of_decide_eq_false e3;have e4 := of_decide_eq_false e4
     rw [goF, if_neg (by simp only; omega)] at h6
     simp only at h6
     have hb1 : n1 <= 1000000 := by omega
     have hleft : 0 <= left - n1 /\ left - n1 <= 16384 := by omega
     rw [<- hlen] at h6;have hsn : ∀ {I4 : Mem} {y : Value}, I3.le I4 -> BySl I4 y body -> FR I4 (xs ++ [.int .i64 t, y]) (L ++ [(t, body)]) := fun hle hy => FR.snoc (h4.mono (Mem.le_trans l3 hle)) ⟨hok, rfl, hy⟩;have hns : ∀ {I4 : Mem} {y : Value}, I3.le I4 -> NewB I3 I4 y -> NewR I I4 (xs ++ [.int .i64 t, y]) := fun hle hy => NewR.snoc (hnr.mono (Mem.le_trans l3 hle)) (hy.anti (Mem.le_trans l1 (Mem.le_trans l2 l3)))
     have q1 : xs.length = xs.length / 2 * 2 := by omega
     have q2 : xs.length / 2 + 1 <= 9223372036854775807 := by omega
     have q3 : (xs.length / 2 + 1) * 32 <= 140737488355328 := by omega
     have q4 : ∀ y, xs.length / 2 + 1 = (xs ++ [Value.int IntKind.i64 t, y]).length / 2 := fun y => by simp
     have q5 : (L ++ [(t, body)]).length <= 64 := by simp; omega
     refine wr_i64 (by omega) (by omega) ((ct50N body _ _ _ I3 hsl hb1).mono fun v I4 l4 ⟨hv, hvn⟩ => ?_)
     all_goals
      have hv2 := hv;obtain ⟨b2, m2, c2, rfl, _⟩ := hv
      first
       | exact ⟨_, _, _, rfl, q1, q2, q3, q4 _, hw, by omega, by omega, hleft.1, hleft.2, _, hsn l4 hv2, hns l4 hvn, q5, h6⟩
       | exact ⟨_, _, _, rfl, ⟨q1, q2, q3, q4 _, hw, by omega, by omega, hleft.1, hleft.2, _, hsn l4 hv2, hns l4 hvn, q5, h6⟩, q1, q2, q3, q4 _, hw, by omega, by omega, hleft.1, hleft.2, _, hsn l4 hv2, hns l4 hvn, q5, h6⟩
 · rintro I2 G2 l2 xs last left wrong ⟨hw, h0, h1, h2, h3, L, h4, hnr, h5, h6⟩ I3 l3
   rw [List.drop_length, goF] at h6;have hlong := of_decide_eq_false hlong
   have : readF bs = (L, 0, 0) := by rw [readF, if_neg (by omega), h6]; rfl
   rw [this]
   refine Br.f (by subst hw; rfl) fun a2 cp I4 l4 hrow => ?_
   obtain ⟨a3, n3, c3, e1, e2, e3, e4⟩ := fr_row hrow.row (h4.mono (Mem.le_trans l3 l4));cases e1;have hxl := h4.len
   exact ⟨_, _, _, rfl, e2, e3, e4, fun G => ovl_row hrow (Mem.le_trans l1 (Mem.le_trans l2 l3)) l4 (h4.mono l3) (hnr.mono l3) (by omega) G⟩
 · rintro I2 G2 l2 wrong ⟨hw, h6⟩ I3 l3
   have hlong := of_decide_eq_false hlong
   have : readF bs = ([], wrong, 21) := by rw [readF, if_neg (by omega), h6, if_pos hw]
   rw [this]
   exact Br.t (by simpa using hw) ⟨none, 0, 0, rfl, fldM_nil _, by omega, by omega, fun G => ovl_nil _ _⟩
theorem ct59 (bs : List Int) (hbs : byteL bs) (a : Option Addr) (n c : Nat) (I : Mem) (h : SlM I a n 1 (ints .u8 bs)) (hn : n <= 1000000) (hc : n <= c) (hm : c <= maxLen) :
 Ct Tryz.prog (fnv 59) #[.slice a n c] I (fun v I' => ∃ a' n' c', v = .tuple #[.slice a' n' c', .int .i64 (readF bs).2.1, .int .i64 (readF bs).2.2] /\ FldM I' a' n' (readF bs).1 /\ n' <= c' /\ c' <= maxLen) :=
 (ct59N bs hbs a n c I h hn hc hm).mono fun _ _ _ ⟨a', n', c', h1, h2, h3, h4, _⟩ => ⟨a', n', c', h1, h2, h3, h4⟩
theorem ct131 (x : Int) (h : 0 <= x /\ x <= 18446744073709551615) (I : Mem) :
 Ct Tryz.prog (fnv 131) #[.slice none 0 0, .int .u64 x] I (fun v I' => BySl I' v (formN x.toNat)) := by
 refine viaR (ct_via (A := { loops := [(6, ⟨[(0, .keep), (1, .sh (.int .u64)), (5, .keep), (6, .keep), (7, .sh (.int .i64))], [(0, .vec)], [], fun vals xss _ _ => match vals, xss with
  | [.int .u64 v1, .int .i64 v7], [ys] => ∃ K : Nat, K <= digN x.toNat /\ v7 = (digN x.toNat : Int) - 1 - K /\ v1 = ((x.toNat / 256 ^ K : Nat) : Int) /\ ys = stA (digN x.toNat) K x.toNat | _, _ => False, fun vals _ => match vals with | [_, .int .i64 v7] => (v7 + 1).toNat | _ => 0⟩)] }) Tryz.func131 rfl Tryz.call131 rfl rfl) (Ct Tryz.prog (fnv 166) #[.int .u64 x] I fun v a => ∃ n, v = .int .i64 n /\ Br (n == 1) (Wr .u8 x (fun c => (1 : Nat) <= 9223372036854775807 /\ (1 : Nat) <= 140737488355328 /\ ∀ (b : Option Addr) (d : Nat) (e : Mem), a.le e -> RowM e b d 1 [.int .u8 c] -> ∃ f m g, Value.slice b 1 d = .slice f m g /\ SlM e f m 1 (List.map (Value.int .u8) (formN x.toNat)) /\ m <= g /\ g <= 9223372036854775807)) (Wr .i64 (n - 2) (fun c => (Rf (none : Option Nat) /\ Rf (SV.v (.slice none 0 0)) /\ Rf (SV.v (.int .i64 n)) /\ Rf (SV.ptr 0 0) /\ ∃ K, K <= digN x.toNat /\ c = (digN x.toNat : Int) - 1 - (K : Int) /\ x = ((x.toNat / 256 ^ K : Nat) : Int) /\ [Value.int .u8 0, .int .u8 0, .int .u8 0, .int .u8 0, .int .u8 0, .int .u8 0, .int .u8 0, .int .u8 0] = stA (digN x.toNat) K x.toNat) /\ ∀ (b : Mem), Mem -> a.le b -> ∀ (d : List Value) (e f : Int), (∃ K, K <= digN x.toNat /\ f = (digN x.toNat : Int) - 1 - (K : Int) /\ e = ((x.toNat / 256 ^ K : Nat) : Int) /\ d = stA (digN x.toNat) K x.toNat) -> Br (decide (0 <= f)) (Wr .u8 e (fun g => 0 <= f /\ f < 8 /\ 0 + f.toNat * 1 + 1 <= d.length /\ (0 : Int) <= 8 /\ Wr .i64 (f - 1) fun i => Rf (none : Option Nat) /\ Rf (SV.v (.slice none 0 0)) /\ Rf (SV.v (.int .i64 n)) /\ Rf (SV.ptr 0 0) /\ (∃ K, K <= digN x.toNat /\ i = (digN x.toNat : Int) - 1 - (K : Int) /\ e.fdiv 256 = ((x.toNat / 256 ^ K : Nat) : Int) /\ splice d (0 + f.toNat * 1) [.int .u8 g] = stA (digN x.toNat) K x.toNat) /\ Int.toNat (i + 1) < Int.toNat (f + 1))) (Wr .i64 (246 + n) (fun g => Wr .i64 (g - 1) fun i => Wr .u8 i fun j => Wr .i64 (n - 1) fun k => 0 <= k /\ k <= 8 /\ (1 : Nat) <= 9223372036854775807 /\ (1 : Nat) <= 140737488355328 /\ 0 + k.toNat * 1 <= d.length /\ (∀ (l : Value), Membership.mem (List.take (k.toNat * 1) d) l -> l.oneCell' = true) /\ (1 : Nat) = 1 /\ 1 + k.toNat <= 9223372036854775807 /\ (1 + k.toNat) * 1 <= 140737488355328 /\ ∀ (l : Option Addr) (m : Nat) (o : Mem), b.le o -> RowM o l m 1 (.int .u8 j :: List.append ([] : List Value) (List.take (k.toNat * 1) (List.drop 0 d))) -> ∃ p q r, Value.slice l (1 + k.toNat) m = .slice p q r /\ SlM o p q 1 (List.map (Value.int .u8) (formN x.toNat)) /\ q <= r /\ r <= 9223372036854775807))))) (by kernel_rfl) ?_
 simp only [eq_self, true_and]
 have hX : x.toNat < 256 ^ 8 := by omega
 have hd8 : digN x.toNat <= 8 := digN_le hX;refine (ct166 x h I).mono fun v I1 _ hv => ⟨_, hv, Br.mk (fun h1 => ?_) (fun h1 => ?_)⟩
 · have h1 : (sizeN x.toNat : Int) = 1 := by simpa using h1
   have hle : x.toNat <= 246 := by
    rcases Nat.lt_or_ge 246 x.toNat with hgt | hle
    · rw [sizeN, if_neg (by omega), digN_pos (by omega)] at h1
      omega
    · exact hle
   have hf : formN x.toNat = [x] := by rw [formN, if_pos hle]; congr 1; omega
   rw [hf]
   exact ⟨x, IntWalk.u8_in x ⟨h.1, by omega⟩, by omega, by omega, fun a cp I2 _ hrow => row_bysl (xs := [x]) hrow rfl⟩
 · have hgt : 246 < x.toNat := by
    rcases Nat.lt_or_ge 246 x.toNat with hgt | hle
    · exact hgt
    · rw [sizeN, if_pos hle] at h1
      simp at h1
   have hs : sizeN x.toNat = 1 + digN x.toNat := by rw [sizeN, if_neg (by omega)]
   have hd1 : 1 <= digN x.toNat := by rw [digN_pos (by omega)]; omega
   have hf : formN x.toNat = ((246 + digN x.toNat : Nat) : Int) :: be (digN x.toNat) x.toNat := by rw [formN, if_neg (by omega)]
   rw [hs, hf];generalize hdd : digN x.toNat = d at hd8 hd1 ⊢
   refine wr_i64 (by omega) (by omega) ⟨⟨0, by omega, by omega, by simp; omega, ?_⟩, fun I2 G2 _ ys v1 v7 ⟨K, k1, k2, k3, k4⟩ => Br.mk (fun hge => ?_) (fun hlt => ?_)⟩
   · show List.replicate 8 (Value.int .u8 0) = _
     rw [stA, be];simp only [ints, List.map_nil, List.append_nil, zs8, List.replicate_append_replicate]
     congr 1; omega
   · have hge := of_decide_eq_true hge
     have hv7 : v7.toNat = d - 1 - K := by omega
     have hq : x.toNat / 256 ^ K / 256 = x.toNat / 256 ^ (K + 1) := by rw [Nat.div_div_eq_div_mul, Nat.pow_succ]
     have hfd : v1.fdiv 256 = v1 / 256 := Int.fdiv_eq_ediv_of_nonneg _ (by decide)
     refine ⟨((x.toNat / 256 ^ K % 256 : Nat) : Int), by rw [IntKind.wrap_u8, k3]; omega, hge, by omega, ?_, by omega, wr_i64 (by omega) (by omega) ⟨⟨K + 1, by omega, by omega, by rw [hfd, k3, <- hq]; omega, ?_⟩, by omega⟩⟩
     · rw [k4, stA]; simp [zs8, ints_len, be_len]; omega
     · rw [show 0 + v7.toNat * 1 = d - 1 - K by omega, k4]
       exact stA_step (by omega) hd8
   · have hlt := of_decide_eq_false hlt
     obtain rfl : K = d := by omega
     have hys : ys = ints .u8 (be K x.toNat) ++ zs8 (8 - K) := by rw [k4, stA]; simp [zs8]
     have ht : ys.take K = ints .u8 (be K x.toNat) := by rw [hys, List.take_left' (by rw [ints_len, be_len])]
     have hylen : ys.length = 8 := by rw [hys]; simp [zs8, ints_len, be_len]; omega
     refine wr_i64 (by omega) (by omega) (wr_i64 (by omega) (by omega) ⟨((246 + K : Nat) : Int), by rw [IntWalk.u8_in _ ⟨by omega, by omega⟩]; omega, wr_i64 (by omega) (by omega) ?_⟩)
     rw [show ((1 + K : Nat) : Int) - 1 = (K : Int) by omega, Int.toNat_natCast, show K * 1 = K from Nat.mul_one K, ht]
     refine ⟨by omega, by omega, by omega, by omega, by omega, one_ints, by omega, by omega, fun a cp I3 _ hrow => ?_⟩
     have hrow : RowM I3 a cp 1 (ints .u8 (((246 + K : Nat) : Int) :: be K x.toNat)) := by
      change RowM I3 a cp 1 (Value.int .u8 ((246 + K : Nat) : Int) :: ys.take K) at hrow
      rw [ht] at hrow;exact hrow
     exact row_bysl hrow (by simp [be_len]; omega)
theorem ct60 (f : Int × List Int) (hok : okFld f) (b : Option Addr) (m c : Nat) (I : Mem) (h : SlM I b m 1 (ints .u8 f.2)) (hl : m <= 1000000) :
 Ct Tryz.prog (fnv 60) #[.agg #[.int .i64 f.1, .slice b m c]] I (fun v _ => v = .tuple #[.int .u64 (lastN f.2).1, .int .i64 (lastN f.2).2.2]) := by
 refine viaR (ct_via (A := {}) Tryz.func60 rfl Tryz.call60 rfl rfl) (Ct Tryz.prog (fnv 107) #[.slice b m c] I fun v a => ∃ n d e, v = .tuple #[.int .u64 n, .int .i64 d, .int .i64 e] /\ Value.tuple #[.int .u64 n, .int .i64 e] = .tuple #[.int .u64 (lastN f.2).1, .int .i64 (lastN f.2).2.2]) (by kernel_rfl) ?_
 exact (ct107 f.2 hok.2 _ _ _ I h (by omega)).mono fun v I1 _ hv => ⟨_, _, _, hv, rfl⟩
theorem ct134 (t : Int) (x : Int) (h : 0 <= x /\ x <= 18446744073709551615) (I : Mem) :
 Ct Tryz.prog (fnv 134) #[.int .i64 t, .int .u64 x] I (fun v I' => ∃ y, v = .agg #[.int .i64 t, y] /\ BySl I' y (formN x.toNat)) := by
 refine viaR (ct_via (A := {}) Tryz.func134 rfl Tryz.call134 rfl rfl) (Ct Tryz.prog (fnv 131) #[.slice none 0 0, .int .u64 x] I fun v a => ∃ b n c, v = .slice b n c /\ ∃ y, Value.agg #[.int .i64 t, .slice b n c] = .agg #[.int .i64 t, y] /\ ∃ d m e, y = .slice d m e /\ SlM a d m 1 (List.map (Value.int .u8) (formN x.toNat)) /\ m <= e /\ e <= 9223372036854775807) (by kernel_rfl) ?_
 refine (ct131 x h I).mono fun v I1 _ hv => ?_;have hv2 := hv;obtain ⟨b, m, c, rfl, _⟩ := hv;exact ⟨_, _, _, rfl, _, rfl, hv2⟩
theorem fstep_form (pre rest : List Int) (f : Int × List Int) (h : f.2.length <= 16384) :
 fstep (pre ++ (f.1 :: (formN f.2.length ++ (f.2 ++ rest)))) pre.length = some (f.2, pre.length + 1 + (formN f.2.length).length + f.2.length) := by
 have e : pre ++ (f.1 :: (formN f.2.length ++ (f.2 ++ rest))) = (pre ++ [f.1]) ++ (formN f.2.length ++ (f.2 ++ rest)) := by simp
 have hr := readN_form (pre ++ [f.1]) (f.2 ++ rest) f.2.length (by omega)
 have hp : ((pre ++ [f.1]).length : Int) = (pre.length : Int) + 1 := by simp
 rw [<- e, hp] at hr
 have hi : intN (pre ++ (f.1 :: (formN f.2.length ++ (f.2 ++ rest)))) ((pre.length : Nat) + 1) 0 16384 = ((f.2.length : Int), ((formN f.2.length).length : Int), 0) := by
  unfold intN
  rw [hr, if_neg (by simp), if_neg (by simp only; omega)]
 have hl : (pre ++ (f.1 :: (formN f.2.length ++ (f.2 ++ rest)))).length = pre.length + 1 + (formN f.2.length).length + f.2.length + rest.length := by simp; omega
 unfold fstep
 rw [hi, if_neg (by simp only [hl]; omega)]
 simp only [Int.toNat_natCast]
 have hd : (pre ++ (f.1 :: (formN f.2.length ++ (f.2 ++ rest)))).drop ((pre.length : Int) + 1 + ((formN f.2.length).length : Int)).toNat = f.2 ++ rest := by
  have e2 : pre ++ (f.1 :: (formN f.2.length ++ (f.2 ++ rest))) = (pre ++ [f.1] ++ formN f.2.length) ++ (f.2 ++ rest) := by simp
  rw [e2, List.drop_left' (by simp; omega)]
 rw [hd, List.take_left' rfl]
 congr 2
theorem yields_form (pre : List Int) (f : Int × List Int) (r : List (Int × List Int)) (h : f.2.length <= 16384) :
 yields (pre ++ writeF (f :: r)) pre.length = (pre.length, f) :: yields ((pre ++ writeF [f]) ++ writeF r) (pre ++ writeF [f]).length := by
 have e : writeF (f :: r) = f.1 :: (formN f.2.length ++ (f.2 ++ writeF r)) := writeF_cons f r
 have e1 : writeF [f] = f.1 :: (formN f.2.length ++ f.2) := by rw [writeF_cons]; simp [writeF]
 have e2 : (pre ++ writeF [f]) ++ writeF r = pre ++ writeF (f :: r) := by rw [e, e1]; simp
 have hn : (pre ++ writeF [f]).length = pre.length + 1 + (formN f.2.length).length + f.2.length := by rw [e1]; simp; omega
 rw [e2, hn]
 rw [yields, dif_pos (by rw [e]; simp)]
 have hfs := fstep_form pre (writeF r) f h;rw [<- e] at hfs;rw [hfs]
 simp only
 rw [dif_pos (by omega)]
 congr 2
 rw [List.getElem?_append_right (by omega), Nat.sub_self, e]; rfl
theorem goF_write : ∀ (r : List (Int × List Int)) (pre : List Int) (last left : Int) (out : List (Int × List Int)), left <= 16384 -> rightStep last left r = true -> out.length + r.length <= 64 ->
 goF (yields (pre ++ writeF r) pre.length) last left out = (-1, out ++ r)
 | [], pre, last, left, out, _, _, _ => by
  rw [yields, dif_neg (by simp [writeF]), goF]; simp
 | f :: r, pre, last, left, out, hl, h, hn => by
  rw [rightStep] at h
  split at h
  · cases h
  · rename_i hc
    rw [yields_form pre f r (by omega), goF, if_neg (by simp only; simp at hn; omega)]
    simp only
    rw [goF_write r (pre ++ writeF [f]) f.1 (left - f.2.length) (out ++ [f]) (by omega) h (by simp at hn ⊢; omega)]
    simp
theorem write_len {l : List (Int × List Int)} (h : rightF l = true) : (writeF l).length <= 16384 + 640 := by
 obtain ⟨h1, h2⟩ := rightF_iff.1 h
 have h3 := right_len (by omega) h1 l.length
 rw [List.take_length] at h3;omega
theorem write_len2 : ∀ {l : List (Int × List Int)} {last left : Int}, left <= 16384 -> 0 <= left -> rightStep last left l = true -> ((writeF l).length : Int) <= left + 6 * l.length
 | [], last, left, _, h0, _ => by simp [writeF]; omega
 | g :: r, last, left, hl, h0, h => by
  rw [rightStep] at h
  split at h
  · cases h
  · rename_i hc
    have ih := write_len2 (by omega) (by omega) h
    have h3 : (formN g.2.length).length <= 3 := by
     rw [formN_len, sizeN]
     have : digN g.2.length <= 2 := digN_le (by omega)
     split <;> omega
    rw [writeF_cons];simp only [List.length_cons, List.length_append];omega
theorem read_write {l : List (Int × List Int)} (h : rightF l = true) : readF (writeF l) = (l, 0, 0) := by
 obtain ⟨h1, h2⟩ := rightF_iff.1 h
 have h3 := write_len2 (by omega) (by omega) h1
 have hg := goF_write l [] 0 16384 [] (by omega) h1 (by simp; omega)
 simp only [List.nil_append, List.length_nil] at hg
 rw [readF, if_neg (by omega), hg]
 rfl
theorem write_bytes {l : List (Int × List Int)} (hr : rightF l = true) (hok : ∀ f ∈ l, okFld f) : byteL (writeF l) := fun z hz => by
 obtain ⟨h1, _⟩ := rightF_iff.1 hr;simp only [writeF, List.mem_flatMap] at hz;obtain ⟨f, hf, hz⟩ := hz;have hra := right_at h1 f hf
 rcases List.mem_cons.1 hz with rfl | hz
 · omega
 · rcases List.mem_append.1 hz with hz | hz
   · exact formN_bytes (by omega) z hz
   · exact (hok f hf).2 z hz
theorem fstep_some {bs : List Int} (hbs : byteL bs) {at_ : Nat} {p : List Int × Nat} (h : fstep bs at_ = some p) :
 at_ < p.2 /\ p.2 <= bs.length /\ p.1.length <= 16384 /\ bs.drop (at_ + 1) = formN p.1.length ++ (p.1 ++ bs.drop p.2) := by
 unfold fstep at h
 split at h
 · cases h
 · rename_i hc
   have he : (intN bs (at_ + 1) 0 16384).2.2 = 0 := by
    rcases Int.instDecidableEq (intN bs (at_ + 1) 0 16384).2.2 0 with hne | he
    · exact absurd (.inl hne) hc
    · exact he
   generalize hr : intN bs (at_ + 1) 0 16384 = r at h hc he;obtain ⟨sz, k, e⟩ := r
   simp only at he hc h
   subst he;obtain ⟨g1, g2, g3, g4, g5, g6⟩ := intN_ok hbs hr
   have hfl := formN_le sz.toNat (by omega)
   have hsz : ¬((bs.length : Int) - (at_ + 1 + k) < sz) := fun hx => hc (.inr hx);cases h
   simp only
   have hlen : ((bs.drop ((at_ : Int) + 1 + k).toNat).take sz.toNat).length = sz.toNat := by simp; omega
   refine ⟨by omega, by omega, by omega, ?_⟩
   rw [hlen]
   have e1 : ((at_ : Int) + 1).toNat = at_ + 1 := by omega
   rw [e1] at g5;rw [g5]
   congr 1
   have e2 : ((at_ : Int) + 1 + k + sz).toNat = ((at_ : Int) + 1 + k).toNat + sz.toNat := by omega
   rw [e2, <- List.drop_drop, List.take_append_drop]
theorem goF_back {bs : List Int} (hbs : byteL bs) : ∀ {at_ : Nat} {last left : Int} {out L : List (Int × List Int)}, 0 <= last -> at_ <= bs.length -> out.length <= 64 -> goF (yields bs at_) last left out = (-1, L) ->
 ∃ r, L = out ++ r /\ rightStep last left r = true /\ bs.drop at_ = writeF r /\ L.length <= 64 := by
 intro at_
 induction hm : bs.length - at_ using Nat.strongRecOn generalizing at_ with
 | ind m ih =>
  intro last left out L h0 hat hout h;rw [yields] at h
  split at h
  · rename_i hlt
    split at h
    · rw [goF, if_pos (.inl h0)] at h
      injection h with h1
      omega
    · rename_i p hp
      obtain ⟨g1, g2, g3, g4⟩ := fstep_some hbs hp;rw [goF] at h
      split at h
      · injection h with h1
        simp only at h1
        omega
      · rename_i hc
        simp only at hc h
        have hb : (bs[at_]?).getD 0 = bs[at_] := by rw [List.getElem?_eq_getElem hlt]; rfl
        rw [hb] at hc h
        obtain ⟨r, r1, r2, r3, r4⟩ := ih (bs.length - p.2) (by omega) rfl (by omega) g2 (by simp; omega) h
        refine ⟨(bs[at_], p.1) :: r, by rw [r1]; simp, ?_, ?_, r4⟩
        · rw [rightStep, if_neg (by simp only; omega)]
          exact r2
        · rw [List.drop_eq_getElem_cons hlt, g4, writeF_cons, r3]
  · rw [goF] at h
    cases h
    refine ⟨[], by simp, rfl, ?_, hout⟩
    rw [List.drop_eq_nil_of_le (by omega)]; rfl
theorem goF_sign : ∀ {ys : List (Nat × (Int × List Int))} {last left : Int} {out : List (Int × List Int)}, (goF ys last left out).1 = -1 \/ (0 <= (goF ys last left out).1 /\ (goF ys last left out).2 = [])
 | [], _, _, _ => .inl rfl
 | y :: r, last, left, out => by
  rw [goF];split
  · exact .inr ⟨by simp, rfl⟩
  · exact goF_sign
theorem read_cases (bs : List Int) (hbs : byteL bs) : ((readF bs).2.2 = 0 /\ (readF bs).2.1 = 0 /\ rightF (readF bs).1 = true /\ writeF (readF bs).1 = bs) \/ ((readF bs).1 = [] /\ ((readF bs).2.2 = 3 /\ 16768 < bs.length \/ (readF bs).2.2 = 21)) := by
 unfold readF;split
 · exact .inr ⟨rfl, .inl ⟨rfl, by assumption⟩⟩
 · split
   · exact .inr ⟨rfl, .inr rfl⟩
   · rename_i h1 h2
     have hs := goF_sign (ys := yields bs 0) (last := 0) (left := 16384) (out := [])
     have hw : (goF (yields bs 0) 0 16384 []).1 = -1 := by omega
     obtain ⟨r, r1, r2, r3, r4⟩ := goF_back hbs (at_ := 0) (last := 0) (left := 16384) (out := []) (L := (goF (yields bs 0) 0 16384 []).2) (by omega) (by omega) (by simp) (by rw [<- hw])
     rw [List.nil_append] at r1;rw [List.drop_zero] at r3
     refine .inl ⟨rfl, rfl, rightF_iff.2 ⟨by rw [r1]; exact r2, r4⟩, by simp only [r1]; exact r3.symm⟩
theorem ct62 (b : Nat) (I : Mem) :
 Ct Tryz.prog (fnv 62) #[.pointer (some ⟨b, 0, none⟩)] I (fun v _ => v = .agg #[.pointer none, .pointer none, .pointer none, .pointer (some ⟨b, 3, none⟩), .pointer (some ⟨b, 4, none⟩), .pointer (some ⟨b, 5, none⟩), .pointer (some ⟨b, 6, none⟩), .pointer (some ⟨b, 7, none⟩), .pointer (some ⟨b, 8, none⟩), .pointer (some ⟨b, 9, none⟩), .pointer none, .pointer none]) := by
 refine viaR (ct_via (A := { }) Tryz.func62 rfl Tryz.call62 rfl rfl) (true = true /\ true = true /\ true = true /\ true = true /\ true = true /\ true = true /\ true = true /\ true = true /\ true = true /\ true = true /\ true = true /\ true = true /\ true = true /\ true = true /\ Rf (Value.agg #[.pointer none, .pointer none, .pointer none, .pointer (some ⟨b, 3, none⟩), .pointer (some ⟨b, 4, none⟩), .pointer (some ⟨b, 5, none⟩), .pointer (some ⟨b, 6, none⟩), .pointer (some ⟨b, 7, none⟩), .pointer (some ⟨b, 8, none⟩), .pointer (some ⟨b, 9, none⟩), .pointer none, .pointer none])) (by kernel_rfl) ?_
 simp only [and_self]
theorem cs62 (b : Nat) (x0 x1 x2 x3 x4 x5 x6 x7 x8 x9 x10 x11 : Value) (I : Mem) :
 CtS Tryz.prog (.v (fnv 62)) [.ptr 0 0] [⟨.cells [.v x0, .v x1, .v x2, .v x3, .v x4, .v x5, .v x6, .v x7, .v x8, .v x9, .v x10, .v x11] 26, some b⟩] I (fun v H' _ => v = .agg [.v (.pointer none), .v (.pointer none), .v (.pointer none), .ptr 0 3, .ptr 0 4, .ptr 0 5, .ptr 0 6, .ptr 0 7, .ptr 0 8, .ptr 0 9, .v (.pointer none), .v (.pointer none)] /\ H' = [⟨.cells [.v x0, .v x1, .v x2, .v x3, .v x4, .v x5, .v x6, .v x7, .v x8, .v x9, .v x10, .v x11] 26, some b⟩]) := by
 refine viaR (ctS_via (A := { }) Tryz.func62 rfl Tryz.call62 [0] rfl) (Rf (SV.agg [.v (.pointer none), .v (.pointer none), .v (.pointer none), .ptr 0 3, .ptr 0 4, .ptr 0 5, .ptr 0 6, .ptr 0 7, .ptr 0 8, .ptr 0 9, .v (.pointer none), .v (.pointer none)]) /\ Rf [Ent.mk (.cells [.v x0, .v x1, .v x2, .v x3, .v x4, .v x5, .v x6, .v x7, .v x8, .v x9, .v x10, .v x11] 26) (some b)]) (by kernel_rfl) ?_
 exact ⟨rfl, rfl⟩
def foldZ (x : Int) : Int := if 0 <= x then 2 * x else -2 * x - 1
def unfoldZ (y : Int) : Int := if y % 2 = 0 then y / 2 else -(y / 2) - 1
theorem w64 (x : Int) : IntKind.u64.wrap x = x % 18446744073709551616 := rfl
theorem nat64 (x : Int) : (BitVec.ofInt 64 x).toNat = (x % 18446744073709551616).toNat := by
 rw [BitVec.toNat_ofInt]; rfl
theorem xor_u0 {c : Int} (h : 0 <= c /\ c < 18446744073709551616) : bitsV .xor .u64 c 0 = c := by
 show IntKind.u64.wrap (((BitVec.ofInt 64 c ^^^ BitVec.ofInt 64 0).toNat : Nat) : Int) = c
 have h0 : BitVec.ofInt 64 0 = 0#64 := rfl;rw [h0, BitVec.xor_zero, nat64, w64];omega
theorem ones : BitVec.ofInt 64 18446744073709551615 = BitVec.allOnes 64 := by decide
theorem ones' : BitVec.ofInt 64 (-1) = BitVec.allOnes 64 := by decide
theorem xor_u1 {c : Int} (h : 0 <= c /\ c < 18446744073709551616) : bitsV .xor .u64 c 18446744073709551615 = 18446744073709551615 - c := by
 show IntKind.u64.wrap (((BitVec.ofInt 64 c ^^^ BitVec.ofInt 64 18446744073709551615).toNat : Nat) : Int) = _
 rw [ones, BitVec.xor_allOnes, BitVec.toNat_not, nat64, w64];omega
theorem i64_big {x : Int} (h : 9223372036854775808 <= x /\ x < 18446744073709551616) : IntKind.i64.wrap x = x - 18446744073709551616 := by
 rw [IntKind.wrap_i64]
 skip
 omega
theorem xor_i0 {c : Int} (h : 0 <= c /\ c <= 9223372036854775807) : bitsV .xor .i64 c 0 = c := by
 show IntKind.i64.wrap (((BitVec.ofInt 64 c ^^^ BitVec.ofInt 64 0).toNat : Nat) : Int) = c
 have h0 : BitVec.ofInt 64 0 = 0#64 := rfl
 rw [h0, BitVec.xor_zero, nat64, IntWalk.i64_in _ ⟨by omega, by omega⟩]
 omega
theorem xor_i1 {c : Int} (h : 0 <= c /\ c <= 9223372036854775807) : bitsV .xor .i64 c (-1) = -c - 1 := by
 show IntKind.i64.wrap (((BitVec.ofInt 64 c ^^^ BitVec.ofInt 64 (-1)).toNat : Nat) : Int) = _
 rw [ones', BitVec.xor_allOnes, BitVec.toNat_not, nat64, i64_big (by omega)]
 omega
theorem and_1 {y : Int} (h : 0 <= y /\ y < 18446744073709551616) : bitsV .and .u64 y 1 = y % 2 := by
 show IntKind.u64.wrap (((BitVec.ofInt 64 y &&& BitVec.ofInt 64 1).toNat : Nat) : Int) = _
 rw [BitVec.toNat_and, nat64, nat64, w64]
 have : (1 % 18446744073709551616 : Int).toNat = 1 := by decide
 rw [this, Nat.and_one_is_mod];omega
theorem ct135 (x : Int) (hx : -9223372036854775808 <= x /\ x <= 9223372036854775807) (I : Mem) : Ct Tryz.prog (fnv 135) #[.int .i64 x] I (fun v _ => v = .int .u64 (foldZ x)) := by
 refine viaR (ct_via (A := { }) Tryz.func135 rfl Tryz.call135 rfl rfl) (Wr .u64 x fun c => (0 : Int) <= 1 /\ Wr .u64 (c * 2) fun a => (0 : Int) <= 63 /\ Wr .u64 (x.fdiv 9223372036854775808) fun b => Value.int .u64 (bitsV .xor .u64 a b) = .int .u64 (foldZ x)) (by kernel_rfl) ?_
 have h1 : (x.fdiv 9223372036854775808 : Int) = if 0 <= x then 0 else -1 := by
  rw [Int.fdiv_eq_ediv_of_nonneg _ (by decide)]
  split <;> omega
 refine ⟨_, rfl, by omega, _, rfl, by omega, _, rfl, ?_⟩
 rw [w64, w64, w64, h1, foldZ]
 congr 1
 split
 · rw [show (0 : Int) % 18446744073709551616 = 0 by decide, xor_u0 (by omega)]; omega
 · rw [show (-1 : Int) % 18446744073709551616 = 18446744073709551615 by decide, xor_u1 (by omega)]; omega
theorem ct108 (y : Int) (hy : 0 <= y /\ y <= 18446744073709551615) (I : Mem) : Ct Tryz.prog (fnv 108) #[.int .u64 y] I (fun v _ => v = .int .i64 (unfoldZ y)) := by
 refine viaR (ct_via (A := { }) Tryz.func108 rfl Tryz.call108 rfl rfl) ((0 : Int) <= 1 /\ Wr .i64 (y.fdiv 2) fun c => Wr .i64 (bitsV .and .u64 y 1) fun a => Wr .i64 (0 - a) fun b => Value.int .i64 (bitsV .xor .i64 c b) = .int .i64 (unfoldZ y)) (by kernel_rfl) ?_
 rw [and_1 (by omega), Int.fdiv_eq_ediv_of_nonneg _ (by decide)]
 refine ⟨by omega, wr_i64 (by omega) (by omega) (wr_i64 (by omega) (by omega) (wr_i64 (by omega) (by omega) ?_))⟩
 rw [unfoldZ]
 congr 1
 rcases (by omega : y % 2 = 0 \/ y % 2 = 1) with h | h
 · rw [h, if_pos rfl, Int.sub_zero, xor_i0 (by omega)]
 · rw [h, if_neg (by decide), show (0 : Int) - 1 = -1 by decide, xor_i1 (by omega)]
theorem ct122 (x : Int) (hx : -9223372036854775808 <= x /\ x <= 9223372036854775807) (I : Mem) : Ct Tryz.prog (fnv 122) #[.int .i64 x] I (fun v _ => v = .int .u64 (foldZ x)) := by
 refine viaR (ct_via (A := { }) Tryz.func122 rfl Tryz.call122 rfl rfl) (Br (decide (0 <= x)) (Wr .u64 x (fun c => Wr .u64 (2 * c) fun a => Value.int .u64 a = .int .u64 (foldZ x))) (Wr .i64 (x + 1) (fun c => Wr .i64 (0 - c) fun a => Wr .u64 a fun b => Wr .u64 (2 * b) fun d => Wr .u64 (d + 1) fun e => Value.int .u64 e = .int .u64 (foldZ x)))) (by kernel_rfl) ?_
 refine Br.mk (fun h => ?_) (fun h => ?_)
 · have h := of_decide_eq_true h
   refine ⟨_, rfl, _, rfl, ?_⟩;rw [w64, w64, foldZ, if_pos h]
   congr 1; omega
 · have h := of_decide_eq_false h
   refine wr_i64 (by omega) (by omega) (wr_i64 (by omega) (by omega) ⟨_, rfl, _, rfl, _, rfl, ?_⟩)
   rw [w64, w64, w64, foldZ, if_neg h]
   congr 1; omega
theorem ct151 (y : Int) (hy : 0 <= y /\ y <= 18446744073709551615) (I : Mem) : Ct Tryz.prog (fnv 151) #[.int .u64 y] I (fun v _ => v = .int .i64 (unfoldZ y)) := by
 refine viaR (ct_via (A := { }) Tryz.func151 rfl Tryz.call151 rfl rfl) ((2 : Int) ≠ 0 /\ Br (y.tmod 2 == 0) ((2 : Int) ≠ 0 /\ Wr .u64 (y.tdiv 2) fun c => Wr .i64 c fun a => Value.int .i64 a = .int .i64 (unfoldZ y)) ((2 : Int) ≠ 0 /\ Wr .u64 (y.tdiv 2) fun c => Wr .i64 c fun a => Wr .i64 (0 - a) fun b => Wr .i64 (b - 1) fun d => Value.int .i64 d = .int .i64 (unfoldZ y))) (by kernel_rfl) ?_
 have ht : y.tmod 2 = y % 2 := Int.tmod_eq_emod_of_nonneg hy.1;have hd : y.tdiv 2 = y / 2 := Int.tdiv_eq_ediv_of_nonneg hy.1;rw [ht, hd]
 refine ⟨by omega, Br.mk (fun h => ⟨by omega, _, rfl, ?_⟩) (fun h => ⟨by omega, _, rfl, ?_⟩)⟩
 · have h : y % 2 = 0 := by simpa using h
   rw [w64]
   refine wr_i64 (by omega) (by omega) ?_
   rw [unfoldZ, if_pos h]
   congr 1; omega
 · have h : ¬ y % 2 = 0 := by simpa using h
   rw [w64]
   refine wr_i64 (by omega) (by omega) (wr_i64 (by omega) (by omega) (wr_i64 (by omega) (by omega) ?_))
   rw [unfoldZ, if_neg h]
   congr 1; omega
theorem readN_err (bs : List Int) (h : (readN bs 0).2.2 ≠ 0) : (readN bs 0).2.2 = 10 \/ (readN bs 0).2.2 = 11 := by
 unfold readN at h ⊢
 rw [if_neg (by omega)] at h ⊢
 split
 · exact .inl rfl
 · rename_i b hb
   rw [hb] at h
   simp only at h
   split
   · rename_i h1; rw [if_pos h1] at h; exact absurd rfl h
   · rename_i h1
     rw [if_neg h1] at h;split
     · exact .inr rfl
     · rename_i h2
       rw [if_neg h2] at h;split
       · exact .inl rfl
       · rename_i h3
         rw [if_neg h3] at h;split
         · exact .inr rfl
         · rename_i h4
           rw [if_neg h4] at h;split
           · exact .inr rfl
           · rename_i h5
             rw [if_neg h5] at h;exact absurd rfl h
theorem lastN_cases (bs : List Int) (hbs : byteL bs) : ((lastN bs).2.2 = 0 /\ 0 <= (lastN bs).1 /\ (lastN bs).1.toNat < 256 ^ 8 /\ formN (lastN bs).1.toNat = bs) \/ ((lastN bs).1 = 0 /\ ((lastN bs).2.2 = 10 \/ (lastN bs).2.2 = 11)) := by
 unfold lastN;split
 · rename_i h
   exact .inr ⟨rfl, readN_err bs h⟩
 · rename_i h
   split
   · exact .inr ⟨rfl, .inr rfl⟩
   · rename_i h2
     have h : (readN bs 0).2.2 = 0 := by simpa using h
     obtain ⟨g1, g2, g3, g4, g5, g6, g7⟩ := readN_back hbs (at_ := 0) (x := (readN bs 0).1) (n := (readN bs 0).2.1) (Prod.ext rfl (Prod.ext rfl h));refine .inl ⟨rfl, g3, g4, ?_⟩;have e1 : bs.drop (0 : Int).toNat = bs := rfl
     rw [e1, List.drop_eq_nil_of_le (by omega), List.append_nil] at g6
     exact g6.symm
structure Rq where
 kind : Int
 what : Int
 name : ByteArray
 p3 : Int
 p4 : Int
 p5 : Int
 p6 : Int
 p7 : Int
 p8 : Int
 p9 : Int
 val : Int
 fed : List Int
def rqV (r : Rq) (y : Value) : List Value := [.int .u8 r.kind, .int .u8 r.what, .string r.name, .int .i64 r.p3, .int .i64 r.p4, .int .i64 r.p5, .int .i64 r.p6, .int .i64 r.p7, .int .i64 r.p8, .int .i64 r.p9, .int .i64 r.val, y]
def rqS (r : Rq) (y : Value) : List SV := [.v (.int .u8 r.kind), .v (.int .u8 r.what), .v (.string r.name), .v (.int .i64 r.p3), .v (.int .i64 r.p4), .v (.int .i64 r.p5), .v (.int .i64 r.p6), .v (.int .i64 r.p7), .v (.int .i64 r.p8), .v (.int .i64 r.p9), .v (.int .i64 r.val), .v y]
def i64R (x : Int) : Prop := -9223372036854775808 <= x /\ x <= 9223372036854775807
structure okRq (r : Rq) : Prop where
 kind : 0 <= r.kind /\ r.kind <= 255
 what : 0 <= r.what /\ r.what <= 255
 p3 : i64R r.p3
 p4 : i64R r.p4
 p5 : i64R r.p5
 p6 : i64R r.p6
 p7 : i64R r.p7
 p8 : i64R r.p8
 p9 : i64R r.p9
 val : i64R r.val
 fed : byteL r.fed
def strB (bs : List Int) : ByteArray := ⟨(u8s bs).toArray⟩
def takeR (r : Rq) (t : Int) (bs : List Int) : Rq :=
 if t = 1 then r else if t = 2 then { r with name := strB bs } else if t = 3 then { r with p3 := IntKind.i64.wrap (lastN bs).1 } else if t = 4 then { r with p4 := IntKind.i64.wrap (lastN bs).1 } else if t = 5 then { r with p5 := IntKind.i64.wrap (lastN bs).1 }
 else if t = 6 then { r with p6 := IntKind.i64.wrap (lastN bs).1 } else if t = 7 then { r with p7 := IntKind.i64.wrap (lastN bs).1 } else if t = 8 then { r with p8 := IntKind.i64.wrap (lastN bs).1 } else if t = 9 then { r with p9 := IntKind.i64.wrap (lastN bs).1 }
 else if t = 10 then { r with val := unfoldZ (lastN bs).1 } else { r with fed := bs }
def takeB (r : Rq) (t : Int) (bs : List Int) : Bool :=
 if t = 2 \/ t = 11 then true else if t = 1 then decide ((lastN bs).2.2 = 0) && decide ((lastN bs).1 = r.what) else if t = 10 then decide ((lastN bs).2.2 = 0) else decide ((lastN bs).2.2 = 0) && decide ((lastN bs).1 <= 9223372036854775807)
theorem last_range {bs : List Int} (hbs : byteL bs) : 0 <= (lastN bs).1 /\ (lastN bs).1 <= 18446744073709551615 := by
 rcases lastN_cases bs hbs with ⟨_, h1, h2, _⟩ | ⟨h1, _⟩ <;> omega
theorem cs42_3 (k : Nat) (r : Rq) (hr : okRq r) (y : Value) (bs : List Int) (hbs : byteL bs) (b : Option Addr) (m c : Nat) (I : Mem) (h : SlM I b m 1 (ints .u8 bs)) (hm : m <= 1000000) :
 CtS Tryz.prog (.v (fnv 61)) [.ptr 0 0, .v (.agg #[.int .i64 3, .slice b m c])] [⟨.cells (rqS r y) 26, some k⟩] I (fun v H' I' => ∃ y', v = .v (.bool (takeB r 3 bs)) /\ H' = [⟨.cells (rqS (takeR r 3 bs) y') 26, some k⟩] /\ (BySl I' y r.fed -> BySl I' y' (takeR r 3 bs).fed) /\ ∀ I0 : Mem, I0.le I -> NewB I0 I' y -> NewB I0 I' y') := by
 refine viaR (ctS_via (A := { calls := [(53, .lend [0] (.agg [.sh .ptr, .sh .ptr, .sh .ptr, .ptr 0 3, .ptr 0 4, .ptr 0 5, .ptr 0 6, .ptr 0 7, .ptr 0 8, .ptr 0 9, .sh .ptr, .sh .ptr]) [.same])] }) Tryz.func61 rfl Tryz.call61 [0] rfl) (let E1 := [SV.v (.int .i64 r.p4), .v (.int .i64 r.p5), .v (.int .i64 r.p6), .v (.int .i64 r.p7), .v (.int .i64 r.p8), .v (.int .i64 r.p9), .v (.int .i64 r.val), .v y]
  Ct Tryz.prog (fnv 60) #[.agg #[.int .i64 3, .slice b m c]] I fun v a => ∃ n d, v = .tuple #[.int .u64 n, .int .i64 d] /\ Wr .i64 n fun e => CtS Tryz.prog (.v (fnv 62)) [.ptr 0 0] [⟨.cells (.v (.int .u8 r.kind) :: .v (.int .u8 r.what) :: .v (.string r.name) :: .v (.int .i64 r.p3) :: E1) 26, some k⟩] a fun s H f => ∃ g i j l o, s = .agg [.v (.pointer g), .v (.pointer i), .v (.pointer j), .ptr 0 3, .ptr 0 4, .ptr 0 5, .ptr 0 6, .ptr 0 7, .ptr 0 8, .ptr 0 9, .v (.pointer l), .v (.pointer o)] /\ H = [⟨.cells (.v (.int .u8 r.kind) :: .v (.int .u8 r.what) :: .v (.string r.name) :: .v (.int .i64 r.p3) :: E1) 26, some k⟩] /\ (0 : Int) <= 3 /\ (3 : Int) < 12 /\ Br (d == 0) (∃ p, SV.v (.bool (decide (n <= 9223372036854775807))) = .v (.bool (takeB r 3 bs)) /\ [Ent.mk (.cells (.v (.int .u8 r.kind) :: .v (.int .u8 r.what) :: .v (.string r.name) :: .v (.int .i64 e) :: E1) 26) (some k)] = [⟨.cells [.v (.int .u8 r.kind), .v (.int .u8 r.what), .v (.string r.name), .v (.int .i64 (IntKind.wrap .i64 (lastN bs).1)), .v (.int .i64 r.p4), .v (.int .i64 r.p5), .v (.int .i64 r.p6), .v (.int .i64 r.p7), .v (.int .i64 r.p8), .v (.int .i64 r.p9), .v (.int .i64 r.val), .v p] 26, some k⟩] /\ ((∃ q t u, y = .slice q t u /\ SlM f q t 1 (List.map (Value.int .u8) r.fed) /\ t <= u /\ u <= 9223372036854775807) -> ∃ q t u, p = .slice q t u /\ SlM f q t 1 (List.map (Value.int .u8) r.fed) /\ t <= u /\ u <= 9223372036854775807) /\ ∀ (q : Mem), q.le I -> NewB q f y -> NewB q f p) (∃ p, SV.v (.bool false) = .v (.bool (takeB r 3 bs)) /\ [Ent.mk (.cells (.v (.int .u8 r.kind) :: .v (.int .u8 r.what) :: .v (.string r.name) :: .v (.int .i64 e) :: E1) 26) (some k)] = [⟨.cells [.v (.int .u8 r.kind), .v (.int .u8 r.what), .v (.string r.name), .v (.int .i64 (IntKind.wrap .i64 (lastN bs).1)), .v (.int .i64 r.p4), .v (.int .i64 r.p5), .v (.int .i64 r.p6), .v (.int .i64 r.p7), .v (.int .i64 r.p8), .v (.int .i64 r.p9), .v (.int .i64 r.val), .v p] 26, some k⟩] /\ ((∃ q t u, y = .slice q t u /\ SlM f q t 1 (List.map (Value.int .u8) r.fed) /\ t <= u /\ u <= 9223372036854775807) -> ∃ q t u, p = .slice q t u /\ SlM f q t 1 (List.map (Value.int .u8) r.fed) /\ t <= u /\ u <= 9223372036854775807) /\ ∀ (q : Mem), q.le I -> NewB q f y -> NewB q f p)) (by kernel_rfl) ?_
 intro E1
 have hok : okFld (3, bs) := ⟨by simp, hbs⟩
 have hlr := last_range hbs;refine (ct60 (3, bs) hok b m c I h hm).mono fun v I1 l1 hv => ⟨_, _, hv, ?_⟩;refine ⟨_, rfl, ?_⟩
 refine (cs62 k _ _ _ _ _ _ _ _ _ _ _ _ I1).mono fun sv H' I2 l2 ⟨hv, hH⟩ => ⟨none, none, none, none, none, hv, hH, by omega, by omega, Br.mk (fun he => ⟨y, ?_, rfl, id, fun _ _ => id⟩) (fun he => ⟨y, ?_, rfl, id, fun _ _ => id⟩)⟩
 · have he : (lastN bs).2.2 = 0 := by simpa using he
   simp [takeB, he]
 · have he : ¬ (lastN bs).2.2 = 0 := by simpa using he
   simp [takeB, he]
theorem cs42_4 (k : Nat) (r : Rq) (hr : okRq r) (y : Value) (bs : List Int) (hbs : byteL bs) (b : Option Addr) (m c : Nat) (I : Mem) (h : SlM I b m 1 (ints .u8 bs)) (hm : m <= 1000000) :
 CtS Tryz.prog (.v (fnv 61)) [.ptr 0 0, .v (.agg #[.int .i64 4, .slice b m c])] [⟨.cells (rqS r y) 26, some k⟩] I (fun v H' I' => ∃ y', v = .v (.bool (takeB r 4 bs)) /\ H' = [⟨.cells (rqS (takeR r 4 bs) y') 26, some k⟩] /\ (BySl I' y r.fed -> BySl I' y' (takeR r 4 bs).fed) /\ ∀ I0 : Mem, I0.le I -> NewB I0 I' y -> NewB I0 I' y') := by
 refine viaR (ctS_via (A := { calls := [(53, .lend [0] (.agg [.sh .ptr, .sh .ptr, .sh .ptr, .ptr 0 3, .ptr 0 4, .ptr 0 5, .ptr 0 6, .ptr 0 7, .ptr 0 8, .ptr 0 9, .sh .ptr, .sh .ptr]) [.same])] }) Tryz.func61 rfl Tryz.call61 [0] rfl) (let E1 := [SV.v (.int .i64 r.p5), .v (.int .i64 r.p6), .v (.int .i64 r.p7), .v (.int .i64 r.p8), .v (.int .i64 r.p9), .v (.int .i64 r.val), .v y]
  Ct Tryz.prog (fnv 60) #[.agg #[.int .i64 4, .slice b m c]] I fun v a => ∃ n d, v = .tuple #[.int .u64 n, .int .i64 d] /\ Wr .i64 n fun e => CtS Tryz.prog (.v (fnv 62)) [.ptr 0 0] [⟨.cells (.v (.int .u8 r.kind) :: .v (.int .u8 r.what) :: .v (.string r.name) :: .v (.int .i64 r.p3) :: .v (.int .i64 r.p4) :: E1) 26, some k⟩] a fun s H f => ∃ g i j l o, s = .agg [.v (.pointer g), .v (.pointer i), .v (.pointer j), .ptr 0 3, .ptr 0 4, .ptr 0 5, .ptr 0 6, .ptr 0 7, .ptr 0 8, .ptr 0 9, .v (.pointer l), .v (.pointer o)] /\ H = [⟨.cells (.v (.int .u8 r.kind) :: .v (.int .u8 r.what) :: .v (.string r.name) :: .v (.int .i64 r.p3) :: .v (.int .i64 r.p4) :: E1) 26, some k⟩] /\ (0 : Int) <= 4 /\ (4 : Int) < 12 /\ Br (d == 0) (∃ p, SV.v (.bool (decide (n <= 9223372036854775807))) = .v (.bool (takeB r 4 bs)) /\ [Ent.mk (.cells (.v (.int .u8 r.kind) :: .v (.int .u8 r.what) :: .v (.string r.name) :: .v (.int .i64 r.p3) :: .v (.int .i64 e) :: E1) 26) (some k)] = [⟨.cells [.v (.int .u8 r.kind), .v (.int .u8 r.what), .v (.string r.name), .v (.int .i64 r.p3), .v (.int .i64 (IntKind.wrap .i64 (lastN bs).1)), .v (.int .i64 r.p5), .v (.int .i64 r.p6), .v (.int .i64 r.p7), .v (.int .i64 r.p8), .v (.int .i64 r.p9), .v (.int .i64 r.val), .v p] 26, some k⟩] /\ ((∃ q t u, y = .slice q t u /\ SlM f q t 1 (List.map (Value.int .u8) r.fed) /\ t <= u /\ u <= 9223372036854775807) -> ∃ q t u, p = .slice q t u /\ SlM f q t 1 (List.map (Value.int .u8) r.fed) /\ t <= u /\ u <= 9223372036854775807) /\ ∀ (q : Mem), q.le I -> NewB q f y -> NewB q f p) (∃ p, SV.v (.bool false) = .v (.bool (takeB r 4 bs)) /\ [Ent.mk (.cells (.v (.int .u8 r.kind) :: .v (.int .u8 r.what) :: .v (.string r.name) :: .v (.int .i64 r.p3) :: .v (.int .i64 e) :: E1) 26) (some k)] = [⟨.cells [.v (.int .u8 r.kind), .v (.int .u8 r.what), .v (.string r.name), .v (.int .i64 r.p3), .v (.int .i64 (IntKind.wrap .i64 (lastN bs).1)), .v (.int .i64 r.p5), .v (.int .i64 r.p6), .v (.int .i64 r.p7), .v (.int .i64 r.p8), .v (.int .i64 r.p9), .v (.int .i64 r.val), .v p] 26, some k⟩] /\ ((∃ q t u, y = .slice q t u /\ SlM f q t 1 (List.map (Value.int .u8) r.fed) /\ t <= u /\ u <= 9223372036854775807) -> ∃ q t u, p = .slice q t u /\ SlM f q t 1 (List.map (Value.int .u8) r.fed) /\ t <= u /\ u <= 9223372036854775807) /\ ∀ (q : Mem), q.le I -> NewB q f y -> NewB q f p)) (by kernel_rfl) ?_
 intro E1
 have hok : okFld (4, bs) := ⟨by simp, hbs⟩
 have hlr := last_range hbs;refine (ct60 (4, bs) hok b m c I h hm).mono fun v I1 l1 hv => ⟨_, _, hv, ?_⟩;refine ⟨_, rfl, ?_⟩
 refine (cs62 k _ _ _ _ _ _ _ _ _ _ _ _ I1).mono fun sv H' I2 l2 ⟨hv, hH⟩ => ⟨none, none, none, none, none, hv, hH, by omega, by omega, Br.mk (fun he => ⟨y, ?_, rfl, id, fun _ _ => id⟩) (fun he => ⟨y, ?_, rfl, id, fun _ _ => id⟩)⟩
 · have he : (lastN bs).2.2 = 0 := by simpa using he
   simp [takeB, he]
 · have he : ¬ (lastN bs).2.2 = 0 := by simpa using he
   simp [takeB, he]
theorem cs42_5 (k : Nat) (r : Rq) (hr : okRq r) (y : Value) (bs : List Int) (hbs : byteL bs) (b : Option Addr) (m c : Nat) (I : Mem) (h : SlM I b m 1 (ints .u8 bs)) (hm : m <= 1000000) :
 CtS Tryz.prog (.v (fnv 61)) [.ptr 0 0, .v (.agg #[.int .i64 5, .slice b m c])] [⟨.cells (rqS r y) 26, some k⟩] I (fun v H' I' => ∃ y', v = .v (.bool (takeB r 5 bs)) /\ H' = [⟨.cells (rqS (takeR r 5 bs) y') 26, some k⟩] /\ (BySl I' y r.fed -> BySl I' y' (takeR r 5 bs).fed) /\ ∀ I0 : Mem, I0.le I -> NewB I0 I' y -> NewB I0 I' y') := by
 refine viaR (ctS_via (A := { calls := [(53, .lend [0] (.agg [.sh .ptr, .sh .ptr, .sh .ptr, .ptr 0 3, .ptr 0 4, .ptr 0 5, .ptr 0 6, .ptr 0 7, .ptr 0 8, .ptr 0 9, .sh .ptr, .sh .ptr]) [.same])] }) Tryz.func61 rfl Tryz.call61 [0] rfl) (let E1 := [SV.v (.int .i64 r.p6), .v (.int .i64 r.p7), .v (.int .i64 r.p8), .v (.int .i64 r.p9), .v (.int .i64 r.val), .v y]
  Ct Tryz.prog (fnv 60) #[.agg #[.int .i64 5, .slice b m c]] I fun v a => ∃ n d, v = .tuple #[.int .u64 n, .int .i64 d] /\ Wr .i64 n fun e => CtS Tryz.prog (.v (fnv 62)) [.ptr 0 0] [⟨.cells (.v (.int .u8 r.kind) :: .v (.int .u8 r.what) :: .v (.string r.name) :: .v (.int .i64 r.p3) :: .v (.int .i64 r.p4) :: .v (.int .i64 r.p5) :: E1) 26, some k⟩] a fun s H f => ∃ g i j l o, s = .agg [.v (.pointer g), .v (.pointer i), .v (.pointer j), .ptr 0 3, .ptr 0 4, .ptr 0 5, .ptr 0 6, .ptr 0 7, .ptr 0 8, .ptr 0 9, .v (.pointer l), .v (.pointer o)] /\ H = [⟨.cells (.v (.int .u8 r.kind) :: .v (.int .u8 r.what) :: .v (.string r.name) :: .v (.int .i64 r.p3) :: .v (.int .i64 r.p4) :: .v (.int .i64 r.p5) :: E1) 26, some k⟩] /\ (0 : Int) <= 5 /\ (5 : Int) < 12 /\ Br (d == 0) (∃ p, SV.v (.bool (decide (n <= 9223372036854775807))) = .v (.bool (takeB r 5 bs)) /\ [Ent.mk (.cells (.v (.int .u8 r.kind) :: .v (.int .u8 r.what) :: .v (.string r.name) :: .v (.int .i64 r.p3) :: .v (.int .i64 r.p4) :: .v (.int .i64 e) :: E1) 26) (some k)] = [⟨.cells [.v (.int .u8 r.kind), .v (.int .u8 r.what), .v (.string r.name), .v (.int .i64 r.p3), .v (.int .i64 r.p4), .v (.int .i64 (IntKind.wrap .i64 (lastN bs).1)), .v (.int .i64 r.p6), .v (.int .i64 r.p7), .v (.int .i64 r.p8), .v (.int .i64 r.p9), .v (.int .i64 r.val), .v p] 26, some k⟩] /\ ((∃ q t u, y = .slice q t u /\ SlM f q t 1 (List.map (Value.int .u8) r.fed) /\ t <= u /\ u <= 9223372036854775807) -> ∃ q t u, p = .slice q t u /\ SlM f q t 1 (List.map (Value.int .u8) r.fed) /\ t <= u /\ u <= 9223372036854775807) /\ ∀ (q : Mem), q.le I -> NewB q f y -> NewB q f p) (∃ p, SV.v (.bool false) = .v (.bool (takeB r 5 bs)) /\ [Ent.mk (.cells (.v (.int .u8 r.kind) :: .v (.int .u8 r.what) :: .v (.string r.name) :: .v (.int .i64 r.p3) :: .v (.int .i64 r.p4) :: .v (.int .i64 e) :: E1) 26) (some k)] = [⟨.cells [.v (.int .u8 r.kind), .v (.int .u8 r.what), .v (.string r.name), .v (.int .i64 r.p3), .v (.int .i64 r.p4), .v (.int .i64 (IntKind.wrap .i64 (lastN bs).1)), .v (.int .i64 r.p6), .v (.int .i64 r.p7), .v (.int .i64 r.p8), .v (.int .i64 r.p9), .v (.int .i64 r.val), .v p] 26, some k⟩] /\ ((∃ q t u, y = .slice q t u /\ SlM f q t 1 (List.map (Value.int .u8) r.fed) /\ t <= u /\ u <= 9223372036854775807) -> ∃ q t u, p = .slice q t u /\ SlM f q t 1 (List.map (Value.int .u8) r.fed) /\ t <= u /\ u <= 9223372036854775807) /\ ∀ (q : Mem), q.le I -> NewB q f y -> NewB q f p)) (by kernel_rfl) ?_
 intro E1
 have hok : okFld (5, bs) := ⟨by simp, hbs⟩
 have hlr := last_range hbs;refine (ct60 (5, bs) hok b m c I h hm).mono fun v I1 l1 hv => ⟨_, _, hv, ?_⟩;refine ⟨_, rfl, ?_⟩
 refine (cs62 k _ _ _ _ _ _ _ _ _ _ _ _ I1).mono fun sv H' I2 l2 ⟨hv, hH⟩ => ⟨none, none, none, none, none, hv, hH, by omega, by omega, Br.mk (fun he => ⟨y, ?_, rfl, id, fun _ _ => id⟩) (fun he => ⟨y, ?_, rfl, id, fun _ _ => id⟩)⟩
 · have he : (lastN bs).2.2 = 0 := by simpa using he
   simp [takeB, he]
 · have he : ¬ (lastN bs).2.2 = 0 := by simpa using he
   simp [takeB, he]
theorem cs42_6 (k : Nat) (r : Rq) (hr : okRq r) (y : Value) (bs : List Int) (hbs : byteL bs) (b : Option Addr) (m c : Nat) (I : Mem) (h : SlM I b m 1 (ints .u8 bs)) (hm : m <= 1000000) :
 CtS Tryz.prog (.v (fnv 61)) [.ptr 0 0, .v (.agg #[.int .i64 6, .slice b m c])] [⟨.cells (rqS r y) 26, some k⟩] I (fun v H' I' => ∃ y', v = .v (.bool (takeB r 6 bs)) /\ H' = [⟨.cells (rqS (takeR r 6 bs) y') 26, some k⟩] /\ (BySl I' y r.fed -> BySl I' y' (takeR r 6 bs).fed) /\ ∀ I0 : Mem, I0.le I -> NewB I0 I' y -> NewB I0 I' y') := by
 refine viaR (ctS_via (A := { calls := [(53, .lend [0] (.agg [.sh .ptr, .sh .ptr, .sh .ptr, .ptr 0 3, .ptr 0 4, .ptr 0 5, .ptr 0 6, .ptr 0 7, .ptr 0 8, .ptr 0 9, .sh .ptr, .sh .ptr]) [.same])] }) Tryz.func61 rfl Tryz.call61 [0] rfl) (Ct Tryz.prog (fnv 60) #[.agg #[.int .i64 6, .slice b m c]] I fun v a => ∃ n d, v = .tuple #[.int .u64 n, .int .i64 d] /\ Wr .i64 n fun e => CtS Tryz.prog (.v (fnv 62)) [.ptr 0 0] [⟨.cells [.v (.int .u8 r.kind), .v (.int .u8 r.what), .v (.string r.name), .v (.int .i64 r.p3), .v (.int .i64 r.p4), .v (.int .i64 r.p5), .v (.int .i64 r.p6), .v (.int .i64 r.p7), .v (.int .i64 r.p8), .v (.int .i64 r.p9), .v (.int .i64 r.val), .v y] 26, some k⟩] a fun s H f => ∃ g i j l o, s = .agg [.v (.pointer g), .v (.pointer i), .v (.pointer j), .ptr 0 3, .ptr 0 4, .ptr 0 5, .ptr 0 6, .ptr 0 7, .ptr 0 8, .ptr 0 9, .v (.pointer l), .v (.pointer o)] /\ H = [⟨.cells [.v (.int .u8 r.kind), .v (.int .u8 r.what), .v (.string r.name), .v (.int .i64 r.p3), .v (.int .i64 r.p4), .v (.int .i64 r.p5), .v (.int .i64 r.p6), .v (.int .i64 r.p7), .v (.int .i64 r.p8), .v (.int .i64 r.p9), .v (.int .i64 r.val), .v y] 26, some k⟩] /\ (0 : Int) <= 6 /\ (6 : Int) < 12 /\ Br (d == 0) (∃ p, SV.v (.bool (decide (n <= 9223372036854775807))) = .v (.bool (takeB r 6 bs)) /\ [Ent.mk (.cells [.v (.int .u8 r.kind), .v (.int .u8 r.what), .v (.string r.name), .v (.int .i64 r.p3), .v (.int .i64 r.p4), .v (.int .i64 r.p5), .v (.int .i64 e), .v (.int .i64 r.p7), .v (.int .i64 r.p8), .v (.int .i64 r.p9), .v (.int .i64 r.val), .v y] 26) (some k)] = [⟨.cells [.v (.int .u8 r.kind), .v (.int .u8 r.what), .v (.string r.name), .v (.int .i64 r.p3), .v (.int .i64 r.p4), .v (.int .i64 r.p5), .v (.int .i64 (IntKind.wrap .i64 (lastN bs).1)), .v (.int .i64 r.p7), .v (.int .i64 r.p8), .v (.int .i64 r.p9), .v (.int .i64 r.val), .v p] 26, some k⟩] /\ ((∃ q t u, y = .slice q t u /\ SlM f q t 1 (List.map (Value.int .u8) r.fed) /\ t <= u /\ u <= 9223372036854775807) -> ∃ q t u, p = .slice q t u /\ SlM f q t 1 (List.map (Value.int .u8) r.fed) /\ t <= u /\ u <= 9223372036854775807) /\ ∀ (q : Mem), q.le I -> NewB q f y -> NewB q f p) (∃ p, SV.v (.bool false) = .v (.bool (takeB r 6 bs)) /\ [Ent.mk (.cells [.v (.int .u8 r.kind), .v (.int .u8 r.what), .v (.string r.name), .v (.int .i64 r.p3), .v (.int .i64 r.p4), .v (.int .i64 r.p5), .v (.int .i64 e), .v (.int .i64 r.p7), .v (.int .i64 r.p8), .v (.int .i64 r.p9), .v (.int .i64 r.val), .v y] 26) (some k)] = [⟨.cells [.v (.int .u8 r.kind), .v (.int .u8 r.what), .v (.string r.name), .v (.int .i64 r.p3), .v (.int .i64 r.p4), .v (.int .i64 r.p5), .v (.int .i64 (IntKind.wrap .i64 (lastN bs).1)), .v (.int .i64 r.p7), .v (.int .i64 r.p8), .v (.int .i64 r.p9), .v (.int .i64 r.val), .v p] 26, some k⟩] /\ ((∃ q t u, y = .slice q t u /\ SlM f q t 1 (List.map (Value.int .u8) r.fed) /\ t <= u /\ u <= 9223372036854775807) -> ∃ q t u, p = .slice q t u /\ SlM f q t 1 (List.map (Value.int .u8) r.fed) /\ t <= u /\ u <= 9223372036854775807) /\ ∀ (q : Mem), q.le I -> NewB q f y -> NewB q f p)) (by kernel_rfl) ?_
 have hok : okFld (6, bs) := ⟨by simp, hbs⟩
 have hlr := last_range hbs;refine (ct60 (6, bs) hok b m c I h hm).mono fun v I1 l1 hv => ⟨_, _, hv, ?_⟩;refine ⟨_, rfl, ?_⟩
 refine (cs62 k _ _ _ _ _ _ _ _ _ _ _ _ I1).mono fun sv H' I2 l2 ⟨hv, hH⟩ => ⟨none, none, none, none, none, hv, hH, by omega, by omega, Br.mk (fun he => ⟨y, ?_, rfl, id, fun _ _ => id⟩) (fun he => ⟨y, ?_, rfl, id, fun _ _ => id⟩)⟩
 · have he : (lastN bs).2.2 = 0 := by simpa using he
   simp [takeB, he]
 · have he : ¬ (lastN bs).2.2 = 0 := by simpa using he
   simp [takeB, he]
theorem cs42_7 (k : Nat) (r : Rq) (hr : okRq r) (y : Value) (bs : List Int) (hbs : byteL bs) (b : Option Addr) (m c : Nat) (I : Mem) (h : SlM I b m 1 (ints .u8 bs)) (hm : m <= 1000000) :
 CtS Tryz.prog (.v (fnv 61)) [.ptr 0 0, .v (.agg #[.int .i64 7, .slice b m c])] [⟨.cells (rqS r y) 26, some k⟩] I (fun v H' I' => ∃ y', v = .v (.bool (takeB r 7 bs)) /\ H' = [⟨.cells (rqS (takeR r 7 bs) y') 26, some k⟩] /\ (BySl I' y r.fed -> BySl I' y' (takeR r 7 bs).fed) /\ ∀ I0 : Mem, I0.le I -> NewB I0 I' y -> NewB I0 I' y') := by
 refine viaR (ctS_via (A := { calls := [(53, .lend [0] (.agg [.sh .ptr, .sh .ptr, .sh .ptr, .ptr 0 3, .ptr 0 4, .ptr 0 5, .ptr 0 6, .ptr 0 7, .ptr 0 8, .ptr 0 9, .sh .ptr, .sh .ptr]) [.same])] }) Tryz.func61 rfl Tryz.call61 [0] rfl) (Ct Tryz.prog (fnv 60) #[.agg #[.int .i64 7, .slice b m c]] I fun v a => ∃ n d, v = .tuple #[.int .u64 n, .int .i64 d] /\ Wr .i64 n fun e => CtS Tryz.prog (.v (fnv 62)) [.ptr 0 0] [⟨.cells [.v (.int .u8 r.kind), .v (.int .u8 r.what), .v (.string r.name), .v (.int .i64 r.p3), .v (.int .i64 r.p4), .v (.int .i64 r.p5), .v (.int .i64 r.p6), .v (.int .i64 r.p7), .v (.int .i64 r.p8), .v (.int .i64 r.p9), .v (.int .i64 r.val), .v y] 26, some k⟩] a fun s H f => ∃ g i j l o, s = .agg [.v (.pointer g), .v (.pointer i), .v (.pointer j), .ptr 0 3, .ptr 0 4, .ptr 0 5, .ptr 0 6, .ptr 0 7, .ptr 0 8, .ptr 0 9, .v (.pointer l), .v (.pointer o)] /\ H = [⟨.cells [.v (.int .u8 r.kind), .v (.int .u8 r.what), .v (.string r.name), .v (.int .i64 r.p3), .v (.int .i64 r.p4), .v (.int .i64 r.p5), .v (.int .i64 r.p6), .v (.int .i64 r.p7), .v (.int .i64 r.p8), .v (.int .i64 r.p9), .v (.int .i64 r.val), .v y] 26, some k⟩] /\ (0 : Int) <= 7 /\ (7 : Int) < 12 /\ Br (d == 0) (∃ p, SV.v (.bool (decide (n <= 9223372036854775807))) = .v (.bool (takeB r 7 bs)) /\ [Ent.mk (.cells [.v (.int .u8 r.kind), .v (.int .u8 r.what), .v (.string r.name), .v (.int .i64 r.p3), .v (.int .i64 r.p4), .v (.int .i64 r.p5), .v (.int .i64 r.p6), .v (.int .i64 e), .v (.int .i64 r.p8), .v (.int .i64 r.p9), .v (.int .i64 r.val), .v y] 26) (some k)] = [⟨.cells [.v (.int .u8 r.kind), .v (.int .u8 r.what), .v (.string r.name), .v (.int .i64 r.p3), .v (.int .i64 r.p4), .v (.int .i64 r.p5), .v (.int .i64 r.p6), .v (.int .i64 (IntKind.wrap .i64 (lastN bs).1)), .v (.int .i64 r.p8), .v (.int .i64 r.p9), .v (.int .i64 r.val), .v p] 26, some k⟩] /\ ((∃ q t u, y = .slice q t u /\ SlM f q t 1 (List.map (Value.int .u8) r.fed) /\ t <= u /\ u <= 9223372036854775807) -> ∃ q t u, p = .slice q t u /\ SlM f q t 1 (List.map (Value.int .u8) r.fed) /\ t <= u /\ u <= 9223372036854775807) /\ ∀ (q : Mem), q.le I -> NewB q f y -> NewB q f p) (∃ p, SV.v (.bool false) = .v (.bool (takeB r 7 bs)) /\ [Ent.mk (.cells [.v (.int .u8 r.kind), .v (.int .u8 r.what), .v (.string r.name), .v (.int .i64 r.p3), .v (.int .i64 r.p4), .v (.int .i64 r.p5), .v (.int .i64 r.p6), .v (.int .i64 e), .v (.int .i64 r.p8), .v (.int .i64 r.p9), .v (.int .i64 r.val), .v y] 26) (some k)] = [⟨.cells [.v (.int .u8 r.kind), .v (.int .u8 r.what), .v (.string r.name), .v (.int .i64 r.p3), .v (.int .i64 r.p4), .v (.int .i64 r.p5), .v (.int .i64 r.p6), .v (.int .i64 (IntKind.wrap .i64 (lastN bs).1)), .v (.int .i64 r.p8), .v (.int .i64 r.p9), .v (.int .i64 r.val), .v p] 26, some k⟩] /\ ((∃ q t u, y = .slice q t u /\ SlM f q t 1 (List.map (Value.int .u8) r.fed) /\ t <= u /\ u <= 9223372036854775807) -> ∃ q t u, p = .slice q t u /\ SlM f q t 1 (List.map (Value.int .u8) r.fed) /\ t <= u /\ u <= 9223372036854775807) /\ ∀ (q : Mem), q.le I -> NewB q f y -> NewB q f p)) (by kernel_rfl) ?_
 have hok : okFld (7, bs) := ⟨by simp, hbs⟩
 have hlr := last_range hbs;refine (ct60 (7, bs) hok b m c I h hm).mono fun v I1 l1 hv => ⟨_, _, hv, ?_⟩;refine ⟨_, rfl, ?_⟩
 refine (cs62 k _ _ _ _ _ _ _ _ _ _ _ _ I1).mono fun sv H' I2 l2 ⟨hv, hH⟩ => ⟨none, none, none, none, none, hv, hH, by omega, by omega, Br.mk (fun he => ⟨y, ?_, rfl, id, fun _ _ => id⟩) (fun he => ⟨y, ?_, rfl, id, fun _ _ => id⟩)⟩
 · have he : (lastN bs).2.2 = 0 := by simpa using he
   simp [takeB, he]
 · have he : ¬ (lastN bs).2.2 = 0 := by simpa using he
   simp [takeB, he]
theorem cs42_8 (k : Nat) (r : Rq) (hr : okRq r) (y : Value) (bs : List Int) (hbs : byteL bs) (b : Option Addr) (m c : Nat) (I : Mem) (h : SlM I b m 1 (ints .u8 bs)) (hm : m <= 1000000) :
 CtS Tryz.prog (.v (fnv 61)) [.ptr 0 0, .v (.agg #[.int .i64 8, .slice b m c])] [⟨.cells (rqS r y) 26, some k⟩] I (fun v H' I' => ∃ y', v = .v (.bool (takeB r 8 bs)) /\ H' = [⟨.cells (rqS (takeR r 8 bs) y') 26, some k⟩] /\ (BySl I' y r.fed -> BySl I' y' (takeR r 8 bs).fed) /\ ∀ I0 : Mem, I0.le I -> NewB I0 I' y -> NewB I0 I' y') := by
 refine viaR (ctS_via (A := { calls := [(53, .lend [0] (.agg [.sh .ptr, .sh .ptr, .sh .ptr, .ptr 0 3, .ptr 0 4, .ptr 0 5, .ptr 0 6, .ptr 0 7, .ptr 0 8, .ptr 0 9, .sh .ptr, .sh .ptr]) [.same])] }) Tryz.func61 rfl Tryz.call61 [0] rfl) (Ct Tryz.prog (fnv 60) #[.agg #[.int .i64 8, .slice b m c]] I fun v a => ∃ n d, v = .tuple #[.int .u64 n, .int .i64 d] /\ Wr .i64 n fun e => CtS Tryz.prog (.v (fnv 62)) [.ptr 0 0] [⟨.cells [.v (.int .u8 r.kind), .v (.int .u8 r.what), .v (.string r.name), .v (.int .i64 r.p3), .v (.int .i64 r.p4), .v (.int .i64 r.p5), .v (.int .i64 r.p6), .v (.int .i64 r.p7), .v (.int .i64 r.p8), .v (.int .i64 r.p9), .v (.int .i64 r.val), .v y] 26, some k⟩] a fun s H f => ∃ g i j l o, s = .agg [.v (.pointer g), .v (.pointer i), .v (.pointer j), .ptr 0 3, .ptr 0 4, .ptr 0 5, .ptr 0 6, .ptr 0 7, .ptr 0 8, .ptr 0 9, .v (.pointer l), .v (.pointer o)] /\ H = [⟨.cells [.v (.int .u8 r.kind), .v (.int .u8 r.what), .v (.string r.name), .v (.int .i64 r.p3), .v (.int .i64 r.p4), .v (.int .i64 r.p5), .v (.int .i64 r.p6), .v (.int .i64 r.p7), .v (.int .i64 r.p8), .v (.int .i64 r.p9), .v (.int .i64 r.val), .v y] 26, some k⟩] /\ (0 : Int) <= 8 /\ (8 : Int) < 12 /\ Br (d == 0) (∃ p, SV.v (.bool (decide (n <= 9223372036854775807))) = .v (.bool (takeB r 8 bs)) /\ [Ent.mk (.cells [.v (.int .u8 r.kind), .v (.int .u8 r.what), .v (.string r.name), .v (.int .i64 r.p3), .v (.int .i64 r.p4), .v (.int .i64 r.p5), .v (.int .i64 r.p6), .v (.int .i64 r.p7), .v (.int .i64 e), .v (.int .i64 r.p9), .v (.int .i64 r.val), .v y] 26) (some k)] = [⟨.cells [.v (.int .u8 r.kind), .v (.int .u8 r.what), .v (.string r.name), .v (.int .i64 r.p3), .v (.int .i64 r.p4), .v (.int .i64 r.p5), .v (.int .i64 r.p6), .v (.int .i64 r.p7), .v (.int .i64 (IntKind.wrap .i64 (lastN bs).1)), .v (.int .i64 r.p9), .v (.int .i64 r.val), .v p] 26, some k⟩] /\ ((∃ q t u, y = .slice q t u /\ SlM f q t 1 (List.map (Value.int .u8) r.fed) /\ t <= u /\ u <= 9223372036854775807) -> ∃ q t u, p = .slice q t u /\ SlM f q t 1 (List.map (Value.int .u8) r.fed) /\ t <= u /\ u <= 9223372036854775807) /\ ∀ (q : Mem), q.le I -> NewB q f y -> NewB q f p) (∃ p, SV.v (.bool false) = .v (.bool (takeB r 8 bs)) /\ [Ent.mk (.cells [.v (.int .u8 r.kind), .v (.int .u8 r.what), .v (.string r.name), .v (.int .i64 r.p3), .v (.int .i64 r.p4), .v (.int .i64 r.p5), .v (.int .i64 r.p6), .v (.int .i64 r.p7), .v (.int .i64 e), .v (.int .i64 r.p9), .v (.int .i64 r.val), .v y] 26) (some k)] = [⟨.cells [.v (.int .u8 r.kind), .v (.int .u8 r.what), .v (.string r.name), .v (.int .i64 r.p3), .v (.int .i64 r.p4), .v (.int .i64 r.p5), .v (.int .i64 r.p6), .v (.int .i64 r.p7), .v (.int .i64 (IntKind.wrap .i64 (lastN bs).1)), .v (.int .i64 r.p9), .v (.int .i64 r.val), .v p] 26, some k⟩] /\ ((∃ q t u, y = .slice q t u /\ SlM f q t 1 (List.map (Value.int .u8) r.fed) /\ t <= u /\ u <= 9223372036854775807) -> ∃ q t u, p = .slice q t u /\ SlM f q t 1 (List.map (Value.int .u8) r.fed) /\ t <= u /\ u <= 9223372036854775807) /\ ∀ (q : Mem), q.le I -> NewB q f y -> NewB q f p)) (by kernel_rfl) ?_
 have hok : okFld (8, bs) := ⟨by simp, hbs⟩
 have hlr := last_range hbs;refine (ct60 (8, bs) hok b m c I h hm).mono fun v I1 l1 hv => ⟨_, _, hv, ?_⟩;refine ⟨_, rfl, ?_⟩
 refine (cs62 k _ _ _ _ _ _ _ _ _ _ _ _ I1).mono fun sv H' I2 l2 ⟨hv, hH⟩ => ⟨none, none, none, none, none, hv, hH, by omega, by omega, Br.mk (fun he => ⟨y, ?_, rfl, id, fun _ _ => id⟩) (fun he => ⟨y, ?_, rfl, id, fun _ _ => id⟩)⟩
 · have he : (lastN bs).2.2 = 0 := by simpa using he
   simp [takeB, he]
 · have he : ¬ (lastN bs).2.2 = 0 := by simpa using he
   simp [takeB, he]
theorem cs42_9 (k : Nat) (r : Rq) (hr : okRq r) (y : Value) (bs : List Int) (hbs : byteL bs) (b : Option Addr) (m c : Nat) (I : Mem) (h : SlM I b m 1 (ints .u8 bs)) (hm : m <= 1000000) :
 CtS Tryz.prog (.v (fnv 61)) [.ptr 0 0, .v (.agg #[.int .i64 9, .slice b m c])] [⟨.cells (rqS r y) 26, some k⟩] I (fun v H' I' => ∃ y', v = .v (.bool (takeB r 9 bs)) /\ H' = [⟨.cells (rqS (takeR r 9 bs) y') 26, some k⟩] /\ (BySl I' y r.fed -> BySl I' y' (takeR r 9 bs).fed) /\ ∀ I0 : Mem, I0.le I -> NewB I0 I' y -> NewB I0 I' y') := by
 refine viaR (ctS_via (A := { calls := [(53, .lend [0] (.agg [.sh .ptr, .sh .ptr, .sh .ptr, .ptr 0 3, .ptr 0 4, .ptr 0 5, .ptr 0 6, .ptr 0 7, .ptr 0 8, .ptr 0 9, .sh .ptr, .sh .ptr]) [.same])] }) Tryz.func61 rfl Tryz.call61 [0] rfl) (Ct Tryz.prog (fnv 60) #[.agg #[.int .i64 9, .slice b m c]] I fun v a => ∃ n d, v = .tuple #[.int .u64 n, .int .i64 d] /\ Wr .i64 n fun e => CtS Tryz.prog (.v (fnv 62)) [.ptr 0 0] [⟨.cells [.v (.int .u8 r.kind), .v (.int .u8 r.what), .v (.string r.name), .v (.int .i64 r.p3), .v (.int .i64 r.p4), .v (.int .i64 r.p5), .v (.int .i64 r.p6), .v (.int .i64 r.p7), .v (.int .i64 r.p8), .v (.int .i64 r.p9), .v (.int .i64 r.val), .v y] 26, some k⟩] a fun s H f => ∃ g i j l o, s = .agg [.v (.pointer g), .v (.pointer i), .v (.pointer j), .ptr 0 3, .ptr 0 4, .ptr 0 5, .ptr 0 6, .ptr 0 7, .ptr 0 8, .ptr 0 9, .v (.pointer l), .v (.pointer o)] /\ H = [⟨.cells [.v (.int .u8 r.kind), .v (.int .u8 r.what), .v (.string r.name), .v (.int .i64 r.p3), .v (.int .i64 r.p4), .v (.int .i64 r.p5), .v (.int .i64 r.p6), .v (.int .i64 r.p7), .v (.int .i64 r.p8), .v (.int .i64 r.p9), .v (.int .i64 r.val), .v y] 26, some k⟩] /\ (0 : Int) <= 9 /\ (9 : Int) < 12 /\ Br (d == 0) (∃ p, SV.v (.bool (decide (n <= 9223372036854775807))) = .v (.bool (takeB r 9 bs)) /\ [Ent.mk (.cells [.v (.int .u8 r.kind), .v (.int .u8 r.what), .v (.string r.name), .v (.int .i64 r.p3), .v (.int .i64 r.p4), .v (.int .i64 r.p5), .v (.int .i64 r.p6), .v (.int .i64 r.p7), .v (.int .i64 r.p8), .v (.int .i64 e), .v (.int .i64 r.val), .v y] 26) (some k)] = [⟨.cells [.v (.int .u8 r.kind), .v (.int .u8 r.what), .v (.string r.name), .v (.int .i64 r.p3), .v (.int .i64 r.p4), .v (.int .i64 r.p5), .v (.int .i64 r.p6), .v (.int .i64 r.p7), .v (.int .i64 r.p8), .v (.int .i64 (IntKind.wrap .i64 (lastN bs).1)), .v (.int .i64 r.val), .v p] 26, some k⟩] /\ ((∃ q t u, y = .slice q t u /\ SlM f q t 1 (List.map (Value.int .u8) r.fed) /\ t <= u /\ u <= 9223372036854775807) -> ∃ q t u, p = .slice q t u /\ SlM f q t 1 (List.map (Value.int .u8) r.fed) /\ t <= u /\ u <= 9223372036854775807) /\ ∀ (q : Mem), q.le I -> NewB q f y -> NewB q f p) (∃ p, SV.v (.bool false) = .v (.bool (takeB r 9 bs)) /\ [Ent.mk (.cells [.v (.int .u8 r.kind), .v (.int .u8 r.what), .v (.string r.name), .v (.int .i64 r.p3), .v (.int .i64 r.p4), .v (.int .i64 r.p5), .v (.int .i64 r.p6), .v (.int .i64 r.p7), .v (.int .i64 r.p8), .v (.int .i64 e), .v (.int .i64 r.val), .v y] 26) (some k)] = [⟨.cells [.v (.int .u8 r.kind), .v (.int .u8 r.what), .v (.string r.name), .v (.int .i64 r.p3), .v (.int .i64 r.p4), .v (.int .i64 r.p5), .v (.int .i64 r.p6), .v (.int .i64 r.p7), .v (.int .i64 r.p8), .v (.int .i64 (IntKind.wrap .i64 (lastN bs).1)), .v (.int .i64 r.val), .v p] 26, some k⟩] /\ ((∃ q t u, y = .slice q t u /\ SlM f q t 1 (List.map (Value.int .u8) r.fed) /\ t <= u /\ u <= 9223372036854775807) -> ∃ q t u, p = .slice q t u /\ SlM f q t 1 (List.map (Value.int .u8) r.fed) /\ t <= u /\ u <= 9223372036854775807) /\ ∀ (q : Mem), q.le I -> NewB q f y -> NewB q f p)) (by kernel_rfl) ?_
 have hok : okFld (9, bs) := ⟨by simp, hbs⟩
 have hlr := last_range hbs;refine (ct60 (9, bs) hok b m c I h hm).mono fun v I1 l1 hv => ⟨_, _, hv, ?_⟩;refine ⟨_, rfl, ?_⟩
 refine (cs62 k _ _ _ _ _ _ _ _ _ _ _ _ I1).mono fun sv H' I2 l2 ⟨hv, hH⟩ => ⟨none, none, none, none, none, hv, hH, by omega, by omega, Br.mk (fun he => ⟨y, ?_, rfl, id, fun _ _ => id⟩) (fun he => ⟨y, ?_, rfl, id, fun _ _ => id⟩)⟩
 · have he : (lastN bs).2.2 = 0 := by simpa using he
   simp [takeB, he]
 · have he : ¬ (lastN bs).2.2 = 0 := by simpa using he
   simp [takeB, he]
theorem cs42_1 (k : Nat) (r : Rq) (hr : okRq r) (y : Value) (bs : List Int) (hbs : byteL bs) (b : Option Addr) (m c : Nat) (I : Mem) (h : SlM I b m 1 (ints .u8 bs)) (hm : m <= 1000000) :
 CtS Tryz.prog (.v (fnv 61)) [.ptr 0 0, .v (.agg #[.int .i64 1, .slice b m c])] [⟨.cells (rqS r y) 26, some k⟩] I (fun v H' I' => ∃ y', v = .v (.bool (takeB r 1 bs)) /\ H' = [⟨.cells (rqS (takeR r 1 bs) y') 26, some k⟩] /\ (BySl I' y r.fed -> BySl I' y' (takeR r 1 bs).fed) /\ ∀ I0 : Mem, I0.le I -> NewB I0 I' y -> NewB I0 I' y') := by
 refine viaR (ctS_via (A := {  }) Tryz.func61 rfl Tryz.call61 [0] rfl) (Ct Tryz.prog (fnv 60) #[.agg #[.int .i64 1, .slice b m c]] I fun v a => ∃ n d, v = .tuple #[.int .u64 n, .int .i64 d] /\ Br (d == 0) (Wr .u64 r.what (fun e => ∃ f, SV.v (.bool (n == e)) = .v (.bool (takeB r 1 bs)) /\ [Ent.mk (.cells [.v (.int .u8 r.kind), .v (.int .u8 r.what), .v (.string r.name), .v (.int .i64 r.p3), .v (.int .i64 r.p4), .v (.int .i64 r.p5), .v (.int .i64 r.p6), .v (.int .i64 r.p7), .v (.int .i64 r.p8), .v (.int .i64 r.p9), .v (.int .i64 r.val), .v y] 26) (some k)] = [⟨.cells [.v (.int .u8 r.kind), .v (.int .u8 r.what), .v (.string (takeR r 1 bs).name), .v (.int .i64 r.p3), .v (.int .i64 r.p4), .v (.int .i64 r.p5), .v (.int .i64 r.p6), .v (.int .i64 r.p7), .v (.int .i64 r.p8), .v (.int .i64 r.p9), .v (.int .i64 r.val), .v f] 26, some k⟩] /\ ((∃ g i j, y = .slice g i j /\ SlM a g i 1 (List.map (Value.int .u8) r.fed) /\ i <= j /\ j <= 9223372036854775807) -> ∃ g i j, f = .slice g i j /\ SlM a g i 1 (List.map (Value.int .u8) r.fed) /\ i <= j /\ j <= 9223372036854775807) /\ ∀ (g : Mem), g.le I -> NewB g a y -> NewB g a f)) (∃ e, SV.v (.bool false) = .v (.bool (takeB r 1 bs)) /\ [Ent.mk (.cells [.v (.int .u8 r.kind), .v (.int .u8 r.what), .v (.string r.name), .v (.int .i64 r.p3), .v (.int .i64 r.p4), .v (.int .i64 r.p5), .v (.int .i64 r.p6), .v (.int .i64 r.p7), .v (.int .i64 r.p8), .v (.int .i64 r.p9), .v (.int .i64 r.val), .v y] 26) (some k)] = [⟨.cells [.v (.int .u8 r.kind), .v (.int .u8 r.what), .v (.string (takeR r 1 bs).name), .v (.int .i64 r.p3), .v (.int .i64 r.p4), .v (.int .i64 r.p5), .v (.int .i64 r.p6), .v (.int .i64 r.p7), .v (.int .i64 r.p8), .v (.int .i64 r.p9), .v (.int .i64 r.val), .v e] 26, some k⟩] /\ ((∃ f g i, y = .slice f g i /\ SlM a f g 1 (List.map (Value.int .u8) r.fed) /\ g <= i /\ i <= 9223372036854775807) -> ∃ f g i, e = .slice f g i /\ SlM a f g 1 (List.map (Value.int .u8) r.fed) /\ g <= i /\ i <= 9223372036854775807) /\ ∀ (f : Mem), f.le I -> NewB f a y -> NewB f a e)) (by kernel_rfl) ?_
 have hok : okFld (1, bs) := ⟨by simp, hbs⟩
 have hlr := last_range hbs;refine (ct60 (1, bs) hok b m c I h hm).mono fun v I1 l1 hv => ⟨_, _, hv, ?_⟩
 refine Br.mk (fun he => ⟨_, IntWalk.u64_in _ ⟨hr.what.1, by have := hr.what.2; omega⟩, y, ?_, rfl, id, fun _ _ => id⟩) (fun he => ⟨y, ?_, rfl, id, fun _ _ => id⟩)
 · have he : (lastN bs).2.2 = 0 := by simpa using he
   simp [takeB, he];rfl
 · have he : ¬ (lastN bs).2.2 = 0 := by simpa using he
   simp [takeB, he]
theorem cs42_2 (k : Nat) (r : Rq) (hr : okRq r) (y : Value) (bs : List Int) (hbs : byteL bs) (b : Option Addr) (m c : Nat) (I : Mem) (h : SlM I b m 1 (ints .u8 bs)) (hm : m <= 1000000) :
 CtS Tryz.prog (.v (fnv 61)) [.ptr 0 0, .v (.agg #[.int .i64 2, .slice b m c])] [⟨.cells (rqS r y) 26, some k⟩] I (fun v H' I' => ∃ y', v = .v (.bool (takeB r 2 bs)) /\ H' = [⟨.cells (rqS (takeR r 2 bs) y') 26, some k⟩] /\ (BySl I' y r.fed -> BySl I' y' (takeR r 2 bs).fed) /\ ∀ I0 : Mem, I0.le I -> NewB I0 I' y -> NewB I0 I' y') := by
 refine viaR (ctS_via (A := {  }) Tryz.func61 rfl Tryz.call61 [0] rfl) (Ct Tryz.prog (fnv 60) #[.agg #[.int .i64 2, .slice b m c]] I fun (v : Value) (a : Mem) => ∃ (n d : Int), v = .tuple #[.int .u64 n, .int .i64 d] /\ ∃ (q : List UInt8), q.length = m /\ (b = none -> m = 0) /\ (∀ (j : Nat) (e : UInt8), q[j]? = some e -> atI a b j = some (.int .u8 (e.toNat : Int))) /\ ∃ (e : Value), Rf (SV.v (.bool true)) /\ [Ent.mk (.cells [.v (.int .u8 r.kind), .v (.int .u8 r.what), .v (.string ⟨q.toArray⟩), .v (.int .i64 r.p3), .v (.int .i64 r.p4), .v (.int .i64 r.p5), .v (.int .i64 r.p6), .v (.int .i64 r.p7), .v (.int .i64 r.p8), .v (.int .i64 r.p9), .v (.int .i64 r.val), .v y] 26) (some k)] = [⟨.cells [.v (.int .u8 r.kind), .v (.int .u8 r.what), .v (.string (strB bs)), .v (.int .i64 r.p3), .v (.int .i64 r.p4), .v (.int .i64 r.p5), .v (.int .i64 r.p6), .v (.int .i64 r.p7), .v (.int .i64 r.p8), .v (.int .i64 r.p9), .v (.int .i64 r.val), .v e] 26, some k⟩] /\ ((∃ (f : Option Addr) (g i : Nat), y = .slice f g i /\ SlM a f g 1 (List.map (Value.int .u8) r.fed) /\ g <= i /\ i <= 9223372036854775807) -> ∃ (f : Option Addr) (g i : Nat), e = .slice f g i /\ SlM a f g 1 (List.map (Value.int .u8) r.fed) /\ g <= i /\ i <= 9223372036854775807) /\ ∀ (f : Mem), f.le I -> NewB f a y -> NewB f a e) (by kernel_rfl) ?_
 have hok : okFld (2, bs) := ⟨by simp, hbs⟩
 have hlr := last_range hbs;refine (ct60 (2, bs) hok b m c I h hm).mono fun v I1 l1 hv => ⟨_, _, hv, ?_⟩;obtain ⟨h1, h2, h3⟩ := u8s_at hbs (h.mono l1);exact ⟨_, h1, h2, h3, y, rfl, rfl, id, fun _ _ => id⟩
theorem cs42_10 (k : Nat) (r : Rq) (hr : okRq r) (y : Value) (bs : List Int) (hbs : byteL bs) (b : Option Addr) (m c : Nat) (I : Mem) (h : SlM I b m 1 (ints .u8 bs)) (hm : m <= 1000000) :
 CtS Tryz.prog (.v (fnv 61)) [.ptr 0 0, .v (.agg #[.int .i64 10, .slice b m c])] [⟨.cells (rqS r y) 26, some k⟩] I (fun v H' I' => ∃ y', v = .v (.bool (takeB r 10 bs)) /\ H' = [⟨.cells (rqS (takeR r 10 bs) y') 26, some k⟩] /\ (BySl I' y r.fed -> BySl I' y' (takeR r 10 bs).fed) /\ ∀ I0 : Mem, I0.le I -> NewB I0 I' y -> NewB I0 I' y') := by
 refine viaR (ctS_via (A := {  }) Tryz.func61 rfl Tryz.call61 [0] rfl) (Ct Tryz.prog (fnv 60) #[.agg #[.int .i64 10, .slice b m c]] I fun v a => ∃ n d, v = .tuple #[.int .u64 n, .int .i64 d] /\ Ct Tryz.prog (fnv 108) #[.int .u64 n] a fun e f => ∃ g, e = .int .i64 g /\ ∃ i, SV.v (.bool (d == 0)) = .v (.bool (takeB r 10 bs)) /\ [Ent.mk (.cells [.v (.int .u8 r.kind), .v (.int .u8 r.what), .v (.string r.name), .v (.int .i64 r.p3), .v (.int .i64 r.p4), .v (.int .i64 r.p5), .v (.int .i64 r.p6), .v (.int .i64 r.p7), .v (.int .i64 r.p8), .v (.int .i64 r.p9), .v (.int .i64 g), .v y] 26) (some k)] = [⟨.cells [.v (.int .u8 r.kind), .v (.int .u8 r.what), .v (.string r.name), .v (.int .i64 r.p3), .v (.int .i64 r.p4), .v (.int .i64 r.p5), .v (.int .i64 r.p6), .v (.int .i64 r.p7), .v (.int .i64 r.p8), .v (.int .i64 r.p9), .v (.int .i64 (unfoldZ (lastN bs).1)), .v i] 26, some k⟩] /\ ((∃ j l o, y = .slice j l o /\ SlM f j l 1 (List.map (Value.int .u8) r.fed) /\ l <= o /\ o <= 9223372036854775807) -> ∃ j l o, i = .slice j l o /\ SlM f j l 1 (List.map (Value.int .u8) r.fed) /\ l <= o /\ o <= 9223372036854775807) /\ ∀ (j : Mem), j.le I -> NewB j f y -> NewB j f i) (by kernel_rfl) ?_
 have hok : okFld (10, bs) := ⟨by simp, hbs⟩
 have hlr := last_range hbs;refine (ct60 (10, bs) hok b m c I h hm).mono fun v I1 l1 hv => ⟨_, _, hv, ?_⟩;refine (ct108 _ hlr I1).mono fun v I2 l2 hv => ⟨_, hv, y, ?_, rfl, id, fun _ _ => id⟩;simp [takeB];rfl
theorem cs42_11 (k : Nat) (r : Rq) (hr : okRq r) (y : Value) (bs : List Int) (hbs : byteL bs) (b : Option Addr) (m c : Nat) (I : Mem) (h : SlM I b m 1 (ints .u8 bs)) (hm : m <= 1000000) :
 CtS Tryz.prog (.v (fnv 61)) [.ptr 0 0, .v (.agg #[.int .i64 11, .slice b m c])] [⟨.cells (rqS r y) 26, some k⟩] I (fun v H' I' => ∃ y', v = .v (.bool (takeB r 11 bs)) /\ H' = [⟨.cells (rqS (takeR r 11 bs) y') 26, some k⟩] /\ (BySl I' y r.fed -> BySl I' y' (takeR r 11 bs).fed) /\ ∀ I0 : Mem, I0.le I -> NewB I0 I' y -> NewB I0 I' y') := by
 refine viaR (ctS_via (A := {  }) Tryz.func61 rfl Tryz.call61 [0] rfl) (Ct Tryz.prog (fnv 60) #[.agg #[.int .i64 11, .slice b m c]] I fun v a => ∃ n d, v = .tuple #[.int .u64 n, .int .i64 d] /\ Ct Tryz.prog (fnv 50) #[.slice b m c] a fun e f => ∃ g i j, e = .slice g i j /\ ∃ l, Rf (SV.v (.bool true)) /\ [Ent.mk (.cells [.v (.int .u8 r.kind), .v (.int .u8 r.what), .v (.string r.name), .v (.int .i64 r.p3), .v (.int .i64 r.p4), .v (.int .i64 r.p5), .v (.int .i64 r.p6), .v (.int .i64 r.p7), .v (.int .i64 r.p8), .v (.int .i64 r.p9), .v (.int .i64 r.val), .v (.slice g i j)] 26) (some k)] = [⟨.cells [.v (.int .u8 r.kind), .v (.int .u8 r.what), .v (.string r.name), .v (.int .i64 r.p3), .v (.int .i64 r.p4), .v (.int .i64 r.p5), .v (.int .i64 r.p6), .v (.int .i64 r.p7), .v (.int .i64 r.p8), .v (.int .i64 r.p9), .v (.int .i64 r.val), .v l] 26, some k⟩] /\ ((∃ o p q, y = .slice o p q /\ SlM f o p 1 (List.map (Value.int .u8) r.fed) /\ p <= q /\ q <= 9223372036854775807) -> ∃ o p q, l = .slice o p q /\ SlM f o p 1 (List.map (Value.int .u8) bs) /\ p <= q /\ q <= 9223372036854775807) /\ ∀ (o : Mem), o.le I -> NewB o f y -> NewB o f l) (by kernel_rfl) ?_
 have hok : okFld (11, bs) := ⟨by simp, hbs⟩
 have hlr := last_range hbs;refine (ct60 (11, bs) hok b m c I h hm).mono fun v I1 l1 hv => ⟨_, _, hv, ?_⟩;refine (ct50N bs b m c I1 (h.mono l1) hm).mono fun v I2 l2 ⟨hv, hnb⟩ => ?_;have hv2 := hv;obtain ⟨a, n, c, rfl, _⟩ := hv;exact ⟨_, _, _, rfl, _, rfl, rfl, fun _ => hv2, fun I0 h0 _ => hnb.anti (Mem.le_trans h0 l1)⟩
theorem cs61 (t : Int) (ht : 1 <= t /\ t <= 11) (k : Nat) (r : Rq) (hr : okRq r) (y : Value) (bs : List Int) (hbs : byteL bs) (b : Option Addr) (m c : Nat) (I : Mem) (h : SlM I b m 1 (ints .u8 bs)) (hm : m <= 1000000) :
 CtS Tryz.prog (.v (fnv 61)) [.ptr 0 0, .v (.agg #[.int .i64 t, .slice b m c])] [⟨.cells (rqS r y) 26, some k⟩] I (fun v H' I' => ∃ y', v = .v (.bool (takeB r t bs)) /\ H' = [⟨.cells (rqS (takeR r t bs) y') 26, some k⟩] /\ (BySl I' y r.fed -> BySl I' y' (takeR r t bs).fed) /\ ∀ I0 : Mem, I0.le I -> NewB I0 I' y -> NewB I0 I' y') := by
 rcases (by omega : t = 1 \/ t = 2 \/ t = 3 \/ t = 4 \/ t = 5 \/ t = 6 \/ t = 7 \/ t = 8 \/ t = 9 \/ t = 10 \/ t = 11) with rfl | rfl | rfl | rfl | rfl | rfl | rfl | rfl | rfl | rfl | rfl
 · exact cs42_1 k r hr y bs hbs b m c I h hm
 · exact cs42_2 k r hr y bs hbs b m c I h hm
 · exact cs42_3 k r hr y bs hbs b m c I h hm
 · exact cs42_4 k r hr y bs hbs b m c I h hm
 · exact cs42_5 k r hr y bs hbs b m c I h hm
 · exact cs42_6 k r hr y bs hbs b m c I h hm
 · exact cs42_7 k r hr y bs hbs b m c I h hm
 · exact cs42_8 k r hr y bs hbs b m c I h hm
 · exact cs42_9 k r hr y bs hbs b m c I h hm
 · exact cs42_10 k r hr y bs hbs b m c I h hm
 · exact cs42_11 k r hr y bs hbs b m c I h hm
def askL (w : Int) : Option (List Int) := if w = 1 then some [] else if w = 2 then some [4] else if w = 5 then some [4] else if w = 3 then some [7, 8, 9] else if w = 4 then some [2] else none
def tagL (k w : Int) : Option (List Int) :=
 if k = 1 then some [11] else if k = 2 then some [2, 3] else if k = 3 then some [4, 5, 6] else if k = 4 then some [4] else if k = 5 then some [4, 7, 10] else if k = 6 then some [7]
 else if k = 7 then (askL w).map (1 :: ·) else if k = 8 then some [8, 9] else if k = 9 then some [] else none
def tagP (I I' : Mem) (v : Value) (o : Option (List Int)) : Prop := ∃ (a : Option Addr) (n c : Nat), v = .tuple #[.slice a n c, .bool o.isSome] /\ SlM I' a n 1 (ints .i64 (o.getD [])) /\ n <= c /\ c <= maxLen /\ NewS 1 I I' a c
theorem tagP_cells {I I' : Mem} {b n : Nat} {cs : Array Value} {el : TypeId} {l : List Int} {o : Option (List Int)} (h0 : I b = none) (h : I' b = some (.cells cs el)) (hc : cs = (ints .i64 l).toArray) (hn : n = l.length) (hm : n <= 100) (ho : o = some l) :
 tagP I I' (.tuple #[.slice (some ⟨b, 0, none⟩) n n, .bool true]) o := by
 subst hc; subst ho
 have hs := sl_cells (n := n) (sz := 1) h (by simp [ints]; omega) (by simp only [maxLen]; omega)
 exact ⟨_, _, _, rfl, by simpa using hs, Nat.le_refl _, by simp only [maxLen]; omega, fun _ => ⟨b, 0, _, _, (0, 0), rfl, h0, h, thaw_zero _, by simp [ints]; omega⟩⟩
theorem tagP_nil {I I' : Mem} {t : Bool} {o : Option (List Int)} (ho : o.isSome = t) (hl : o.getD [] = []) : tagP I I' (.tuple #[.slice none 0 0, .bool t]) o := by
 subst ho
 refine ⟨none, 0, 0, rfl, ?_, Nat.le_refl _, Nat.zero_le _, fun h => absurd h (by omega)⟩
 rw [hl];exact sl_nil _ _
theorem eqv {w c : Int} (h : (w == c) = true) : w = c := by simpa using h
theorem nev {w c : Int} (h : (w == c) = false) : w ≠ c := by simpa using h
theorem ct65 (w : Int) (I : Mem) : Ct Tryz.prog (fnv 65) #[.int .u8 w] I (fun v I' => tagP I I' v (askL w)) := by
 refine viaR (ctF_via (A := { }) Tryz.func65 rfl Tryz.call65 rfl rfl) (Br (w == 1) (tagP I I (.tuple #[.slice none 0 0, .bool true]) (askL w)) (Br (w == 2) (Br (w == 2) (∀ (b : Nat) (a : Mem), I.le a -> I b = none -> a b = some (.cells #[.int .i64 4] 3 (0, 0)) -> tagP I a (.tuple #[.slice (some ⟨b, 0, none⟩) 1 1, .bool true]) (askL w)) (Br (w == 3) (∀ (b : Nat) (a : Mem), I.le a -> I b = none -> a b = some (.cells #[.int .i64 7, .int .i64 8, .int .i64 9] 3 (0, 0)) -> tagP I a (.tuple #[.slice (some ⟨b, 0, none⟩) 3 3, .bool true]) (askL w)) (Br (w == 4) (∀ (b : Nat) (a : Mem), I.le a -> I b = none -> a b = some (.cells #[.int .i64 2] 3 (0, 0)) -> tagP I a (.tuple #[.slice (some ⟨b, 0, none⟩) 1 1, .bool true]) (askL w)) (tagP I I (.tuple #[.slice none 0 0, .bool false]) (askL w))))) (Br (w == 5) (∀ (b : Nat) (a : Mem), I.le a -> I b = none -> a b = some (.cells #[.int .i64 4] 3 (0, 0)) -> tagP I a (.tuple #[.slice (some ⟨b, 0, none⟩) 1 1, .bool true]) (askL w)) (Br (w == 3) (∀ (b : Nat) (a : Mem), I.le a -> I b = none -> a b = some (.cells #[.int .i64 7, .int .i64 8, .int .i64 9] 3 (0, 0)) -> tagP I a (.tuple #[.slice (some ⟨b, 0, none⟩) 3 3, .bool true]) (askL w)) (Br (w == 4) (∀ (b : Nat) (a : Mem), I.le a -> I b = none -> a b = some (.cells #[.int .i64 2] 3 (0, 0)) -> tagP I a (.tuple #[.slice (some ⟨b, 0, none⟩) 1 1, .bool true]) (askL w)) (tagP I I (.tuple #[.slice none 0 0, .bool false]) (askL w))))))) (by kernel_rfl) ?_
 refine Br.mk (fun h => ?_) (fun h1 => Br.mk (fun h => Br.mk (fun _ b I1 l1 h0 hb => ?_) (fun h2 => absurd h (by rw [h2]; decide))) (fun h2 => Br.mk (fun h b I1 l1 h0 hb => ?_) (fun h5 => Br.mk (fun h b I1 l1 h0 hb => ?_) (fun h3 => Br.mk (fun h b I1 l1 h0 hb => ?_) (fun h4 => ?_)))))
 · obtain rfl := eqv h
   exact tagP_nil rfl rfl
 · obtain rfl := eqv h
   exact tagP_cells (l := [4]) h0 hb rfl rfl (by omega) rfl
 · obtain rfl := eqv h
   exact tagP_cells (l := [4]) h0 hb rfl rfl (by omega) rfl
 · obtain rfl := eqv h
   exact tagP_cells (l := [7, 8, 9]) h0 hb rfl rfl (by omega) rfl
 · obtain rfl := eqv h
   exact tagP_cells (l := [2]) h0 hb rfl rfl (by omega) rfl
 · have : askL w = none := by rw [askL, if_neg (nev h1), if_neg (nev h2), if_neg (nev h5), if_neg (nev h3), if_neg (nev h4)]
   exact tagP_nil (by rw [this]; rfl) (by rw [this]; rfl)
theorem ct28 (k w : Int) (I : Mem) : Ct Tryz.prog (fnv 28) #[.int .u8 k, .int .u8 w] I (fun v I' => tagP I I' v (tagL k w)) := by
 refine viaR (ctF_via (A := { }) Tryz.func28 rfl Tryz.call28 rfl rfl) (Br (k == 1) (∀ (b : Nat) (a : Mem), I.le a -> I b = none -> a b = some (.cells #[.int .i64 11] 3 (0, 0)) -> tagP I a (.tuple #[.slice (some ⟨b, 0, none⟩) 1 1, .bool true]) (tagL k w)) (Br (k == 2) (∀ (b : Nat) (a : Mem), I.le a -> I b = none -> a b = some (.cells #[.int .i64 2, .int .i64 3] 3 (0, 0)) -> tagP I a (.tuple #[.slice (some ⟨b, 0, none⟩) 2 2, .bool true]) (tagL k w)) (Br (k == 3) (∀ (b : Nat) (a : Mem), I.le a -> I b = none -> a b = some (.cells #[.int .i64 4, .int .i64 5, .int .i64 6] 3 (0, 0)) -> tagP I a (.tuple #[.slice (some ⟨b, 0, none⟩) 3 3, .bool true]) (tagL k w)) (Br (k == 4) (∀ (b : Nat) (a : Mem), I.le a -> I b = none -> a b = some (.cells #[.int .i64 4] 3 (0, 0)) -> tagP I a (.tuple #[.slice (some ⟨b, 0, none⟩) 1 1, .bool true]) (tagL k w)) (Br (k == 5) (∀ (b : Nat) (a : Mem), I.le a -> I b = none -> a b = some (.cells #[.int .i64 4, .int .i64 7, .int .i64 10] 3 (0, 0)) -> tagP I a (.tuple #[.slice (some ⟨b, 0, none⟩) 3 3, .bool true]) (tagL k w)) (Br (k == 6) (∀ (b : Nat) (a : Mem), I.le a -> I b = none -> a b = some (.cells #[.int .i64 7] 3 (0, 0)) -> tagP I a (.tuple #[.slice (some ⟨b, 0, none⟩) 1 1, .bool true]) (tagL k w)) (Br (k == 7) (Ct Tryz.prog (fnv 65) #[.int .u8 w] I (fun v a => ∃ b n c d, v = .tuple #[.slice b n c, .bool d] /\ Br (!d) (tagP I a (.tuple #[.slice none 0 0, .bool false]) (tagL k w)) (∃ y, y.length = n * 1 /\ (b = none -> n = 0) /\ (∀ (j : Nat) (e : Value), y[j]? = some e -> atI a b j = some e) /\ (∀ (e : Value), Membership.mem y e -> e.oneCell' = true) /\ (1 : Nat) = 1 /\ 1 + n <= 9223372036854775807 /\ (1 + n) * 8 <= 140737488355328 /\ ∀ (e : Option Addr) (f : Nat) (g : Mem), a.le g -> RowF a g e f 1 (.int .i64 1 :: y) 3 -> tagP I g (.tuple #[.slice e (1 + n) f, .bool true]) (tagL k w)))) (Br (k == 8) (∀ (b : Nat) (a : Mem), I.le a -> I b = none -> a b = some (.cells #[.int .i64 8, .int .i64 9] 3 (0, 0)) -> tagP I a (.tuple #[.slice (some ⟨b, 0, none⟩) 2 2, .bool true]) (tagL k w)) (Br (k == 9) (tagP I I (.tuple #[.slice none 0 0, .bool true]) (tagL k w)) (tagP I I (.tuple #[.slice none 0 0, .bool false]) (tagL k w))))))))))) (by kernel_rfl) ?_
 refine Br.mk (fun h b I1 l1 h0 hb => ?_) (fun h1 => Br.mk (fun h b I1 l1 h0 hb => ?_) (fun h2 => Br.mk (fun h b I1 l1 h0 hb => ?_) (fun h3 => Br.mk (fun h b I1 l1 h0 hb => ?_) (fun h4 => Br.mk (fun h b I1 l1 h0 hb => ?_) (fun h5 => Br.mk (fun h b I1 l1 h0 hb => ?_) (fun h6 => Br.mk (fun h => ?_) (fun h7 => Br.mk (fun h b I1 l1 h0 hb => ?_) (fun h8 => Br.mk (fun h => ?_) (fun h9 => ?_)))))))))
 · obtain rfl := eqv h
   exact tagP_cells h0 hb rfl rfl (by omega) rfl
 · obtain rfl := eqv h
   exact tagP_cells h0 hb rfl rfl (by omega) rfl
 · obtain rfl := eqv h
   exact tagP_cells h0 hb rfl rfl (by omega) rfl
 · obtain rfl := eqv h
   exact tagP_cells h0 hb rfl rfl (by omega) rfl
 · obtain rfl := eqv h
   exact tagP_cells h0 hb rfl rfl (by omega) rfl
 · obtain rfl := eqv h
   exact tagP_cells h0 hb rfl rfl (by omega) rfl
 · obtain rfl := eqv h
   have ht : tagL 7 w = (askL w).map (1 :: ·) := rfl;refine (ct65 w I).mono fun v I1 l1 ⟨a, n, c, hv, hs, hn, hc, hnw⟩ => ⟨_, _, _, _, hv, Br.mk (fun hb => ?_) (fun hb => ?_)⟩
   · have hb : askL w = none := by simpa using hb
     exact tagP_nil (by rw [ht, hb]; rfl) (by rw [ht, hb]; rfl)
   · cases hq : askL w with
     | none => rw [hq] at hb; cases hb
     | some l =>
      rw [hq, Option.getD_some] at hs;have hl := hs.numLen
      have hlen : l.length <= 3 := by
       unfold askL at hq
       repeat' split at hq
       all_goals first | cases hq; decide | cases hq
      refine ⟨_, hs.len, hs.nil, hs.at_, one_ints, rfl, by omega, by omega, fun a2 cp I2 l2 hrow => ?_⟩
      have hr := hrow.row;have h1 := hr.1;have : ints .i64 (1 :: l) = Value.int .i64 1 :: ints .i64 l := rfl;rw [<- this] at hr h1;rw [ints_len] at h1;have hl1 : (1 :: l).length = l.length + 1 := rfl
      refine ⟨a2, _, cp, by rw [ht, hq]; rfl, ?_, by omega, hr.2.1, hrow.newS.anti l1⟩
      rw [ht, hq]
      exact hr.sl (by omega) (by rw [ints_len]; omega)
 · obtain rfl := eqv h
   exact tagP_cells h0 hb rfl rfl (by omega) rfl
 · obtain rfl := eqv h
   exact tagP_nil rfl rfl
 · have : tagL k w = none := by rw [tagL, if_neg (nev h1), if_neg (nev h2), if_neg (nev h3), if_neg (nev h4), if_neg (nev h5), if_neg (nev h6), if_neg (nev h7), if_neg (nev h8), if_neg (nev h9)]
   exact tagP_nil (by rw [this]; rfl) (by rw [this]; rfl)
def strL (s : ByteArray) : List Int := s.data.toList.map fun b => (b.toNat : Int)
def numR (r : Rq) (t : Int) : Int := if t = 3 then r.p3 else if t = 4 then r.p4 else if t = 5 then r.p5 else if t = 6 then r.p6 else if t = 7 then r.p7 else if t = 8 then r.p8 else r.p9
def bytesR (r : Rq) (t : Int) : List Int := if t = 1 then formN r.what.toNat else if t = 2 then strL r.name else if t = 10 then formN (foldZ r.val).toNat else if t = 11 then r.fed else formN (IntKind.u64.wrap (numR r t)).toNat
def encR (r : Rq) (l : List Int) (k : Nat) (args : Array Value) (I : Mem) : Prop := ∃ (t : Int) (b : Option Addr) (m c : Nat), l[k]? = some t /\ args = #[.agg #[.int .i64 t, .slice b m c]] /\ SlM I b m 1 (ints .u8 (bytesR r t)) /\ m <= c /\ c <= maxLen
def ptrV (k : Nat) : List Value := [.pointer none, .pointer none, .pointer none, .pointer (some ⟨k, 3, none⟩), .pointer (some ⟨k, 4, none⟩), .pointer (some ⟨k, 5, none⟩), .pointer (some ⟨k, 6, none⟩), .pointer (some ⟨k, 7, none⟩), .pointer (some ⟨k, 8, none⟩), .pointer (some ⟨k, 9, none⟩), .pointer none, .pointer none]
theorem atC {I : Mem} {k off i : Nat} {cs : Array Value} {el : TypeId} {v : Value} (h : I k = some (.cells cs el)) (hv : cs[off + i]? = some v) : atI I (some ⟨k, off, none⟩) i = some v := by
 simp only [atI, Option.bind_some, Addr.add_lit, cellM, h, Option.isSome_none, Bool.false_eq_true, if_false];exact hv
theorem str_sl {I : Mem} {a : Option Addr} {q : ByteArray} (hs : a.isSome = true) (hm : q.size <= maxLen) (h : ∀ (j : Nat) (b : UInt8), q.data.toList[j]? = some b -> atI I a j = some (.int .u8 b.toNat)) : SlM I a q.size 1 (ints .u8 (strL q)) := by
 refine ⟨by simp [ints, strL], (fun hn => by rw [hn] at hs; cases hs), hm, fun j v hj => ?_⟩
 simp only [ints, strL, List.getElem?_map, Option.map_eq_some_iff] at hj;obtain ⟨x, ⟨b, hb, rfl⟩, rfl⟩ := hj;exact h j b hb
theorem w64_range (x : Int) : 0 <= IntKind.u64.wrap x /\ IntKind.u64.wrap x <= 18446744073709551615 := by
 rw [w64]; omega
theorem foldZ_range {x : Int} (h : i64R x) : 0 <= foldZ x /\ foldZ x <= 18446744073709551615 := by
 obtain ⟨h1, h2⟩ := h;unfold foldZ
 split <;> omega
theorem gives63 (r : Rq) (hr : okRq r) (hnm : r.name.size <= 1000000) (y : Value) (l : List Int) (hl : ∀ t ∈ l, 1 <= t /\ t <= 11) (k1 k2 k3 : Nat) (a : Option Addr) (n c : Nat) (I : Mem) (h1 : I k1 = some (.cells #[.slice a n c] 52)) (hs : SlM I a n 1 (ints .i64 l)) (hn : n <= 1000000)
 (h2 : I k2 = some (.cells (rqV r y).toArray 26)) (hy : BySl I y r.fed) (h3 : I k3 = some (.cells (ptrV k2).toArray 107)) :
 Gives Tryz.prog (.func (.func 133) #[] #[.pointer (some ⟨k1, 0, none⟩), .pointer (some ⟨k2, 0, none⟩), .pointer (some ⟨k3, 0, none⟩)]) I l.length (encR r l) := by
 refine ⟨fun Y W => ⟨133, _, run_semV_func.trans (Tryz.call133 _ _)⟩, fun Y J D I0 G0 hI0 hJ0 hJ hD hY => ?_⟩
 refine viaR (ctG_via (A := { loops := [(1, ⟨[(0, .keep), (1, .keep), (2, .keep), (3, .keep), (8, .keep), (9, .keep), (10, .sh (.int .i64))], [], [], fun vals _ I' G' => match vals with
  | [.int .i64 j] => 0 <= j /\ j <= n /\ J j.toNat I' G' | _ => False, fun vals _ => match vals with | [.int .i64 j] => (n - j).toNat | _ => 0⟩)], calls := [(52, .g)] }) Tryz.func133 rfl Tryz.call133 rfl rfl) (∃ b d e, atI I0 (some ⟨k1, 0, none⟩) 0 = some (.slice b d e) /\ (Rf (SV.v Y) /\ Rf (SV.v (.pointer (some ⟨k1, 0, none⟩))) /\ Rf (SV.v (.pointer (some ⟨k2, 0, none⟩))) /\ Rf (SV.v (.pointer (some ⟨k3, 0, none⟩))) /\ Rf (SV.v (.slice b d e)) /\ Rf (SV.v (.int .i64 (d : Int))) /\ (0 : Int) <= 0 /\ 0 <= (n : Int) /\ J 0 I0 G0) /\ ∀ (f G : Mem), Mem.le I0 f -> ∀ (g : Int), 0 <= g /\ g <= (n : Int) /\ J g.toNat f G -> Br (decide (g < (d : Int))) (0 <= g /\ g < (d : Int) /\ b.isSome = true /\ ∃ h, atI f b (g.toNat * 1 + 0) = some (.int .i64 h) /\ Br (h == 1) (true = true /\ ∃ i, atI f (some ⟨k2, 0, none⟩) 1 = some (.int .u8 i) /\ Wr .u64 i fun j => Ct Tryz.prog (fnv 134) #[.int .i64 h, .int .u64 j] f fun v k => ∃ m o p q, v = .agg #[.int .i64 m, .slice o p q] /\ CtH Tryz.prog Y #[.agg #[.int .i64 m, .slice o p q]] k G fun s t u => ∃ w, s = .bool w /\ Br (!w) (J l.length t u \/ D t u) (Wr .i64 (g + 1) (fun x => Rf (SV.v Y) /\ Rf (SV.v (.pointer (some ⟨k1, 0, none⟩))) /\ Rf (SV.v (.pointer (some ⟨k2, 0, none⟩))) /\ Rf (SV.v (.pointer (some ⟨k3, 0, none⟩))) /\ Rf (SV.v (.slice b d e)) /\ Rf (SV.v (.int .i64 (d : Int))) /\ (0 <= x /\ x <= (n : Int) /\ J x.toNat t u) /\ Int.toNat ((n : Int) - x) < Int.toNat ((n : Int) - g)))) (Br (h == 2) (true = true /\ ∃ q, atI f (some ⟨k2, 0, none⟩) 2 = some (.string q) /\ q.size <= 4611686018427387904 /\ ∀ (i : Option Addr) (j : Nat) (k : Mem), f.le k -> i.isSome = true -> q.size <= j -> j <= 9223372036854775807 -> (∀ (m : Nat) (o : UInt8), q.data.toList[m]? = some o -> atI k i m = some (.int .u8 (o.toNat : Int))) -> CtH Tryz.prog Y #[.agg #[.int .i64 h, .slice i q.size j]] k G fun v m o => ∃ p, v = .bool p /\ Br (!p) (J l.length m o \/ D m o) (Wr .i64 (g + 1) (fun s => Rf (SV.v Y) /\ Rf (SV.v (.pointer (some ⟨k1, 0, none⟩))) /\ Rf (SV.v (.pointer (some ⟨k2, 0, none⟩))) /\ Rf (SV.v (.pointer (some ⟨k3, 0, none⟩))) /\ Rf (SV.v (.slice b d e)) /\ Rf (SV.v (.int .i64 (d : Int))) /\ (0 <= s /\ s <= (n : Int) /\ J s.toNat m o) /\ Int.toNat ((n : Int) - s) < Int.toNat ((n : Int) - g)))) (Br (h == 10) (true = true /\ ∃ i, atI f (some ⟨k2, 0, none⟩) 10 = some (.int .i64 i) /\ Ct Tryz.prog (fnv 135) #[.int .i64 i] f fun v j => ∃ k, v = .int .u64 k /\ Ct Tryz.prog (fnv 134) #[.int .i64 h, .int .u64 k] j fun m o => ∃ p q s t, m = .agg #[.int .i64 p, .slice q s t] /\ CtH Tryz.prog Y #[.agg #[.int .i64 p, .slice q s t]] o G fun u w x => ∃ z, u = .bool z /\ Br (!z) (J l.length w x \/ D w x) (Wr .i64 (g + 1) (fun c1 => Rf (SV.v Y) /\ Rf (SV.v (.pointer (some ⟨k1, 0, none⟩))) /\ Rf (SV.v (.pointer (some ⟨k2, 0, none⟩))) /\ Rf (SV.v (.pointer (some ⟨k3, 0, none⟩))) /\ Rf (SV.v (.slice b d e)) /\ Rf (SV.v (.int .i64 (d : Int))) /\ (0 <= c1 /\ c1 <= (n : Int) /\ J c1.toNat w x) /\ Int.toNat ((n : Int) - c1) < Int.toNat ((n : Int) - g)))) (Br (h == 11) (true = true /\ ∃ i j k, atI f (some ⟨k2, 0, none⟩) 11 = some (.slice i j k) /\ CtH Tryz.prog Y #[.agg #[.int .i64 h, .slice i j k]] f G fun v m o => ∃ p, v = .bool p /\ Br (!p) (J l.length m o \/ D m o) (Wr .i64 (g + 1) (fun q => Rf (SV.v Y) /\ Rf (SV.v (.pointer (some ⟨k1, 0, none⟩))) /\ Rf (SV.v (.pointer (some ⟨k2, 0, none⟩))) /\ Rf (SV.v (.pointer (some ⟨k3, 0, none⟩))) /\ Rf (SV.v (.slice b d e)) /\ Rf (SV.v (.int .i64 (d : Int))) /\ (0 <= q /\ q <= (n : Int) /\ J q.toNat m o) /\ Int.toNat ((n : Int) - q) < Int.toNat ((n : Int) - g)))) (0 <= h /\ h < 12 /\ true = true /\ ∃ i, atI f (some ⟨k3, 0, none⟩) (h.toNat * 1 + 0) = some (.pointer i) /\ i.isSome = true /\ ∃ j, atI f i 0 = some (.int .i64 j) /\ Wr .u64 j fun k => Ct Tryz.prog (fnv 134) #[.int .i64 h, .int .u64 k] f fun v m => ∃ o p q s, v = .agg #[.int .i64 o, .slice p q s] /\ CtH Tryz.prog Y #[.agg #[.int .i64 o, .slice p q s]] m G fun t u w => ∃ x, t = .bool x /\ Br (!x) (J l.length u w \/ D u w) (Wr .i64 (g + 1) (fun z => Rf (SV.v Y) /\ Rf (SV.v (.pointer (some ⟨k1, 0, none⟩))) /\ Rf (SV.v (.pointer (some ⟨k2, 0, none⟩))) /\ Rf (SV.v (.pointer (some ⟨k3, 0, none⟩))) /\ Rf (SV.v (.slice b d e)) /\ Rf (SV.v (.int .i64 (d : Int))) /\ (0 <= z /\ z <= (n : Int) /\ J z.toNat u w) /\ Int.toNat ((n : Int) - z) < Int.toNat ((n : Int) - g)))))))) (J l.length f G \/ D f G)) (by kernel_rfl) ?_
 simp only [eq_self, true_and]
 have hmx : maxLen = 9223372036854775807 := by decide
 have hln := hs.numLen;have c1 : ∀ {I' : Mem}, I0.le I' -> atI I' (some ⟨k1, 0, none⟩) 0 = some (.slice a n c) := fun hle => atC (hle _ _ (hI0 _ _ h1)) rfl
 refine ⟨a, n, c, c1 (Mem.le_refl _), ⟨by omega, by omega, hJ0⟩, fun I1 G1 l1 j ⟨j0, j1, hj⟩ => Br.mk (fun hlt => ?_) (fun hge => ?_)⟩
 rotate_left
 · have hge := of_decide_eq_false hge
   rw [show j.toNat = l.length by omega] at hj
   exact .inl hj
 have hlt := of_decide_eq_true hlt;have l01 := Mem.le_trans hI0 l1;have hsI := hs.mono l01;obtain ⟨t, ht, hat⟩ := hsI.intAt j0 hlt;have htr := hl t (List.mem_of_getElem? ht)
 have c2 : ∀ {i : Nat} {v : Value}, (rqV r y)[i]? = some v -> atI I1 (some ⟨k2, 0, none⟩) i = some v := fun hv => atC (l01 _ _ h2) (by simpa using hv)
 have tail : ∀ {I2 : Mem} {b : Option Addr} {m d : Nat}, I1.le I2 -> SlM I2 b m 1 (ints .u8 (bytesR r t)) -> m <= d -> d <= maxLen ->
  CtH Tryz.prog Y #[.agg #[.int .i64 t, .slice b m d]] I2 G1 fun v I' G' => ∃ b, v = Value.bool b /\ Br (!b) (J l.length I' G' \/ D I' G') (Wr IntKind.i64 (j + 1) fun c_3 => (0 <= c_3 /\ c_3 <= n /\ J c_3.toNat I' G') /\ (n - c_3).toNat < (n - j).toNat) := by
  intro I2 b m d hle h4 h5 h6
  refine (hY j.toNat I2 G1 _ (by omega) (Mem.le_trans l1 hle) (hJ _ _ _ _ hj hle) ⟨t, b, m, d, ht, rfl, h4, h5, h6⟩).mono fun v I3 G3 _ hv => ?_
  rcases hv with ⟨hv, hj'⟩ | ⟨hv, hd⟩
  · exact ⟨true, hv, Br.f rfl (wr_i64 (by omega) (by omega) ⟨⟨by omega, by omega, by rw [show (j + 1).toNat = j.toNat + 1 by omega]; exact hj'⟩, by omega⟩)⟩
  · exact ⟨false, hv, Br.t rfl (.inr hd)⟩
 have num : ∀ {I2 : Mem} {x : Int}, I1.le I2 -> 0 <= x /\ x <= 18446744073709551615 -> bytesR r t = formN x.toNat -> Ct Tryz.prog (fnv 134) #[.int .i64 t, .int .u64 x] I2 fun v I' => ∃ n_5 a_3 n_6 c_2, v = Value.agg #[Value.int IntKind.i64 n_5, Value.slice a_3 n_6 c_2] /\ CtH Tryz.prog Y #[Value.agg #[Value.int IntKind.i64 n_5, Value.slice a_3 n_6 c_2]] I' G1 fun v I' G' => ∃ b, v = Value.bool b /\ Br (!b) (J l.length I' G' \/ D I' G') (Wr IntKind.i64 (j + 1) fun c_3 => (0 <= c_3 /\ c_3 <= n /\ J c_3.toNat I' G') /\ (n - c_3).toNat < (n - j).toNat) := by
  intro I2 x hle hx hb;refine (ct134 t x hx I2).mono fun v I3 l3 ⟨y2, hv, hy2⟩ => ?_;obtain ⟨b, m, d, rfl, h4, h5, h6⟩ := hy2
  exact ⟨_, _, _, _, hv, tail (Mem.le_trans hle l3) (by rw [hb]; exact h4) h5 h6⟩
 refine ⟨j0, hlt, hs.isSome (by omega), t, hat, Br.mk (fun e1 => ?_) (fun e1 => Br.mk (fun e2 => ?_) (fun e2 => Br.mk (fun e10 => ?_) (fun e10 => Br.mk (fun e11 => ?_) (fun e11 => ?_))))⟩
 · have e1 := eqv e1
   refine ⟨_, c2 rfl, _, IntWalk.u64_in _ ⟨hr.what.1, by have := hr.what.2; omega⟩, num (Mem.le_refl _) ⟨hr.what.1, by have := hr.what.2; omega⟩ (by rw [bytesR, if_pos e1])⟩
 · have e2 := eqv e2
   refine ⟨_, c2 rfl, by omega, fun a3 cp I2 l2 hs3 hq hcp hat3 => tail l2 ?_ hq (by omega)⟩
   rw [bytesR, if_neg (nev e1), if_pos e2]
   exact str_sl hs3 (by omega) hat3
 · have e10 := eqv e10
   refine ⟨_, c2 rfl, (ct135 r.val hr.val I1).mono fun v I2 l2 hv => ⟨_, hv, num l2 (foldZ_range hr.val) (by rw [bytesR, if_neg (nev e1), if_neg (nev e2), if_pos e10])⟩⟩
 · have e11 := eqv e11
   obtain ⟨b, m, d, rfl, h4, h5, h6⟩ := hy;refine ⟨_, _, _, c2 rfl, tail (Mem.le_refl _) ?_ h5 h6⟩;rw [bytesR, if_neg (nev e1), if_neg (nev e2), if_neg (nev e10), if_pos e11];exact h4.mono l01
 · have hb : bytesR r t = formN (IntKind.u64.wrap (numR r t)).toNat := by rw [bytesR, if_neg (nev e1), if_neg (nev e2), if_neg (nev e10), if_neg (nev e11)]
   have c3 : ∀ {i : Nat} {v : Value}, (ptrV k2)[i]? = some v -> atI I1 (some ⟨k3, 0, none⟩) i = some v := fun hv => atC (l01 _ _ h3) (by simpa using hv)
   have c4 : ∀ {i : Nat} {v : Value}, (rqV r y)[i]? = some v -> atI I1 (some ⟨k2, i, none⟩) 0 = some v := fun hv => atC (l01 _ _ h2) (by simpa using hv)
   have n1 := nev e1;have n2 := nev e2;have n10 := nev e10;have n11 := nev e11
   rcases (by omega : t = 3 \/ t = 4 \/ t = 5 \/ t = 6 \/ t = 7 \/ t = 8 \/ t = 9) with rfl | rfl | rfl | rfl | rfl | rfl | rfl
   · exact ⟨by omega, by omega, _, c3 (i := 3) rfl, rfl, _, c4 (i := 3) rfl, _, rfl, num (Mem.le_refl _) (w64_range _) hb⟩
   · exact ⟨by omega, by omega, _, c3 (i := 4) rfl, rfl, _, c4 (i := 4) rfl, _, rfl, num (Mem.le_refl _) (w64_range _) hb⟩
   · exact ⟨by omega, by omega, _, c3 (i := 5) rfl, rfl, _, c4 (i := 5) rfl, _, rfl, num (Mem.le_refl _) (w64_range _) hb⟩
   · exact ⟨by omega, by omega, _, c3 (i := 6) rfl, rfl, _, c4 (i := 6) rfl, _, rfl, num (Mem.le_refl _) (w64_range _) hb⟩
   · exact ⟨by omega, by omega, _, c3 (i := 7) rfl, rfl, _, c4 (i := 7) rfl, _, rfl, num (Mem.le_refl _) (w64_range _) hb⟩
   · exact ⟨by omega, by omega, _, c3 (i := 8) rfl, rfl, _, c4 (i := 8) rfl, _, rfl, num (Mem.le_refl _) (w64_range _) hb⟩
   · exact ⟨by omega, by omega, _, c3 (i := 9) rfl, rfl, _, c4 (i := 9) rfl, _, rfl, num (Mem.le_refl _) (w64_range _) hb⟩
theorem ct102 (r : Rq) (y : Value) (a : Option Addr) (n c : Nat) (I : Mem) :
 Ct Tryz.prog (fnv 102) #[.agg (rqV r y).toArray, .slice a n c] I (fun v I' => ∃ k1 k2 k3, v = .func (.func 133) #[] #[.pointer (some ⟨k1, 0, none⟩), .pointer (some ⟨k2, 0, none⟩), .pointer (some ⟨k3, 0, none⟩)] /\ I' k1 = some (.cells #[.slice a n c] 52) /\ I' k2 = some (.cells (rqV r y).toArray 26) /\ I' k3 = some (.cells (ptrV k2).toArray 107)) := by
 refine viaR (ct_via (A := {}) Tryz.func102 rfl Tryz.call102 rfl rfl) (∀ (b : Nat) (d : Mem), I.le d -> d b = some (.cells #[.int .u8 r.kind, .int .u8 r.what, .string r.name, .int .i64 r.p3, .int .i64 r.p4, .int .i64 r.p5, .int .i64 r.p6, .int .i64 r.p7, .int .i64 r.p8, .int .i64 r.p9, .int .i64 r.val, y] 26 (0, 0)) -> Ct Tryz.prog (fnv 62) #[.pointer (some ⟨b, 0, none⟩)] d fun v e => ∃ f g h i j k l m o p q s, v = .agg #[.pointer f, .pointer g, .pointer h, .pointer i, .pointer j, .pointer k, .pointer l, .pointer m, .pointer o, .pointer p, .pointer q, .pointer s] /\ ∀ (t : Nat) (u : Mem), e.le u -> u t = some (.cells #[.slice a n c] 52 (0, 0)) -> ∀ (w : Nat) (x : Mem), u.le x -> x w = some (.cells #[.pointer f, .pointer g, .pointer h, .pointer i, .pointer j, .pointer k, .pointer l, .pointer m, .pointer o, .pointer p, .pointer q, .pointer s] 107 (0, 0)) -> ∃ z k1 k2, Value.func (.func 133) #[] #[.pointer (some ⟨t, 0, none⟩), .pointer (some ⟨b, 0, none⟩), .pointer (some ⟨w, 0, none⟩)] = .func (.func 133) #[] #[.pointer (some ⟨z, 0, none⟩), .pointer (some ⟨k1, 0, none⟩), .pointer (some ⟨k2, 0, none⟩)] /\ x z = some (.cells #[.slice a n c] 52 (0, 0)) /\ x k1 = some (.cells #[.int .u8 r.kind, .int .u8 r.what, .string r.name, .int .i64 r.p3, .int .i64 r.p4, .int .i64 r.p5, .int .i64 r.p6, .int .i64 r.p7, .int .i64 r.p8, .int .i64 r.p9, .int .i64 r.val, y] 26 (0, 0)) /\ x k2 = some (.cells #[.pointer none, .pointer none, .pointer none, .pointer (some ⟨k1, 3, none⟩), .pointer (some ⟨k1, 4, none⟩), .pointer (some ⟨k1, 5, none⟩), .pointer (some ⟨k1, 6, none⟩), .pointer (some ⟨k1, 7, none⟩), .pointer (some ⟨k1, 8, none⟩), .pointer (some ⟨k1, 9, none⟩), .pointer none, .pointer none] 107 (0, 0))) (by kernel_rfl) ?_
 intro b I1 l1 hb;refine (ct62 b I1).mono fun v I2 l2 hv => ⟨_, _, _, _, _, _, _, _, _, _, _, _, hv, fun b1 I3 l3 hb1 b2 I4 l4 hb2 => ⟨b1, b, b2, rfl, l4 _ _ hb1, (Mem.le_trans l2 (Mem.le_trans l3 l4)) _ _ hb, hb2⟩⟩
theorem bytesR_ok {r : Rq} (hr : okRq r) (t : Int) : byteL (bytesR r t) := by
 unfold bytesR;have hw := hr.what;have hv := foldZ_range hr.val;have hn := w64_range (numR r t);split
 · exact formN_bytes (by omega)
 split
 · intro z hz
   simp only [strL, List.mem_map] at hz;obtain ⟨b, _, rfl⟩ := hz;have := b.toNat_lt;omega
 split
 · exact formN_bytes (by omega)
 split
 · exact hr.fed
 · exact formN_bytes (by omega)
def fldsR (r : Rq) (l : List Int) : List (Int × List Int) := l.map fun t => (t, bytesR r t)
theorem ct132 (r : Rq) (hr : okRq r) (l : List Int) (hl : ∀ t ∈ l, 1 <= t /\ t <= 11) (hn : l.length <= 20) (it : Value) (I : Mem) (hit : Gives Tryz.prog it I l.length (encR r l)) :
 Ct Tryz.prog (fnv 132) #[.slice none 0 0, it] I (fun v I' => ∃ a' n' c', v = .slice a' n' c' /\ FldM I' a' n' (fldsR r l) /\ n' <= c' /\ c' <= maxLen) := by
 refine viaR (ct_via (A := { rfs := [(3, { n := l.length, enc := encR r l, ps := [.agg [.int .i64, .sl]], pre := [(2, 2, 104)], ents := [(0, .cells [.row 1]), (1, .row)], inv := (fun k vals xss I' _ => match xss with | [xs] => FR I' xs (fldsR r (l.take k)) | _ => False), jumps := [] })] }) Tryz.func132 rfl Tryz.call132 rfl rfl) (∀ (b a c : Nat) (d : Loop), Gives Tryz.prog it I l.length (encR r l) /\ (∀ (k : Nat) (e : Array Value) (f : Mem), encR r l k e f -> psOk [.agg [.int .i64, .sl]] e.toList = true) /\ (Rf (Ent.mk (.raw (.deferred (some []))) (some a)) /\ Rf (Ent.mk (.raw (.loop ⟨.ready, none, d.fn, d.tmps, d.params, d.assign, d.body, d.defers⟩)) (some c)) /\ Rf (some b) /\ (0 : Nat) = 0 /\ ((b = b /\ a = a /\ c = c /\ True) /\ Rf (Obj.loop ⟨.ready, none, d.fn, d.tmps, d.params, d.assign, d.body, d.defers⟩)) /\ FR I [] []) /\ (∀ (k : Nat) (e : Mem), Mem -> k < l.length -> I.le e -> ∀ (x : List Value), FR e x (fldsR r (List.take k l)) -> ∀ (f : Mem), e.le f -> ∀ (n : Int) (g : Option Addr) (h i : Nat), encR r l k #[.agg #[.int .i64 n, .slice g h i]] f -> Rf (Obj.loop ⟨.ready, none, d.fn, d.tmps, d.params, d.assign, d.body, d.defers⟩) /\ Rf (some c) /\ x.length = x.length / 2 * 2 /\ x.length / 2 + 1 <= 9223372036854775807 /\ (x.length / 2 + 1) * 32 <= 140737488355328 /\ Rf (Obj.loop ⟨.busy, none, d.fn, d.tmps, d.params, d.assign, d.body, d.defers⟩) /\ Rf (some c) /\ Rf (Ent.mk (.raw (.deferred (some []))) (some a)) /\ Rf (Ent.mk (.raw (.loop ⟨.ready, none, d.fn, d.tmps, d.params, d.assign, d.body, d.defers⟩)) (some c)) /\ Rf (some b) /\ x.length / 2 + 1 = List.length (x ++ [.int .i64 n, .slice g h i]) / 2 /\ ((b = b /\ a = a /\ c = c /\ True) /\ Rf (Obj.loop ⟨.ready, none, d.fn, d.tmps, d.params, d.assign, d.body, d.defers⟩)) /\ FR f (x ++ [.int .i64 n, .slice g h i]) (fldsR r (List.take (k + 1) l))) /\ (∀ (e : Mem), Mem -> I.le e -> ∀ (x : List Value), FR e x (fldsR r (List.take l.length l)) -> ∀ (f : Mem), e.le f -> ∀ (g : Option Addr) (h : Nat) (i : Mem), f.le i -> RowM i g h 2 x -> ∃ j n k, Value.slice g (x.length / 2) h = .slice j n k /\ FldM i j n (fldsR r l) /\ n <= k /\ k <= 9223372036854775807) /\ True) (by kernel_rfl) ?_
 simp only [eq_self, true_and, and_true];intro b bd br rc;refine ⟨hit, ?_, trivial, ?_, ?_⟩
 · rintro k args I2 ⟨t, b, m, c, _, rfl, _⟩; rfl
 · rintro k I2 G2 hk l2 xs hF I3 l3 t b m c ⟨t', b', m', c', ht, hargs, hsl, hmc, hcm⟩
   cases hargs;have htr := hl t (List.mem_of_getElem? ht);have hxl := hF.len
   have hlk : (fldsR r (l.take k)).length <= 20 := by simp [fldsR]; omega
   refine ⟨by omega, by omega, by omega, by simp, ?_⟩
   rw [take_succ' ht, fldsR, List.map_append]
   exact FR.snoc (f := (t, bytesR r t)) (hF.mono l3) ⟨⟨by simp only; omega, bytesR_ok hr t⟩, rfl, _, _, _, rfl, hsl, hmc, hcm⟩
 · intro I2 G2 l2 xs hF I3 l3 a cp I4 l4 hrow
   rw [List.take_length] at hF;obtain ⟨a3, n3, c3, e1, e2, e3, e4⟩ := fr_row hrow (hF.mono (Mem.le_trans l3 l4));exact ⟨a3, n3, c3, e1, e2, e3, e4⟩
theorem ct101 (r : Rq) (hr : okRq r) (l : List Int) (hl : ∀ t ∈ l, 1 <= t /\ t <= 11) (hn : l.length <= 20) (it : Value) (I : Mem) (hit : Gives Tryz.prog it I l.length (encR r l)) :
 Ct Tryz.prog (fnv 101) #[it] I (fun v I' => ∃ a' n' c', v = .slice a' n' c' /\ FldM I' a' n' (fldsR r l) /\ n' <= c' /\ c' <= maxLen) := by
 refine viaR (ct_via (A := { }) Tryz.func101 rfl Tryz.call101 rfl rfl) (Ct Tryz.prog (fnv 132) #[.slice none 0 0, it] I fun v a => ∃ b n c, v = .slice b n c /\ ∃ d e f, Value.slice b n c = .slice d e f /\ FldM a d e (fldsR r l) /\ e <= f /\ f <= 9223372036854775807) (by kernel_rfl) ?_
 exact (ct132 r hr l hl hn it I hit).mono fun v I1 l1 ⟨a, n, c, hv, h1⟩ => ⟨_, _, _, hv, _, _, _, rfl, h1⟩
def chainT : Int -> List (Int × List Int) -> Bool
 | _, [] => true
 | last, f :: r => decide (last < f.1) && (decide (f.1 <= 200) && chainT f.1 r)
def sumL : List (Int × List Int) -> Int
 | [] => 0
 | f :: r => f.2.length + sumL r
theorem sumL_nonneg : ∀ l, 0 <= sumL l
 | [] => by simp [sumL]
 | f :: r => by have := sumL_nonneg r; rw [sumL]; omega
theorem step_split : ∀ (l : List (Int × List Int)) (last left : Int), 0 <= left -> rightStep last left l = (chainT last l && decide (sumL l <= left))
 | [], last, left, h => by simp [rightStep, chainT, sumL, h]
 | f :: r, last, left, h => by
  have hs := sumL_nonneg r;rw [rightStep, chainT, sumL];split
  · rename_i hc
    by_cases h1 : last < f.1
    · by_cases h2 : f.1 <= 200
      · rw [decide_eq_false (p := (f.2.length : Int) + sumL r <= left) (by omega)]; simp
      · simp [h2]
    · simp [h1]
  · rename_i hc
    rw [step_split r _ _ (by omega), decide_eq_true (p := last < f.1) (by omega), decide_eq_true (p := f.1 <= 200) (by omega)]
    simp only [Bool.true_and]
    congr 1
    exact decide_eq_decide.2 (by omega)
theorem right_split (l : List (Int × List Int)) : rightF l = (decide (l.length <= 64) && (chainT 0 l && decide (sumL l <= 16384))) := by
 rw [Bool.eq_iff_iff, rightF_iff, step_split _ _ _ (by omega)]
 simp only [Bool.and_eq_true, decide_eq_true_eq];exact ⟨fun h => ⟨h.2, h.1⟩, fun h => ⟨h.2, h.1⟩⟩
def sameR (r q : Rq) : Bool := decide (r.fed = q.fed /\ r.kind = q.kind /\ r.what = q.what /\ r.name = q.name /\ r.val = q.val /\ r.p3 = q.p3 /\ r.p4 = q.p4 /\ r.p5 = q.p5 /\ r.p6 = q.p6 /\ r.p7 = q.p7 /\ r.p8 = q.p8 /\ r.p9 = q.p9)
theorem ptr_at {I : Mem} {k kb : Nat} (h : I kb = some (.cells (ptrV k).toArray 107)) {n : Int} (h0 : 0 <= n) (h1 : n < 12) :
 atI I (some ⟨kb, 0, none⟩) (n.toNat * 1 + 0) = some (.pointer (if 3 <= n /\ n <= 9 then some ⟨k, n.toNat, none⟩ else none)) := by
 rcases (by omega : n = 0 \/ n = 1 \/ n = 2 \/ n = 3 \/ n = 4 \/ n = 5 \/ n = 6 \/ n = 7 \/ n = 8 \/ n = 9 \/ n = 10 \/ n = 11) with rfl | rfl | rfl | rfl | rfl | rfl | rfl | rfl | rfl | rfl | rfl | rfl
 all_goals exact atC h rfl
theorem num_at {I : Mem} {k : Nat} {r : Rq} {y : Value} (h : I k = some (.cells (rqV r y).toArray 26)) {n : Int} (h0 : 3 <= n) (h1 : n <= 9) :
 atI I (some ⟨k, n.toNat, none⟩) 0 = some (.int .i64 (numR r n)) := by
 rcases (by omega : n = 3 \/ n = 4 \/ n = 5 \/ n = 6 \/ n = 7 \/ n = 8 \/ n = 9) with rfl | rfl | rfl | rfl | rfl | rfl | rfl
 all_goals exact atC h rfl
theorem same_num {r q : Rq} (h : sameR r q = true) (t : Int) : numR r t = numR q t := by
 have h := of_decide_eq_true h;obtain ⟨_, _, _, _, _, h3, h4, h5, h6, h7, h8, h9⟩ := h;simp only [numR, h3, h4, h5, h6, h7, h8, h9]
theorem same_no {r q : Rq} {Q : Prop} (h : ¬ Q) (hq : sameR r q = true -> Q) : Value.bool false = Value.bool (sameR r q) := by
 cases hs : sameR r q with
 | false => rfl
 | true => exact absurd (hq hs) h
theorem ct24 (r q : Rq) (hr : okRq r) (hq : okRq q) (y z : Value) (I : Mem) (hy : BySl I y r.fed) (hz : BySl I z q.fed) :
 Ct Tryz.prog (fnv 24) #[.agg (rqV r y).toArray, .agg (rqV q z).toArray] I (fun v I' => v = .bool (sameR r q)) := by
 obtain ⟨a1, n1, c1, rfl, hs1, _⟩ := hy;obtain ⟨a2, n2, c2, rfl, hs2, _⟩ := hz
 refine viaR (ct_via (A := { befores := [(4, [2, 3])], loops := [(5, ⟨[(5, .keep), (6, .keep), (44, .sh (.int .i64))], [], [], fun vals _ _ _ => match vals with | [.int .i64 j] => 0 <= j /\ j <= 12 /\ ∀ i : Int, 3 <= i -> i <= 9 -> i < j -> numR r i = numR q i | _ => False, fun vals _ => match vals with | [.int .i64 j] => (12 - j).toNat | _ => 0⟩)] }) Tryz.func24 rfl Tryz.call24 rfl rfl) (Ct Tryz.prog (fnv 43) #[.slice a1 n1 c1, .slice a2 n2 c2] I fun v a => ∃ b, v = .bool b /\ Br (!b) (Value.bool false = .bool (sameR r q)) (Br (r.kind != q.kind) (Value.bool false = .bool (sameR r q)) (Br (r.what != q.what) (Value.bool false = .bool (sameR r q)) (Br (!(r.name.toList == q.name.toList)) (Value.bool false = .bool (sameR r q)) (Br (r.val != q.val) (Value.bool false = .bool (sameR r q)) (∀ (c : Nat) (d : Mem), a.le d -> d c = some (.cells #[.int .u8 r.kind, .int .u8 r.what, .string r.name, .int .i64 r.p3, .int .i64 r.p4, .int .i64 r.p5, .int .i64 r.p6, .int .i64 r.p7, .int .i64 r.p8, .int .i64 r.p9, .int .i64 r.val, .slice a1 n1 c1] 26 (0, 0)) -> Ct Tryz.prog (fnv 62) #[.pointer (some ⟨c, 0, none⟩)] d fun e f => ∃ g h i j k l m n o p s t, e = .agg #[.pointer g, .pointer h, .pointer i, .pointer j, .pointer k, .pointer l, .pointer m, .pointer n, .pointer o, .pointer p, .pointer s, .pointer t] /\ ∀ (u : Nat) (w : Mem), f.le w -> w u = some (.cells #[.int .u8 q.kind, .int .u8 q.what, .string q.name, .int .i64 q.p3, .int .i64 q.p4, .int .i64 q.p5, .int .i64 q.p6, .int .i64 q.p7, .int .i64 q.p8, .int .i64 q.p9, .int .i64 q.val, .slice a2 n2 c2] 26 (0, 0)) -> Ct Tryz.prog (fnv 62) #[.pointer (some ⟨u, 0, none⟩)] w fun x y => ∃ z a3 a4 a5 a6 a7 a8 a9 a10 a11 a12 a13, x = .agg #[.pointer z, .pointer a3, .pointer a4, .pointer a5, .pointer a6, .pointer a7, .pointer a8, .pointer a9, .pointer a10, .pointer a11, .pointer a12, .pointer a13] /\ ∀ (b1 : Nat) (I1 : Mem), y.le I1 -> I1 b1 = some (.cells #[.pointer g, .pointer h, .pointer i, .pointer j, .pointer k, .pointer l, .pointer m, .pointer n, .pointer o, .pointer p, .pointer s, .pointer t] 107 (0, 0)) -> ∀ (b2 : Nat) (I2 : Mem), I1.le I2 -> I2 b2 = some (.cells #[.pointer z, .pointer a3, .pointer a4, .pointer a5, .pointer a6, .pointer a7, .pointer a8, .pointer a9, .pointer a10, .pointer a11, .pointer a12, .pointer a13] 107 (0, 0)) -> (Rf (SV.v (.pointer (some ⟨b1, 0, none⟩))) /\ Rf (SV.v (.pointer (some ⟨b2, 0, none⟩))) /\ (0 : Int) <= 0 /\ (0 : Int) <= 12 /\ ∀ (i1 : Int), 3 <= i1 -> i1 <= 9 -> i1 < 0 -> numR r i1 = numR q i1) /\ ∀ (I3 : Mem), Mem -> I2.le I3 -> ∀ (n3 : Int), 0 <= n3 /\ n3 <= 12 /\ (∀ (i1 : Int), 3 <= i1 -> i1 <= 9 -> i1 < n3 -> numR r i1 = numR q i1) -> Br (decide (n3 < 12)) (0 <= n3 /\ n3 < 12 /\ true = true /\ ∃ a14, atI I3 (some ⟨b1, 0, none⟩) (n3.toNat * 1 + 0) = some (.pointer a14) /\ Br (!a14.isNone) (0 <= n3 /\ n3 < 12 /\ true = true /\ ∃ a15, atI I3 (some ⟨b1, 0, none⟩) (n3.toNat * 1 + 0) = some (.pointer a15) /\ a15.isSome = true /\ ∃ n4, atI I3 a15 0 = some (.int .i64 n4) /\ 0 <= n3 /\ n3 < 12 /\ true = true /\ ∃ a16, atI I3 (some ⟨b2, 0, none⟩) (n3.toNat * 1 + 0) = some (.pointer a16) /\ a16.isSome = true /\ ∃ n5, atI I3 a16 0 = some (.int .i64 n5) /\ Br (n4 != n5) (Value.bool false = .bool (sameR r q)) (Wr .i64 (n3 + 1) (fun c3 => Rf (SV.v (.pointer (some ⟨b1, 0, none⟩))) /\ Rf (SV.v (.pointer (some ⟨b2, 0, none⟩))) /\ (0 <= c3 /\ c3 <= 12 /\ ∀ (i1 : Int), 3 <= i1 -> i1 <= 9 -> i1 < c3 -> numR r i1 = numR q i1) /\ Int.toNat (12 - c3) < Int.toNat (12 - n3)))) (Wr .i64 (n3 + 1) (fun c3 => Rf (SV.v (.pointer (some ⟨b1, 0, none⟩))) /\ Rf (SV.v (.pointer (some ⟨b2, 0, none⟩))) /\ (0 <= c3 /\ c3 <= 12 /\ ∀ (i1 : Int), 3 <= i1 -> i1 <= 9 -> i1 < c3 -> numR r i1 = numR q i1) /\ Int.toNat (12 - c3) < Int.toNat (12 - n3)))) (Value.bool true = .bool (sameR r q)))))))) (by kernel_rfl) ?_
 simp only [eq_self, true_and];refine (ct43 r.fed q.fed hr.fed hq.fed a1 a2 n1 c1 n2 c2 I hs1 hs2).mono fun v I1 l1 hv => ⟨_, hv, Br.mk (fun h => ?_) (fun e1 => Br.mk (fun h => ?_) (fun e2 => Br.mk (fun h => ?_) (fun e3 => Br.mk (fun h => ?_) (fun e4 => Br.mk (fun h => ?_) (fun e5 => ?_)))))⟩
 · have h : ¬ r.fed = q.fed := by simpa using h
   exact same_no h fun hs => (of_decide_eq_true hs).1
 · have h : ¬ r.kind = q.kind := by simpa using h
   exact same_no h fun hs => (of_decide_eq_true hs).2.1
 · have h : ¬ r.what = q.what := by simpa using h
   exact same_no h fun hs => (of_decide_eq_true hs).2.2.1
 · rw [str_eq] at h
   have h : ¬ r.name = q.name := by simpa using h
   exact same_no h fun hs => (of_decide_eq_true hs).2.2.2.1
 · have h : ¬ r.val = q.val := by simpa using h
   exact same_no h fun hs => (of_decide_eq_true hs).2.2.2.2.1
 have e1 : r.fed = q.fed := by simpa using e1
 have e2 : r.kind = q.kind := by simpa using e2
 have e3 : r.what = q.what := by simpa using e3
 rw [str_eq] at e4
 have e4 : r.name = q.name := by simpa using e4
 have e5 : r.val = q.val := by simpa using e5
 intro b1 I2 l2 hb1;refine (ct62 b1 I2).mono fun v I3 l3 hv => ⟨_, _, _, _, _, _, _, _, _, _, _, _, hv, fun b2 I4 l4 hb2 => ?_⟩;refine (ct62 b2 I4).mono fun v I5 l5 hv => ⟨_, _, _, _, _, _, _, _, _, _, _, _, hv, fun b3 I6 l6 hb3 b4 I7 l7 hb4 => ?_⟩
 refine ⟨⟨by omega, by omega, fun i h3 h9 h => by omega⟩, fun I8 _ l8 n ⟨n0, nle, hn⟩ => Br.mk (fun hlt => ?_) (fun hge => ?_)⟩
 · have hlt := of_decide_eq_true hlt
   have l48 := Mem.le_trans l5 (Mem.le_trans l6 (Mem.le_trans l7 l8));have p1 := ptr_at (k := b1) ((Mem.le_trans l7 l8) _ _ hb3) n0 hlt;have p2 := ptr_at (k := b2) (l8 _ _ hb4) n0 hlt
   by_cases hr39 : 3 <= n /\ n <= 9
   · rw [if_pos hr39] at p1 p2
     have v1 := num_at (r := r) (y := .slice a1 n1 c1) ((Mem.le_trans l3 (Mem.le_trans l4 l48)) _ _ hb1) hr39.1 hr39.2;have v2 := num_at (r := q) (y := .slice a2 n2 c2) (l48 _ _ hb2) hr39.1 hr39.2;refine ⟨n0, hlt, _, p1, Br.t rfl ⟨n0, hlt, _, p1, rfl, _, v1, n0, hlt, _, p2, rfl, _, v2, Br.mk (fun h => ?_) (fun h => ?_)⟩⟩
     · have h : ¬ numR r n = numR q n := by simpa using h
       exact same_no h fun hs => same_num hs n
     · have h : numR r n = numR q n := by simpa using h
       refine wr_i64 (by omega) (by omega) ⟨⟨by omega, by omega, fun i g3 g9 gi => ?_⟩, by omega⟩
       by_cases hin : i = n
       · rw [hin]; exact h
       · exact hn i g3 g9 (by omega)
   · rw [if_neg hr39] at p1
     exact ⟨n0, hlt, _, p1, Br.f rfl (wr_i64 (by omega) (by omega) ⟨⟨by omega, by omega, fun i g3 g9 gi => hn i g3 g9 (by omega)⟩, by omega⟩)⟩
 · have hge := of_decide_eq_false hge
   have g := fun i h3 h9 => hn i h3 h9 (by omega)
   have : sameR r q = true := decide_eq_true ⟨e1, e2, e3, e4, e5, g 3 (by omega) (by omega), g 4 (by omega) (by omega), g 5 (by omega) (by omega), g 6 (by omega) (by omega), g 7 (by omega) (by omega), g 8 (by omega) (by omega), g 9 (by omega) (by omega)⟩
   rw [this]
def had0 (r : Rq) : Rq := { kind := r.kind, what := 0, name := ⟨#[]⟩, p3 := 0, p4 := 0, p5 := 0, p6 := 0, p7 := 0, p8 := 0, p9 := 0, val := 0, fed := [] }
def preR (r h : Rq) (t : Int) : Rq := if t = 1 then { h with what := r.what } else h
def runR (r : Rq) : Rq -> List Int -> Rq × Bool
 | h, [] => (h, true)
 | h, t :: l => if takeB (preR r h t) t (bytesR r t) then runR r (takeR (preR r h t) t (bytesR r t)) l else (h, false)
def rightR (r : Rq) : Bool := match tagL r.kind r.what with
 | none => false
 | some l => decide (r.name.size <= 255) && (decide (r.fed.length <= 15000) && ((runR r (had0 r) l).2 && sameR (runR r (had0 r) l).1 r))
def cellsE : List RSh := [.sh (.int .u8), .sh (.int .u8), .sh .str, .sh (.int .i64), .sh (.int .i64), .sh (.int .i64), .sh (.int .i64), .sh (.int .i64), .sh (.int .i64), .sh (.int .i64), .sh (.int .i64), .sh .sl]
def cellsA : List TA := [.sh (.int .u8), .sh (.int .u8), .sh .str, .sh (.int .i64), .sh (.int .i64), .sh (.int .i64), .sh (.int .i64), .sh (.int .i64), .sh (.int .i64), .sh (.int .i64), .sh (.int .i64), .sh .sl]
theorem cs_agg {P : Program} {fv : SV} {x : SV} {a b : Value} {H : List Ent} {I : Mem} {post : SV -> List Ent -> Mem -> Prop} (h : CtS P fv [x, .v (.agg #[a, b])] H I post) : CtS P fv [x, .agg [.v a, .v b]] H I post :=
 fun e hp hO => h e hp hO
theorem tagL_ok {k w : Int} {l : List Int} (h : tagL k w = some l) : (∀ t ∈ l, 1 <= t /\ t <= 11) /\ l.length <= 4 := by
 have ha : ∀ {l : List Int}, askL w = some l -> (∀ t ∈ l, 1 <= t /\ t <= 11) /\ l.length <= 3 := fun {l} h => by
  unfold askL at h
  repeat' split at h
  all_goals first | (cases h; simp) | cases h
 unfold tagL at h
 repeat' split at h
 all_goals first
  | (cases h; simp)
  | (cases h; done)
  | (cases hq : askL w with
   | none => rw [hq] at h; cases h
   | some m =>
    rw [hq] at h;cases h;obtain ⟨h1, h2⟩ := ha hq
    refine ⟨fun t ht => ?_, by simp only [List.length_cons]; omega⟩
    rcases List.mem_cons.1 ht with rfl | ht
    · omega
    · exact h1 t ht)
theorem bytesR_len {r : Rq} (hr : okRq r) (hn : r.name.size <= 1000000) (hf : r.fed.length <= 1000000) (t : Int) : (bytesR r t).length <= 1000000 := by
 have hw := hr.what;have hv := foldZ_range hr.val;have hx := w64_range (numR r t)
 have fl : ∀ {x : Nat}, x < 256 ^ 8 -> (formN x).length <= 1000000 := fun h => by have := (formN_le _ h).1; omega
 unfold bytesR;split
 · exact fl (by omega)
 split
 · simpa [strL] using hn
 split
 · exact fl (by omega)
 split
 · exact hf
 · exact fl (by omega)
theorem i64_wrap (x : Int) : i64R (IntKind.i64.wrap x) := by
 rw [IntKind.wrap_i64];unfold i64R;omega
theorem unfoldZ_range {y : Int} (h : 0 <= y /\ y <= 18446744073709551615) : i64R (unfoldZ y) := by
 unfold unfoldZ i64R
 split <;> omega
theorem okRq_take {r : Rq} (h : okRq r) (t : Int) {bs : List Int} (hb : byteL bs) : okRq (takeR r t bs) := by
 have hu := unfoldZ_range (last_range hb);have hw := i64_wrap (lastN bs).1;obtain ⟨h1, h2, h3, h4, h5, h6, h7, h8, h9, h10, h11⟩ := h;unfold takeR
 repeat' split
 all_goals constructor <;> assumption
theorem okRq_pre {r h : Rq} (hr : okRq r) (hh : okRq h) (t : Int) : okRq (preR r h t) := by
 have h2' := hr.what;obtain ⟨h1, h2, h3, h4, h5, h6, h7, h8, h9, h10, h11⟩ := hh;unfold preR;split
 all_goals constructor <;> assumption
theorem okRq_had {r : Rq} (hr : okRq r) : okRq (had0 r) := by
 have h1 := hr.kind
 refine ⟨h1, by simp [had0], ?_, ?_, ?_, ?_, ?_, ?_, ?_, ?_, fun z hz => by cases hz⟩
 all_goals simp [had0, i64R]
theorem ct52 (r : Rq) (hr : okRq r) (hnm : r.name.size <= 1000000) (y : Value) (I : Mem) (hy : BySl I y r.fed) (hfl : r.fed.length <= 1000000) :
 Ct Tryz.prog (fnv 52) #[.agg (rqV r y).toArray] I (fun v I' => v = .bool (rightR r)) := by
 obtain ⟨a1, n1, c1, rfl, hs1, hc1, hm1⟩ := hy
 refine viaR (ct_via (A := { calls := [(43, .lend [2] (.sh .bool) [.cells cellsE 26])], rfs := [(7, { n := ((tagL r.kind r.what).getD []).length, enc := encR r ((tagL r.kind r.what).getD []), ps := [.agg [.int .i64, .sl]], ents := [(0, .keep), (1, .keep), (2, .cells cellsA)], inv := (fun k vals _ I' _ => ∃ h y, vals = rqV h y /\ okRq h /\ BySl I' y h.fed /\ runR r (had0 r) ((tagL r.kind r.what).getD []) = runR r h (((tagL r.kind r.what).getD []).drop k)), jumps := [(.ret, [(1, .cells [.sh .bool])], fun vals _ _ _ => vals = [.bool false] /\ (runR r (had0 r) ((tagL r.kind r.what).getD [])).2 = false)] })] }) Tryz.func52 rfl Tryz.call52 rfl rfl) (let E2 := fun (x : Value) (a : Mem) (b : Rq) => ∃ c m d, x = .slice c m d /\ SlM a c m 1 (List.map (Value.int .u8) b.fed) /\ m <= d /\ d <= 9223372036854775807
  let E1 := fun (x : SV) (a : List Ent) (b : Nat) (c : Loop) (d : Nat) (e : Nat) (f : Nat) (g : Nat) (h : Mem) (i : Nat) => ∃ j n k q l m o p s t u v w y z, x = .v (.bool j) /\ a = [⟨.cells [.v (.int .u8 n), .v (.int .u8 k), .v (.string q), .v (.int .i64 l), .v (.int .i64 m), .v (.int .i64 o), .v (.int .i64 p), .v (.int .i64 s), .v (.int .i64 t), .v (.int .i64 u), .v (.int .i64 v), .v (.slice w y z)] 26, some b⟩] /\ Br (!j) (Rf (Obj.loop ⟨.busy, none, c.fn, c.tmps, c.params, c.assign, c.body, c.defers⟩) /\ Rf (some d) /\ Rf (Ent.mk (.raw (.deferred (some []))) (some e)) /\ Rf (Ent.mk (.raw (.loop ⟨.done, some .ret, c.fn, c.tmps, c.params, c.assign, c.body, c.defers⟩)) (some d)) /\ Rf (some f) /\ ((f = f /\ e = e /\ d = d /\ True) /\ Rf (Obj.loop ⟨.done, some .ret, c.fn, c.tmps, c.params, c.assign, c.body, c.defers⟩)) /\ Rf [Value.bool false] /\ (runR r ⟨r.kind, 0, ⟨#[]⟩, 0, 0, 0, 0, 0, 0, 0, 0, []⟩ ((tagL r.kind r.what).getD ([] : List Int))).2 = false) (Rf (Obj.loop ⟨.busy, none, c.fn, c.tmps, c.params, c.assign, c.body, c.defers⟩) /\ Rf (some d) /\ Rf (Ent.mk (.cells [.v (.int .u8 r.kind), .v (.int .u8 r.what), .v (.string r.name), .v (.int .i64 r.p3), .v (.int .i64 r.p4), .v (.int .i64 r.p5), .v (.int .i64 r.p6), .v (.int .i64 r.p7), .v (.int .i64 r.p8), .v (.int .i64 r.p9), .v (.int .i64 r.val), .v (.slice a1 n1 c1)] 26) (some g)) /\ Rf (Ent.mk (.cells [.v (.bool false)] 4) (some f)) /\ Rf (Ent.mk (.raw (.deferred (some []))) (some e)) /\ Rf (Ent.mk (.raw (.loop ⟨.ready, none, c.fn, c.tmps, c.params, c.assign, c.body, c.defers⟩)) (some d)) /\ Rf (some b) /\ ((g = g /\ f = f /\ b = b /\ e = e /\ d = d /\ True) /\ Rf (Obj.loop ⟨.ready, none, c.fn, c.tmps, c.params, c.assign, c.body, c.defers⟩)) /\ ∃ h1 y1, [Value.int .u8 n, .int .u8 k, .string q, .int .i64 l, .int .i64 m, .int .i64 o, .int .i64 p, .int .i64 s, .int .i64 t, .int .i64 u, .int .i64 v, .slice w y z] = [.int .u8 h1.kind, .int .u8 h1.what, .string h1.name, .int .i64 h1.p3, .int .i64 h1.p4, .int .i64 h1.p5, .int .i64 h1.p6, .int .i64 h1.p7, .int .i64 h1.p8, .int .i64 h1.p9, .int .i64 h1.val, y1] /\ okRq h1 /\ E2 y1 h h1 /\ runR r ⟨r.kind, 0, ⟨#[]⟩, 0, 0, 0, 0, 0, 0, 0, 0, []⟩ ((tagL r.kind r.what).getD ([] : List Int)) = runR r h1 (List.drop (i + 1) ((tagL r.kind r.what).getD ([] : List Int))))
  Ct Tryz.prog (fnv 28) #[.int .u8 r.kind, .int .u8 r.what] I fun v a => ∃ b n c d, v = .tuple #[.slice b n c, .bool d] /\ Br (!d) (Value.bool false = .bool (rightR r)) (Br (decide (255 < (r.name.size : Int))) (Value.bool false = .bool (rightR r)) (Br (decide (15000 < (n1 : Int))) (Value.bool false = .bool (rightR r)) (Ct Tryz.prog (fnv 102) #[.agg #[.int .u8 r.kind, .int .u8 r.what, .string r.name, .int .i64 r.p3, .int .i64 r.p4, .int .i64 r.p5, .int .i64 r.p6, .int .i64 r.p7, .int .i64 r.p8, .int .i64 r.p9, .int .i64 r.val, .slice a1 n1 c1], .slice b n c] a (fun e f => ∃ x, e = x /\ ∀ (g h i j k : Nat) (l : Loop), Gives Tryz.prog x f ((tagL r.kind r.what).getD ([] : List Int)).length (encR r ((tagL r.kind r.what).getD ([] : List Int))) /\ (∀ (m : Nat) (o : Array Value) (p : Mem), encR r ((tagL r.kind r.what).getD ([] : List Int)) m o p -> psOk [.agg [.int .i64, .sl]] o.toList = true) /\ (Rf (Ent.mk (.cells [.v (.int .u8 r.kind), .v (.int .u8 r.what), .v (.string r.name), .v (.int .i64 r.p3), .v (.int .i64 r.p4), .v (.int .i64 r.p5), .v (.int .i64 r.p6), .v (.int .i64 r.p7), .v (.int .i64 r.p8), .v (.int .i64 r.p9), .v (.int .i64 r.val), .v (.slice a1 n1 c1)] 26) (some g)) /\ Rf (Ent.mk (.cells [.v (.bool false)] 4) (some h)) /\ Rf (Ent.mk (.raw (.deferred (some []))) (some j)) /\ Rf (Ent.mk (.raw (.loop ⟨.ready, none, l.fn, l.tmps, l.params, l.assign, l.body, l.defers⟩)) (some k)) /\ Rf (some i) /\ ((g = g /\ h = h /\ i = i /\ j = j /\ k = k /\ True) /\ Rf (Obj.loop ⟨.ready, none, l.fn, l.tmps, l.params, l.assign, l.body, l.defers⟩)) /\ ∃ m y, [Value.int .u8 r.kind, .int .u8 0, .string ⟨#[]⟩, .int .i64 0, .int .i64 0, .int .i64 0, .int .i64 0, .int .i64 0, .int .i64 0, .int .i64 0, .int .i64 0, .slice none 0 0] = [.int .u8 m.kind, .int .u8 m.what, .string m.name, .int .i64 m.p3, .int .i64 m.p4, .int .i64 m.p5, .int .i64 m.p6, .int .i64 m.p7, .int .i64 m.p8, .int .i64 m.p9, .int .i64 m.val, y] /\ okRq m /\ E2 y f m /\ runR r ⟨r.kind, 0, ⟨#[]⟩, 0, 0, 0, 0, 0, 0, 0, 0, []⟩ ((tagL r.kind r.what).getD ([] : List Int)) = runR r m (List.drop 0 ((tagL r.kind r.what).getD ([] : List Int)))) /\ (∀ (m : Nat) (o : Mem), Mem -> m < ((tagL r.kind r.what).getD ([] : List Int)).length -> f.le o -> ∀ (p q : Int) (s : ByteArray) (t u w y z n2 n3 n4 : Int) (a2 : Option Addr) (n5 c2 : Nat), (∃ h1 y1, [Value.int .u8 p, .int .u8 q, .string s, .int .i64 t, .int .i64 u, .int .i64 w, .int .i64 y, .int .i64 z, .int .i64 n2, .int .i64 n3, .int .i64 n4, .slice a2 n5 c2] = [.int .u8 h1.kind, .int .u8 h1.what, .string h1.name, .int .i64 h1.p3, .int .i64 h1.p4, .int .i64 h1.p5, .int .i64 h1.p6, .int .i64 h1.p7, .int .i64 h1.p8, .int .i64 h1.p9, .int .i64 h1.val, y1] /\ okRq h1 /\ E2 y1 o h1 /\ runR r ⟨r.kind, 0, ⟨#[]⟩, 0, 0, 0, 0, 0, 0, 0, 0, []⟩ ((tagL r.kind r.what).getD ([] : List Int)) = runR r h1 (List.drop m ((tagL r.kind r.what).getD ([] : List Int)))) -> ∀ (I1 : Mem), o.le I1 -> ∀ (n6 : Int) (a3 : Option Addr) (n7 c3 : Nat), encR r ((tagL r.kind r.what).getD ([] : List Int)) m #[.agg #[.int .i64 n6, .slice a3 n7 c3]] I1 -> Rf (Obj.loop ⟨.ready, none, l.fn, l.tmps, l.params, l.assign, l.body, l.defers⟩) /\ Rf (some k) /\ Br (n6 == 1) (CtS Tryz.prog (.v (fnv 61)) [.ptr 0 0, .agg [.v (.int .i64 n6), .v (.slice a3 n7 c3)]] [⟨.cells [.v (.int .u8 p), .v (.int .u8 r.what), .v (.string s), .v (.int .i64 t), .v (.int .i64 u), .v (.int .i64 w), .v (.int .i64 y), .v (.int .i64 z), .v (.int .i64 n2), .v (.int .i64 n3), .v (.int .i64 n4), .v (.slice a2 n5 c2)] 26, some i⟩] I1 (fun s1 H I2 => E1 s1 H i l k j h g I2 m)) (CtS Tryz.prog (.v (fnv 61)) [.ptr 0 0, .agg [.v (.int .i64 n6), .v (.slice a3 n7 c3)]] [⟨.cells [.v (.int .u8 p), .v (.int .u8 q), .v (.string s), .v (.int .i64 t), .v (.int .i64 u), .v (.int .i64 w), .v (.int .i64 y), .v (.int .i64 z), .v (.int .i64 n2), .v (.int .i64 n3), .v (.int .i64 n4), .v (.slice a2 n5 c2)] 26, some i⟩] I1 (fun s1 H I2 => E1 s1 H i l k j h g I2 m))) /\ (∀ (m : Mem), Mem -> f.le m -> ∀ (o p : Int) (q : ByteArray) (s t u w y z n2 n3 : Int) (a2 : Option Addr) (n4 c2 : Nat), (∃ h1 y1, [Value.int .u8 o, .int .u8 p, .string q, .int .i64 s, .int .i64 t, .int .i64 u, .int .i64 w, .int .i64 y, .int .i64 z, .int .i64 n2, .int .i64 n3, .slice a2 n4 c2] = [.int .u8 h1.kind, .int .u8 h1.what, .string h1.name, .int .i64 h1.p3, .int .i64 h1.p4, .int .i64 h1.p5, .int .i64 h1.p6, .int .i64 h1.p7, .int .i64 h1.p8, .int .i64 h1.p9, .int .i64 h1.val, y1] /\ okRq h1 /\ E2 y1 m h1 /\ runR r ⟨r.kind, 0, ⟨#[]⟩, 0, 0, 0, 0, 0, 0, 0, 0, []⟩ ((tagL r.kind r.what).getD ([] : List Int)) = runR r h1 (List.drop ((tagL r.kind r.what).getD ([] : List Int)).length ((tagL r.kind r.what).getD ([] : List Int)))) -> ∀ (I1 : Mem), m.le I1 -> Ct Tryz.prog (fnv 24) #[.agg #[.int .u8 o, .int .u8 p, .string q, .int .i64 s, .int .i64 t, .int .i64 u, .int .i64 w, .int .i64 y, .int .i64 z, .int .i64 n2, .int .i64 n3, .slice a2 n4 c2], .agg #[.int .u8 r.kind, .int .u8 r.what, .string r.name, .int .i64 r.p3, .int .i64 r.p4, .int .i64 r.p5, .int .i64 r.p6, .int .i64 r.p7, .int .i64 r.p8, .int .i64 r.p9, .int .i64 r.val, .slice a1 n1 c1]] I1 fun v1 I2 => ∃ b1, v1 = .bool b1 /\ Value.bool b1 = .bool (rightR r)) /\ ∀ (m : Mem), Mem -> f.le m -> ∀ (o : Bool), [Value.bool o] = [.bool false] /\ (runR r ⟨r.kind, 0, ⟨#[]⟩, 0, 0, 0, 0, 0, 0, 0, 0, []⟩ ((tagL r.kind r.what).getD ([] : List Int))).2 = false -> ∀ (p : Mem), m.le p -> Value.bool o = .bool (rightR r)))))) (by kernel_rfl) ?_
 intro E2 E1;simp only [E1, E2, Rf, eq_self, true_and, and_true]
 have hmx : maxLen = 9223372036854775807 := by decide
 have hy0 : BySl I (.slice a1 n1 c1) r.fed := ⟨a1, n1, c1, rfl, hs1, hc1, hm1⟩;have hnl := hs1.numLen;refine (ct28 r.kind r.what I).mono fun v I1 l1 ⟨a, n, c, hv, hs, hn, hc, _⟩ => ⟨_, _, _, _, hv, Br.mk (fun h => ?_) (fun h => ?_)⟩
 · have h : tagL r.kind r.what = none := by simpa using h
   rw [rightR, h]
 obtain ⟨l, htl⟩ : ∃ l, tagL r.kind r.what = some l := by
  cases hq : tagL r.kind r.what with
  | none => rw [hq] at h; cases h
  | some l => exact ⟨l, rfl⟩
 obtain ⟨hl1, hl2⟩ := tagL_ok htl
 have hright : rightR r = (decide (r.name.size <= 255) && (decide (r.fed.length <= 15000) && ((runR r (had0 r) l).2 && sameR (runR r (had0 r) l).1 r))) := by rw [rightR, htl]
 rw [htl, Option.getD_some] at hs ⊢;refine Br.mk (fun h2 => ?_) (fun h2 => Br.mk (fun h3 => ?_) (fun h3 => ?_))
 · have h2 := of_decide_eq_true h2
   rw [hright, decide_eq_false (by omega)]; rfl
 · have h3 := of_decide_eq_true h3
   rw [hright, decide_eq_false (p := r.fed.length <= 15000) (by omega), Bool.false_and, Bool.and_false]
 have h2 := of_decide_eq_false h2;have h3 := of_decide_eq_false h3;have hnn := hs.numLen
 rw [decide_eq_true (p := r.name.size <= 255) (by omega), decide_eq_true (p := r.fed.length <= 15000) (by omega), Bool.true_and, Bool.true_and] at hright
 refine (ct102 r (.slice a1 n1 c1) a n c I1).mono fun v I2 l2 ⟨k1, k2, k3, hv, g1, g2, g3⟩ => ⟨_, rfl, fun b b1 b2 bd br rc => ⟨?_, ?_, ?_, ?_, ?_, ?_⟩⟩
 · rw [hv]
   exact gives63 r hr hnm _ l hl1 k1 k2 k3 a n c I2 g1 (hs.mono l2) (by omega) g2 (hy0.mono (Mem.le_trans l1 l2)) g3
 · rintro k args I3 ⟨t, b', m, c', _, rfl, _⟩; rfl
 · exact ⟨had0 r, .slice none 0 0, rfl, okRq_had hr, ⟨none, 0, 0, rfl, sl_nil _ _, by omega, by omega⟩, by rw [List.drop_zero]; rfl⟩
 · rintro k I3 G3 hk l3 x0 x1 q x3 x4 x5 x6 x7 x8 x9 x10 ah nh ch ⟨h, yy, heq, hok, hyy, hrun⟩ I4 l4 t b' m' c' ⟨t', bb, mm, cc, ht, hargs, hsl, hmc, hcm⟩
   cases hargs;simp only [List.cons.injEq, Value.int.injEq, Value.string.injEq, true_and, and_true] at heq;obtain ⟨rfl, rfl, rfl, rfl, rfl, rfl, rfl, rfl, rfl, rfl, rfl, rfl⟩ := heq;have htr := hl1 t (List.mem_of_getElem? ht);have hml := hsl.numLen;have hbl := bytesR_len hr hnm hfl t;have hok2 := okRq_pre hr hok t;have hyy : BySl I3 (.slice ah nh ch) h.fed := hyy
   have C := cs61 t htr b2 (preR r h t) hok2 (.slice ah nh ch) (bytesR r t) (bytesR_ok hr t) b' m' c' I4 hsl (by omega)
   rw [drop_cons ht, runR] at hrun
   have hrun : runR r (had0 r) l = if takeB (preR r h t) t (bytesR r t) = true then runR r (takeR (preR r h t) t (bytesR r t)) (List.drop (k + 1) l) else (h, false) := by
    exact hrun
   refine Br.mk (fun e1 => ?_) (fun e1 => ?_)
   · have e1 := eqv e1
     subst e1
     have hp : preR r h 1 = { h with what := r.what } := rfl
     rw [hp] at C hrun hok2;refine (cs_agg C).mono fun sv H' I5 l5 ⟨y', hv, hH, hy', _⟩ => ?_;obtain ⟨b5, m5, c5, rfl, q1, q2, q3⟩ := hy' (hyy.mono (Mem.le_trans l4 l5));refine ⟨_, _, _, _, _, _, _, _, _, _, _, _, _, _, _, hv, hH, Br.mk (fun hb => ?_) (fun hb => ?_)⟩
     · have hb : takeB { h with what := r.what } 1 (bytesR r 1) = false := by simpa using hb
       rw [hb] at hrun;exact congrArg Prod.snd hrun
     · have hb : takeB { h with what := r.what } 1 (bytesR r 1) = true := by simpa using hb
       rw [if_pos hb] at hrun;exact ⟨_, _, rfl, okRq_take hok2 1 (bytesR_ok hr 1), ⟨_, _, _, rfl, q1, q2, q3⟩, hrun⟩
   · have hp : preR r h t = h := if_neg (nev e1)
     rw [hp] at C hrun hok2;refine (cs_agg C).mono fun sv H' I5 l5 ⟨y', hv, hH, hy', _⟩ => ?_;obtain ⟨b5, m5, c5, rfl, q1, q2, q3⟩ := hy' (hyy.mono (Mem.le_trans l4 l5));refine ⟨_, _, _, _, _, _, _, _, _, _, _, _, _, _, _, hv, hH, Br.mk (fun hb => ?_) (fun hb => ?_)⟩
     · have hb : takeB h t (bytesR r t) = false := by simpa using hb
       rw [hb] at hrun;exact congrArg Prod.snd hrun
     · have hb : takeB h t (bytesR r t) = true := by simpa using hb
       rw [if_pos hb] at hrun;exact ⟨_, _, rfl, okRq_take hok2 t (bytesR_ok hr t), ⟨_, _, _, rfl, q1, q2, q3⟩, hrun⟩
 · rintro I3 G3 l3 x0 x1 q x3 x4 x5 x6 x7 x8 x9 x10 ah nh ch ⟨h, yy, heq, hok, hyy, hrun⟩ I4 l4
   simp only [List.cons.injEq, Value.int.injEq, Value.string.injEq, true_and, and_true] at heq;obtain ⟨rfl, rfl, rfl, rfl, rfl, rfl, rfl, rfl, rfl, rfl, rfl, rfl⟩ := heq;have hyy : BySl I3 (.slice ah nh ch) h.fed := hyy;rw [List.drop_length, runR] at hrun;have hrun : runR r (had0 r) l = (h, true) := hrun;refine (ct24 h r hok hr (.slice ah nh ch) (.slice a1 n1 c1) I4 (hyy.mono l4) (hy0.mono (Mem.le_trans l1 (Mem.le_trans l2 (Mem.le_trans l3 l4))))).mono fun v I5 l5 hv => ⟨_, hv, ?_⟩;rw [hright, hrun, Bool.true_and]
 · rintro I3 G3 l3 bb ⟨hb, hr2⟩ I4 l4
   have hr2 : (runR r (had0 r) l).2 = false := hr2;simp only [List.cons.injEq, and_true] at hb;rw [hb, hright, hr2, Bool.false_and]
def tagsR (r : Rq) : List Int := (tagL r.kind r.what).getD []
def writeR (r : Rq) : List Int := 1 :: r.kind :: writeF (fldsR r (tagsR r))
theorem right_tag {r : Rq} (h : rightR r = true) : tagL r.kind r.what = some (tagsR r) /\ r.name.size <= 255 /\ r.fed.length <= 15000 /\ (runR r (had0 r) (tagsR r)).2 = true /\ sameR (runR r (had0 r) (tagsR r)).1 r = true := by
 unfold rightR at h;unfold tagsR
 cases hq : tagL r.kind r.what with
 | none => rw [hq] at h; cases h
 | some l =>
  rw [hq] at h;simp only [Bool.and_eq_true, decide_eq_true_eq] at h;exact ⟨rfl, h.1, h.2.1, h.2.2.1, h.2.2.2⟩
def shapesL : List (List Int) := [[11], [2, 3], [4, 5, 6], [4], [4, 7, 10], [7], [1], [1, 4], [1, 7, 8, 9], [1, 2], [8, 9], []]
theorem tagL_shape {k w : Int} {l : List Int} (h : tagL k w = some l) : l ∈ shapesL := by
 have ha : ∀ {l : List Int}, askL w = some l -> 1 :: l ∈ shapesL := fun {l} h => by
  unfold askL at h
  repeat' split at h
  all_goals first | (cases h; simp [shapesL]; done) | (cases h; done)
 unfold tagL at h
 repeat' split at h
 all_goals first
  | (cases h; simp [shapesL]; done)
  | (cases h; done)
  | (cases hq : askL w with
   | none => rw [hq] at h; cases h
   | some m =>
    rw [hq] at h;cases h;exact ha hq)
theorem right_flds {r : Rq} (hr : okRq r) (h : rightR r = true) : rightF (fldsR r (tagsR r)) = true := by
 obtain ⟨h1, h2, h3, _⟩ := right_tag h;generalize tagsR r = l at h1;have hw := hr.what;have hv := foldZ_range hr.val
 have fl : ∀ {x : Nat}, x < 256 ^ 8 -> (formN x).length <= 255 := fun h => by have := (formN_le _ h).1; omega
 have hb : ∀ t, t ≠ 11 -> ((bytesR r t).length : Int) <= 255 := fun t ht => by
  have hx := w64_range (numR r t);unfold bytesR;split
  · have := fl (x := r.what.toNat) (by omega); omega
  split
  · have : (strL r.name).length = r.name.size := by simp [strL]
    omega
  split
  · have := fl (x := (foldZ r.val).toNat) (by omega); omega
  · skip
    have := fl (x := (IntKind.u64.wrap (numR r t)).toNat) (by omega); omega
 have h11 : ((bytesR r 11).length : Int) <= 15000 := by
  have : bytesR r 11 = r.fed := rfl
  rw [this]; omega
 have b1 := hb 1 (by decide)
 have b2 := hb 2 (by decide)
 have b3 := hb 3 (by decide)
 have b4 := hb 4 (by decide)
 have b5 := hb 5 (by decide)
 have b6 := hb 6 (by decide)
 have b7 := hb 7 (by decide)
 have b8 := hb 8 (by decide)
 have b9 := hb 9 (by decide)
 have b10 := hb 10 (by decide)
 rw [right_split];have hsh := tagL_shape h1;simp only [shapesL, List.mem_cons, List.not_mem_nil, or_false] at hsh
 rcases hsh with rfl | rfl | rfl | rfl | rfl | rfl | rfl | rfl | rfl | rfl | rfl | rfl
 all_goals
  simp only [fldsR, List.map_cons, List.map_nil, List.length_cons, List.length_nil, chainT, sumL]
  simp
  try omega
theorem ct51 (r : Rq) (hr : okRq r) (hnm : r.name.size <= 1000000) (y : Value) (I : Mem) (hy : BySl I y r.fed) (hfl : r.fed.length <= 1000000) :
 Ct Tryz.prog (fnv 51) #[.agg (rqV r y).toArray] I (fun v I' => ∃ a' n' c', v = .tuple #[.slice a' n' c', .int .i64 (if rightR r then 0 else 340)] /\ SlM I' a' n' 1 (ints .u8 (if rightR r then writeR r else [])) /\ n' <= c' /\ c' <= maxLen) := by
 obtain ⟨a1, n1, c1, rfl, hs1, hc1, hm1⟩ := hy
 refine viaR (ct_via (A := { }) Tryz.func51 rfl Tryz.call51 rfl rfl) (Ct Tryz.prog (fnv 52) #[.agg #[.int .u8 r.kind, .int .u8 r.what, .string r.name, .int .i64 r.p3, .int .i64 r.p4, .int .i64 r.p5, .int .i64 r.p6, .int .i64 r.p7, .int .i64 r.p8, .int .i64 r.p9, .int .i64 r.val, .slice a1 n1 c1]] I fun v a => ∃ b, v = .bool b /\ Br (!b) (∃ c n d, Value.tuple #[.slice none 0 0, .int .i64 340] = .tuple #[.slice c n d, .int .i64 (if rightR r = true then 0 else 340)] /\ SlM a c n 1 (List.map (Value.int .u8) (if rightR r = true then (1 : Int) :: r.kind :: writeF (fldsR r (tagsR r)) else ([] : List Int))) /\ n <= d /\ d <= 9223372036854775807) (Ct Tryz.prog (fnv 28) #[.int .u8 r.kind, .int .u8 r.what] a (fun c d => ∃ e n f g, c = .tuple #[.slice e n f, .bool g] /\ Ct Tryz.prog (fnv 102) #[.agg #[.int .u8 r.kind, .int .u8 r.what, .string r.name, .int .i64 r.p3, .int .i64 r.p4, .int .i64 r.p5, .int .i64 r.p6, .int .i64 r.p7, .int .i64 r.p8, .int .i64 r.p9, .int .i64 r.val, .slice a1 n1 c1], .slice e n f] d fun h i => ∃ x, h = x /\ Ct Tryz.prog (fnv 101) #[x] i fun j k => ∃ l m o, j = .slice l m o /\ Ct Tryz.prog (fnv 100) #[.slice l m o] k fun p q => ∃ s t u w, p = .tuple #[.slice s t u, .int .i64 w] /\ Br (w != 0) (∃ y z c2, Value.tuple #[.slice none 0 0, .int .i64 340] = .tuple #[.slice y z c2, .int .i64 (if rightR r = true then 0 else 340)] /\ SlM q y z 1 (List.map (Value.int .u8) (if rightR r = true then (1 : Int) :: r.kind :: writeF (fldsR r (tagsR r)) else ([] : List Int))) /\ z <= c2 /\ c2 <= 9223372036854775807) (∃ y, y.length = t * 1 /\ (s = none -> t = 0) /\ (∀ (z : Nat) (v1 : Value), y[z]? = some v1 -> atI q s z = some v1) /\ (∀ (z : Value), Membership.mem y z -> z.oneCell' = true) /\ (2 : Nat) = 2 /\ 2 + t <= 9223372036854775807 /\ (2 + t) * 1 <= 140737488355328 /\ ∀ (z : Option Addr) (c2 : Nat) (I1 : Mem), q.le I1 -> RowM I1 z c2 1 (.int .u8 1 :: .int .u8 r.kind :: y) -> ∃ a2 n2 c3, Value.tuple #[.slice z (2 + t) c2, .int .i64 0] = .tuple #[.slice a2 n2 c3, .int .i64 (if rightR r = true then 0 else 340)] /\ SlM I1 a2 n2 1 (List.map (Value.int .u8) (if rightR r = true then (1 : Int) :: r.kind :: writeF (fldsR r (tagsR r)) else ([] : List Int))) /\ n2 <= c3 /\ c3 <= 9223372036854775807)))) (by kernel_rfl) ?_
 have hy0 : BySl I (.slice a1 n1 c1) r.fed := ⟨a1, n1, c1, rfl, hs1, hc1, hm1⟩;refine (ct52 r hr hnm _ I hy0 hfl).mono fun v I1 l1 hv => ⟨_, hv, Br.mk (fun h => ?_) (fun h => ?_)⟩
 · have h : rightR r = false := by simpa using h
   rw [h]
   exact ⟨none, 0, 0, rfl, sl_nil _ _, by omega, by omega⟩
 have h : rightR r = true := by simpa using h
 obtain ⟨ht, h2, h3, _⟩ := right_tag h;obtain ⟨hl1, hl2⟩ := tagL_ok ht;have hF := right_flds hr h;refine (ct28 r.kind r.what I1).mono fun v I2 l2 ⟨a, n, c, hv, hs, hn, hc, _⟩ => ⟨_, _, _, _, hv, ?_⟩;rw [ht, Option.getD_some] at hs;have hnn := hs.numLen;have hy2 := hy0.mono (Mem.le_trans l1 l2);refine (ct102 r (.slice a1 n1 c1) a n c I2).mono fun v I3 l3 ⟨k1, k2, k3, hv, g1, g2, g3⟩ => ⟨_, rfl, ?_⟩;subst hv
 refine (ct101 r hr (tagsR r) hl1 (by omega) _ I3 (gives63 r hr hnm _ (tagsR r) hl1 k1 k2 k3 a n c I3 g1 (hs.mono l3) (by omega) g2 (hy2.mono l3) g3)).mono fun v I4 l4 ⟨a4, n4, c4, hv, hF4, _, _⟩ => ⟨_, _, _, hv, ?_⟩
 have hl4 := hF4.len
 have hl5 : (fldsR r (tagsR r)).length = (tagsR r).length := by simp [fldsR]
 refine (ct100 _ a4 n4 c4 I4 hF4 (by omega)).mono fun v I5 l5 ⟨a5, n5, c5, hv, hw, hn5, hc5⟩ => ⟨_, _, _, _, hv, ?_⟩
 rw [if_pos hF] at hw;have hl6 := hw.numLen;have hwl := write_len hF;rw [if_pos hF, h]
 refine Br.f rfl ⟨_, hw.len, hw.nil, hw.at_, one_ints, rfl, by omega, by omega, fun a6 cp I6 l6 hrow => ⟨a6, 2 + n5, cp, rfl, ?_⟩⟩
 have hrow : RowM I6 a6 cp 1 (ints .u8 (writeR r)) := hrow
 have hlw : (writeR r).length = 2 + n5 := by rw [writeR, List.length_cons, List.length_cons]; omega
 have h1 := hrow.1;rw [ints_len] at h1
 exact ⟨hrow.sl (by omega) (by rw [ints_len]; omega), by omega, hrow.2.1⟩
def zeroRq : Rq := { kind := 0, what := 0, name := ⟨#[]⟩, p3 := 0, p4 := 0, p5 := 0, p6 := 0, p7 := 0, p8 := 0, p9 := 0, val := 0, fed := [] }
def tryT : Rq -> List Int -> List (Int × List Int) -> Rq × Bool
 | h, t :: ts, f :: fs => if f.1 = t then (if takeB h t f.2 then tryT (takeR h t f.2) ts fs else (h, false)) else (h, false)
 | h, [], [] => (h, true)
 | h, _, _ => (h, false)
def kindB (bs : List Int) : Int := (bs[1]?).getD 0
def flB (bs : List Int) : List (Int × List Int) := (readF (bs.drop 2)).1
def whatL (k : Int) : List (Int × List Int) -> Int
 | [] => 0
 | f :: _ => if k = 7 /\ (lastN f.2).2.2 = 0 /\ (lastN f.2).1 < 256 then (lastN f.2).1 else 0
def whatB (bs : List Int) : Int := whatL (kindB bs) (flB bs)
def startQ (bs : List Int) : Rq := { zeroRq with kind := kindB bs, what := whatB bs }
def tagB (bs : List Int) : Option (List Int) := tagL (kindB bs) (whatB bs)
def runB (bs : List Int) : Rq × Bool := tryT (startQ bs) ((tagB bs).getD []) (flB bs)
def accB (bs : List Int) : Bool := decide (2 <= bs.length) && (decide (bs[0]? = some 1) && (decide ((readF (bs.drop 2)).2.2 = 0) && ((tagB bs).isSome && ((runB bs).2 && rightR (runB bs).1))))
def readR (bs : List Int) : Rq × Int := if accB bs then ((runB bs).1, 0) else (zeroRq, 341)
theorem tryT_len : ∀ (ts : List Int) (fs : List (Int × List Int)) (h : Rq), (tryT h ts fs).2 = true -> ts.length = fs.length
 | [], [], _, _ => rfl
 | [], _ :: _, h, hc => by simp [tryT] at hc
 | _ :: _, [], h, hc => by simp [tryT] at hc
 | t :: ts, f :: fs, h, hc => by
  rw [tryT] at hc
  split at hc
  · split at hc
    · have := tryT_len ts fs _ hc
      simp only [List.length_cons, this]
    · cases hc
  · cases hc
theorem size_take {h : Rq} {t : Int} {bs : List Int} {B : Nat} (h1 : h.name.size <= B) (h2 : h.fed.length <= B) (hb : bs.length <= B) : (takeR h t bs).name.size <= B /\ (takeR h t bs).fed.length <= B := by
 have hs : (strB bs).size = bs.length := by simp [strB, u8s, ByteArray.size]
 unfold takeR
 repeat' split
 all_goals exact ⟨by first | exact h1 | (simp only [hs]; exact hb), by first | exact h2 | exact hb⟩
theorem okRq_start {k w : Int} (hk : 0 <= k /\ k <= 255) (hw : 0 <= w /\ w <= 255) : okRq { zeroRq with kind := k, what := w } := by
 refine ⟨hk, hw, ?_, ?_, ?_, ?_, ?_, ?_, ?_, ?_, fun z hz => by cases hz⟩
 all_goals simp [zeroRq, i64R]
theorem ct23 (bs : List Int) (hbs : byteL bs) (a : Option Addr) (n c : Nat) (I : Mem) (h : SlM I a n 1 (ints .u8 bs)) (hn : n <= 1000000) (hc : n <= c) (hm : c <= maxLen) :
 Ct Tryz.prog (fnv 23) #[.slice a n c] I (fun v I' => ∃ y, v = .tuple #[.agg (rqV (readR bs).1 y).toArray, .int .i64 (readR bs).2] /\ BySl I' y (readR bs).1.fed /\ NewB I I' y) := by
 refine viaR (ctF_via (A := { calls := [(97, .lend [1] (.sh .bool) [.cells cellsE 26])], cuts := [(11, ⟨[(2, .keep), (4, .keep), (7, .keep)], [(0, .keep), (1, .cells cellsA)], [], fun vals _ _ _ => vals = rqV (startQ bs) (.slice none 0 0), fun _ _ => 0⟩), (13, ⟨[(2, .keep), (4, .keep), (7, .keep), (10, .keep), (11, .sh .bool)], [(0, .keep), (1, .keep)], [], fun vals _ _ _ => vals = [.bool ((tagB bs).isSome && decide (((tagB bs).getD []).length = (flB bs).length))], fun _ _ => 0⟩)], loops := [(14, ⟨[(2, .keep), (7, .keep), (10, .keep), (11, .sh .bool), (78, .keep), (79, .keep), (80, .sh (.int .i64))], [(0, .keep), (1, .cells cellsA)], [], fun vals _ I' _ => match vals with | .bool ok :: .int .i64 j :: cs => 0 <= j /\ j <= (flB bs).length /\ ∃ h y, cs = rqV h y /\ okRq h /\ h.name.size <= 1000000 /\ h.fed.length <= 1000000 /\ BySl I' y h.fed /\ NewB I I' y /\ (ok = true -> (tagB bs).isSome = true /\ ((tagB bs).getD []).length = (flB bs).length /\ runB bs = tryT h (((tagB bs).getD []).drop j.toNat) ((flB bs).drop j.toNat)) /\ (ok = false -> ((tagB bs).isSome && (runB bs).2) = false) | _ => False, fun vals _ => match vals with | .bool ok :: .int .i64 j :: cs => ((flB bs).length - j).toNat | _ => 0⟩)] }) Tryz.func23 rfl Tryz.call23 rfl rfl) (let E2 := Ent.mk (.cells [.v (.int .u8 0), .v (.int .u8 0), .v (.string ⟨#[]⟩), .v (.int .i64 0), .v (.int .i64 0), .v (.int .i64 0), .v (.int .i64 0), .v (.int .i64 0), .v (.int .i64 0), .v (.int .i64 0), .v (.int .i64 0), .v (.slice none 0 0)] 26) none
  let E3 := fun (x : Option Addr) (b : Nat) (d : Nat) (e : Int) => Rf E2 /\ Rf (SV.ptr 0 0) /\ Rf (SV.v (.slice x b d)) /\ Rf (SV.ptr 1 0) /\ Rf (none : Option Nat) /\ [Value.int .u8 e, .int .u8 0, .string ⟨#[]⟩, .int .i64 0, .int .i64 0, .int .i64 0, .int .i64 0, .int .i64 0, .int .i64 0, .int .i64 0, .int .i64 0, .slice none 0 0] = [.int .u8 (kindB bs), .int .u8 (whatB bs), .string ⟨#[]⟩, .int .i64 0, .int .i64 0, .int .i64 0, .int .i64 0, .int .i64 0, .int .i64 0, .int .i64 0, .int .i64 0, .slice none 0 0]
  let E4 := ∃ y, Value.tuple #[.agg #[.int .u8 0, .int .u8 0, .string ⟨#[]⟩, .int .i64 0, .int .i64 0, .int .i64 0, .int .i64 0, .int .i64 0, .int .i64 0, .int .i64 0, .int .i64 0, .slice none 0 0], .int .i64 341] = .tuple #[.agg #[.int .u8 (readR bs).1.kind, .int .u8 (readR bs).1.what, .string (readR bs).1.name, .int .i64 (readR bs).1.p3, .int .i64 (readR bs).1.p4, .int .i64 (readR bs).1.p5, .int .i64 (readR bs).1.p6, .int .i64 (readR bs).1.p7, .int .i64 (readR bs).1.p8, .int .i64 (readR bs).1.p9, .int .i64 (readR bs).1.val, y], .int .i64 (readR bs).2] /\ (∃ b m d, y = .slice b m d /\ SlM I b m 1 (List.map (Value.int .u8) (readR bs).1.fed) /\ m <= d /\ d <= 9223372036854775807) /\ NewB I I y
  let E5 := fun (x : ByteArray) (b : Int) (d : Int) (e : Int) (f : Int) (g : Int) (i : Int) (j : Int) (k : Int) (l : Option Addr) (m : Nat) (o : Nat) => [.v (.string x), .v (.int .i64 b), .v (.int .i64 d), .v (.int .i64 e), .v (.int .i64 f), .v (.int .i64 g), .v (.int .i64 i), .v (.int .i64 j), .v (.int .i64 k), .v (.slice l m o)]
  let E6 := fun (x : Rq) (b : Value) (d : Mem) (e : Bool) (f : Int) => okRq x /\ x.name.size <= 1000000 /\ x.fed.length <= 1000000 /\ (∃ g m i, b = .slice g m i /\ SlM d g m 1 (List.map (Value.int .u8) x.fed) /\ m <= i /\ i <= 9223372036854775807) /\ NewB I d b /\ (e = true -> (tagB bs).isSome = true /\ ((tagB bs).getD ([] : List Int)).length = (flB bs).length /\ runB bs = tryT x (List.drop f.toNat ((tagB bs).getD ([] : List Int))) (List.drop f.toNat (flB bs))) /\ (e = false -> ((tagB bs).isSome && (runB bs).2) = false)
  let E7 := fun (x : Value) (b : Mem) => (∃ d m e, x = .slice d m e /\ SlM b d m 1 (List.map (Value.int .u8) (readR bs).1.fed) /\ m <= e /\ e <= 9223372036854775807) /\ NewB I b x
  let E1 := fun (x : Mem) => ∃ y, Value.tuple #[.agg #[.int .u8 0, .int .u8 0, .string ⟨#[]⟩, .int .i64 0, .int .i64 0, .int .i64 0, .int .i64 0, .int .i64 0, .int .i64 0, .int .i64 0, .int .i64 0, .slice none 0 0], .int .i64 341] = .tuple #[.agg #[.int .u8 (readR bs).1.kind, .int .u8 (readR bs).1.what, .string (readR bs).1.name, .int .i64 (readR bs).1.p3, .int .i64 (readR bs).1.p4, .int .i64 (readR bs).1.p5, .int .i64 (readR bs).1.p6, .int .i64 (readR bs).1.p7, .int .i64 (readR bs).1.p8, .int .i64 (readR bs).1.p9, .int .i64 (readR bs).1.val, y], .int .i64 (readR bs).2] /\ E7 y x
  Br (decide ((n : Int) < 2)) E4 ((0 : Int) <= 0 /\ 0 < (n : Int) /\ a.isSome = true /\ ∃ b, atI I a 0 = some (.int .u8 b) /\ Br (b != 1) E4 ((0 : Int) <= 2 /\ 2 <= (n : Int) /\ Ct Tryz.prog (fnv 59) #[.slice (sladdr a c 2 1) (n - 2) (c - 2)] I fun v d => ∃ e f g i j, v = .tuple #[.slice e f g, .int .i64 i, .int .i64 j] /\ Br (j != 0) (E1 d) ((0 : Int) <= 1 /\ 1 < (n : Int) /\ a.isSome = true /\ ∃ k, atI d a 1 = some (.int .u8 k) /\ Br (decide (0 < (f : Int))) (Br (k == 7) ((0 : Int) <= 0 /\ 0 < (f : Int) /\ e.isSome = true /\ (2 : Nat) = 2 /\ ∃ l, atI d e 0 = some (.int .i64 l) /\ ∃ m o p, atI d e 1 = some (.slice m o p) /\ Ct Tryz.prog (fnv 60) #[.agg #[.int .i64 l, .slice m o p]] d fun q r => ∃ s t, q = .tuple #[.int .u64 s, .int .i64 t] /\ Br (t == 0) (Br (decide (s < 256)) (Wr .u8 s (fun u => Rf E2 /\ Rf (SV.ptr 0 0) /\ Rf (SV.v (.slice e f g)) /\ Rf (SV.ptr 1 0) /\ Rf (none : Option Nat) /\ [Value.int .u8 k, .int .u8 u, .string ⟨#[]⟩, .int .i64 0, .int .i64 0, .int .i64 0, .int .i64 0, .int .i64 0, .int .i64 0, .int .i64 0, .int .i64 0, .slice none 0 0] = [.int .u8 (kindB bs), .int .u8 (whatB bs), .string ⟨#[]⟩, .int .i64 0, .int .i64 0, .int .i64 0, .int .i64 0, .int .i64 0, .int .i64 0, .int .i64 0, .int .i64 0, .slice none 0 0])) (E3 e f g k)) (E3 e f g k)) (E3 e f g k)) (E3 e f g k) /\ ∀ (l : Mem), Mem -> d.le l -> ∀ (m o : Int) (q : ByteArray) (p r s t u w x y : Int) (z : Option Addr) (n1 c1 : Nat), [Value.int .u8 m, .int .u8 o, .string q, .int .i64 p, .int .i64 r, .int .i64 s, .int .i64 t, .int .i64 u, .int .i64 w, .int .i64 x, .int .i64 y, .slice z n1 c1] = [.int .u8 (kindB bs), .int .u8 (whatB bs), .string ⟨#[]⟩, .int .i64 0, .int .i64 0, .int .i64 0, .int .i64 0, .int .i64 0, .int .i64 0, .int .i64 0, .int .i64 0, .slice none 0 0] -> Ct Tryz.prog (fnv 28) #[.int .u8 m, .int .u8 o] l fun v1 I1 => ∃ a1 n2 c2 b1, v1 = .tuple #[.slice a1 n2 c2, .bool b1] /\ Br b1 (Rf E2 /\ Rf (Ent.mk (.cells (.v (.int .u8 m) :: .v (.int .u8 o) :: E5 q p r s t u w x y z n1 c1) 26) none) /\ Rf (SV.ptr 0 0) /\ Rf (SV.v (.slice e f g)) /\ Rf (SV.ptr 1 0) /\ Rf (SV.v (.slice a1 n2 c2)) /\ [Value.bool ((n2 : Int) == (f : Int))] = [.bool ((tagB bs).isSome && decide (((tagB bs).getD ([] : List Int)).length = (flB bs).length))]) (Rf E2 /\ Rf (Ent.mk (.cells (.v (.int .u8 m) :: .v (.int .u8 o) :: E5 q p r s t u w x y z n1 c1) 26) none) /\ Rf (SV.ptr 0 0) /\ Rf (SV.v (.slice e f g)) /\ Rf (SV.ptr 1 0) /\ Rf (SV.v (.slice a1 n2 c2)) /\ [Value.bool false] = [.bool ((tagB bs).isSome && decide (((tagB bs).getD ([] : List Int)).length = (flB bs).length))]) /\ ∀ (I2 : Mem), Mem -> I1.le I2 -> ∀ (b2 : Bool), [Value.bool b2] = [.bool ((tagB bs).isSome && decide (((tagB bs).getD ([] : List Int)).length = (flB bs).length))] -> (Rf E2 /\ Rf (Ent.mk (.cells (.v (.int .u8 m) :: .v (.int .u8 o) :: E5 q p r s t u w x y z n1 c1) 26) none) /\ Rf (SV.ptr 0 0) /\ Rf (SV.v (.slice e f g)) /\ Rf (SV.ptr 1 0) /\ Rf (SV.v (.slice a1 n2 c2)) /\ [Value.bool b2] = [.bool ((tagB bs).isSome && decide (((tagB bs).getD ([] : List Int)).length = (flB bs).length))]) /\ ∀ (I3 : Mem), Mem -> I2.le I3 -> ∀ (b3 : Bool), [Value.bool b3] = [.bool ((tagB bs).isSome && decide (((tagB bs).getD ([] : List Int)).length = (flB bs).length))] -> (Rf E2 /\ Rf (SV.ptr 0 0) /\ Rf (SV.ptr 1 0) /\ Rf (SV.v (.slice a1 n2 c2)) /\ Rf (SV.v (.slice e f g)) /\ Rf (SV.v (.int .i64 (f : Int))) /\ Rf (none : Option Nat) /\ (0 : Int) <= 0 /\ 0 <= ((flB bs).length : Int) /\ ∃ h1 y1, [Value.int .u8 m, .int .u8 o, .string q, .int .i64 p, .int .i64 r, .int .i64 s, .int .i64 t, .int .i64 u, .int .i64 w, .int .i64 x, .int .i64 y, .slice z n1 c1] = [.int .u8 h1.kind, .int .u8 h1.what, .string h1.name, .int .i64 h1.p3, .int .i64 h1.p4, .int .i64 h1.p5, .int .i64 h1.p6, .int .i64 h1.p7, .int .i64 h1.p8, .int .i64 h1.p9, .int .i64 h1.val, y1] /\ okRq h1 /\ h1.name.size <= 1000000 /\ h1.fed.length <= 1000000 /\ (∃ b4 m1 c3, y1 = .slice b4 m1 c3 /\ SlM I3 b4 m1 1 (List.map (Value.int .u8) h1.fed) /\ m1 <= c3 /\ c3 <= 9223372036854775807) /\ NewB I I3 y1 /\ (b3 = true -> (tagB bs).isSome = true /\ ((tagB bs).getD ([] : List Int)).length = (flB bs).length /\ runB bs = tryT h1 (List.drop 0 ((tagB bs).getD ([] : List Int))) (List.drop 0 (flB bs))) /\ (b3 = false -> ((tagB bs).isSome && (runB bs).2) = false)) /\ ∀ (I4 : Mem), Mem -> I3.le I4 -> ∀ (b4 : Bool) (n3 n4 n5 : Int) (q1 : ByteArray) (n6 n7 n8 n9 n10 n11 n12 n13 : Int) (a2 : Option Addr) (n14 c3 : Nat), 0 <= n3 /\ n3 <= ((flB bs).length : Int) /\ (∃ h1 y1, [Value.int .u8 n4, .int .u8 n5, .string q1, .int .i64 n6, .int .i64 n7, .int .i64 n8, .int .i64 n9, .int .i64 n10, .int .i64 n11, .int .i64 n12, .int .i64 n13, .slice a2 n14 c3] = [.int .u8 h1.kind, .int .u8 h1.what, .string h1.name, .int .i64 h1.p3, .int .i64 h1.p4, .int .i64 h1.p5, .int .i64 h1.p6, .int .i64 h1.p7, .int .i64 h1.p8, .int .i64 h1.p9, .int .i64 h1.val, y1] /\ E6 h1 y1 I4 b4 n3) -> Br (decide (n3 < (f : Int))) (0 <= n3 /\ n3 < (f : Int) /\ e.isSome = true /\ (2 : Nat) = 2 /\ ∃ n15, atI I4 e (n3.toNat * 2 + 0) = some (.int .i64 n15) /\ ∃ a3 n16 c4, atI I4 e (n3.toNat * 2 + 1) = some (.slice a3 n16 c4) /\ Br b4 (0 <= n3 /\ n3 < (n2 : Int) /\ a1.isSome = true /\ ∃ n17, atI I4 a1 (n3.toNat * 1 + 0) = some (.int .i64 n17) /\ Br (n15 == n17) (∀ (b5 : Nat), CtS Tryz.prog (.v (fnv 61)) [.ptr 0 0, .agg [.v (.int .i64 n15), .v (.slice a3 n16 c4)]] [⟨.cells (.v (.int .u8 n4) :: .v (.int .u8 n5) :: E5 q1 n6 n7 n8 n9 n10 n11 n12 n13 a2 n14 c3) 26, some b5⟩] I4 fun s1 H I5 => ∃ b6 n18 n19 q2 n20 n21 n22 n23 n24 n25 n26 n27 a4 n28 c5, s1 = .v (.bool b6) /\ H = [⟨.cells (.v (.int .u8 n18) :: .v (.int .u8 n19) :: E5 q2 n20 n21 n22 n23 n24 n25 n26 n27 a4 n28 c5) 26, some b5⟩] /\ Br (!b6) (Br (!b6) (E1 I5) (Ct Tryz.prog (fnv 52) #[.agg #[.int .u8 n18, .int .u8 n19, .string q2, .int .i64 n20, .int .i64 n21, .int .i64 n22, .int .i64 n23, .int .i64 n24, .int .i64 n25, .int .i64 n26, .int .i64 n27, .slice a4 n28 c5]] I5 (fun v2 I6 => ∃ b7, v2 = .bool b7 /\ Br (!b7) (E1 I6) (∃ y1, Value.tuple #[.agg #[.int .u8 n18, .int .u8 n19, .string q2, .int .i64 n20, .int .i64 n21, .int .i64 n22, .int .i64 n23, .int .i64 n24, .int .i64 n25, .int .i64 n26, .int .i64 n27, .slice a4 n28 c5], .int .i64 0] = .tuple #[.agg #[.int .u8 (readR bs).1.kind, .int .u8 (readR bs).1.what, .string (readR bs).1.name, .int .i64 (readR bs).1.p3, .int .i64 (readR bs).1.p4, .int .i64 (readR bs).1.p5, .int .i64 (readR bs).1.p6, .int .i64 (readR bs).1.p7, .int .i64 (readR bs).1.p8, .int .i64 (readR bs).1.p9, .int .i64 (readR bs).1.val, y1], .int .i64 (readR bs).2] /\ E7 y1 I6)))) (Wr .i64 (n3 + 1) (fun c6 => Rf E2 /\ Rf (SV.ptr 0 0) /\ Rf (SV.ptr 1 0) /\ Rf (SV.v (.slice a1 n2 c2)) /\ Rf (SV.v (.slice e f g)) /\ Rf (SV.v (.int .i64 (f : Int))) /\ (0 <= c6 /\ c6 <= ((flB bs).length : Int) /\ ∃ h1 y1, [Value.int .u8 n18, .int .u8 n19, .string q2, .int .i64 n20, .int .i64 n21, .int .i64 n22, .int .i64 n23, .int .i64 n24, .int .i64 n25, .int .i64 n26, .int .i64 n27, .slice a4 n28 c5] = [.int .u8 h1.kind, .int .u8 h1.what, .string h1.name, .int .i64 h1.p3, .int .i64 h1.p4, .int .i64 h1.p5, .int .i64 h1.p6, .int .i64 h1.p7, .int .i64 h1.p8, .int .i64 h1.p9, .int .i64 h1.val, y1] /\ E6 h1 y1 I5 b6 c6) /\ Int.toNat (((flB bs).length : Int) - c6) < Int.toNat (((flB bs).length : Int) - n3)))) (E1 I4)) (E1 I4)) (Br (!b4) (E1 I4) (Ct Tryz.prog (fnv 52) #[.agg #[.int .u8 n4, .int .u8 n5, .string q1, .int .i64 n6, .int .i64 n7, .int .i64 n8, .int .i64 n9, .int .i64 n10, .int .i64 n11, .int .i64 n12, .int .i64 n13, .slice a2 n14 c3]] I4 (fun v2 I5 => ∃ b5, v2 = .bool b5 /\ Br (!b5) (E1 I5) (∃ y1, Value.tuple #[.agg #[.int .u8 n4, .int .u8 n5, .string q1, .int .i64 n6, .int .i64 n7, .int .i64 n8, .int .i64 n9, .int .i64 n10, .int .i64 n11, .int .i64 n12, .int .i64 n13, .slice a2 n14 c3], .int .i64 0] = .tuple #[.agg #[.int .u8 (readR bs).1.kind, .int .u8 (readR bs).1.what, .string (readR bs).1.name, .int .i64 (readR bs).1.p3, .int .i64 (readR bs).1.p4, .int .i64 (readR bs).1.p5, .int .i64 (readR bs).1.p6, .int .i64 (readR bs).1.p7, .int .i64 (readR bs).1.p8, .int .i64 (readR bs).1.p9, .int .i64 (readR bs).1.val, y1], .int .i64 (readR bs).2] /\ E7 y1 I5)))))))) (by kernel_rfl) ?_
 intro E2 E3 E4 E5 E6 E7 E1;simp only [E1, E2, E3, E4, E5, E6, E7, Rf, eq_self, true_and, and_true]
 have hmx : maxLen = 9223372036854775807 := by decide
 have hln := h.numLen
 have Z : ∀ {J : Mem}, accB bs = false -> ∃ y, Value.tuple #[.agg (rqV zeroRq (.slice none 0 0)).toArray, .int .i64 341] = Value.tuple #[.agg (rqV (readR bs).1 y).toArray, .int .i64 (readR bs).2] /\ BySl J y (readR bs).1.fed /\ NewB I J y := fun {J} hz => by
  have : readR bs = (zeroRq, 341) := by rw [readR, hz]; rfl
  rw [this]
  exact ⟨_, rfl, ⟨none, 0, 0, rfl, sl_nil _ _, by omega, by omega⟩, newB_sl (fun hc => absurd hc (by omega)) (by omega)⟩
 refine Br.mk (fun h1 => Z ?_) (fun h1 => ?_)
 · have h1 := of_decide_eq_true h1
   rw [accB, decide_eq_false (by omega)]; rfl
 have h1 := of_decide_eq_false h1
 obtain ⟨x0, hx0, e0⟩ := h.intAt (i := 0) (by omega) (by omega)
 have hx0 : bs[0]? = some x0 := hx0
 refine ⟨by omega, by omega, h.isSome (by omega), x0, e0, Br.mk (fun h2 => Z ?_) (fun h2 => ?_)⟩
 · have h2 : x0 ≠ 1 := by simpa using h2
   rw [accB, hx0, decide_eq_false (p := some x0 = some 1) (fun hc => h2 (Option.some.inj hc)), Bool.false_and, Bool.and_false]
 have h2 : x0 = 1 := by simpa using h2
 have hsub := sl_sub h (f := 2) (t := n) (by omega) (by omega) hc
 rw [List.take_of_length_le (by rw [List.length_drop]; omega)] at hsub
 have hbd : byteL (bs.drop 2) := fun z hz => hbs z (List.mem_of_mem_drop hz)
 refine ⟨by omega, by omega, (ct59 (bs.drop 2) hbd _ (n - 2) (c - 2) I hsub (by omega) (by omega) (by omega)).mono fun v I1 l1 ⟨a1, n1, c1, hv, hF, hn1, hc1⟩ => ⟨_, _, _, _, _, hv, Br.mk (fun h3 => Z ?_) (fun h3 => ?_)⟩⟩
 · have h3 : (readF (bs.drop 2)).2.2 ≠ 0 := by simpa using h3
   rw [accB, decide_eq_false (p := (readF (bs.drop 2)).2.2 = 0) h3]
   simp
 have h3 : (readF (bs.drop 2)).2.2 = 0 := by simpa using h3
 have hacc : accB bs = ((tagB bs).isSome && ((runB bs).2 && rightR (runB bs).1)) := by
  rw [accB, hx0, h2, decide_eq_true (p := 2 <= bs.length) (by omega), h3]; simp
 have hF : FldM I1 a1 n1 (flB bs) := hF;have hlen := hF.len
 have hle : ∀ f ∈ flB bs, f.2.length <= 16384 := by
  rcases read_cases (bs.drop 2) hbd with ⟨_, _, hr, _⟩ | ⟨hr, _⟩
  · intro f hf
    have := right_at (rightF_iff.1 hr).1 f hf;omega
  · intro f hf
    have : flB bs = [] := hr
    rw [this] at hf; cases hf
 obtain ⟨x1, hx1, e1⟩ := (h.mono l1).intAt (i := 1) (by omega) (by omega)
 have hx1 : bs[1]? = some x1 := hx1
 have hk : kindB bs = x1 := by rw [kindB, hx1]; rfl
 have hkr : 0 <= kindB bs /\ kindB bs <= 255 := by rw [hk]; exact hbs x1 (List.mem_of_getElem? hx1)
 refine ⟨by omega, by omega, h.isSome (by omega), x1, e1, ?_, ?_⟩
 · have kE : ∀ {w : Int}, whatB bs = w -> [Value.int .u8 x1, Value.int .u8 w, Value.string ⟨#[]⟩, Value.int .i64 0, Value.int .i64 0, Value.int .i64 0, Value.int .i64 0, Value.int .i64 0, Value.int .i64 0, Value.int .i64 0, Value.int .i64 0, Value.slice none 0 0] = rqV (startQ bs) (.slice none 0 0) := fun hw => by
    rw [startQ, hk, hw]; rfl
   refine Br.mk (fun g1 => ?_) (fun g1 => kE ?_)
   rotate_left
   · have g1 := of_decide_eq_false g1
     have : flB bs = [] := List.eq_nil_of_length_eq_zero (by omega)
     rw [whatB, this]; rfl
   have g1 := of_decide_eq_true g1
   obtain ⟨f, b, m, c', hf, hok, e2, e3, hfs, _, _⟩ := hF.at_ (i := 0) (by omega) g1
   obtain ⟨r0, hr0⟩ : ∃ r0, flB bs = f :: r0 := by
    cases hq : flB bs with
    | nil => rw [hq] at hf; cases hf
    | cons g r0 =>
     rw [hq] at hf
     cases hf; exact ⟨r0, rfl⟩
   have hml := hfs.numLen
   have hfl := hle f (by rw [hr0]; simp)
   have hw : whatB bs = if x1 = 7 /\ (lastN f.2).2.2 = 0 /\ (lastN f.2).1 < 256 then (lastN f.2).1 else 0 := by rw [whatB, hr0, hk]; rfl
   refine Br.mk (fun g2 => ?_) (fun g2 => kE ?_)
   rotate_left
   · rw [hw, if_neg (fun hc => nev g2 hc.1)]
   have g2 := eqv g2
   refine ⟨by omega, by omega, hF.isSome (by omega), _, e2, _, _, _, e3, (ct60 f hok b m c' I1 hfs (by omega)).mono fun v I2 l2 hv => ⟨_, _, hv, Br.mk (fun g3 => Br.mk (fun g4 => ?_) (fun g4 => kE ?_)) (fun g3 => kE ?_)⟩⟩
   · have g3 : (lastN f.2).2.2 = 0 := by simpa using g3
     have g4 := of_decide_eq_true g4;have hr := last_range hok.2
     exact ⟨_, IntWalk.u8_in _ ⟨hr.1, by omega⟩, kE (by rw [hw, if_pos ⟨g2, g3, g4⟩])⟩
   · have g4 := of_decide_eq_false g4
     rw [hw, if_neg (fun hc => g4 hc.2.2)]
   · have g3 : ¬ (lastN f.2).2.2 = 0 := by simpa using g3
     rw [hw, if_neg (fun hc => g3 hc.2.1)]
 have hwr : 0 <= whatB bs /\ whatB bs <= 255 := by
  rw [whatB]
  cases hq : flB bs with
  | nil =>
   show (0 : Int) <= 0 /\ (0 : Int) <= 255
   omega
  | cons f r0 =>
   have hok := hF.ok f (by rw [hq]; simp)
   have hr := last_range hok.2;rw [whatL]
   split <;> omega
 intro I2 _ l2 y0 y1 yq y3 y4 y5 y6 y7 y8 y9 y10 ah nh ch heq;simp only [List.cons.injEq, Value.int.injEq, Value.string.injEq, Value.slice.injEq, true_and, and_true] at heq;obtain ⟨rfl, rfl, rfl, rfl, rfl, rfl, rfl, rfl, rfl, rfl, rfl, rfl, rfl, rfl⟩ := heq;refine (ct28 (kindB bs) (whatB bs) I2).mono fun v I3 l3 ⟨a3, n3, c3, hv, hs3, hn3, hc3, _⟩ => ⟨_, _, _, _, hv, ?_, ?_⟩
 · have hl3 := hs3.numLen
   have hl3 : n3 = ((tagB bs).getD []).length := hl3;refine Br.mk (fun hb => ?_) (fun hb => ?_)
   · have hb : (tagB bs).isSome = true := hb
     rw [hb, Bool.true_and, <- hl3, hlen]
     congr 2
     by_cases hq : n3 = n1
     · simp [hq]
     · have : (n3 : Int) ≠ n1 := by omega
       simp [hq, this]
   · have hb : (tagB bs).isSome = false := hb
     rw [hb, Bool.false_and]
 intro I4 _ l4 ok hok;refine ⟨hok, fun I5 _ l5 ok hok => ?_⟩;simp only [List.cons.injEq, Value.bool.injEq, and_true] at hok;have hs3' : SlM I3 a3 n3 1 (ints .i64 ((tagB bs).getD [])) := hs3;have hl3 := hs3'.numLen
 have lI3 : I.le I3 := Mem.le_trans l1 (Mem.le_trans (by assumption) (by assumption))
 refine ⟨⟨by omega, by omega, startQ bs, .slice none 0 0, rfl, okRq_start hkr hwr, by simp [startQ, zeroRq, ByteArray.size], by simp [startQ, zeroRq], ⟨none, 0, 0, rfl, sl_nil _ _, by omega, by omega⟩, newB_sl (fun hc => absurd hc (by omega)) (by omega), fun ht => ?_, fun hf => ?_⟩, fun I6 _ l6 ok j y0 y1 yq y3 y4 y5 y6 y7 y8 y9 y10 ah nh ch ⟨j0, j1, h', yy, heq, okh, hsz, hfl, hyy, hnb, hT, hFf⟩ => ?_⟩
 · rw [hok, Bool.and_eq_true, decide_eq_true_eq] at ht
   exact ⟨ht.1, ht.2, rfl⟩
 · rw [hok] at hf
   cases hs : (tagB bs).isSome with
   | false => rfl
   | true =>
    rw [hs, Bool.true_and] at hf;have hf := of_decide_eq_false hf
    cases hr : (runB bs).2 with
    | false => rfl
    | true => exact absurd (tryT_len _ _ _ hr) hf
 simp only [List.cons.injEq, Value.int.injEq, Value.string.injEq, true_and, and_true] at heq;obtain ⟨rfl, rfl, rfl, rfl, rfl, rfl, rfl, rfl, rfl, rfl, rfl, rfl⟩ := heq;have hyy : BySl I6 (.slice ah nh ch) h'.fed := hyy
 have no1 : ((tagB bs).isSome && (runB bs).2) = false -> accB bs = false := fun hq => by rw [hacc, <- Bool.and_assoc, hq, Bool.false_and]
 have l16 : I1.le I6 := Mem.le_trans (by assumption) (Mem.le_trans (by assumption) (Mem.le_trans l4 (Mem.le_trans l5 l6)))
 have l36 : I3.le I6 := Mem.le_trans l4 (Mem.le_trans l5 l6);refine Br.mk (fun hlt => ?_) (fun hge => ?_)
 · have hlt := of_decide_eq_true hlt
   obtain ⟨f, b, m, c', hf, hokf, e2, e3, hfs, hm1, hm2⟩ := (hF.mono l16).at_ j0 hlt;have hfm := List.mem_of_getElem? hf;have hml := hfs.numLen;have hf16 := hle f hfm
   refine ⟨j0, hlt, hF.isSome (by omega), _, e2, _, _, _, e3, Br.mk (fun ho => ?_) (fun ho => Z (no1 (hFf ho)))⟩
   obtain ⟨s1, s2, s3⟩ := hT ho
   obtain ⟨t, ht, e4⟩ := (hs3'.mono l36).intAt j0 (by omega)
   obtain ⟨tl, htl⟩ := Option.isSome_iff_exists.1 s1;have htr := (tagL_ok htl).1
   have htr : 1 <= t /\ t <= 11 := htr t (by rw [htl] at ht; exact List.mem_of_getElem? ht)
   rw [drop_cons ht, drop_cons hf, tryT] at s3
   refine ⟨j0, by omega, hs3'.isSome (by omega), t, e4, Br.mk (fun hq => ?_) (fun hq => Z ?_)⟩
   rotate_left
   · rw [if_neg (nev hq)] at s3
     exact no1 (by rw [s3, Bool.and_false])
   have hq := eqv hq;rw [if_pos hq] at s3;subst hq;intro kb
   refine (cs_agg (cs61 f.1 htr kb h' okh (.slice ah nh ch) f.2 hokf.2 b m c' I6 hfs (by omega))).mono fun sv H' I7 l7 ⟨y', hv, hH, hy', hnb'⟩ => ?_
   have hb7 := hy' (hyy.mono l7);have hn7 := hnb' I (Mem.le_trans l1 l16) (hnb.mono l7);obtain ⟨b5, m5, c5, rfl, q1, q2, q3⟩ := hb7;refine ⟨_, _, _, _, _, _, _, _, _, _, _, _, _, _, _, hv, hH, Br.mk (fun hb => Br.t hb (Z ?_)) (fun hb => ?_)⟩
   · have hb : takeB h' f.1 f.2 = false := by simpa using hb
     rw [hb] at s3
     exact no1 (by rw [s3]; simp)
   · have hb : takeB h' f.1 f.2 = true := by simpa using hb
     rw [if_pos hb] at s3
     have hst := size_take (t := f.1) (bs := f.2) hsz hfl (by omega)
     refine wr_i64 (by omega) (by omega) ⟨⟨by omega, by omega, _, _, rfl, okRq_take okh f.1 hokf.2, hst.1, hst.2, ⟨_, _, _, rfl, q1, q2, q3⟩, hn7, fun _ => ⟨s1, s2, ?_⟩, fun hc => ?_⟩, by omega⟩
     · rw [show (j + 1).toNat = j.toNat + 1 by omega]; exact s3
     · rw [hb] at hc; cases hc
 · have hge := of_decide_eq_false hge
   refine Br.mk (fun ho => Z (no1 (hFf (by simpa using ho)))) (fun ho => ?_)
   have ho : ok = true := by simpa using ho
   obtain ⟨s1, s2, s3⟩ := hT ho
   rw [List.drop_eq_nil_of_le (by omega), List.drop_eq_nil_of_le (by omega), tryT] at s3
   rw [s3, s1, Bool.true_and, Bool.true_and] at hacc;refine (ct52 h' okh hsz (.slice ah nh ch) I6 hyy hfl).mono fun v I7 l7 hv => ⟨_, hv, Br.mk (fun hb => Z ?_) (fun hb => ?_)⟩
   · have hb : rightR h' = false := by simpa using hb
     rw [hacc, hb]
   · have hb : rightR h' = true := by simpa using hb
     have hr : readR bs = (h', 0) := by rw [readR, hacc, hb, if_pos rfl, s3]
     rw [hr];exact ⟨_, rfl, hyy.mono l7, hnb.mono l7⟩
theorem lastN_form (x : Nat) (h : x < 256 ^ 8) : lastN (formN x) = ((x : Int), ((formN x).length : Int), 0) := by
 have hr := readN_form [] [] x h;simp only [List.nil_append, List.append_nil, List.length_nil] at hr;have hr : readN (formN x) 0 = ((x : Int), ((formN x).length : Int), 0) := hr;unfold lastN
 rw [hr, if_neg (by simp), if_neg (by simp)]
theorem lastN_f2 {x : Nat} (h : x < 256 ^ 8) : (lastN (formN x)).1 = (x : Int) /\ (lastN (formN x)).2.2 = 0 := by
 rw [lastN_form x h]; exact ⟨rfl, rfl⟩
theorem strB_strL (s : ByteArray) : strB (strL s) = s := by
 have : u8s (strL s) = s.data.toList := by
  simp only [u8s, strL, List.map_map]
  conv => rhs; rw [<- List.map_id s.data.toList]
  apply List.map_congr_left;intro b _
  simp
 rw [strB, this]
theorem unfold_fold {x : Int} (h : i64R x) : unfoldZ (foldZ x) = x := by
 unfold foldZ unfoldZ;split
 · rw [if_pos (by omega)]; omega
 · rw [if_neg (by omega)]; omega
theorem wrap_wrap {x : Int} (h : i64R x) : IntKind.i64.wrap (IntKind.u64.wrap x) = x := by
 obtain ⟨h1, h2⟩ := h;rw [w64, IntKind.wrap_i64];omega
def copyT (r h : Rq) (t : Int) : Rq :=
 if t = 1 then { h with what := r.what } else if t = 2 then { h with name := r.name } else if t = 3 then { h with p3 := r.p3 } else if t = 4 then { h with p4 := r.p4 } else if t = 5 then { h with p5 := r.p5 } else if t = 6 then { h with p6 := r.p6 }
 else if t = 7 then { h with p7 := r.p7 } else if t = 8 then { h with p8 := r.p8 } else if t = 9 then { h with p9 := r.p9 } else if t = 10 then { h with val := r.val } else { h with fed := r.fed }
def okT (r : Rq) (t : Int) : Bool := decide (3 <= t -> t <= 9 -> 0 <= numR r t)
theorem step_num {r h : Rq} {t p : Int} (hr : i64R p) (ht : 3 <= t /\ t <= 9) (hn : numR r t = p) : preR r h t = h /\ takeB h t (bytesR r t) = decide (0 <= p) /\ IntKind.i64.wrap (lastN (bytesR r t)).1 = p := by
 have hb : bytesR r t = formN (IntKind.u64.wrap p).toNat := by
  rw [bytesR, if_neg (by omega), if_neg (by omega), if_neg (by omega), if_neg (by omega), hn]
 have hw := w64_range p
 obtain ⟨g1, g2⟩ := lastN_f2 (x := (IntKind.u64.wrap p).toNat) (by omega)
 rw [Int.toNat_of_nonneg hw.1] at g1
 refine ⟨if_neg (by omega), ?_, by rw [hb, g1, wrap_wrap hr]⟩
 rw [takeB, if_neg (by omega), if_neg (by omega), if_neg (by omega), hb, g1, g2, decide_eq_true rfl, Bool.true_and]
 obtain ⟨h1, h2⟩ := hr;apply decide_eq_decide.2;rw [w64];omega
theorem step_copy {r h : Rq} (hr : okRq r) {t : Int} (ht : 1 <= t /\ t <= 11) : takeB (preR r h t) t (bytesR r t) = okT r t /\ (okT r t = true -> takeR (preR r h t) t (bytesR r t) = copyT r h t) := by
 rcases (by omega : t = 1 \/ t = 2 \/ t = 3 \/ t = 4 \/ t = 5 \/ t = 6 \/ t = 7 \/ t = 8 \/ t = 9 \/ t = 10 \/ t = 11) with rfl | rfl | rfl | rfl | rfl | rfl | rfl | rfl | rfl | rfl | rfl
 · have hw := hr.what
   obtain ⟨g1, g2⟩ := lastN_f2 (x := r.what.toNat) (by omega)
   rw [Int.toNat_of_nonneg hw.1] at g1;have hb : bytesR r 1 = formN r.what.toNat := rfl;refine ⟨?_, fun _ => rfl⟩
   have hp : preR r h 1 = { h with what := r.what } := rfl
   rw [hp, hb, takeB, if_neg (by decide), if_pos rfl, g1, g2]
   simp [okT]
 · refine ⟨rfl, fun _ => ?_⟩
   show { h with name := strB (strL r.name) } = { h with name := r.name }
   rw [strB_strL]
 · obtain ⟨g1, g2, g3⟩ := step_num (h := h) hr.p3 (t := 3) (by omega) rfl
   exact ⟨by rw [g1, g2]; simp [okT]; rfl, fun _ => by rw [g1]; show { h with p3 := _ } = { h with p3 := _ }; rw [g3]⟩
 · obtain ⟨g1, g2, g3⟩ := step_num (h := h) hr.p4 (t := 4) (by omega) rfl
   exact ⟨by rw [g1, g2]; simp [okT]; rfl, fun _ => by rw [g1]; show { h with p4 := _ } = { h with p4 := _ }; rw [g3]⟩
 · obtain ⟨g1, g2, g3⟩ := step_num (h := h) hr.p5 (t := 5) (by omega) rfl
   exact ⟨by rw [g1, g2]; simp [okT]; rfl, fun _ => by rw [g1]; show { h with p5 := _ } = { h with p5 := _ }; rw [g3]⟩
 · obtain ⟨g1, g2, g3⟩ := step_num (h := h) hr.p6 (t := 6) (by omega) rfl
   exact ⟨by rw [g1, g2]; simp [okT]; rfl, fun _ => by rw [g1]; show { h with p6 := _ } = { h with p6 := _ }; rw [g3]⟩
 · obtain ⟨g1, g2, g3⟩ := step_num (h := h) hr.p7 (t := 7) (by omega) rfl
   exact ⟨by rw [g1, g2]; simp [okT]; rfl, fun _ => by rw [g1]; show { h with p7 := _ } = { h with p7 := _ }; rw [g3]⟩
 · obtain ⟨g1, g2, g3⟩ := step_num (h := h) hr.p8 (t := 8) (by omega) rfl
   exact ⟨by rw [g1, g2]; simp [okT]; rfl, fun _ => by rw [g1]; show { h with p8 := _ } = { h with p8 := _ }; rw [g3]⟩
 · obtain ⟨g1, g2, g3⟩ := step_num (h := h) hr.p9 (t := 9) (by omega) rfl
   exact ⟨by rw [g1, g2]; simp [okT]; rfl, fun _ => by rw [g1]; show { h with p9 := _ } = { h with p9 := _ }; rw [g3]⟩
 · have hv := foldZ_range hr.val
   obtain ⟨g1, g2⟩ := lastN_f2 (x := (foldZ r.val).toNat) (by omega)
   rw [Int.toNat_of_nonneg hv.1] at g1;have hb : bytesR r 10 = formN (foldZ r.val).toNat := rfl;have hp : preR r h 10 = h := rfl;refine ⟨?_, fun _ => ?_⟩
   · rw [hp, hb, takeB, if_neg (by decide), if_neg (by decide), if_pos rfl, g2]
     simp [okT]
   · rw [hp, hb]
     show { h with val := unfoldZ (lastN (formN (foldZ r.val).toNat)).1 } = { h with val := r.val }
     rw [g1, unfold_fold hr.val]
 · exact ⟨rfl, fun _ => rfl⟩
theorem runR_copy {r : Rq} (hr : okRq r) : ∀ (l : List Int) (h : Rq), (∀ t ∈ l, 1 <= t /\ t <= 11) -> (runR r h l).2 = l.all (okT r) /\ (l.all (okT r) = true -> (runR r h l).1 = l.foldl (copyT r) h)
 | [], h, _ => ⟨rfl, fun _ => rfl⟩
 | t :: l, h, ht => by
  obtain ⟨g1, g2⟩ := step_copy (h := h) hr (ht t (by simp))
  rw [runR, g1]
  cases ho : okT r t with
  | false => simp [ho]
  | true =>
   obtain ⟨q1, q2⟩ := runR_copy hr l (copyT r h t) fun s hs => ht s (by simp [hs])
   rw [if_pos rfl, g2 ho];simp only [List.all_cons, ho, Bool.true_and, List.foldl_cons];exact ⟨q1, q2⟩
def rightS (r : Rq) : Bool := match tagL r.kind r.what with
 | none => false
 | some l => decide (r.name.size <= 255) && (decide (r.fed.length <= 15000) && (l.all (okT r) && sameR (l.foldl (copyT r) (had0 r)) r))
theorem right_eq {r : Rq} (hr : okRq r) : rightR r = rightS r := by
 unfold rightR rightS
 cases hq : tagL r.kind r.what with
 | none => rfl
 | some l =>
  obtain ⟨q1, q2⟩ := runR_copy hr l (had0 r) (tagL_ok hq).1
  simp only
  rw [q1]
  cases ha : l.all (okT r) with
  | false => rfl
  | true => rw [q2 ha]
def namesL : List ByteArray := [⟨#[]⟩, ⟨#[99, 114, 101, 97, 116, 101]⟩, ⟨#[111, 112, 101, 110]⟩, ⟨#[103, 114, 97, 110, 116]⟩, ⟨#[114, 101, 118, 111, 107, 101]⟩, ⟨#[115, 117, 98, 109, 105, 116]⟩, ⟨#[115, 116, 101, 112]⟩, ⟨#[113, 117, 101, 114, 121]⟩, ⟨#[99, 97, 110, 99, 101, 108]⟩, ⟨#[100, 101, 115, 116, 114, 111, 121]⟩]
def asksL : List ByteArray := [⟨#[]⟩, ⟨#[115, 116, 97, 116, 117, 115]⟩, ⟨#[99, 101, 108, 108, 115]⟩, ⟨#[101, 118, 101, 110, 116, 115]⟩, ⟨#[112, 111, 114, 116, 115]⟩, ⟨#[104, 97, 110, 100, 108, 101, 115]⟩]
def nameS (k : Int) : ByteArray := (namesL[k.toNat]?).getD ⟨#[]⟩
def askS (k : Int) : ByteArray := (asksL[k.toNat]?).getD ⟨#[]⟩
theorem ct27 (k : Int) (hk : 0 <= k /\ k <= 255) (I : Mem) : Ct Tryz.prog (fnv 27) #[.int .u8 k] I (fun v I' => v = .string (nameS k)) := by
 refine viaR (ct_via (A := { calls := [(10, .sym)] }) Tryz.func27 rfl Tryz.call27 rfl rfl) (Wr .i64 k fun c => Br (decide (10 <= c)) (Value.string ⟨#[]⟩ = .string (nameS k)) (0 <= k /\ k < 10 /\ ∃ q, [Value.string ⟨#[]⟩, .string ⟨#[99, 114, 101, 97, 116, 101]⟩, .string ⟨#[111, 112, 101, 110]⟩, .string ⟨#[103, 114, 97, 110, 116]⟩, .string ⟨#[114, 101, 118, 111, 107, 101]⟩, .string ⟨#[115, 117, 98, 109, 105, 116]⟩, .string ⟨#[115, 116, 101, 112]⟩, .string ⟨#[113, 117, 101, 114, 121]⟩, .string ⟨#[99, 97, 110, 99, 101, 108]⟩, .string ⟨#[100, 101, 115, 116, 114, 111, 121]⟩][0 + k.toNat * 1 + 0]? = some (.string q) /\ Value.string q = .string (nameS k))) (by kernel_rfl) ?_
 refine wr_i64 (by omega) (by omega) (Br.mk (fun h => ?_) (fun h => ?_))
 · have h := of_decide_eq_true h
   have : nameS k = ⟨#[]⟩ := by rw [nameS, List.getElem?_eq_none (by simp [namesL]; omega)]; rfl
   rw [this]
 · have h := of_decide_eq_false h
   rcases (by omega : k = 0 \/ k = 1 \/ k = 2 \/ k = 3 \/ k = 4 \/ k = 5 \/ k = 6 \/ k = 7 \/ k = 8 \/ k = 9) with rfl | rfl | rfl | rfl | rfl | rfl | rfl | rfl | rfl | rfl
   all_goals exact ⟨by omega, by omega, _, rfl, rfl⟩
theorem ct53 (k : Int) (hk : 0 <= k /\ k <= 255) (I : Mem) : Ct Tryz.prog (fnv 53) #[.int .u8 k] I (fun v I' => v = .string (askS k)) := by
 refine viaR (ct_via (A := { calls := [(10, .sym)] }) Tryz.func53 rfl Tryz.call53 rfl rfl) (Wr .i64 k fun c => Br (decide (6 <= c)) (Value.string ⟨#[]⟩ = .string (askS k)) (0 <= k /\ k < 6 /\ ∃ q, [Value.string ⟨#[]⟩, .string ⟨#[115, 116, 97, 116, 117, 115]⟩, .string ⟨#[99, 101, 108, 108, 115]⟩, .string ⟨#[101, 118, 101, 110, 116, 115]⟩, .string ⟨#[112, 111, 114, 116, 115]⟩, .string ⟨#[104, 97, 110, 100, 108, 101, 115]⟩][0 + k.toNat * 1 + 0]? = some (.string q) /\ Value.string q = .string (askS k))) (by kernel_rfl) ?_
 refine wr_i64 (by omega) (by omega) (Br.mk (fun h => ?_) (fun h => ?_))
 · have h := of_decide_eq_true h
   have : askS k = ⟨#[]⟩ := by rw [askS, List.getElem?_eq_none (by simp [asksL]; omega)]; rfl
   rw [this]
 · have h := of_decide_eq_false h
   rcases (by omega : k = 0 \/ k = 1 \/ k = 2 \/ k = 3 \/ k = 4 \/ k = 5) with rfl | rfl | rfl | rfl | rfl | rfl
   all_goals exact ⟨by omega, by omega, _, rfl, rfl⟩
theorem strL_len (s : ByteArray) : (strL s).length = s.size := by simp [strL]
