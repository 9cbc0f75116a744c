/- Part of a proof by the rules of the symbolic walk (see the law's own text): contracts of functions of the program. -/
import Derived.Test.YtdmhilnnendcoaaGreatProg
import Derived.Test.YtdmhilnnendcoaaGreatRea3
set_option linter.unusedVariables false
set_option linter.unusedSimpArgs false
open Go Go.Proofs Go.SE Go.RowKit
set_option linter.unusedVariables false
set_option maxRecDepth 100000
set_option maxHeartbeats 1000000
def digN (x : Nat) : Nat := if h : x = 0 then 0 else 1 + digN (x / 256)
termination_by x
decreasing_by omega
def sizeN (x : Nat) : Nat := if x <= 246 then 1 else 1 + digN x
theorem digN_le : ∀ {k x : Nat}, x < 256 ^ k -> digN x <= k
 | 0, x, h => by
   have : x = 0 := by simpa using h
   subst this
   unfold digN; simp
 | k + 1, x, h => by
   unfold digN;split
   · omega
   · have : x / 256 < 256 ^ k := by rw [Nat.div_lt_iff_lt_mul (by omega)]; rw [Nat.pow_succ] at h; exact h
     have := digN_le this;omega
theorem digN_pos {x : Nat} (h : 0 < x) : digN x = 1 + digN (x / 256) := by
 rw [digN, dif_neg (by omega)]
theorem digN_zero : digN 0 = 0 := by rw [digN, dif_pos rfl]
theorem ct113 (x : Int) (h : 0 <= x /\ x <= 18446744073709551615) (I : Mem) : Ct Tryz.prog (fnv 113) #[.int .u64 x] I (fun v _ => v = .int .i64 (sizeN x.toNat)) := by
 refine viaR (ct_via (A := { loops := [(4, ⟨[(0, .sh (.int .u64)), (3, .sh (.int .i64))], [], [], fun vals _ _ _ => match vals with
  | [.int .u64 y, .int .i64 n] => 0 <= y /\ y <= 18446744073709551615 /\ n + digN y.toNat = 1 + digN x.toNat /\ 1 <= n | _ => False, fun vals _ => match vals with | [.int .u64 y, _] => y.toNat | _ => 0⟩)] }) Tryz.func113 rfl Tryz.call113 rfl rfl) (Br (decide (x <= 246)) (Value.int .i64 1 = .int .i64 (sizeN x.toNat : Int)) ((0 <= x /\ x <= 18446744073709551615 /\ Rf (1 + (digN x.toNat : Int)) /\ (1 : Int) <= 1) /\ ∀ (a : Mem), Mem -> I.le a -> ∀ (n b : Int), 0 <= n /\ n <= 18446744073709551615 /\ b + (digN n.toNat : Int) = 1 + (digN x.toNat : Int) /\ 1 <= b -> Br (decide (0 < n)) (Wr .i64 (b + 1) (fun c => (0 : Int) <= 8 /\ (0 <= n.fdiv 256 /\ n.fdiv 256 <= 18446744073709551615 /\ c + (digN (n.fdiv 256).toNat : Int) = 1 + (digN x.toNat : Int) /\ 1 <= c) /\ (n.fdiv 256).toNat < n.toNat)) (Value.int .i64 b = .int .i64 (sizeN x.toNat : Int)))) (by kernel_rfl) ?_
 have hd8 : digN x.toNat <= 8 := digN_le (k := 8) (by omega)
 refine Br.mk (fun h1 => ?_) (fun h1 => ⟨⟨h.1, h.2, rfl, by omega⟩, fun I1 _ _ y n ⟨h2, h3, h4, h5⟩ => Br.mk (fun hp => ?_) (fun hp => ?_)⟩)
 · have h1 := of_decide_eq_true h1
   rw [sizeN, if_pos (by omega)]; rfl
 · have hp := of_decide_eq_true hp
   have hf : y.fdiv 256 = y / 256 := Int.fdiv_eq_ediv_of_nonneg _ (by decide)
   have hd := digN_pos (x := y.toNat) (by omega)
   have ht : (y / 256).toNat = y.toNat / 256 := by omega
   rw [hf]
   exact wr_i64 (by omega) (by omega) ⟨by omega, ⟨by omega, by omega, by rw [ht]; omega, by omega⟩, by omega⟩
 · have hp := of_decide_eq_false hp
   have h1 := of_decide_eq_false h1
   obtain rfl : y = 0 := by omega
   rw [show (0 : Int).toNat = 0 from rfl, digN_zero] at h4
   rw [sizeN, if_neg (by omega)]
   congr 1; omega
def be : Nat -> Nat -> List Int
 | 0, _ => []
 | k + 1, x => be k (x / 256) ++ [((x % 256 : Nat) : Int)]
def formN (x : Nat) : List Int := if x <= 246 then [(x : Int)] else ((246 + digN x : Nat) : Int) :: be (digN x) x
theorem be_len : ∀ (k x : Nat), (be k x).length = k
 | 0, _ => rfl
 | k + 1, x => by simp [be, be_len k]
theorem be_top : ∀ (k x : Nat), be (k + 1) x = ((x / 256 ^ k % 256 : Nat) : Int) :: be k x
 | 0, x => by simp [be]
 | k + 1, x => by
   rw [be, be_top k (x / 256), be, List.cons_append]
   congr 3
   rw [Nat.div_div_eq_div_mul, Nat.pow_succ, Nat.mul_comm]
def zs8 (n : Nat) : List Value := List.replicate n (.int .u8 0)
def stA (d K x : Nat) : List Value := zs8 (d - K) ++ ints .u8 (be K x) ++ zs8 (8 - d)
theorem stA_step {d K x : Nat} (hK : K < d) (hd : d <= 8) : splice (stA d K x) (d - 1 - K) [.int .u8 ((x / 256 ^ K % 256 : Nat) : Int)] = stA d (K + 1) x := by
 have h1 : zs8 (d - K) = zs8 (d - 1 - K) ++ [.int .u8 0] := by
  rw [zs8, show d - K = (d - 1 - K) + 1 by omega, List.replicate_succ']; rfl
 have hl : (zs8 (d - 1 - K)).length = d - 1 - K := by simp [zs8]
 unfold stA splice
 rw [h1, be_top, show d - (K + 1) = d - 1 - K by omega]
 simp only [List.append_assoc]
 rw [List.set_append_right _ _ (by rw [hl]; omega), hl, Nat.sub_self]
 simp [ints]
theorem cs90 (xs : List Value) (n : Nat) (x : Int) (h : 0 <= x /\ x <= 18446744073709551615) (hn : n = xs.length) (hl : xs.length <= 100000000) (I : Mem) :
 CtS Tryz.prog (.v (fnv 90)) [.rsl 0 n, .v (.int .u64 x)] [⟨.row xs 1 5, none⟩] I (fun v H' _ => v = .rsl 0 (n + (formN x.toNat).length) /\ H' = [⟨.row (xs ++ ints .u8 (formN x.toNat)) 1 5, none⟩]) := by
 refine viaR (ctS_via (A := { loops := [(6, ⟨[(0, .keep), (1, .sh (.int .u64)), (5, .keep), (6, .keep), (7, .sh (.int .i64))], [(0, .keep), (1, .vec)], [], fun vals xss _ _ => match vals, xss with
  | [.int .u64 v1, .int .i64 v7], [ys] => ∃ K : Nat, K <= digN x.toNat /\ v7 = (digN x.toNat : Int) - 1 - K /\ v1 = ((x.toNat / 256 ^ K : Nat) : Int) /\ ys = stA (digN x.toNat) K x.toNat | _, _ => False, fun vals _ => match vals with | [_, .int .i64 v7] => (v7 + 1).toNat | _ => 0⟩)] }) Tryz.func90 rfl Tryz.call90 [0] rfl) (Ct Tryz.prog (fnv 113) #[.int .u64 x] I fun v a => ∃ b, v = .int .i64 b /\ Br (b == 1) (Wr .u8 x (fun c => xs.length = n * 1 /\ n + 1 <= 9223372036854775807 /\ (n + 1) * 1 <= 140737488355328 /\ SV.rsl 0 (n + 1) = .rsl 0 (n + (formN x.toNat).length) /\ [Ent.mk (.row (xs ++ [.int .u8 c]) 1 5) none] = [⟨.row (xs ++ List.map (Value.int .u8) (formN x.toNat)) 1 5, none⟩])) (Wr .i64 (b - 2) (fun c => (Rf (Ent.mk (.row xs 1 5) none) /\ Rf (none : Option Nat) /\ Rf (SV.rsl 0 n) /\ Rf (SV.v (.int .i64 b)) /\ Rf (SV.ptr 1 0) /\ ∃ K, K <= digN x.toNat /\ c = (digN x.toNat : Int) - 1 - (K : Int) /\ x = ((x.toNat / 256 ^ K : Nat) : Int) /\ [Value.int .u8 0, .int .u8 0, .int .u8 0, .int .u8 0, .int .u8 0, .int .u8 0, .int .u8 0, .int .u8 0] = stA (digN x.toNat) K x.toNat) /\ ∀ (d : Mem), Mem -> a.le d -> ∀ (e : List Value) (f g : Int), (∃ K, K <= digN x.toNat /\ g = (digN x.toNat : Int) - 1 - (K : Int) /\ f = ((x.toNat / 256 ^ K : Nat) : Int) /\ e = stA (digN x.toNat) K x.toNat) -> Br (decide (0 <= g)) (Wr .u8 f (fun i => 0 <= g /\ g < 8 /\ 0 + g.toNat * 1 + 1 <= e.length /\ (0 : Int) <= 8 /\ Wr .i64 (g - 1) fun j => Rf (Ent.mk (.row xs 1 5) none) /\ Rf (none : Option Nat) /\ Rf (SV.rsl 0 n) /\ Rf (SV.v (.int .i64 b)) /\ Rf (SV.ptr 1 0) /\ (∃ K, K <= digN x.toNat /\ j = (digN x.toNat : Int) - 1 - (K : Int) /\ f.fdiv 256 = ((x.toNat / 256 ^ K : Nat) : Int) /\ splice e (0 + g.toNat * 1) [.int .u8 i] = stA (digN x.toNat) K x.toNat) /\ Int.toNat (j + 1) < Int.toNat (g + 1))) (Wr .i64 (246 + b) (fun i => Wr .i64 (i - 1) fun j => Wr .u8 j fun k => Wr .i64 (b - 1) fun l => 0 <= l /\ l <= 8 /\ xs.length = n * 1 /\ n + 1 <= 9223372036854775807 /\ (n + 1) * 1 <= 140737488355328 /\ 0 + l.toNat * 1 <= e.length /\ (∀ (m : Value), Membership.mem (List.take (l.toNat * 1) e) m -> m.oneCell' = true) /\ List.length (xs ++ [.int .u8 k]) = (n + 1) * 1 /\ n + 1 + l.toNat <= 9223372036854775807 /\ (n + 1 + l.toNat) * 1 <= 140737488355328 /\ SV.rsl 0 (n + 1 + l.toNat) = .rsl 0 (n + (formN x.toNat).length) /\ [Ent.mk (.row (xs ++ [.int .u8 k] ++ List.take (l.toNat * 1) e) 1 5) none] = [⟨.row (xs ++ List.map (Value.int .u8) (formN x.toNat)) 1 5, none⟩]))))) (by kernel_rfl) ?_
 simp only [eq_self, true_and]
 have hX : x.toNat < 256 ^ 8 := by omega
 have hd8 : digN x.toNat <= 8 := digN_le hX;refine (ct113 x h I).mono fun v I1 _ hv => ⟨_, hv, Br.mk (fun h1 => ?_) (fun h1 => ?_)⟩
 · have h1 : (sizeN x.toNat : Int) = 1 := by simpa using h1
   have hle : x.toNat <= 246 := by
    rcases Nat.lt_or_ge 246 x.toNat with hgt | hle
    · rw [sizeN, if_neg (by omega), digN_pos (by omega)] at h1
      omega
    · exact hle
   have hf : formN x.toNat = [x] := by rw [formN, if_pos hle]; congr 1; omega
   rw [hf]
   exact ⟨x, IntWalk.u8_in x ⟨h.1, by omega⟩, by omega, by omega, by omega, rfl, rfl⟩
 · have hgt : 246 < x.toNat := by
    rcases Nat.lt_or_ge 246 x.toNat with hgt | hle
    · exact hgt
    · rw [sizeN, if_pos hle] at h1
      simp at h1
   have hs : sizeN x.toNat = 1 + digN x.toNat := by rw [sizeN, if_neg (by omega)]
   have hd1 : 1 <= digN x.toNat := by rw [digN_pos (by omega)]; omega
   have hf : formN x.toNat = ((246 + digN x.toNat : Nat) : Int) :: be (digN x.toNat) x.toNat := by rw [formN, if_neg (by omega)]
   rw [hs, hf];generalize hdd : digN x.toNat = d at hd8 hd1 ⊢
   refine wr_i64 (by omega) (by omega) ⟨⟨0, by omega, by omega, by simp; omega, ?_⟩, fun I2 G2 _ ys v1 v7 ⟨K, k1, k2, k3, k4⟩ => Br.mk (fun hge => ?_) (fun hlt => ?_)⟩
   · show List.replicate 8 (Value.int .u8 0) = _
     rw [stA, be];simp only [ints, List.map_nil, List.append_nil, zs8, List.replicate_append_replicate]
     congr 1; omega
   · have hge := of_decide_eq_true hge
     have hv7 : v7.toNat = d - 1 - K := by omega
     have hq : x.toNat / 256 ^ K / 256 = x.toNat / 256 ^ (K + 1) := by rw [Nat.div_div_eq_div_mul, Nat.pow_succ]
     have hfd : v1.fdiv 256 = v1 / 256 := Int.fdiv_eq_ediv_of_nonneg _ (by decide)
     refine ⟨((x.toNat / 256 ^ K % 256 : Nat) : Int), by rw [IntKind.wrap_u8, k3]; omega, hge, by omega, ?_, by omega, wr_i64 (by omega) (by omega) ⟨⟨K + 1, by omega, by omega, by rw [hfd, k3, <- hq]; omega, ?_⟩, by omega⟩⟩
     · rw [k4, stA]; simp [zs8, ints_len, be_len]; omega
     · rw [show 0 + v7.toNat * 1 = d - 1 - K by omega, k4]
       exact stA_step (by omega) hd8
   · have hlt := of_decide_eq_false hlt
     obtain rfl : K = d := by omega
     have hys : ys = ints .u8 (be K x.toNat) ++ zs8 (8 - K) := by rw [k4, stA]; simp [zs8]
     have ht : ys.take K = ints .u8 (be K x.toNat) := by rw [hys, List.take_left' (by rw [ints_len, be_len])]
     have hylen : ys.length = 8 := by rw [hys]; simp [zs8, ints_len, be_len]; omega
     refine wr_i64 (by omega) (by omega) (wr_i64 (by omega) (by omega) ⟨((246 + K : Nat) : Int), by rw [IntWalk.u8_in _ ⟨by omega, by omega⟩]; omega, wr_i64 (by omega) (by omega) ?_⟩)
     rw [show ((1 + K : Nat) : Int) - 1 = (K : Int) by omega, Int.toNat_natCast, show K * 1 = K from Nat.mul_one K, ht]
     refine ⟨by omega, by omega, by omega, by omega, by omega, by omega, fun v hv => ?_, by simp; omega, by omega, by omega, ?_, ?_⟩
     · simp only [ints, List.mem_map] at hv
       obtain ⟨z, _, rfl⟩ := hv;rfl
     · congr 1; simp [be_len]; omega
     · simp [ints]
def valN (ds : List Int) : Int := ds.foldl (fun x d => x * 256 + d) 0
theorem val_bd : ∀ (ds : List Int) (x : Int) (k : Nat), (∀ d ∈ ds, 0 <= d /\ d <= 255) -> 0 <= x /\ x < 256 ^ k -> 0 <= ds.foldl (fun x d => x * 256 + d) x /\ ds.foldl (fun x d => x * 256 + d) x < 256 ^ (k + ds.length)
 | [], x, k, _, hx => hx
 | d :: r, x, k, h, hx => by
   have hd := h d (by simp)
   have := val_bd r (x * 256 + d) (k + 1) (fun y hy => h y (by simp [hy])) (by rw [Int.pow_succ]; omega)
   rw [List.foldl_cons, List.length_cons, show k + (r.length + 1) = k + 1 + r.length by omega]
   exact this
theorem valN_bd (ds : List Int) (h : ∀ d ∈ ds, 0 <= d /\ d <= 255) : 0 <= valN ds /\ valN ds < 256 ^ ds.length := by
 have := val_bd ds 0 0 h (by simp)
 simpa [valN] using this
theorem valN_snoc (ds : List Int) (d : Int) : valN (ds ++ [d]) = valN ds * 256 + d := by simp [valN]
theorem take_succ' {α : Type} {l : List α} {j : Nat} {x : α} (h : l[j]? = some x) : l.take (j + 1) = l.take j ++ [x] := by
 rw [List.take_add_one, h]; rfl
theorem pow7 : ∀ l : Nat, l < 8 -> (256 : Int) ^ l <= 72057594037927936 := by decide
theorem or_low {y d : Int} (hy : 0 <= y) (hy2 : y < 72057594037927936) (hd : 0 <= d /\ d <= 255) : bitsV .or .u64 (y * 256) d = y * 256 + d := by
 have h1 : (BitVec.ofInt 64 (y * 256)).toNat = 2 ^ 8 * y.toNat := by rw [BitVec.toNat_ofInt]; omega
 have h2 : (BitVec.ofInt 64 d).toNat = d.toNat := by rw [BitVec.toNat_ofInt]; omega
 show IntKind.u64.wrap ((BitVec.ofInt 64 (y * 256) ||| BitVec.ofInt 64 d).toNat : Int) = _
 rw [BitVec.toNat_or, h1, h2, <- Nat.two_pow_add_eq_or_of_lt (by omega), IntWalk.u64_in _ ⟨by omega, by omega⟩]
 omega
def digs (bs : List Int) (at_ : Int) (b : Int) : List Int := (bs.drop (at_.toNat + 1)).take (b - 246).toNat
def readN (bs : List Int) (at_ : Int) : Int × Int × Int :=
 if at_ < 0 \/ (bs.length : Int) < at_ then (0, 0, 2)
 else match bs[at_.toNat]? with
  | none => (0, 0, 10)
  | some b => if b <= 246 then (b, 1, 0) else if b = 255 then (0, 0, 11) else
    if (bs.length : Int) - at_ - 1 < b - 246 then (0, 0, 10) else
    if (digs bs at_ b)[0]? = some 0 then (0, 0, 11) else
    if valN (digs bs at_ b) <= 246 then (0, 0, 11) else (valN (digs bs at_ b), b - 246 + 1, 0)
def T3 (p : Int × Int × Int) : Value := .tuple #[.int .u64 p.1, .int .i64 p.2.1, .int .i64 p.2.2]
theorem ct69 (bs : List Int) (hbs : ∀ b ∈ bs, 0 <= b /\ b <= 255) (a : Option Addr) (n c : Nat) (at_ : Int) (hat : -1000000 <= at_ /\ at_ <= 1000000000) (I : Mem) (h : SlM I a n 1 (ints .u8 bs)) (hl : n <= 1000000000) :
 Ct Tryz.prog (fnv 69) #[.slice a n c, .int .i64 at_] I (fun v _ => v = T3 (readN bs at_)) := by
 refine viaR (ct_via (A := { loops := [(15, ⟨[(0, .keep), (1, .keep), (7, .keep), (8, .sh (.int .u64)), (9, .sh (.int .i64)), (56, .keep), (57, .sh (.int .i64))], [], [], fun vals _ _ _ => match vals with | [.int .u64 v8, .int .i64 v9, .int .i64 i] => 0 <= i /\ i <= (bs[at_.toNat]?).getD 0 - 246 /\ v9 = 0 /\ v8 = valN ((digs bs at_ ((bs[at_.toNat]?).getD 0)).take i.toNat) /\ (0 < i -> (digs bs at_ ((bs[at_.toNat]?).getD 0))[0]? ≠ some 0) | _ => False, fun vals _ => match vals with | [_, _, .int .i64 i] => (9 - i).toNat | _ => 0⟩)] }) Tryz.func69 rfl Tryz.call69 rfl rfl) (Br (decide (at_ < 0)) (Value.tuple #[.int .u64 0, .int .i64 0, .int .i64 2] = .tuple #[.int .u64 (readN bs at_).1, .int .i64 (readN bs at_).2.1, .int .i64 (readN bs at_).2.2]) (Br (decide ((n : Int) < at_)) (Value.tuple #[.int .u64 0, .int .i64 0, .int .i64 2] = .tuple #[.int .u64 (readN bs at_).1, .int .i64 (readN bs at_).2.1, .int .i64 (readN bs at_).2.2]) (Br (at_ == (n : Int)) (Value.tuple #[.int .u64 0, .int .i64 0, .int .i64 10] = .tuple #[.int .u64 (readN bs at_).1, .int .i64 (readN bs at_).2.1, .int .i64 (readN bs at_).2.2]) (0 <= at_ /\ at_ < (n : Int) /\ a.isSome = true /\ ∃ b, atI I a (at_.toNat * 1 + 0) = some (.int .u8 b) /\ Br (decide (b <= 246)) (0 <= at_ /\ at_ < (n : Int) /\ a.isSome = true /\ ∃ d, atI I a (at_.toNat * 1 + 0) = some (.int .u8 d) /\ Wr .u64 d fun e => Value.tuple #[.int .u64 e, .int .i64 1, .int .i64 0] = .tuple #[.int .u64 (readN bs at_).1, .int .i64 (readN bs at_).2.1, .int .i64 (readN bs at_).2.2]) (0 <= at_ /\ at_ < (n : Int) /\ a.isSome = true /\ ∃ d, atI I a (at_.toNat * 1 + 0) = some (.int .u8 d) /\ Br (d == 255) (Value.tuple #[.int .u64 0, .int .i64 0, .int .i64 11] = .tuple #[.int .u64 (readN bs at_).1, .int .i64 (readN bs at_).2.1, .int .i64 (readN bs at_).2.2]) (0 <= at_ /\ at_ < (n : Int) /\ a.isSome = true /\ ∃ e, atI I a (at_.toNat * 1 + 0) = some (.int .u8 e) /\ Wr .i64 e fun f => Wr .i64 (f - 246) fun g => Wr .i64 ((n : Int) - at_) fun i => Wr .i64 (i - 1) fun j => Br (decide (j < g)) (Value.tuple #[.int .u64 0, .int .i64 0, .int .i64 10] = .tuple #[.int .u64 (readN bs at_).1, .int .i64 (readN bs at_).2.1, .int .i64 (readN bs at_).2.2]) ((Rf (SV.v (.slice a n c)) /\ Rf (SV.v (.int .i64 at_)) /\ Rf (SV.v (.int .i64 g)) /\ Rf (SV.v (.int .i64 g)) /\ (0 : Int) <= 0 /\ 0 <= bs[at_.toNat]?.getD (0 : Int) - 246 /\ (0 : Int) = 0 /\ (0 : Int) = 0 /\ ((0 : Int) < 0 -> (digs bs at_ (bs[at_.toNat]?.getD (0 : Int)))[0]? ≠ some 0)) /\ ∀ (k : Mem), Mem -> I.le k -> ∀ (l m o : Int), 0 <= o /\ o <= bs[at_.toNat]?.getD (0 : Int) - 246 /\ m = 0 /\ l = valN (List.take o.toNat (digs bs at_ (bs[at_.toNat]?.getD (0 : Int)))) /\ (0 < o -> (digs bs at_ (bs[at_.toNat]?.getD (0 : Int)))[0]? ≠ some 0) -> Br (decide (o < g)) (Wr .i64 (at_ + 1) (fun p => Wr .i64 (p + o) fun q => 0 <= q /\ q < (n : Int) /\ a.isSome = true /\ ∃ r, atI k a (q.toNat * 1 + 0) = some (.int .u8 r) /\ Br (o == 0) (Br (r == 0) (Value.tuple #[.int .u64 0, .int .i64 0, .int .i64 11] = .tuple #[.int .u64 (readN bs at_).1, .int .i64 (readN bs at_).2.1, .int .i64 (readN bs at_).2.2]) ((0 : Int) <= 8 /\ Wr .u64 (l * 256) fun s => Wr .u64 r fun t => Wr .i64 (o + 1) fun u => Rf (SV.v (.slice a n c)) /\ Rf (SV.v (.int .i64 at_)) /\ Rf (SV.v (.int .i64 g)) /\ Rf (SV.v (.int .i64 g)) /\ (0 <= u /\ u <= bs[at_.toNat]?.getD (0 : Int) - 246 /\ m = 0 /\ bitsV .or .u64 s t = valN (List.take u.toNat (digs bs at_ (bs[at_.toNat]?.getD (0 : Int)))) /\ (0 < u -> (digs bs at_ (bs[at_.toNat]?.getD (0 : Int)))[0]? ≠ some 0)) /\ Int.toNat (9 - u) < Int.toNat (9 - o))) ((0 : Int) <= 8 /\ Wr .u64 (l * 256) fun s => Wr .u64 r fun t => Wr .i64 (o + 1) fun u => Rf (SV.v (.slice a n c)) /\ Rf (SV.v (.int .i64 at_)) /\ Rf (SV.v (.int .i64 g)) /\ Rf (SV.v (.int .i64 g)) /\ (0 <= u /\ u <= bs[at_.toNat]?.getD (0 : Int) - 246 /\ m = 0 /\ bitsV .or .u64 s t = valN (List.take u.toNat (digs bs at_ (bs[at_.toNat]?.getD (0 : Int)))) /\ (0 < u -> (digs bs at_ (bs[at_.toNat]?.getD (0 : Int)))[0]? ≠ some 0)) /\ Int.toNat (9 - u) < Int.toNat (9 - o)))) (Br (m != 0) (Value.tuple #[.int .u64 0, .int .i64 0, .int .i64 11] = .tuple #[.int .u64 (readN bs at_).1, .int .i64 (readN bs at_).2.1, .int .i64 (readN bs at_).2.2]) (Br (decide (l <= 246)) (Value.tuple #[.int .u64 0, .int .i64 0, .int .i64 11] = .tuple #[.int .u64 (readN bs at_).1, .int .i64 (readN bs at_).2.1, .int .i64 (readN bs at_).2.2]) (Wr .i64 (g + 1) (fun p => Value.tuple #[.int .u64 l, .int .i64 p, .int .i64 0] = .tuple #[.int .u64 (readN bs at_).1, .int .i64 (readN bs at_).2.1, .int .i64 (readN bs at_).2.2]))))))))))) (by kernel_rfl) ?_
 simp only [eq_self, true_and];have hn := h.numLen;refine Br.mk (fun h0 => ?_) (fun h0 => Br.mk (fun h1 => ?_) (fun h1 => Br.mk (fun h2 => ?_) (fun h2 => ?_)))
 · have h0 := of_decide_eq_true h0
   rw [readN, if_pos (.inl h0)]
 · have h1 := of_decide_eq_true h1
   rw [readN, if_pos (.inr (by omega))]
 · have h2 : at_ = n := by simpa using h2
   rw [readN, if_neg (by omega), List.getElem?_eq_none (by omega)]
 have h0 := of_decide_eq_false h0;have h1 := of_decide_eq_false h1
 have h2 : at_ ≠ n := by simpa using h2
 obtain ⟨b, hb, hcell⟩ := h.intAt (i := at_) (by omega) (by omega)
 have hbr := hbs b (List.mem_of_getElem? hb)
 have hrd : readN bs at_ = if b <= 246 then (b, 1, 0) else if b = 255 then (0, 0, 11) else
  if (bs.length : Int) - at_ - 1 < b - 246 then (0, 0, 10) else
  if (digs bs at_ b)[0]? = some 0 then (0, 0, 11) else
  if valN (digs bs at_ b) <= 246 then (0, 0, 11) else (valN (digs bs at_ b), b - 246 + 1, 0) := by
  rw [readN, if_neg (by omega), hb]
 rw [hrd]
 have hsome := h.isSome (by omega)
 refine ⟨by omega, by omega, hsome, b, hcell, Br.mk (fun h3 => ?_) (fun h3 => ?_)⟩
 · have h3 := of_decide_eq_true h3
   refine ⟨by omega, by omega, hsome, b, hcell, b, IntWalk.u64_in b ⟨hbr.1, by omega⟩, ?_⟩
   rw [if_pos h3]
 have h3 := of_decide_eq_false h3;rw [if_neg h3]
 refine ⟨by omega, by omega, hsome, b, hcell, Br.mk (fun h4 => ?_) (fun h4 => ?_)⟩
 · have h4 : b = 255 := by simpa using h4
   rw [if_pos h4]
 have h4 : b ≠ 255 := by simpa using h4
 rw [if_neg h4]
 refine ⟨by omega, by omega, hsome, b, hcell, wr_i64 (by omega) (by omega) (wr_i64 (by omega) (by omega) (wr_i64 (by omega) (by omega) (wr_i64 (by omega) (by omega) (Br.mk (fun h5 => ?_) (fun h5 => ?_)))))⟩
 · have h5 := of_decide_eq_true h5
   rw [if_pos (by omega)]
 have h5 := of_decide_eq_false h5
 rw [if_neg (by omega)]
 simp only [hb, Option.getD_some]
 have hk8 : b - 246 <= 8 := by omega
 have hdl : (digs bs at_ b).length = (b - 246).toNat := by simp only [digs, List.length_take, List.length_drop]; omega
 have hdat : ∀ i : Nat, i < (b - 246).toNat -> (digs bs at_ b)[i]? = bs[at_.toNat + 1 + i]? := fun i hi => by
  rw [digs, List.getElem?_take, if_pos hi, List.getElem?_drop]
 have hdb : ∀ d ∈ digs bs at_ b, 0 <= d /\ d <= 255 := fun d hd => hbs d (List.mem_of_mem_drop (List.mem_of_mem_take hd))
 refine ⟨⟨by omega, by omega, fun h => by omega⟩, fun I1 G1 hI1 x e i ⟨k0, k1, k2, k3, k4⟩ => Br.mk (fun hlt => ?_) (fun hge => ?_)⟩
 · have hlt := of_decide_eq_true hlt
   have hS := h.mono hI1
   obtain ⟨d, hd, hdc⟩ := hS.intAt (i := at_ + 1 + i) (by omega) (by omega)
   have hdr := hbs d (List.mem_of_getElem? hd)
   have hdi : (digs bs at_ b)[i.toNat]? = some d := by rw [hdat _ (by omega), <- hd]; congr 1; omega
   have hxb := valN_bd ((digs bs at_ b).take i.toNat) fun y hy => hdb y (List.mem_of_mem_take hy)
   have hxl : ((digs bs at_ b).take i.toNat).length <= 7 := by rw [List.length_take]; omega
   have hx7 : x < 72057594037927936 := by
    rw [k3];refine Int.lt_of_lt_of_le hxb.2 ?_
    exact pow7 _ (by omega)
   have hx0 : 0 <= x := by rw [k3]; exact hxb.1
   have hstep : bitsV .or .u64 (x * 256) d = valN ((digs bs at_ b).take (i + 1).toNat) := by
    rw [or_low hx0 hx7 hdr, show (i + 1).toNat = i.toNat + 1 by omega, take_succ' hdi, valN_snoc, k3]
   refine wr_i64 (by omega) (by omega) (wr_i64 (by omega) (by omega) ⟨by omega, by omega, hsome, d, hdc, Br.mk (fun h6 => Br.mk (fun h7 => ?_) (fun h7 => ?_)) (fun h6 => ?_)⟩)
   · have h6 : i = 0 := by simpa using h6
     have h7 : d = 0 := by simpa using h7
     rw [if_pos (by rw [<- h7, <- hdi, h6]; rfl)]
   · have h6 : i = 0 := by simpa using h6
     have h7 : d ≠ 0 := by simpa using h7
     refine ⟨by omega, _, IntWalk.u64_in _ ⟨by omega, by omega⟩, _, IntWalk.u64_in _ ⟨hdr.1, by omega⟩, wr_i64 (by omega) (by omega) ⟨⟨by omega, by omega, k2, hstep, fun _ h8 => h7 ?_⟩, by omega⟩⟩
     rw [h6] at hdi
     rw [show (0 : Int).toNat = 0 from rfl, h8] at hdi
     exact (Option.some.inj hdi).symm
   · have h6 : i ≠ 0 := by simpa using h6
     exact ⟨by omega, _, IntWalk.u64_in _ ⟨by omega, by omega⟩, _, IntWalk.u64_in _ ⟨hdr.1, by omega⟩, wr_i64 (by omega) (by omega) ⟨⟨by omega, by omega, k2, hstep, fun _ => k4 (by omega)⟩, by omega⟩⟩
 · have hge := of_decide_eq_false hge
   have hix : x = valN (digs bs at_ b) := by rw [k3, List.take_of_length_le (by rw [hdl]; omega)]
   refine Br.f (by simp [k2]) ?_
   rw [if_neg (k4 (by omega))]
   refine Br.mk (fun h8 => ?_) (fun h8 => wr_i64 (by omega) (by omega) ?_)
   · have h8 := of_decide_eq_true h8
     rw [if_pos (by omega)]
   · have h8 := of_decide_eq_false h8
     rw [if_neg (by omega), hix]
theorem readN_nonneg (bs : List Int) (hbs : ∀ b ∈ bs, 0 <= b /\ b <= 255) (at_ : Int) : 0 <= (readN bs at_).1 := by
 unfold readN;split
 · decide
 · split
   · decide
   · rename_i b hb
     have := hbs b (List.mem_of_getElem? hb);split
     · exact this.1
     · split
       · decide
       · split
         · decide
         · split
           · decide
           · split
             · decide
             · exact (valN_bd _ fun d hd => hbs d (List.mem_of_mem_drop (List.mem_of_mem_take hd))).1
def intN (bs : List Int) (at_ least most : Int) : Int × Int × Int :=
 if (readN bs at_).2.2 ≠ 0 then (0, 0, (readN bs at_).2.2) else if most < 0 \/ most < (readN bs at_).1 \/ (0 < least /\ (readN bs at_).1 < least) then (0, 0, 12) else ((readN bs at_).1, (readN bs at_).2.1, 0)
def T3i (p : Int × Int × Int) : Value := .tuple #[.int .i64 p.1, .int .i64 p.2.1, .int .i64 p.2.2]
theorem ct64 (bs : List Int) (hbs : ∀ b ∈ bs, 0 <= b /\ b <= 255) (a : Option Addr) (n c : Nat) (at_ least most : Int) (hat : -1000000 <= at_ /\ at_ <= 1000000000) (hm : -9223372036854775808 <= most /\ most <= 9223372036854775807) (hle : -9223372036854775808 <= least /\ least <= 9223372036854775807)
 (I : Mem) (h : SlM I a n 1 (ints .u8 bs)) (hl : n <= 1000000000) :
 Ct Tryz.prog (fnv 64) #[.slice a n c, .int .i64 at_, .int .i64 least, .int .i64 most] I (fun v _ => v = T3i (intN bs at_ least most)) := by
 refine viaR (ct_via (A := {}) Tryz.func64 rfl Tryz.call64 rfl rfl) (Ct Tryz.prog (fnv 69) #[.slice a n c, .int .i64 at_] I fun v b => ∃ d e f, v = .tuple #[.int .u64 d, .int .i64 e, .int .i64 f] /\ Br (f != 0) (Value.tuple #[.int .i64 0, .int .i64 0, .int .i64 f] = .tuple #[.int .i64 (intN bs at_ least most).1, .int .i64 (intN bs at_ least most).2.1, .int .i64 (intN bs at_ least most).2.2]) (Br (decide (most < 0)) (Value.tuple #[.int .i64 0, .int .i64 0, .int .i64 12] = .tuple #[.int .i64 (intN bs at_ least most).1, .int .i64 (intN bs at_ least most).2.1, .int .i64 (intN bs at_ least most).2.2]) (Wr .u64 most (fun g => Br (decide (g < d)) (Value.tuple #[.int .i64 0, .int .i64 0, .int .i64 12] = .tuple #[.int .i64 (intN bs at_ least most).1, .int .i64 (intN bs at_ least most).2.1, .int .i64 (intN bs at_ least most).2.2]) (Br (decide (0 < least)) (Wr .u64 least (fun i => Br (decide (d < i)) (Value.tuple #[.int .i64 0, .int .i64 0, .int .i64 12] = .tuple #[.int .i64 (intN bs at_ least most).1, .int .i64 (intN bs at_ least most).2.1, .int .i64 (intN bs at_ least most).2.2]) (Wr .i64 d (fun j => Value.tuple #[.int .i64 j, .int .i64 e, .int .i64 0] = .tuple #[.int .i64 (intN bs at_ least most).1, .int .i64 (intN bs at_ least most).2.1, .int .i64 (intN bs at_ least most).2.2])))) (Wr .i64 d (fun i => Value.tuple #[.int .i64 i, .int .i64 e, .int .i64 0] = .tuple #[.int .i64 (intN bs at_ least most).1, .int .i64 (intN bs at_ least most).2.1, .int .i64 (intN bs at_ least most).2.2]))))))) (by kernel_rfl) ?_
 have wu : ∀ {n : Int} {K : Int -> Prop}, 0 <= n -> n <= 18446744073709551615 -> K n -> Wr .u64 n K := fun h0 h1 hk => ⟨_, IntWalk.u64_in _ ⟨h0, h1⟩, hk⟩;refine (ct69 bs hbs a n c at_ hat I h hl).mono fun v I1 _ hv => ⟨_, _, _, hv, Br.mk (fun h1 => ?_) (fun h1 => Br.mk (fun h2 => ?_) (fun h2 => ?_))⟩
 · have h1 : (readN bs at_).2.2 ≠ 0 := by simpa using h1
   rw [intN, if_pos h1]
 · have h1 : ¬((readN bs at_).2.2 ≠ 0) := by simpa using h1
   have h2 := of_decide_eq_true h2;rw [intN, if_neg h1, if_pos (.inl h2)]
 have h1 : ¬((readN bs at_).2.2 ≠ 0) := by simpa using h1
 have h2 := of_decide_eq_false h2;have hx := readN_nonneg bs hbs at_
 refine wu (by omega) (by omega) (Br.mk (fun h3 => ?_) (fun h3 => Br.mk (fun h4 => ?_) (fun h4 => ?_)))
 · have h3 := of_decide_eq_true h3
   rw [intN, if_neg h1, if_pos (.inr (.inl h3))]
 · have h3 := of_decide_eq_false h3
   have h4 := of_decide_eq_true h4
   refine wu (by omega) (by omega) (Br.mk (fun h5 => ?_) (fun h5 => ?_))
   · have h5 := of_decide_eq_true h5
     rw [intN, if_neg h1, if_pos (.inr (.inr ⟨h4, h5⟩))]
   · have h5 := of_decide_eq_false h5
     refine wr_i64 (by omega) (by omega) ?_
     rw [intN, if_neg h1, if_neg (by omega)]
 · have h3 := of_decide_eq_false h3
   have h4 := of_decide_eq_false h4
   refine wr_i64 (by omega) (by omega) ?_
   rw [intN, if_neg h1, if_neg (by omega)]
theorem valN_be : ∀ k x : Nat, valN (be k x) = ((x % 256 ^ k : Nat) : Int)
 | 0, x => by simp [be, valN, Nat.mod_one]
 | k + 1, x => by
   rw [be, valN_snoc, valN_be k (x / 256)]
   have : x % 256 ^ (k + 1) = x % 256 + 256 * (x / 256 % 256 ^ k) := by rw [Nat.pow_succ, Nat.mul_comm, Nat.mod_mul]
   omega
theorem val_from : ∀ (ds : List Int) (x : Int), ds.foldl (fun x d => x * 256 + d) x = x * 256 ^ ds.length + valN ds
 | [], x => by simp [valN]
 | d :: r, x => by
   have h1 := val_from r (x * 256 + d);have h2 := val_from r d;rw [List.foldl_cons, h1]
   have : valN (d :: r) = d * 256 ^ r.length + valN r := by
    have : valN (d :: r) = r.foldl (fun x d => x * 256 + d) (0 * 256 + d) := rfl;rw [this, Int.zero_mul, Int.zero_add, h2]
   rw [this, List.length_cons, Int.pow_succ, Int.add_mul, Int.mul_assoc, Int.mul_comm 256];omega
theorem valN_cons (d : Int) (r : List Int) : valN (d :: r) = d * 256 ^ r.length + valN r := by
 have : valN (d :: r) = r.foldl (fun x d => x * 256 + d) (0 * 256 + d) := rfl;rw [this, Int.zero_mul, Int.zero_add, val_from]
theorem be_valN : ∀ (k : Nat) (ds : List Int), ds.length = k -> (∀ d ∈ ds, 0 <= d /\ d <= 255) -> be k (valN ds).toNat = ds
 | 0, ds, h, _ => by
   have : ds = [] := List.eq_nil_of_length_eq_zero h
   subst this; rfl
 | k + 1, ds, h, hd => by
   have hne : ds ≠ [] := by intro e; subst e; simp at h
   have e := List.dropLast_concat_getLast hne
   have hl : ds.dropLast.length = k := by simp; omega
   have hb : ∀ d ∈ ds.dropLast, 0 <= d /\ d <= 255 := fun d hx => hd d (List.dropLast_subset _ hx);have hd' := hd _ (List.getLast_mem hne);have h0 := (valN_bd _ hb).1;have ih := be_valN k ds.dropLast hl hb;generalize ds.getLast hne = d at e hd';generalize ds.dropLast = r at *;subst e;rw [valN_snoc, be]
   have e1 : (valN r * 256 + d).toNat / 256 = (valN r).toNat := by omega
   have e2 : (((valN r * 256 + d).toNat % 256 : Nat) : Int) = d := by omega
   rw [e1, e2, ih]
theorem digN_bd : ∀ {x : Nat}, 0 < x -> 256 ^ (digN x - 1) <= x /\ x < 256 ^ digN x := by
 intro x
 induction x using Nat.strongRecOn with
 | ind x ih =>
   intro h;rw [digN_pos h]
   by_cases h0 : x / 256 = 0
   · rw [h0, digN_zero]; omega
   · have := ih (x / 256) (by omega) (by omega)
     have hp : digN (x / 256) = digN (x / 256) - 1 + 1 := by rw [digN_pos (by omega)]; omega
     generalize digN (x / 256) = k at this hp ⊢
     cases k with
     | zero => omega
     | succ k =>
       simp only [Nat.add_sub_cancel] at this
       rw [show 1 + (k + 1) - 1 = k + 1 by omega, show 1 + (k + 1) = (k + 1) + 1 by omega, Nat.pow_succ 256 (k + 1), Nat.pow_succ 256 k] at *
       omega
theorem digN_eq {k x : Nat} (h1 : 256 ^ k <= x) (h2 : x < 256 ^ (k + 1)) : digN x = k + 1 := by
 have hx : 0 < x := Nat.lt_of_lt_of_le (Nat.pow_pos (by omega)) h1
 have := digN_bd hx
 have a : digN x - 1 < k + 1 := (Nat.pow_lt_pow_iff_right (a := 256) (by omega)).1 (Nat.lt_of_le_of_lt this.1 h2)
 have b : k < digN x := (Nat.pow_lt_pow_iff_right (a := 256) (by omega)).1 (Nat.lt_of_le_of_lt h1 this.2)
 omega
theorem formN_len (x : Nat) : (formN x).length = sizeN x := by
 unfold formN sizeN;split
 · rfl
 · simp [be_len]; omega
theorem formN_bytes {x : Nat} (h : x < 256 ^ 8) : ∀ d ∈ formN x, 0 <= d /\ d <= 255 := by
 have hb : ∀ k x, ∀ d ∈ be k x, 0 <= d /\ d <= 255 := fun k => by
  induction k with
  | zero => intro x d hd; simp [be] at hd
  | succ k ih =>
    intro x d hd;rw [be] at hd
    rcases List.mem_append.1 hd with hd | hd
    · exact ih _ d hd
    · cases List.mem_singleton.1 hd
      omega
 have hd8 : digN x <= 8 := digN_le h;unfold formN;split
 · intro d hd; cases List.mem_singleton.1 hd; omega
 · intro d hd
   rcases List.mem_cons.1 hd with rfl | hd
   · omega
   · exact hb _ _ d hd
theorem readN_form (pre post : List Int) (x : Nat) (h : x < 256 ^ 8) : readN (pre ++ (formN x ++ post)) pre.length = ((x : Int), ((formN x).length : Int), 0) := by
 have hlen : (pre ++ (formN x ++ post)).length = pre.length + ((formN x).length + post.length) := by simp
 have hd8 : digN x <= 8 := digN_le h
 have hat : (pre ++ (formN x ++ post))[pre.length]? = (formN x ++ post)[0]? := by rw [List.getElem?_append_right (by omega), Nat.sub_self]
 unfold readN
 rw [if_neg (by omega), Int.toNat_natCast, hat]
 by_cases hx : x <= 246
 · have : formN x = [(x : Int)] := by rw [formN, if_pos hx]
   rw [this]
   simp only [List.cons_append, List.nil_append, List.getElem?_cons_zero, if_pos (show (x : Int) <= 246 by omega)]
   rfl
 · have hf : formN x = ((246 + digN x : Nat) : Int) :: be (digN x) x := by rw [formN, if_neg hx]
   have hbd := digN_bd (x := x) (by omega)
   have hdp : 1 <= digN x := by rw [digN_pos (by omega)]; omega
   have hl2 := hlen;rw [hf] at hl2;simp only [List.length_cons, be_len] at hl2;rw [hf];simp only [List.cons_append, List.getElem?_cons_zero]
   have hds : digs (pre ++ ((246 + digN x : Nat) : Int) :: (be (digN x) x ++ post)) pre.length ((246 + digN x : Nat) : Int) = be (digN x) x := by
    unfold digs
    rw [Int.toNat_natCast, show (((246 + digN x : Nat) : Int) - 246).toNat = digN x by omega, List.drop_append, List.drop_eq_nil_of_le (by omega), List.nil_append, show pre.length + 1 - pre.length = 1 by omega]
    rw [show (((246 + digN x : Nat) : Int) :: (be (digN x) x ++ post)).drop 1 = be (digN x) x ++ post from rfl, List.take_left' (be_len _ _)]
   rw [hds, if_neg (by omega), if_neg (by omega), if_neg (by simp [be_len]; omega)]
   have hv : valN (be (digN x) x) = (x : Int) := by rw [valN_be, Nat.mod_eq_of_lt hbd.2]
   have h0 : (be (digN x) x)[0]? ≠ some 0 := by
    obtain ⟨k, hk⟩ : ∃ k, digN x = k + 1 := ⟨digN x - 1, by omega⟩
    rw [hk] at hbd ⊢;simp only [Nat.add_sub_cancel] at hbd;rw [be_top, List.getElem?_cons_zero];intro e
    have hp : 0 < 256 ^ k := Nat.pow_pos (by omega)
    have q1 : 1 <= x / 256 ^ k := (Nat.le_div_iff_mul_le hp).2 (by omega)
    have q2 : x / 256 ^ k < 256 := (Nat.div_lt_iff_lt_mul hp).2 (by rw [Nat.mul_comm, <- Nat.pow_succ]; exact hbd.2)
    rw [Nat.mod_eq_of_lt q2] at e
    injection e with e
    omega
   rw [if_neg h0, hv, if_neg (by omega)]
   simp [be_len]; omega
theorem readN_back {bs : List Int} (hbs : ∀ b ∈ bs, 0 <= b /\ b <= 255) {at_ x n : Int} (h : readN bs at_ = (x, n, 0)) :
 0 <= at_ /\ at_ <= bs.length /\ 0 <= x /\ x.toNat < 256 ^ 8 /\ n = (formN x.toNat).length /\ bs.drop at_.toNat = formN x.toNat ++ bs.drop (at_ + n).toNat /\ at_ + n <= bs.length := by
 unfold readN at h
 split at h
 · cases h
 rename_i hr
 have h0 : 0 <= at_ := by omega
 have h1 : at_ <= bs.length := by omega
 split at h
 · cases h
 rename_i b hb;have hb' := hbs b (List.mem_of_getElem? hb);have hlt := (List.getElem?_eq_some_iff.1 hb).1
 have hcons : bs.drop at_.toNat = b :: bs.drop (at_.toNat + 1) := by
  rw [List.drop_eq_getElem_cons hlt, (List.getElem?_eq_some_iff.1 hb).2]
 split at h
 · injection h with e1 e2
   injection e2 with e2 e3
   subst e1; subst e2
   have hf : formN b.toNat = [b] := by rw [formN, if_pos (by omega)]; congr 1; omega
   rw [hf]
   refine ⟨h0, h1, hb'.1, by omega, rfl, ?_, by omega⟩
   rw [hcons, show (at_ + 1).toNat = at_.toNat + 1 by omega]; rfl
 split at h
 · cases h
 split at h
 · cases h
 split at h
 · cases h
 split at h
 · cases h
 rename_i c1 c2 c3 c4 c5
 injection h with e1 e2
 injection e2 with e2 e3
 have hdb : ∀ d ∈ digs bs at_ b, 0 <= d /\ d <= 255 := fun d hd => hbs d (List.mem_of_mem_drop (List.mem_of_mem_take hd))
 have hdl : (digs bs at_ b).length = (b - 246).toNat := by unfold digs; simp; omega
 have hbd := valN_bd _ hdb
 have happ : bs.drop (at_.toNat + 1) = digs bs at_ b ++ bs.drop (at_ + n).toNat := by
  rw [show (at_ + n).toNat = at_.toNat + 1 + (b - 246).toNat by omega, digs, <- List.drop_drop (i := (b - 246).toNat), List.take_append_drop]
 obtain ⟨k, hk⟩ : ∃ k, (b - 246).toNat = k + 1 := ⟨(b - 246).toNat - 1, by omega⟩
 have hk8 : k < 8 := by omega
 rw [hk] at hdl;generalize digs bs at_ b = ds at *;rw [hdl] at hbd
 have hdig : digN x.toNat = k + 1 := by
  cases ds with
  | nil => simp at hdl
  | cons d r =>
    have hd0 := hdb d (by simp)
    have hr : r.length = k := by simpa using hdl
    have : d ≠ 0 := fun e => c4 (by rw [e]; rfl)
    have hv := valN_cons d r
    have hr0 := (valN_bd r fun y hy => hdb y (by simp [hy])).1
    rw [hr] at hv
    have hp : (0 : Int) < 256 ^ k := Int.pow_pos (by omega)
    have : (256 : Int) ^ k <= d * 256 ^ k := by
     have : 1 * (256 : Int) ^ k <= d * 256 ^ k := Int.mul_le_mul_of_nonneg_right (by omega) (by omega)
     omega
    refine digN_eq ?_ ?_
    · have : ((256 ^ k : Nat) : Int) = (256 : Int) ^ k := by simp
      omega
    · have : ((256 ^ (k + 1) : Nat) : Int) = (256 : Int) ^ (k + 1) := by simp
      omega
 have hx8 : x.toNat < 256 ^ 8 := by
  have h8 : 256 ^ (k + 1) <= 256 ^ 8 := Nat.pow_le_pow_right (by omega) (by omega)
  have : ((256 ^ (k + 1) : Nat) : Int) = (256 : Int) ^ (k + 1) := by simp
  omega
 have hf : formN x.toNat = b :: ds := by
  rw [formN, if_neg (by omega), hdig]
  have := be_valN (k + 1) ds hdl hdb;rw [<- e1, this]
  congr 1; omega
 refine ⟨h0, h1, by omega, hx8, by rw [hf]; simp; omega, ?_, by omega⟩
 rw [hf, hcons, happ]; rfl
def okFld (f : Int × List Int) : Prop := (-9223372036854775808 <= f.1 /\ f.1 <= 9223372036854775807) /\ ∀ z ∈ f.2, 0 <= z /\ z <= 255
def FR (I : Mem) : List Value -> List (Int × List Int) -> Prop
 | [], [] => True
 | x :: y :: xs, f :: l => (okFld f /\ x = .int .i64 f.1 /\ BySl I y f.2) /\ FR I xs l
 | _, _ => False
theorem FR.nil {I : Mem} : FR I [] [] := trivial
theorem FR.cons {I : Mem} {x y : Value} {xs : List Value} {f : Int × List Int} {l : List (Int × List Int)} (h : okFld f /\ x = .int .i64 f.1 /\ BySl I y f.2) (h' : FR I xs l) : FR I (x :: y :: xs) (f :: l) := ⟨h, h'⟩
theorem FR.cases {I : Mem} : ∀ {xs : List Value} {l : List (Int × List Int)}, FR I xs l -> (xs = [] /\ l = []) \/ ∃ x y xs' f l', xs = x :: y :: xs' /\ l = f :: l' /\ (okFld f /\ x = .int .i64 f.1 /\ BySl I y f.2) /\ FR I xs' l'
 | [], [], _ => .inl ⟨rfl, rfl⟩
 | [], _ :: _, h => h.elim
 | [_], [], h => h.elim
 | [_], _ :: _, h => h.elim
 | _ :: _ :: _, [], h => h.elim
 | x :: y :: xs, f :: l, h => .inr ⟨x, y, xs, f, l, rfl, rfl, h.1, h.2⟩
theorem FR.mono {I J : Mem} (hle : I.le J) : ∀ {l : List (Int × List Int)} {xs : List Value}, FR I xs l -> FR J xs l := by
 intro l
 induction l with
 | nil =>
   intro xs h
   rcases h.cases with ⟨rfl, _⟩ | ⟨_, _, _, _, _, _, h, _⟩
   · trivial
   · cases h
 | cons f l ih =>
   intro xs h
   rcases h.cases with ⟨_, h⟩ | ⟨x, y, xs', f', l', rfl, h2, h3, h4⟩
   · cases h
   · cases h2
     exact ⟨⟨h3.1, h3.2.1, h3.2.2.mono hle⟩, ih h4⟩
theorem FR.len {I : Mem} : ∀ {l : List (Int × List Int)} {xs : List Value}, FR I xs l -> xs.length = l.length * 2 := by
 intro l
 induction l with
 | nil =>
   intro xs h
   rcases h.cases with ⟨rfl, _⟩ | ⟨_, _, _, _, _, _, h, _⟩
   · rfl
   · cases h
 | cons f l ih =>
   intro xs h
   rcases h.cases with ⟨_, h⟩ | ⟨x, y, xs', f', l', rfl, h2, h3, h4⟩
   · cases h
   · cases h2
     simp [ih h4]; omega
theorem FR.app {I : Mem} {ys : List Value} {m : List (Int × List Int)} (h' : FR I ys m) : ∀ {l : List (Int × List Int)} {xs : List Value}, FR I xs l -> FR I (xs ++ ys) (l ++ m) := by
 intro l
 induction l with
 | nil =>
   intro xs h
   rcases h.cases with ⟨rfl, _⟩ | ⟨_, _, _, _, _, _, h, _⟩
   · exact h'
   · cases h
 | cons f l ih =>
   intro xs h
   rcases h.cases with ⟨_, h⟩ | ⟨x, y, xs', f', l', rfl, h2, h3, h4⟩
   · cases h
   · cases h2
     exact ⟨h3, ih h4⟩
theorem FR.snoc {I : Mem} {xs : List Value} {l : List (Int × List Int)} {x y : Value} {f : Int × List Int} (h : FR I xs l) (h' : okFld f /\ x = .int .i64 f.1 /\ BySl I y f.2) : FR I (xs ++ [x, y]) (l ++ [f]) :=
 FR.app (ys := [x, y]) (m := [f]) (FR.cons h' FR.nil) h
theorem FR.get {I : Mem} : ∀ {l : List (Int × List Int)} {xs : List Value}, FR I xs l -> ∀ {j : Nat} {f : Int × List Int}, l[j]? = some f -> okFld f /\ xs[j * 2 + 0]? = some (.int .i64 f.1) /\ ∃ y, xs[j * 2 + 1]? = some y /\ BySl I y f.2 := by
 intro l
 induction l with
 | nil => intro xs h j f hj; simp at hj
 | cons f l ih =>
   intro xs h j g hj
   rcases h.cases with ⟨_, h⟩ | ⟨x, y, xs', f', l', rfl, h2, h3, h4⟩
   · cases h
   · cases h2
     cases j with
     | zero => simp at hj; subst hj; exact ⟨h3.1, by simp [h3.2.1], y, by simp, h3.2.2⟩
     | succ j =>
       have := ih h4 (j := j) (f := g) (by simpa using hj)
       rw [show (j + 1) * 2 + 0 = (j * 2 + 0) + 2 by omega, show (j + 1) * 2 + 1 = (j * 2 + 1) + 2 by omega]
       simpa using this
theorem FR.ok {I : Mem} {xs : List Value} {l : List (Int × List Int)} (h : FR I xs l) : ∀ f ∈ l, okFld f := fun f hf => by
 obtain ⟨j, hj, rfl⟩ := List.mem_iff_getElem.1 hf;exact (h.get (List.getElem?_eq_getElem hj)).1
theorem FR.take {I : Mem} : ∀ (k : Nat) {l : List (Int × List Int)} {xs : List Value}, FR I xs l -> FR I (xs.take (k * 2)) (l.take k) := by
 intro k
 induction k with
 | zero => intro l xs h; simp [FR]
 | succ k ih =>
   intro l xs h
   rcases h.cases with ⟨rfl, rfl⟩ | ⟨x, y, xs', f', l', rfl, rfl, h3, h4⟩
   · simp [FR]
   · rw [show (k + 1) * 2 = k * 2 + 1 + 1 by omega]
     exact ⟨h3, ih h4⟩
def FldM (I : Mem) (a : Option Addr) (n : Nat) (l : List (Int × List Int)) : Prop := ∃ xs, SlM I a n 2 xs /\ FR I xs l
theorem FldM.mono {I J : Mem} {a : Option Addr} {n : Nat} {l : List (Int × List Int)} (h : FldM I a n l) (hle : I.le J) : FldM J a n l := by
 obtain ⟨xs, h1, h2⟩ := h;exact ⟨xs, h1.mono hle, h2.mono hle⟩
theorem FldM.len {I : Mem} {a : Option Addr} {n : Nat} {l : List (Int × List Int)} (h : FldM I a n l) : l.length = n := by
 obtain ⟨xs, h1, h2⟩ := h;have := h1.len;have := h2.len;omega
theorem FldM.max {I : Mem} {a : Option Addr} {n : Nat} {l : List (Int × List Int)} (h : FldM I a n l) : n <= maxLen := by
 obtain ⟨xs, h1, h2⟩ := h;exact h1.max
theorem FldM.ok {I : Mem} {a : Option Addr} {n : Nat} {l : List (Int × List Int)} (h : FldM I a n l) : ∀ f ∈ l, okFld f := by
 obtain ⟨xs, h1, h2⟩ := h;exact h2.ok
theorem FldM.isSome {I : Mem} {a : Option Addr} {n : Nat} {l : List (Int × List Int)} (h : FldM I a n l) (hn : 0 < n) : a.isSome = true := by
 obtain ⟨xs, h1, h2⟩ := h;exact h1.isSome hn
theorem FldM.nil {I : Mem} {a : Option Addr} {n : Nat} {l : List (Int × List Int)} (h : FldM I a n l) (hn : a = none) : n = 0 := by
 obtain ⟨xs, h1, h2⟩ := h;exact h1.nil hn
theorem fldM_nil (I : Mem) : FldM I none 0 [] := ⟨[], sl_nil I 2, trivial⟩
theorem FldM.at_ {I : Mem} {a : Option Addr} {n : Nat} {l : List (Int × List Int)} (h : FldM I a n l) {i : Int} (h0 : 0 <= i) (h1 : i < n) :
 ∃ f b m c, l[i.toNat]? = some f /\ okFld f /\ atI I a (i.toNat * 2 + 0) = some (.int .i64 f.1) /\ atI I a (i.toNat * 2 + 1) = some (.slice b m c) /\ SlM I b m 1 (ints .u8 f.2) /\ m <= c /\ c <= maxLen := by
 have hl := h.len;obtain ⟨xs, hs, hf⟩ := h
 have hg : l[i.toNat]? = some l[i.toNat] := List.getElem?_eq_getElem (by omega)
 obtain ⟨g1, g2, y, g3, b, m, c, rfl, g4, g5, g6⟩ := hf.get hg;exact ⟨_, b, m, c, hg, g1, hs.at_ _ _ g2, hs.at_ _ _ g3, g4, g5, g6⟩
theorem fldM_row {I : Mem} {a : Option Addr} {cp : Nat} {xs : List Value} {l : List (Int × List Int)} (h : RowM I a cp 2 xs) (hf : FR I xs l) : FldM I a l.length l :=
 ⟨xs, h.sl (by omega) hf.len, hf⟩
set_option maxHeartbeats 1000000
def rightStep : Int -> Int -> List (Int × List Int) -> Bool
 | _, _, [] => true
 | last, left, f :: r => if f.1 <= last \/ 200 < f.1 \/ left < f.2.length then false else rightStep f.1 (left - f.2.length) r
def rightF (l : List (Int × List Int)) : Bool := rightStep 0 16384 l && decide ((l.length : Int) <= 64)
theorem drop_cons {α : Type} {l : List α} {j : Nat} {x : α} (h : l[j]? = some x) : l.drop j = x :: l.drop (j + 1) := by
 obtain ⟨hl, rfl⟩ := List.getElem?_eq_some_iff.1 h;exact List.drop_eq_getElem_cons hl
theorem ct89 (l : List (Int × List Int)) (a : Option Addr) (n c : Nat) (I : Mem) (h : FldM I a n l) (hn : n <= 1000000) :
 Ct Tryz.prog (fnv 89) #[.slice a n c] I (fun v _ => v = .bool (rightF l)) := by
 refine viaR (ct_via (A := { loops := [(3, ⟨[(0, .keep), (3, .sh (.int .i64)), (4, .sh (.int .i64)), (7, .keep), (8, .keep), (9, .sh (.int .i64))], [], [], fun vals _ _ _ => match vals with | [.int .i64 last, .int .i64 left, .int .i64 j] => 0 <= j /\ j <= n /\ 0 <= last /\ last <= 200 /\ 0 <= left /\ left <= 16384 /\ rightStep 0 16384 l = rightStep last left (l.drop j.toNat) | _ => False, fun vals _ => match vals with | [_, _, .int .i64 j] => (n - j).toNat | _ => 0⟩)] }) Tryz.func89 rfl Tryz.call89 rfl rfl) ((Rf (SV.v (.slice a n c)) /\ Rf (SV.v (.slice a n c)) /\ Rf (SV.v (.int .i64 (n : Int))) /\ (0 : Int) <= 0 /\ 0 <= (n : Int) /\ (0 : Int) <= 0 /\ (0 : Int) <= 200 /\ (0 : Int) <= 16384 /\ (16384 : Int) <= 16384 /\ Rf (rightStep 0 16384 l)) /\ ∀ (b : Mem), Mem -> I.le b -> ∀ (d e f : Int), 0 <= f /\ f <= (n : Int) /\ 0 <= d /\ d <= 200 /\ 0 <= e /\ e <= 16384 /\ rightStep 0 16384 l = rightStep d e (List.drop f.toNat l) -> Br (decide (f < (n : Int))) (0 <= f /\ f < (n : Int) /\ a.isSome = true /\ (2 : Nat) = 2 /\ ∃ g, atI b a (f.toNat * 2 + 0) = some (.int .i64 g) /\ ∃ i j k, atI b a (f.toNat * 2 + 1) = some (.slice i j k) /\ Br (decide (g <= d)) (Value.bool false = .bool (rightF l)) (Br (decide (200 < g)) (Value.bool false = .bool (rightF l)) (Br (decide (e < (j : Int))) (Value.bool false = .bool (rightF l)) (Wr .i64 (e - (j : Int)) (fun m => Wr .i64 (f + 1) fun o => Rf (SV.v (.slice a n c)) /\ Rf (SV.v (.slice a n c)) /\ Rf (SV.v (.int .i64 (n : Int))) /\ (0 <= o /\ o <= (n : Int) /\ 0 <= g /\ g <= 200 /\ 0 <= m /\ m <= 16384 /\ rightStep 0 16384 l = rightStep g m (List.drop o.toNat l)) /\ Int.toNat ((n : Int) - o) < Int.toNat ((n : Int) - f)))))) (Value.bool (decide ((n : Int) <= 64)) = .bool (rightF l))) (by kernel_rfl) ?_
 simp only [eq_self, true_and, and_true];have hl := h.len
 refine ⟨by omega, fun I1 _ hI last left j ⟨h0, h1, h2, h3, h4, h5, h6⟩ => Br.mk (fun hlt => ?_) (fun hge => ?_)⟩
 · have hlt := of_decide_eq_true hlt
   obtain ⟨f, b, m, c', hf, hok, e1, e2, hs, hm1, hm2⟩ := (h.mono hI).at_ h0 hlt;have hm := hs.numLen;rw [drop_cons hf, rightStep] at h6
   refine ⟨h0, hlt, h.isSome (by omega), _, e1, b, m, c', e2, Br.mk (fun g1 => ?_) (fun g1 => Br.mk (fun g2 => ?_) (fun g2 => Br.mk (fun g3 => ?_) (fun g3 => ?_)))⟩
   · have g1 := of_decide_eq_true g1
     rw [rightF, h6, if_pos (.inl g1)]; rfl
   · have g2 := of_decide_eq_true g2
     rw [rightF, h6, if_pos (.inr (.inl g2))]; rfl
   · have g3 := of_decide_eq_true g3
     rw [rightF, h6, if_pos (.inr (.inr (by omega)))]; rfl
   · have g1 := of_decide_eq_false g1
     have g2 := of_decide_eq_false g2;have g3 := of_decide_eq_false g3
     rw [if_neg (by omega)] at h6
     refine wr_i64 (by omega) (by omega) (wr_i64 (by omega) (by omega) ⟨⟨by omega, by omega, by omega, by omega, by omega, by omega, ?_⟩, by omega⟩)
     rw [h6, show (j + 1).toNat = j.toNat + 1 by omega, hm]
 · have hge := of_decide_eq_false hge
   rw [List.drop_eq_nil_of_le (by omega)] at h6
   rw [rightF, h6, hl]; rfl
def u8s (l : List Int) : List UInt8 := l.map fun z => UInt8.ofNat z.toNat
theorem u8_nat {z : Int} (h : 0 <= z /\ z <= 255) : (((UInt8.ofNat z.toNat).toNat : Nat) : Int) = z := by
 rw [UInt8.toNat_ofNat'];omega
theorem u8s_inj {xs ys : List Int} (hx : byteL xs) (hy : byteL ys) (h : u8s xs = u8s ys) : xs = ys := by
 apply List.ext_getElem?;intro i;have := congrArg (fun l => l[i]?) h;simp only [u8s, List.getElem?_map] at this
 cases hxi : xs[i]? with
 | none =>
   cases hyi : ys[i]? with
   | none => rfl
   | some y => rw [hxi, hyi] at this; cases this
 | some x =>
   cases hyi : ys[i]? with
   | none => rw [hxi, hyi] at this; cases this
   | some y =>
     rw [hxi, hyi] at this;have h1 := u8_nat (hx x (List.mem_of_getElem? hxi));have h2 := u8_nat (hy y (List.mem_of_getElem? hyi));simp only [Option.map_some, Option.some.injEq] at this;rw [this] at h1;rw [<- h1, h2]
theorem u8s_at {xs : List Int} (hb : byteL xs) {I : Mem} {a : Option Addr} {n : Nat} (h : SlM I a n 1 (ints .u8 xs)) : (u8s xs).length = n /\ (a = none -> n = 0) /\ ∀ (j : Nat) (b : UInt8), (u8s xs)[j]? = some b -> atI I a j = some (Value.int IntKind.u8 ↑b.toNat) := by
 refine ⟨by rw [u8s, List.length_map]; exact h.numLen.symm, h.nil, fun j b hj => ?_⟩
 simp only [u8s, List.getElem?_map, Option.map_eq_some_iff] at hj;obtain ⟨x, hx, rfl⟩ := hj;rw [u8_nat (hb x (List.mem_of_getElem? hx))];exact h.at_ j _ (ints_get hx)
theorem ct14 (xs ys : List Int) (hx : byteL xs) (hy : byteL ys) (a b : Option Addr) (n c m d : Nat) (I : Mem) (h : SlM I a n 1 (ints .u8 xs)) (h' : SlM I b m 1 (ints .u8 ys)) :
 Ct Tryz.prog (fnv 14) #[.slice a n c, .slice b m d] I (fun v _ => v = .bool (decide (xs = ys))) := by
 refine viaR (ct_via (A := { }) Tryz.func14 rfl Tryz.call14 rfl rfl) (∃ (q : List UInt8), q.length = n /\ (a = none -> n = 0) /\ (∀ (j : Nat) (e : UInt8), q[j]? = some e -> atI I a j = some (.int .u8 (e.toNat : Int))) /\ ∃ (e : List UInt8), e.length = m /\ (b = none -> m = 0) /\ (∀ (j : Nat) (f : UInt8), e[j]? = some f -> atI I b j = some (.int .u8 (f.toNat : Int))) /\ Value.bool ((ByteArray.mk q.toArray).toList == (ByteArray.mk e.toArray).toList) = .bool (decide (xs = ys))) (by kernel_rfl) ?_
 obtain ⟨h1, h2, h3⟩ := u8s_at hx h;obtain ⟨h4, h5, h6⟩ := u8s_at hy h';refine ⟨_, h1, h2, h3, _, h4, h5, h6, ?_⟩;rw [str_eq]
 congr 1
 refine decide_eq_decide.2 ⟨fun e => u8s_inj hx hy ?_, fun e => by rw [e]⟩
 injection e with e
 exact Array.toList_inj.2 e |> fun e => by simpa using e
theorem one_ints {k : IntKind} {l : List Int} : ∀ v ∈ ints k l, v.oneCell' = true := fun v hv => by
 simp only [ints, List.mem_map] at hv;obtain ⟨z, _, rfl⟩ := hv;rfl
theorem row_bysl {I : Mem} {a : Option Addr} {cp n : Nat} {xs : List Int} (h : RowM I a cp 1 (ints .u8 xs)) (hn : n = xs.length) : BySl I (.slice a n cp) xs := by
 refine ⟨a, n, cp, rfl, h.sl (by omega) (by rw [ints_len]; omega), ?_, ?_⟩
 · have := h.1; rw [ints_len] at this; omega
 · exact h.2.1
def NewB (I0 I : Mem) (v : Value) : Prop := ∀ a n c, v = .slice a n c -> NewS 1 I0 I a c /\ n <= 1000000
theorem NewB.mono {I0 I J : Mem} {v : Value} (h : NewB I0 I v) (hle : I.le J) : NewB I0 J v := fun a n c hv => ⟨(h a n c hv).1.mono hle, (h a n c hv).2⟩
theorem NewB.anti {I0 J0 I : Mem} {v : Value} (h : NewB I0 I v) (hle : J0.le I0) : NewB J0 I v := fun a n c hv => ⟨(h a n c hv).1.anti hle, (h a n c hv).2⟩
theorem newB_sl {I0 I : Mem} {a : Option Addr} {n c : Nat} (h : NewS 1 I0 I a c) (hn : n <= 1000000) : NewB I0 I (.slice a n c) := fun a' n' c' hv => by
 cases hv;exact ⟨h, hn⟩
theorem newB_int {I0 I : Mem} {k : IntKind} {x : Int} : NewB I0 I (.int k x) := fun a' n' c' hv => by cases hv
theorem ct30N (xs : List Int) (a : Option Addr) (n c : Nat) (I : Mem) (h : SlM I a n 1 (ints .u8 xs)) (hn : n <= 1000000) :
 Ct Tryz.prog (fnv 30) #[.slice a n c] I (fun v I' => BySl I' v xs /\ NewB I I' v) := by
 refine viaR (ctF_via (A := { }) Tryz.func30 rfl Tryz.call30 rfl rfl) (Br a.isNone ((∃ b m d, Value.slice none 0 0 = .slice b m d /\ SlM I b m 1 (List.map (Value.int .u8) xs) /\ m <= d /\ d <= 9223372036854775807) /\ NewB I I (.slice none 0 0)) (∃ y, y.length = n * 1 /\ (a = none -> n = 0) /\ (∀ (j : Nat) (v : Value), y[j]? = some v -> atI I a j = some v) /\ (∀ (v : Value), Membership.mem y v -> v.oneCell' = true) /\ (0 : Nat) = 0 /\ 0 + n <= 9223372036854775807 /\ (0 + n) * 1 <= 140737488355328 /\ ∀ (b : Option Addr) (d : Nat) (e : Mem), I.le e -> RowF I e b d 1 y 5 -> (∃ f m g, Value.slice b (0 + n) d = .slice f m g /\ SlM e f m 1 (List.map (Value.int .u8) xs) /\ m <= g /\ g <= 9223372036854775807) /\ NewB I e (.slice b (0 + n) d))) (by kernel_rfl) ?_
 refine Br.mk (fun h0 => ?_) (fun h0 => ⟨ints .u8 xs, h.len, h.nil, h.at_, one_ints, rfl, by omega, by omega, fun a' cp I' _ hrow => ⟨row_bysl hrow.row (by have := h.numLen; omega), newB_sl hrow.newS (by omega)⟩⟩)
 have h0 : a = none := by simpa using h0
 subst h0;have hn := h.nil rfl;subst hn
 exact ⟨⟨none, 0, 0, rfl, h, by omega, by omega⟩, newB_sl (fun hc => absurd hc (by omega)) hn⟩
theorem sl_take {I : Mem} {a : Option Addr} {n k : Nat} {bs : List Int} {kd : IntKind} (h : SlM I a n 1 (ints kd bs)) (hk : k <= n) : SlM I a k 1 (ints kd (bs.take k)) := by
 have hl := h.numLen
 refine ⟨by simp [ints]; omega, fun ha => by have := h.nil ha; omega, Nat.le_trans hk h.max, fun j v hj => ?_⟩
 simp only [ints, List.getElem?_map, Option.map_eq_some_iff] at hj;obtain ⟨z, hj, rfl⟩ := hj;rw [List.getElem?_take] at hj
 split at hj
 · exact h.at_ j _ (ints_get hj)
 · cases hj
theorem fr_row {I : Mem} {a : Option Addr} {cp : Nat} {xs : List Value} {l : List (Int × List Int)} (h : RowM I a cp 2 xs) (hf : FR I xs l) :
 ∃ a' n' c', Value.slice a (xs.length / 2) cp = .slice a' n' c' /\ FldM I a' n' l /\ n' <= c' /\ c' <= maxLen := by
 have hl := hf.len
 have e : xs.length / 2 = l.length := by omega
 rw [e];refine ⟨a, l.length, cp, rfl, fldM_row h hf, ?_, h.2.1⟩;have := h.1;omega
def writeF (l : List (Int × List Int)) : List Int := l.flatMap fun f => f.1 :: (formN f.2.length ++ f.2)
theorem right_at : ∀ {l : List (Int × List Int)} {last left : Int}, rightStep last left l = true -> ∀ f ∈ l, last < f.1 /\ f.1 <= 200 /\ (f.2.length : Int) <= left
 | [], _, _, _, f, hf => by cases hf
 | g :: r, last, left, h, f, hf => by
   rw [rightStep] at h
   split at h
   · cases h
   · rename_i hc
     rcases List.mem_cons.1 hf with rfl | hf
     · omega
     · have := right_at h f hf
       omega
theorem formN_le (x : Nat) (h : x < 256 ^ 8) : (formN x).length <= 9 /\ 1 <= (formN x).length := by
 rw [formN_len, sizeN];have := digN_le h
 split <;> omega
theorem writeF_cons (f : Int × List Int) (r : List (Int × List Int)) : writeF (f :: r) = f.1 :: (formN f.2.length ++ (f.2 ++ writeF r)) := by simp [writeF]
theorem writeF_app (k l : List (Int × List Int)) : writeF (k ++ l) = writeF k ++ writeF l := by simp [writeF]
theorem right_len : ∀ {l : List (Int × List Int)} {last left : Int}, left <= 16384 -> rightStep last left l = true -> ∀ j, ((writeF (l.take j)).length : Int) <= max left 0 + 10 * l.length
 | [], last, left, _, _, j => by simp [writeF]; omega
 | g :: r, last, left, hl, h, 0 => by simp [writeF]; omega
 | g :: r, last, left, hl, h, j + 1 => by
   rw [rightStep] at h
   split at h
   · cases h
   · rename_i hc
     have ih := right_len (by omega) h j
     have := formN_le g.2.length (by omega)
     rw [List.take_succ_cons, writeF_cons];simp only [List.length_cons, List.length_append];omega
theorem rightF_iff {l : List (Int × List Int)} : rightF l = true ↔ rightStep 0 16384 l = true /\ l.length <= 64 := by
 simp only [rightF, Bool.and_eq_true, decide_eq_true_eq]
 exact ⟨fun h => ⟨h.1, by omega⟩, fun h => ⟨h.1, by omega⟩⟩
theorem ct61 (l : List (Int × List Int)) (a : Option Addr) (n c : Nat) (I : Mem) (h : FldM I a n l) (hn : n <= 1000000) :
 Ct Tryz.prog (fnv 61) #[.slice a n c] I (fun v I' => ∃ a' n' c', v = .tuple #[.slice a' n' c', .int .i64 (if rightF l then 0 else 20)] /\ SlM I' a' n' 1 (ints .u8 (if rightF l then writeF l else [])) /\ n' <= c' /\ c' <= maxLen) := by
 refine viaR (ct_via (A := { calls := [(26, .lend [0] (.row 0) [.row 1 5])], loops := [(5, ⟨[(4, .row 0), (10, .keep), (11, .keep), (12, .sh (.int .i64))], [(0, .row)], [(4, 1, 5)], fun vals xss I' _ => match vals, xss with | [.int .i64 j], [xs] => 0 <= j /\ j <= n /\ xs = ints .u8 (writeF (l.take j.toNat)) /\ rightF l = true | _, _ => False, fun vals _ => match vals with | [.int .i64 j] => (n - j).toNat | _ => 0⟩)] }) Tryz.func61 rfl Tryz.call61 rfl rfl) (Ct Tryz.prog (fnv 89) #[.slice a n c] I fun v b => ∃ d, v = .bool d /\ Br (!d) (∃ e f g, Value.tuple #[.slice none 0 0, .int .i64 20] = .tuple #[.slice e f g, .int .i64 (if rightF l = true then 0 else 20)] /\ SlM b e f 1 (List.map (Value.int .u8) (if rightF l = true then writeF l else ([] : List Int))) /\ f <= g /\ g <= 9223372036854775807) (((0 : Nat) = 0 /\ Rf (SV.v (.slice a n c)) /\ Rf (SV.v (.int .i64 (n : Int))) /\ (0 : Int) <= 0 /\ 0 <= (n : Int) /\ Rf ([] : List Value) /\ rightF l = true) /\ ∀ (e : Mem), Mem -> b.le e -> ∀ (x : List Value) (f : Int), 0 <= f /\ f <= (n : Int) /\ x = List.map (Value.int .u8) (writeF (List.take f.toNat l)) /\ rightF l = true -> Br (decide (f < (n : Int))) (0 <= f /\ f < (n : Int) /\ a.isSome = true /\ (2 : Nat) = 2 /\ ∃ g, atI e a (f.toNat * 2 + 0) = some (.int .i64 g) /\ ∃ i j k, atI e a (f.toNat * 2 + 1) = some (.slice i j k) /\ Wr .u8 g fun m => Wr .u64 (j : Int) fun o => x.length = x.length * 1 /\ x.length + 1 <= 9223372036854775807 /\ (x.length + 1) * 1 <= 140737488355328 /\ CtS Tryz.prog (.v (fnv 90)) [.rsl 0 (x.length + 1), .v (.int .u64 o)] [⟨.row (x ++ [.int .u8 m]) 1 5, none⟩] e fun s H p => ∃ q r, s = .rsl 0 q /\ H = [⟨.row r 1 5, none⟩] /\ ∃ y, y.length = j * 1 /\ (i = none -> j = 0) /\ (∀ (t : Nat) (u : Value), y[t]? = some u -> atI p i t = some u) /\ (∀ (t : Value), Membership.mem y t -> t.oneCell' = true) /\ r.length = q * 1 /\ q + j <= 9223372036854775807 /\ (q + j) * 1 <= 140737488355328 /\ Wr .i64 (f + 1) fun t => q + j = List.length (r ++ y) /\ Rf (SV.v (.slice a n c)) /\ Rf (SV.v (.int .i64 (n : Int))) /\ (0 <= t /\ t <= (n : Int) /\ r ++ y = List.map (Value.int .u8) (writeF (List.take t.toNat l)) /\ rightF l = true) /\ Int.toNat ((n : Int) - t) < Int.toNat ((n : Int) - f)) (∀ (g : Option Addr) (i : Nat) (j : Mem), e.le j -> RowM j g i 1 x -> ∃ k m o, Value.tuple #[.slice g x.length i, .int .i64 0] = .tuple #[.slice k m o, .int .i64 (if rightF l = true then 0 else 20)] /\ SlM j k m 1 (List.map (Value.int .u8) (if rightF l = true then writeF l else ([] : List Int))) /\ m <= o /\ o <= 9223372036854775807))) (by kernel_rfl) ?_
 simp only [eq_self, true_and];have hl := h.len;refine (ct89 l a n c I h hn).mono fun v I0 l0 hv => ⟨_, hv, Br.mk (fun hr => ?_) (fun hr => ?_)⟩
 · have hr : rightF l = false := by simpa using hr
   rw [hr]
   exact ⟨none, 0, 0, rfl, sl_nil _ _, by omega, by omega⟩
 have hr : rightF l = true := by simpa using hr
 obtain ⟨hs, hl64⟩ := rightF_iff.1 hr
 refine ⟨⟨by omega, by omega, hr⟩, fun I1 _ l1 xs j ⟨h0, h1, h2, _⟩ => Br.mk (fun hlt => ?_) (fun hge => ?_)⟩
 · have hlt := of_decide_eq_true hlt
   obtain ⟨f, b, m, c', hf, hok, e1, e2, hsl, hm1, hm2⟩ := (h.mono (Mem.le_trans l0 l1)).at_ h0 hlt;have hra := right_at hs f (List.mem_of_getElem? hf);have hm := hsl.numLen
   have hxl : xs.length <= 16384 + 640 := by
    rw [h2, List.length_map]
    have := right_len (by omega) hs j.toNat
    omega
   refine ⟨h0, hlt, h.isSome (by omega), f.1, e1, b, m, c', e2, ⟨f.1, IntWalk.u8_in _ ⟨by omega, by omega⟩, ⟨(m : Int), IntWalk.u64_in _ ⟨by omega, by omega⟩, ?_⟩⟩⟩
   have hfl := formN_le m (by omega)
   refine ⟨by omega, by omega, by omega, (cs90 (xs ++ [Value.int .u8 f.1]) (xs.length + 1) m (by omega) (by simp) (by simp; omega) I1).mono fun v H' I2 l2 ⟨hv, hH⟩ => ?_⟩
   rw [Int.toNat_natCast] at hv hH
   refine ⟨_, _, hv, hH, ints .u8 f.2, hsl.len, hsl.nil, (hsl.mono l2).at_, one_ints, by simp [ints]; omega, by omega, by omega, wr_i64 (by omega) (by omega) ⟨by simp [ints]; omega, ⟨by omega, by omega, ?_, hr⟩, by omega⟩⟩
   rw [show (j + 1).toNat = j.toNat + 1 by omega, take_succ' hf, writeF_app, h2, hm]
   simp [writeF, ints]
 · have hge := of_decide_eq_false hge
   rw [List.take_of_length_le (by omega)] at h2
   intro a' cp I2 l2 hrow;rw [if_pos hr, if_pos hr];refine ⟨a', xs.length, cp, rfl, ?_, ?_, hrow.2.1⟩
   · rw [h2] at hrow ⊢
     exact hrow.sl (by omega) (by simp)
   · have := hrow.1; omega
theorem intN_ok {bs : List Int} (hbs : byteL bs) {at_ x n : Int} (h : intN bs at_ 0 16384 = (x, n, 0)) :
 0 <= at_ /\ 0 <= x /\ x <= 16384 /\ n = (formN x.toNat).length /\ bs.drop at_.toNat = formN x.toNat ++ bs.drop (at_ + n).toNat /\ at_ + n <= bs.length := by
 unfold intN at h
 split at h
 · rename_i hc
   injection h with _ h
   injection h with _ h
   exact absurd h hc
 · rename_i hc
   split at h
   · cases h
   · rename_i hr
     injection h with h1 h
     injection h with h2 _
     have hc : (readN bs at_).2.2 = 0 := by simpa using hc
     have hre : readN bs at_ = (x, n, 0) := by rw [<- h1, <- h2, <- hc]
     obtain ⟨g1, g2, g3, g4, g5, g6, g7⟩ := readN_back hbs hre;rw [hre] at hr
     exact ⟨g1, g3, by simp only at hr; omega, g5, g6, g7⟩
theorem intN_bad {bs : List Int} {at_ : Int} (h : (intN bs at_ 0 16384).2.2 ≠ 0) : (intN bs at_ 0 16384).1 = 0 /\ (intN bs at_ 0 16384).2.1 = 0 := by
 unfold intN at h ⊢;split
 · exact ⟨rfl, rfl⟩
 · split
   · exact ⟨rfl, rfl⟩
   · rename_i h1 h2
     rw [if_neg h1, if_neg h2] at h;exact absurd rfl h
def fstep (bs : List Int) (at_ : Nat) : Option (List Int × Nat) :=
 if (intN bs (at_ + 1) 0 16384).2.2 ≠ 0 \/ (bs.length : Int) - (at_ + 1 + (intN bs (at_ + 1) 0 16384).2.1) < (intN bs (at_ + 1) 0 16384).1 then none
 else some ((bs.drop (at_ + 1 + (intN bs (at_ + 1) 0 16384).2.1).toNat).take (intN bs (at_ + 1) 0 16384).1.toNat, (at_ + 1 + (intN bs (at_ + 1) 0 16384).2.1 + (intN bs (at_ + 1) 0 16384).1).toNat)
def yields (bs : List Int) (at_ : Nat) : List (Nat × (Int × List Int)) :=
 if h : at_ < bs.length then
  match fstep bs at_ with
  | none => [(at_, (0, []))]
  | some p => (at_, ((bs[at_]?).getD 0, p.1)) :: (if hn : at_ < p.2 then yields bs p.2 else [])
 else []
termination_by bs.length - at_
def encF (bs : List Int) (k : Nat) (args : Array Value) (I : Mem) : Prop :=
 ∃ at_ f a n c, (yields bs 0)[k]? = some (at_, f) /\ args = #[.int .i64 (at_ : Nat), .agg #[.int .i64 f.1, .slice a n c]] /\ SlM I a n 1 (ints .u8 f.2) /\ n <= c /\ c <= maxLen
theorem sl_sub {I : Mem} {a : Option Addr} {n c f t : Nat} {bs : List Int} {kd : IntKind} (h : SlM I a n 1 (ints kd bs)) (hft : f <= t) (ht : t <= n) (hc : n <= c) : SlM I (sladdr a c f 1) (t - f) 1 (ints kd ((bs.drop f).take (t - f))) := by
 have hl := h.numLen
 refine ⟨by simp [ints]; omega, fun hs => ?_, Nat.le_trans (by omega) h.max, fun j v hj => ?_⟩
 · unfold sladdr at hs
   split at hs
   · omega
   · cases a with
     | none => have := h.nil rfl; omega
     | some ad => cases hs
 · simp only [ints, List.getElem?_map, Option.map_eq_some_iff] at hj
   obtain ⟨z, hj, rfl⟩ := hj;rw [List.getElem?_take] at hj
   split at hj
   · rw [List.getElem?_drop] at hj
     have hat := h.at_ _ _ (ints_get (k := kd) hj);unfold sladdr
     rw [if_neg (by omega)]
     cases a with
     | none => have := h.nil rfl; omega
     | some ad =>
       simp only [Option.map_some, Nat.mul_one];simp only [atI, Option.bind_some] at hat ⊢;rw [add_add];exact hat
   · cases hj
theorem gives56 (bs : List Int) (hbs : byteL bs) (b : Nat) (a : Option Addr) (n c : Nat) (I : Mem) (hb : I b = some (.cells #[.slice a n c] 22)) (h : SlM I a n 1 (ints .u8 bs)) (hn : n <= 1000000) (hc : n <= c) (hm : c <= maxLen) :
 Gives Tryz.prog (.func (.func 63) #[] #[.pointer (some ⟨b, 0, none⟩)]) I (yields bs 0).length (encF bs) := by
 refine ⟨fun Y W => ⟨63, _, run_semV_func.trans (Tryz.call63 _ _)⟩, fun Y J D I0 G0 hI0 hJ0 hJ hD hY => ?_⟩
 refine viaR (ctG_via (A := { loops := [(1, ⟨[(0, .keep), (1, .keep), (3, .sh (.int .i64))], [], [], fun vals _ I' G' => match vals with
  | [.int .i64 j] => 0 <= j /\ j <= n /\ ∃ pre, yields bs 0 = pre ++ yields bs j.toNat /\ J pre.length I' G' | _ => False, fun vals _ => match vals with | [.int .i64 j] => (n - j).toNat | _ => 0⟩)], calls := [(37, .g), (52, .g)] }) Tryz.func63 rfl Tryz.call63 rfl rfl) ((Rf (SV.v Y) /\ Rf (SV.v (.pointer (some ⟨b, 0, none⟩))) /\ (0 : Int) <= 0 /\ 0 <= (n : Int) /\ ∃ p, yields bs 0 = p ++ yields bs 0 /\ J p.length I0 G0) /\ ∀ (d G : Mem), Mem.le I0 d -> ∀ (e : Int), 0 <= e /\ e <= (n : Int) /\ (∃ p, yields bs 0 = p ++ yields bs e.toNat /\ J p.length d G) -> ∃ f g i, atI d (some ⟨b, 0, none⟩) 0 = some (.slice f g i) /\ Br (decide (e < (g : Int))) (∃ j k l, atI d (some ⟨b, 0, none⟩) 0 = some (.slice j k l) /\ Wr .i64 (e + 1) fun m => Ct Tryz.prog (fnv 64) #[.slice j k l, .int .i64 m, .int .i64 0, .int .i64 16384] d fun v o => ∃ p q r, v = .tuple #[.int .i64 p, .int .i64 q, .int .i64 r] /\ Wr .i64 (e + 1) fun s => Wr .i64 (s + q) fun t => Br (r != 0) (CtH Tryz.prog Y #[.int .i64 e, .agg #[.int .i64 0, .slice none 0 0]] o G (fun u w x => ∃ y, u = .bool y /\ (J (yields bs 0).length w x \/ D w x))) (∃ u w x, atI o (some ⟨b, 0, none⟩) 0 = some (.slice u w x) /\ Wr .i64 ((w : Int) - t) fun y => Br (decide (y < p)) (CtH Tryz.prog Y #[.int .i64 e, .agg #[.int .i64 0, .slice none 0 0]] o G (fun z I1 G1 => ∃ b1, z = .bool b1 /\ (J (yields bs 0).length I1 G1 \/ D I1 G1))) (∃ z n1 c1, atI o (some ⟨b, 0, none⟩) 0 = some (.slice z n1 c1) /\ 0 <= e /\ e < (n1 : Int) /\ z.isSome = true /\ ∃ n2, atI o z (e.toNat * 1 + 0) = some (.int .u8 n2) /\ Wr .i64 n2 fun c2 => ∃ a1 n3 c3, atI o (some ⟨b, 0, none⟩) 0 = some (.slice a1 n3 c3) /\ Wr .i64 (t + p) fun c4 => 0 <= t /\ t <= c4 /\ c4 <= (c3 : Int) /\ CtH Tryz.prog Y #[.int .i64 e, .agg #[.int .i64 c2, .slice (sladdr a1 c3 t.toNat 1) (c4.toNat - t.toNat) (c3 - t.toNat)]] o G fun v1 I1 G1 => ∃ b1, v1 = .bool b1 /\ Br (!b1) (J (yields bs 0).length I1 G1 \/ D I1 G1) (Wr .i64 (t + p) (fun c5 => Rf (SV.v Y) /\ Rf (SV.v (.pointer (some ⟨b, 0, none⟩))) /\ (0 <= c5 /\ c5 <= (n : Int) /\ ∃ p1, yields bs 0 = p1 ++ yields bs c5.toNat /\ J p1.length I1 G1) /\ Int.toNat ((n : Int) - c5) < Int.toNat ((n : Int) - e)))))) (J (yields bs 0).length d G \/ D d G)) (by kernel_rfl) ?_
 simp only [eq_self, true_and];have hnl := h.numLen
 refine ⟨⟨by omega, by omega, [], by simp, hJ0⟩, fun I1 G1 l1 j ⟨h0, h1, pre, h2, h3⟩ => ?_⟩
 have hcell : ∀ {I' : Mem}, I1.le I' -> atI I' (some ⟨b, 0, none⟩) 0 = some (.slice a n c) := fun {I'} hle => by
  have := hle _ _ (l1 _ _ (hI0 _ _ hb));simp [atI, cellM, Addr.add, this]
 have hS := h.mono (Mem.le_trans hI0 l1);refine ⟨a, n, c, hcell (Mem.le_refl _), Br.mk (fun hlt => ?_) (fun hge => ?_)⟩
 · have hlt := of_decide_eq_true hlt
   obtain ⟨x, hx, hatx⟩ := hS.intAt h0 hlt;have hxr := hbs x (List.mem_of_getElem? hx)
   have hj : ((j.toNat : Nat) : Int) = j := by omega
   have hy : yields bs j.toNat = match fstep bs j.toNat with
    | none => [(j.toNat, (0, []))]
    | some p => (j.toNat, ((bs[j.toNat]?).getD 0, p.1)) :: (if hn : j.toNat < p.2 then yields bs p.2 else []) := by
    rw [yields, dif_pos (by omega)]
   have fail : ∀ {I' : Mem}, I1.le I' -> fstep bs j.toNat = none -> CtH Tryz.prog Y #[.int .i64 j, .agg #[.int .i64 0, .slice none 0 0]] I' G1 fun v I' G' => ∃ b, v = Value.bool b /\ (J (yields bs 0).length I' G' \/ D I' G') := fun {I'} hle hf => by
    rw [hf] at hy;rw [hy] at h2
    refine (hY pre.length I' G1 _ (by rw [h2]; simp) (Mem.le_trans l1 hle) (hJ _ _ _ _ h3 hle) ⟨j.toNat, (0, []), none, 0, 0, by rw [h2, List.getElem?_append_right (by omega), Nat.sub_self]; rfl, by rw [hj], sl_nil _ _, by omega, by omega⟩).mono fun v I3 G3 _ hv => ?_
    rcases hv with ⟨hv, hj⟩ | ⟨hv, hd⟩
    · refine ⟨true, hv, .inl ?_⟩
      rw [h2, List.length_append];exact hj
    · exact ⟨false, hv, .inr hd⟩
   refine ⟨a, n, c, hcell (Mem.le_refl _), wr_i64 (by omega) (by omega) ((ct64 bs hbs a n c (j + 1) 0 16384 (by omega) (by omega) (by omega) I1 hS (by omega)).mono fun v I2 l2 hv => ⟨_, _, _, hv, ?_⟩)⟩
   have hfs : fstep bs j.toNat = if (intN bs (j + 1) 0 16384).2.2 ≠ 0 \/ (bs.length : Int) - (j + 1 + (intN bs (j + 1) 0 16384).2.1) < (intN bs (j + 1) 0 16384).1 then none
    else some ((bs.drop (j + 1 + (intN bs (j + 1) 0 16384).2.1).toNat).take (intN bs (j + 1) 0 16384).1.toNat, (j + 1 + (intN bs (j + 1) 0 16384).2.1 + (intN bs (j + 1) 0 16384).1).toNat) := by
    unfold fstep; rw [hj]
   have hbad := intN_bad (bs := bs) (at_ := j + 1)
   clear hv
   generalize hr : intN bs (j + 1) 0 16384 = r at hfs hbad ⊢;obtain ⟨sz, k, e⟩ := r
   simp only at hfs hbad ⊢
   by_cases he : e = 0
   · subst he
     obtain ⟨g1, g2, g3, g4, g5, g6⟩ := intN_ok hbs hr
     have hfl := formN_le sz.toNat (by omega)
     refine wr_i64 (by omega) (by omega) (wr_i64 (by omega) (by omega) (Br.f rfl ⟨a, n, c, hcell l2, wr_i64 (by omega) (by omega) (Br.mk (fun hs => ?_) (fun hs => ?_))⟩))
     · have hs := of_decide_eq_true hs
       exact fail l2 (by rw [hfs, if_pos (.inr (by omega))])
     · have hs := of_decide_eq_false hs
       rw [if_neg (by omega)] at hfs
       rw [hfs] at hy
       simp only at hy
       rw [dif_pos (by omega), hx, Option.getD_some] at hy
       rw [hy] at h2
       refine ⟨a, n, c, hcell l2, h0, hlt, h.isSome (by omega), x, atI_le l2 hatx, wr_i64 (by omega) (by omega) ⟨a, n, c, hcell l2, wr_i64 (by omega) (by omega) ⟨by omega, by omega, by omega, ?_⟩⟩⟩
       have hsub := sl_sub (hS.mono l2) (f := (j + 1 + k).toNat) (t := (j + 1 + k + sz).toNat) (by omega) (by omega) hc
       rw [show (j + 1 + k + sz).toNat - (j + 1 + k).toNat = sz.toNat by omega] at hsub ⊢
       refine (hY pre.length I2 G1 _ (by rw [h2]; simp) (Mem.le_trans l1 l2) (hJ _ _ _ _ h3 l2) ⟨j.toNat, (x, (bs.drop (j + 1 + k).toNat).take sz.toNat), _, _, _, by rw [h2, List.getElem?_append_right (by omega), Nat.sub_self]; rfl, by rw [hj], hsub, by omega, by omega⟩).mono fun v I3 G3 _ hv => ?_
       rcases hv with ⟨hv, hj'⟩ | ⟨hv, hd⟩
       · refine ⟨true, hv, Br.f rfl (wr_i64 (by omega) (by omega) ⟨⟨by omega, by omega, pre ++ [(j.toNat, (x, (bs.drop (j + 1 + k).toNat).take sz.toNat))], by rw [h2]; simp, ?_⟩, by omega⟩)⟩
         rw [List.length_append];exact hj'
       · exact ⟨false, hv, Br.t rfl (.inr hd)⟩
   · obtain ⟨rfl, rfl⟩ := hbad he
     exact wr_i64 (by omega) (by omega) (wr_i64 (by omega) (by omega) (Br.t (by simpa using he) (fail l2 (by rw [hfs, if_pos (.inl he)]))))
 · have hge := of_decide_eq_false hge
   have hy : yields bs j.toNat = [] := by rw [yields, dif_neg (by omega)]
   rw [hy, List.append_nil] at h2;rw [h2];exact .inl h3
theorem ct29 (a : Option Addr) (n c : Nat) (I : Mem) : Ct Tryz.prog (fnv 29) #[.slice a n c] I (fun v I' => ∃ b, I' b = some (.cells #[.slice a n c] 22) /\ v = .func (.func 63) #[] #[.pointer (some ⟨b, 0, none⟩)]) := by
 refine viaR (ct_via (A := {}) Tryz.func29 rfl Tryz.call29 rfl rfl) (∀ (b : Nat) (d : Mem), I.le d -> d b = some (.cells #[.slice a n c] 22 (0, 0)) -> ∃ e, d e = some (.cells #[.slice a n c] 22 (0, 0)) /\ Value.func (.func 63) #[] #[.pointer (some ⟨b, 0, none⟩)] = .func (.func 63) #[] #[.pointer (some ⟨e, 0, none⟩)]) (by kernel_rfl) ?_
 intro b I' hI hb;exact ⟨b, hb, rfl⟩
def goF : List (Nat × (Int × List Int)) -> Int -> Int -> List (Int × List Int) -> Int × List (Int × List Int)
 | [], _, _, out => (-1, out)
 | y :: r, last, left, out => if y.2.1 <= last \/ 200 < y.2.1 \/ left < y.2.2.length \/ 64 <= out.length then ((y.1 : Int), []) else goF r y.2.1 (left - y.2.2.length) (out ++ [y.2])
def readF (bs : List Int) : List (Int × List Int) × Int × Int :=
 if 16768 < bs.length then ([], 0, 3) else if 0 <= (goF (yields bs 0) 0 16384 []).1 then ([], (goF (yields bs 0) 0 16384 []).1, 21) else ((goF (yields bs 0) 0 16384 []).2, 0, 0)
theorem yields_at : ∀ {bs : List Int} {at_ k : Nat} {y : Nat × (Int × List Int)}, (yields bs at_)[k]? = some y -> y.1 < bs.length := by
 intro bs at_
 induction hm : bs.length - at_ using Nat.strongRecOn generalizing at_ with
 | ind m ih =>
   intro k y hk;rw [yields] at hk
   split at hk
   · rename_i hlt
     split at hk
     · cases k with
       | zero => simp at hk; subst hk; exact hlt
       | succ k => simp at hk
     · cases k with
       | zero => simp at hk; subst hk; exact hlt
       | succ k =>
         simp only [List.getElem?_cons_succ] at hk
         split at hk
         · rename_i p _ hn
           exact ih (bs.length - p.2) (by omega) rfl hk
         · simp at hk
   · simp at hk
theorem yields_ok {bs : List Int} (hbs : byteL bs) : ∀ {at_ k : Nat} {y : Nat × (Int × List Int)}, (yields bs at_)[k]? = some y -> okFld y.2 := by
 intro at_
 induction hm : bs.length - at_ using Nat.strongRecOn generalizing at_ with
 | ind m ih =>
   intro k y hk;rw [yields] at hk
   split at hk
   · rename_i hlt
     split at hk
     · cases k with
       | zero => simp at hk; subst hk; exact ⟨by simp only; omega, fun z hz => by cases hz⟩
       | succ k => simp at hk
     · rename_i p hp
       cases k with
       | zero =>
         simp at hk; subst hk
         have hb := hbs _ (List.getElem_mem hlt)
         have he : bs[at_]?.getD 0 = bs[at_] := by rw [List.getElem?_eq_getElem hlt]; rfl
         refine ⟨by simp only [he]; omega, fun z hz => ?_⟩
         unfold fstep at hp
         split at hp
         · cases hp
         · cases hp
           exact hbs z (List.mem_of_mem_drop (List.mem_of_mem_take hz))
       | succ k =>
         simp only [List.getElem?_cons_succ] at hk
         split at hk
         · rename_i hn
           exact ih (bs.length - p.2) (by omega) rfl hk
         · simp at hk
   · simp at hk
def OvL (G : Mem) (a : Option Addr) (n : Nat) : Prop :=
 0 < n -> ∃ (b off : Nat) (cur : Array Value) (el : TypeId) (fz : Nat × Nat), a = some ⟨b, off, none⟩ /\ G b = some (.cells cur el fz) /\ thaw fz cur.size /\ off + n * 2 <= cur.size /\
  ∀ i, i < n -> ∃ a' n' c', cur[off + (i * 2 + 1)]? = some (.slice a' n' c') /\ n' <= c' /\ n' <= 1000000 /\ OwnS 1 G a' c' /\ ∀ b' off' sp, 0 < c' -> a' = some ⟨b', off', sp⟩ -> b' ≠ b
def NewR (I0 I : Mem) (xs : List Value) : Prop := ∀ v ∈ xs, NewB I0 I v
theorem NewR.mono {I0 I J : Mem} {xs : List Value} (h : NewR I0 I xs) (hle : I.le J) : NewR I0 J xs := fun v hv => (h v hv).mono hle
theorem NewR.nil {I0 I : Mem} : NewR I0 I [] := fun v hv => by cases hv
theorem NewR.snoc {I0 I : Mem} {xs : List Value} {k : IntKind} {t : Int} {y : Value} (h : NewR I0 I xs) (hy : NewB I0 I y) : NewR I0 I (xs ++ [.int k t, y]) := fun v hv => by
 simp only [List.mem_append, List.mem_cons, List.not_mem_nil, or_false] at hv
 rcases hv with hv | rfl | rfl
 · exact h v hv
 · exact newB_int
 · exact hy
theorem ovl_row {I0 I I' : Mem} {a : Option Addr} {cp n : Nat} {xs : List Value} {L : List (Int × List Int)} {el : TypeId} (h : RowF I I' a cp 2 xs el) (hl : I0.le I) (hle : I.le I') (hf : FR I xs L) (hn : NewR I0 I xs) (hxn : xs.length = n * 2) (G : Mem) :
 OvL (gained I0 I' G) a n := fun h0 => by
 cases a with
 | none => have := (h.row.2.2.1 rfl).1; subst this; simp at hxn; omega
 | some ad =>
   obtain ⟨h1, h2, h3, cur, fz, h4, hfz, h5⟩ := h.new ad rfl;obtain ⟨b, off, spot⟩ := ad
   simp only at h1 h2 h3 h4
   subst h2;subst h3;have hx1 := h.row.1;have hfl := hf.len
   refine ⟨b, 0, cur, el, fz, rfl, gained_new (Mem.none_of_le hl h1) h4, hfz, by omega, fun i hi => ?_⟩
   have hg : L[i]? = some L[i] := List.getElem?_eq_getElem (by omega)
   obtain ⟨g1, g2, y, g3, b', m, c', rfl, g4, g5, g6⟩ := hf.get hg;have hat := h.row.2.2.2 _ _ g3;simp only [atI, Option.bind_some, Addr.add_lit, cellM, h4, Option.isSome_none, Bool.false_eq_true, if_false] at hat;obtain ⟨hns, hnb⟩ := hn _ (List.mem_of_getElem? g3) _ _ _ rfl;refine ⟨_, _, _, hat, g5, hnb, fun hc => ?_, fun b2 off2 sp hc hb2 => ?_⟩
   · obtain ⟨b3, off3, cur3, el3, fz3, k1, k2, k3, k4⟩ := hns hc
     exact ⟨b3, off3, cur3, el3, fz3, k1, gained_new k2 (hle _ _ k3), k4⟩
   · obtain ⟨b3, off3, cur3, el3, fz3, k1, k2, k3, k4⟩ := hns hc
     rw [k1] at hb2;cases hb2;intro hbb;subst hbb;rw [h1] at k3;cases k3
theorem ovl_nil (G : Mem) (a : Option Addr) : OvL G a 0 := fun h => absurd h (by omega)
theorem ct16N (bs : List Int) (hbs : byteL bs) (a : Option Addr) (n c : Nat) (I : Mem) (h : SlM I a n 1 (ints .u8 bs)) (hn : n <= 1000000) (hc : n <= c) (hm : c <= maxLen) :
 Ct Tryz.prog (fnv 16) #[.slice a n c] I (fun v I' => ∃ a' n' c', v = .tuple #[.slice a' n' c', .int .i64 (readF bs).2.1, .int .i64 (readF bs).2.2] /\ FldM I' a' n' (readF bs).1 /\ n' <= c' /\ c' <= maxLen /\ ∀ G, OvL (gained I I' G) a' n') := by
 refine viaR (ctF_via (A := { rfs := [(8, { n := (yields bs 0).length, enc := encF bs, ps := [.sh (.int .i64), .agg [.int .i64, .sl]], pre := [(5, 2, 58)], ents := [(0, .cells [.row 4]), (1, .cells [.sh (.int .i64)]), (2, .cells [.sh (.int .i64)]), (3, .cells [.sh (.int .i64)]), (4, .row)], inv := (fun k vals xss I' _ => match vals, xss with | [.int .i64 last, .int .i64 left, .int .i64 wrong], [xs] => wrong = -1 /\ 0 <= last /\ last <= 200 /\ 0 <= left /\ left <= 16384 /\ ∃ L, FR I' xs L /\ NewR I I' xs /\ L.length <= 64 /\ goF (yields bs 0) 0 16384 [] = goF ((yields bs 0).drop k) last left L | _, _ => False), jumps := [(.exit 0, [(3, .cells [.sh (.int .i64)])], fun vals _ _ _ => match vals with | [.int .i64 wrong] => 0 <= wrong /\ goF (yields bs 0) 0 16384 [] = (wrong, []) | _ => False)] })] }) Tryz.func16 rfl Tryz.call16 rfl rfl) (let E1 := fun (x : Loop) => .loop ⟨.done, some (.exit 0), x.fn, x.tmps, x.params, x.assign, x.body, x.defers⟩
  Br (decide (16768 < (n : Int))) (∃ b d e, Value.tuple #[.slice none 0 0, .int .i64 0, .int .i64 3] = .tuple #[.slice b d e, .int .i64 (readF bs).2.1, .int .i64 (readF bs).2.2] /\ FldM I b d (readF bs).1 /\ d <= e /\ e <= 9223372036854775807 /\ ∀ (G : Mem), OvL (gained I I G) b d) (Ct Tryz.prog (fnv 29) #[.slice a n c] I (fun v b => ∃ x, v = x /\ ∀ (d e f g i j : Nat) (r : Loop), Gives Tryz.prog x b (yields bs 0).length (encF bs) /\ (∀ (k : Nat) (l : Array Value) (m : Mem), encF bs k l m -> psOk [.sh (.int .i64), .agg [.int .i64, .sl]] l.toList = true) /\ (Rf (Ent.mk (.raw (.deferred (some []))) (some i)) /\ Rf (Ent.mk (.raw (.loop ⟨.ready, none, r.fn, r.tmps, r.params, r.assign, r.body, r.defers⟩)) (some j)) /\ Rf (some d) /\ (0 : Nat) = 0 /\ Rf (some e) /\ Rf (some f) /\ Rf (some g) /\ ((d = d /\ e = e /\ f = f /\ g = g /\ i = i /\ j = j /\ True) /\ Rf (Obj.loop ⟨.ready, none, r.fn, r.tmps, r.params, r.assign, r.body, r.defers⟩)) /\ Rf (-1 : Int) /\ (0 : Int) <= 0 /\ (0 : Int) <= 200 /\ (0 : Int) <= 16384 /\ (16384 : Int) <= 16384 /\ ∃ L, FR b [] L /\ NewR I b [] /\ L.length <= 64 /\ goF (yields bs 0) 0 16384 [] = goF (List.drop 0 (yields bs 0)) 0 16384 L) /\ (∀ (k : Nat) (l : Mem), Mem -> k < (yields bs 0).length -> b.le l -> ∀ (m : List Value) (o p q : Int), q = -1 /\ 0 <= o /\ o <= 200 /\ 0 <= p /\ p <= 16384 /\ (∃ L, FR l m L /\ NewR I l m /\ L.length <= 64 /\ goF (yields bs 0) 0 16384 [] = goF (List.drop k (yields bs 0)) o p L) -> ∀ (s : Mem), l.le s -> ∀ (t u : Int) (w : Option Addr) (y z : Nat), encF bs k #[.int .i64 t, .agg #[.int .i64 u, .slice w y z]] s -> Rf (Obj.loop ⟨.ready, none, r.fn, r.tmps, r.params, r.assign, r.body, r.defers⟩) /\ Rf (some j) /\ Br (decide (u <= o)) (Rf (Obj.loop ⟨.busy, none, r.fn, r.tmps, r.params, r.assign, r.body, r.defers⟩) /\ Rf (some j) /\ Rf (Ent.mk (.raw (.deferred (some []))) (some i)) /\ Rf (Ent.mk (.raw (E1 r)) (some j)) /\ Rf (some g) /\ ((g = g /\ i = i /\ j = j /\ True) /\ Rf (E1 r)) /\ 0 <= t /\ goF (yields bs 0) 0 16384 [] = (t, [])) (Br (decide (200 < u)) (Rf (Obj.loop ⟨.busy, none, r.fn, r.tmps, r.params, r.assign, r.body, r.defers⟩) /\ Rf (some j) /\ Rf (Ent.mk (.raw (.deferred (some []))) (some i)) /\ Rf (Ent.mk (.raw (E1 r)) (some j)) /\ Rf (some g) /\ ((g = g /\ i = i /\ j = j /\ True) /\ Rf (E1 r)) /\ 0 <= t /\ goF (yields bs 0) 0 16384 [] = (t, [])) (Br (decide (p < (y : Int))) (Rf (Obj.loop ⟨.busy, none, r.fn, r.tmps, r.params, r.assign, r.body, r.defers⟩) /\ Rf (some j) /\ Rf (Ent.mk (.raw (.deferred (some []))) (some i)) /\ Rf (Ent.mk (.raw (E1 r)) (some j)) /\ Rf (some g) /\ ((g = g /\ i = i /\ j = j /\ True) /\ Rf (E1 r)) /\ 0 <= t /\ goF (yields bs 0) 0 16384 [] = (t, [])) (Br (decide (64 <= ((m.length / 2 : Nat) : Int))) (Rf (Obj.loop ⟨.busy, none, r.fn, r.tmps, r.params, r.assign, r.body, r.defers⟩) /\ Rf (some j) /\ Rf (Ent.mk (.raw (.deferred (some []))) (some i)) /\ Rf (Ent.mk (.raw (E1 r)) (some j)) /\ Rf (some g) /\ ((g = g /\ i = i /\ j = j /\ True) /\ Rf (E1 r)) /\ 0 <= t /\ goF (yields bs 0) 0 16384 [] = (t, [])) (Wr .i64 (p - (y : Int)) (fun c1 => Ct Tryz.prog (fnv 30) #[.slice w y z] s fun v1 I1 => ∃ a1 n1 c2, v1 = .slice a1 n1 c2 /\ m.length = m.length / 2 * 2 /\ m.length / 2 + 1 <= 9223372036854775807 /\ (m.length / 2 + 1) * 32 <= 140737488355328 /\ Rf (Obj.loop ⟨.busy, none, r.fn, r.tmps, r.params, r.assign, r.body, r.defers⟩) /\ Rf (some j) /\ Rf (Ent.mk (.raw (.deferred (some []))) (some i)) /\ Rf (Ent.mk (.raw (.loop ⟨.ready, none, r.fn, r.tmps, r.params, r.assign, r.body, r.defers⟩)) (some j)) /\ Rf (some d) /\ m.length / 2 + 1 = List.length (m ++ [.int .i64 u, .slice a1 n1 c2]) / 2 /\ Rf (some e) /\ Rf (some f) /\ Rf (some g) /\ ((d = d /\ e = e /\ f = f /\ g = g /\ i = i /\ j = j /\ True) /\ Rf (Obj.loop ⟨.ready, none, r.fn, r.tmps, r.params, r.assign, r.body, r.defers⟩)) /\ q = -1 /\ 0 <= u /\ u <= 200 /\ 0 <= c1 /\ c1 <= 16384 /\ ∃ L, FR I1 (m ++ [.int .i64 u, .slice a1 n1 c2]) L /\ NewR I I1 (m ++ [.int .i64 u, .slice a1 n1 c2]) /\ L.length <= 64 /\ goF (yields bs 0) 0 16384 [] = goF (List.drop (k + 1) (yields bs 0)) u c1 L)))))) /\ (∀ (k : Mem), Mem -> b.le k -> ∀ (l : List Value) (m o p : Int), p = -1 /\ 0 <= m /\ m <= 200 /\ 0 <= o /\ o <= 16384 /\ (∃ L, FR k l L /\ NewR I k l /\ L.length <= 64 /\ goF (yields bs 0) 0 16384 [] = goF (List.drop (yields bs 0).length (yields bs 0)) m o L) -> ∀ (q : Mem), k.le q -> Br (decide (0 <= p)) (∃ s t u, Value.tuple #[.slice none 0 0, .int .i64 p, .int .i64 21] = .tuple #[.slice s t u, .int .i64 (readF bs).2.1, .int .i64 (readF bs).2.2] /\ FldM q s t (readF bs).1 /\ t <= u /\ u <= 9223372036854775807 /\ ∀ (G : Mem), OvL (gained I q G) s t) (∀ (s : Option Addr) (t : Nat) (u : Mem), q.le u -> RowF q u s t 2 l 58 -> ∃ w y z, Value.tuple #[.slice s (l.length / 2) t, .int .i64 0, .int .i64 0] = .tuple #[.slice w y z, .int .i64 (readF bs).2.1, .int .i64 (readF bs).2.2] /\ FldM u w y (readF bs).1 /\ y <= z /\ z <= 9223372036854775807 /\ ∀ (G : Mem), OvL (gained I u G) w y)) /\ ∀ (k : Mem), Mem -> b.le k -> ∀ (l : Int), 0 <= l /\ goF (yields bs 0) 0 16384 [] = (l, []) -> ∀ (m : Mem), k.le m -> Br (decide (0 <= l)) (∃ o p q, Value.tuple #[.slice none 0 0, .int .i64 l, .int .i64 21] = .tuple #[.slice o p q, .int .i64 (readF bs).2.1, .int .i64 (readF bs).2.2] /\ FldM m o p (readF bs).1 /\ p <= q /\ q <= 9223372036854775807 /\ ∀ (G : Mem), OvL (gained I m G) o p) False))) (by kernel_rfl) ?_
 intro E1;simp only [eq_self, true_and];have hnl := h.numLen
 refine Br.mk (fun hlong => ?_) (fun hlong => (ct29 a n c I).mono fun v I1 l1 ⟨b, hb, hv⟩ => ⟨_, rfl, fun _ _ _ _ bd br rc => ⟨?_, ?_, ⟨by omega, by omega, by omega, by omega, [], trivial, NewR.nil, by simp, rfl⟩, ?_, ?_, ?_⟩⟩)
 · have hlong := of_decide_eq_true hlong
   have : readF bs = ([], 0, 3) := by rw [readF, if_pos (by omega)]
   rw [this]
   exact ⟨none, 0, 0, rfl, fldM_nil _, by omega, by omega, fun G => ovl_nil _ _⟩
 · subst hv; exact gives56 bs hbs b a n c I1 hb (h.mono l1) hn hc hm
 · rintro k args I2 ⟨at_, f, a1, n1, c1, _, rfl, _⟩; rfl
 · rintro k I2 G2 hk l2 xs last left wrong ⟨hw, h0, h1, h2, h3, L, h4, hnr, h5, h6⟩ I3 l3 at_ t0 a1 n1 c1 ⟨at', f, a2, n2, c2, hy, hargs, hsl, hnc, hcm⟩
   obtain ⟨t, body⟩ := f;cases hargs;have hok := yields_ok hbs hy;have hat := yields_at hy;have hlen : n1 = body.length := hsl.numLen;have hxl := h4.len;rw [drop_cons hy] at h6
   have bad : (t <= last \/ 200 < t \/ left < body.length \/ 64 <= L.length) -> 0 <= ((at' : Nat) : Int) /\ goF (yields bs 0) 0 16384 [] = (((at' : Nat) : Int), []) := fun hc => by
    rw [goF, if_pos hc] at h6
    exact ⟨by omega, h6⟩
   refine Br.mk (fun e1 => bad (.inl (of_decide_eq_true e1))) (fun e1 => Br.mk (fun e2 => bad (.inr (.inl (of_decide_eq_true e2)))) (fun e2 => Br.mk (fun e3 => bad (.inr (.inr (.inl ?_)))) (fun e3 => Br.mk (fun e4 => bad (.inr (.inr (.inr ?_)))) (fun e4 => ?_))))
   · have := of_decide_eq_true e3; omega
   · have := of_decide_eq_true e4; omega
   · have e1 := of_decide_eq_false e1
     have e2 := of_decide_eq_false e2;have e3 := of_decide_eq_false e3;have e4 := of_decide_eq_false e4
     rw [goF, if_neg (by simp only; omega)] at h6
     simp only at h6
     have hb1 : n1 <= 1000000 := by omega
     have hleft : 0 <= left - n1 /\ left - n1 <= 16384 := by omega
     rw [<- hlen] at h6;have hsn : ∀ {I4 : Mem} {y : Value}, I3.le I4 -> BySl I4 y body -> FR I4 (xs ++ [.int .i64 t, y]) (L ++ [(t, body)]) := fun hle hy => FR.snoc (h4.mono (Mem.le_trans l3 hle)) ⟨hok, rfl, hy⟩;have hns : ∀ {I4 : Mem} {y : Value}, I3.le I4 -> NewB I3 I4 y -> NewR I I4 (xs ++ [.int .i64 t, y]) := fun hle hy => NewR.snoc (hnr.mono (Mem.le_trans l3 hle)) (hy.anti (Mem.le_trans l1 (Mem.le_trans l2 l3)))
     have q1 : xs.length = xs.length / 2 * 2 := by omega
     have q2 : xs.length / 2 + 1 <= 9223372036854775807 := by omega
     have q3 : (xs.length / 2 + 1) * 32 <= 140737488355328 := by omega
     have q4 : ∀ y, xs.length / 2 + 1 = (xs ++ [Value.int IntKind.i64 t, y]).length / 2 := fun y => by simp
     have q5 : (L ++ [(t, body)]).length <= 64 := by simp; omega
     refine wr_i64 (by omega) (by omega) ((ct30N body _ _ _ I3 hsl hb1).mono fun v I4 l4 ⟨hv, hvn⟩ => ?_)
     all_goals
      have hv2 := hv;obtain ⟨b2, m2, c2, rfl, _⟩ := hv
      first
       | exact ⟨_, _, _, rfl, q1, q2, q3, q4 _, hw, by omega, by omega, hleft.1, hleft.2, _, hsn l4 hv2, hns l4 hvn, q5, h6⟩
       | exact ⟨_, _, _, rfl, ⟨q1, q2, q3, q4 _, hw, by omega, by omega, hleft.1, hleft.2, _, hsn l4 hv2, hns l4 hvn, q5, h6⟩, q1, q2, q3, q4 _, hw, by omega, by omega, hleft.1, hleft.2, _, hsn l4 hv2, hns l4 hvn, q5, h6⟩
 · rintro I2 G2 l2 xs last left wrong ⟨hw, h0, h1, h2, h3, L, h4, hnr, h5, h6⟩ I3 l3
   rw [List.drop_length, goF] at h6;have hlong := of_decide_eq_false hlong
   have : readF bs = (L, 0, 0) := by rw [readF, if_neg (by omega), h6]; rfl
   rw [this]
   refine Br.f (by subst hw; rfl) fun a2 cp I4 l4 hrow => ?_
   obtain ⟨a3, n3, c3, e1, e2, e3, e4⟩ := fr_row hrow.row (h4.mono (Mem.le_trans l3 l4));cases e1;have hxl := h4.len
   exact ⟨_, _, _, rfl, e2, e3, e4, fun G => ovl_row hrow (Mem.le_trans l1 (Mem.le_trans l2 l3)) l4 (h4.mono l3) (hnr.mono l3) (by omega) G⟩
 · rintro I2 G2 l2 wrong ⟨hw, h6⟩ I3 l3
   have hlong := of_decide_eq_false hlong
   have : readF bs = ([], wrong, 21) := by rw [readF, if_neg (by omega), h6, if_pos hw]
   rw [this]
   exact Br.t (by simpa using hw) ⟨none, 0, 0, rfl, fldM_nil _, by omega, by omega, fun G => ovl_nil _ _⟩
theorem ct16 (bs : List Int) (hbs : byteL bs) (a : Option Addr) (n c : Nat) (I : Mem) (h : SlM I a n 1 (ints .u8 bs)) (hn : n <= 1000000) (hc : n <= c) (hm : c <= maxLen) :
 Ct Tryz.prog (fnv 16) #[.slice a n c] I (fun v I' => ∃ a' n' c', v = .tuple #[.slice a' n' c', .int .i64 (readF bs).2.1, .int .i64 (readF bs).2.2] /\ FldM I' a' n' (readF bs).1 /\ n' <= c' /\ c' <= maxLen) :=
 (ct16N bs hbs a n c I h hn hc hm).mono fun _ _ _ ⟨a', n', c', h1, h2, h3, h4, _⟩ => ⟨a', n', c', h1, h2, h3, h4⟩
theorem ct90 (x : Int) (h : 0 <= x /\ x <= 18446744073709551615) (I : Mem) :
 Ct Tryz.prog (fnv 90) #[.slice none 0 0, .int .u64 x] I (fun v I' => BySl I' v (formN x.toNat)) := by
 refine viaR (ct_via (A := { loops := [(6, ⟨[(0, .keep), (1, .sh (.int .u64)), (5, .keep), (6, .keep), (7, .sh (.int .i64))], [(0, .vec)], [], fun vals xss _ _ => match vals, xss with
  | [.int .u64 v1, .int .i64 v7], [ys] => ∃ K : Nat, K <= digN x.toNat /\ v7 = (digN x.toNat : Int) - 1 - K /\ v1 = ((x.toNat / 256 ^ K : Nat) : Int) /\ ys = stA (digN x.toNat) K x.toNat | _, _ => False, fun vals _ => match vals with | [_, .int .i64 v7] => (v7 + 1).toNat | _ => 0⟩)] }) Tryz.func90 rfl Tryz.call90 rfl rfl) (Ct Tryz.prog (fnv 113) #[.int .u64 x] I fun v a => ∃ n, v = .int .i64 n /\ Br (n == 1) (Wr .u8 x (fun c => (1 : Nat) <= 9223372036854775807 /\ (1 : Nat) <= 140737488355328 /\ ∀ (b : Option Addr) (d : Nat) (e : Mem), a.le e -> RowM e b d 1 [.int .u8 c] -> ∃ f m g, Value.slice b 1 d = .slice f m g /\ SlM e f m 1 (List.map (Value.int .u8) (formN x.toNat)) /\ m <= g /\ g <= 9223372036854775807)) (Wr .i64 (n - 2) (fun c => (Rf (none : Option Nat) /\ Rf (SV.v (.slice none 0 0)) /\ Rf (SV.v (.int .i64 n)) /\ Rf (SV.ptr 0 0) /\ ∃ K, K <= digN x.toNat /\ c = (digN x.toNat : Int) - 1 - (K : Int) /\ x = ((x.toNat / 256 ^ K : Nat) : Int) /\ [Value.int .u8 0, .int .u8 0, .int .u8 0, .int .u8 0, .int .u8 0, .int .u8 0, .int .u8 0, .int .u8 0] = stA (digN x.toNat) K x.toNat) /\ ∀ (b : Mem), Mem -> a.le b -> ∀ (d : List Value) (e f : Int), (∃ K, K <= digN x.toNat /\ f = (digN x.toNat : Int) - 1 - (K : Int) /\ e = ((x.toNat / 256 ^ K : Nat) : Int) /\ d = stA (digN x.toNat) K x.toNat) -> Br (decide (0 <= f)) (Wr .u8 e (fun g => 0 <= f /\ f < 8 /\ 0 + f.toNat * 1 + 1 <= d.length /\ (0 : Int) <= 8 /\ Wr .i64 (f - 1) fun i => Rf (none : Option Nat) /\ Rf (SV.v (.slice none 0 0)) /\ Rf (SV.v (.int .i64 n)) /\ Rf (SV.ptr 0 0) /\ (∃ K, K <= digN x.toNat /\ i = (digN x.toNat : Int) - 1 - (K : Int) /\ e.fdiv 256 = ((x.toNat / 256 ^ K : Nat) : Int) /\ splice d (0 + f.toNat * 1) [.int .u8 g] = stA (digN x.toNat) K x.toNat) /\ Int.toNat (i + 1) < Int.toNat (f + 1))) (Wr .i64 (246 + n) (fun g => Wr .i64 (g - 1) fun i => Wr .u8 i fun j => Wr .i64 (n - 1) fun k => 0 <= k /\ k <= 8 /\ (1 : Nat) <= 9223372036854775807 /\ (1 : Nat) <= 140737488355328 /\ 0 + k.toNat * 1 <= d.length /\ (∀ (l : Value), Membership.mem (List.take (k.toNat * 1) d) l -> l.oneCell' = true) /\ (1 : Nat) = 1 /\ 1 + k.toNat <= 9223372036854775807 /\ (1 + k.toNat) * 1 <= 140737488355328 /\ ∀ (l : Option Addr) (m : Nat) (o : Mem), b.le o -> RowM o l m 1 (.int .u8 j :: List.append ([] : List Value) (List.take (k.toNat * 1) (List.drop 0 d))) -> ∃ p q r, Value.slice l (1 + k.toNat) m = .slice p q r /\ SlM o p q 1 (List.map (Value.int .u8) (formN x.toNat)) /\ q <= r /\ r <= 9223372036854775807))))) (by kernel_rfl) ?_
 simp only [eq_self, true_and]
 have hX : x.toNat < 256 ^ 8 := by omega
 have hd8 : digN x.toNat <= 8 := digN_le hX;refine (ct113 x h I).mono fun v I1 _ hv => ⟨_, hv, Br.mk (fun h1 => ?_) (fun h1 => ?_)⟩
 · have h1 : (sizeN x.toNat : Int) = 1 := by simpa using h1
   have hle : x.toNat <= 246 := by
    rcases Nat.lt_or_ge 246 x.toNat with hgt | hle
    · rw [sizeN, if_neg (by omega), digN_pos (by omega)] at h1
      omega
    · exact hle
   have hf : formN x.toNat = [x] := by rw [formN, if_pos hle]; congr 1; omega
   rw [hf]
   exact ⟨x, IntWalk.u8_in x ⟨h.1, by omega⟩, by omega, by omega, fun a cp I2 _ hrow => row_bysl (xs := [x]) hrow rfl⟩
 · have hgt : 246 < x.toNat := by
    rcases Nat.lt_or_ge 246 x.toNat with hgt | hle
    · exact hgt
    · rw [sizeN, if_pos hle] at h1
      simp at h1
   have hs : sizeN x.toNat = 1 + digN x.toNat := by rw [sizeN, if_neg (by omega)]
   have hd1 : 1 <= digN x.toNat := by rw [digN_pos (by omega)]; omega
   have hf : formN x.toNat = ((246 + digN x.toNat : Nat) : Int) :: be (digN x.toNat) x.toNat := by rw [formN, if_neg (by omega)]
   rw [hs, hf];generalize hdd : digN x.toNat = d at hd8 hd1 ⊢
   refine wr_i64 (by omega) (by omega) ⟨⟨0, by omega, by omega, by simp; omega, ?_⟩, fun I2 G2 _ ys v1 v7 ⟨K, k1, k2, k3, k4⟩ => Br.mk (fun hge => ?_) (fun hlt => ?_)⟩
   · show List.replicate 8 (Value.int .u8 0) = _
     rw [stA, be];simp only [ints, List.map_nil, List.append_nil, zs8, List.replicate_append_replicate]
     congr 1; omega
   · have hge := of_decide_eq_true hge
     have hv7 : v7.toNat = d - 1 - K := by omega
     have hq : x.toNat / 256 ^ K / 256 = x.toNat / 256 ^ (K + 1) := by rw [Nat.div_div_eq_div_mul, Nat.pow_succ]
     have hfd : v1.fdiv 256 = v1 / 256 := Int.fdiv_eq_ediv_of_nonneg _ (by decide)
     refine ⟨((x.toNat / 256 ^ K % 256 : Nat) : Int), by rw [IntKind.wrap_u8, k3]; omega, hge, by omega, ?_, by omega, wr_i64 (by omega) (by omega) ⟨⟨K + 1, by omega, by omega, by rw [hfd, k3, <- hq]; omega, ?_⟩, by omega⟩⟩
     · rw [k4, stA]; simp [zs8, ints_len, be_len]; omega
     · rw [show 0 + v7.toNat * 1 = d - 1 - K by omega, k4]
       exact stA_step (by omega) hd8
   · have hlt := of_decide_eq_false hlt
     obtain rfl : K = d := by omega
     have hys : ys = ints .u8 (be K x.toNat) ++ zs8 (8 - K) := by rw [k4, stA]; simp [zs8]
     have ht : ys.take K = ints .u8 (be K x.toNat) := by rw [hys, List.take_left' (by rw [ints_len, be_len])]
     have hylen : ys.length = 8 := by rw [hys]; simp [zs8, ints_len, be_len]; omega
     refine wr_i64 (by omega) (by omega) (wr_i64 (by omega) (by omega) ⟨((246 + K : Nat) : Int), by rw [IntWalk.u8_in _ ⟨by omega, by omega⟩]; omega, wr_i64 (by omega) (by omega) ?_⟩)
     rw [show ((1 + K : Nat) : Int) - 1 = (K : Int) by omega, Int.toNat_natCast, show K * 1 = K from Nat.mul_one K, ht]
     refine ⟨by omega, by omega, by omega, by omega, by omega, one_ints, by omega, by omega, fun a cp I3 _ hrow => ?_⟩
     have hrow : RowM I3 a cp 1 (ints .u8 (((246 + K : Nat) : Int) :: be K x.toNat)) := by
      change RowM I3 a cp 1 (Value.int .u8 ((246 + K : Nat) : Int) :: ys.take K) at hrow
      rw [ht] at hrow;exact hrow
     exact row_bysl hrow (by simp [be_len]; omega)
theorem ct91 (t : Int) (x : Int) (h : 0 <= x /\ x <= 18446744073709551615) (I : Mem) :
 Ct Tryz.prog (fnv 91) #[.int .i64 t, .int .u64 x] I (fun v I' => ∃ y, v = .agg #[.int .i64 t, y] /\ BySl I' y (formN x.toNat)) := by
 refine viaR (ct_via (A := {}) Tryz.func91 rfl Tryz.call91 rfl rfl) (Ct Tryz.prog (fnv 90) #[.slice none 0 0, .int .u64 x] I fun v a => ∃ b n c, v = .slice b n c /\ ∃ y, Value.agg #[.int .i64 t, .slice b n c] = .agg #[.int .i64 t, y] /\ ∃ d m e, y = .slice d m e /\ SlM a d m 1 (List.map (Value.int .u8) (formN x.toNat)) /\ m <= e /\ e <= 9223372036854775807) (by kernel_rfl) ?_
 refine (ct90 x h I).mono fun v I1 _ hv => ?_;have hv2 := hv;obtain ⟨b, m, c, rfl, _⟩ := hv;exact ⟨_, _, _, rfl, _, rfl, hv2⟩
set_option maxHeartbeats 1000000
abbrev Wnt := Int × Bool × Int × Int
def wc (w : Wnt) : List Value := [.int .i64 w.1, .bool w.2.1, .int .i64 w.2.2.1, .int .i64 w.2.2.2]
theorem fstep_form (pre rest : List Int) (f : Int × List Int) (h : f.2.length <= 16384) :
 fstep (pre ++ (f.1 :: (formN f.2.length ++ (f.2 ++ rest)))) pre.length = some (f.2, pre.length + 1 + (formN f.2.length).length + f.2.length) := by
 have e : pre ++ (f.1 :: (formN f.2.length ++ (f.2 ++ rest))) = (pre ++ [f.1]) ++ (formN f.2.length ++ (f.2 ++ rest)) := by simp
 have hr := readN_form (pre ++ [f.1]) (f.2 ++ rest) f.2.length (by omega)
 have hp : ((pre ++ [f.1]).length : Int) = (pre.length : Int) + 1 := by simp
 rw [<- e, hp] at hr
 have hi : intN (pre ++ (f.1 :: (formN f.2.length ++ (f.2 ++ rest)))) ((pre.length : Nat) + 1) 0 16384 = ((f.2.length : Int), ((formN f.2.length).length : Int), 0) := by
  unfold intN
  rw [hr, if_neg (by simp), if_neg (by simp only; omega)]
 have hl : (pre ++ (f.1 :: (formN f.2.length ++ (f.2 ++ rest)))).length = pre.length + 1 + (formN f.2.length).length + f.2.length + rest.length := by simp; omega
 unfold fstep
 rw [hi, if_neg (by simp only [hl]; omega)]
 simp only [Int.toNat_natCast]
 have hd : (pre ++ (f.1 :: (formN f.2.length ++ (f.2 ++ rest)))).drop ((pre.length : Int) + 1 + ((formN f.2.length).length : Int)).toNat = f.2 ++ rest := by
  have e2 : pre ++ (f.1 :: (formN f.2.length ++ (f.2 ++ rest))) = (pre ++ [f.1] ++ formN f.2.length) ++ (f.2 ++ rest) := by simp
  rw [e2, List.drop_left' (by simp; omega)]
 rw [hd, List.take_left' rfl]
 congr 2
theorem yields_form (pre : List Int) (f : Int × List Int) (r : List (Int × List Int)) (h : f.2.length <= 16384) :
 yields (pre ++ writeF (f :: r)) pre.length = (pre.length, f) :: yields ((pre ++ writeF [f]) ++ writeF r) (pre ++ writeF [f]).length := by
 have e : writeF (f :: r) = f.1 :: (formN f.2.length ++ (f.2 ++ writeF r)) := writeF_cons f r
 have e1 : writeF [f] = f.1 :: (formN f.2.length ++ f.2) := by rw [writeF_cons]; simp [writeF]
 have e2 : (pre ++ writeF [f]) ++ writeF r = pre ++ writeF (f :: r) := by rw [e, e1]; simp
 have hn : (pre ++ writeF [f]).length = pre.length + 1 + (formN f.2.length).length + f.2.length := by rw [e1]; simp; omega
 rw [e2, hn]
 rw [yields, dif_pos (by rw [e]; simp)]
 have hfs := fstep_form pre (writeF r) f h;rw [<- e] at hfs;rw [hfs]
 simp only
 rw [dif_pos (by omega)]
 congr 2
 rw [List.getElem?_append_right (by omega), Nat.sub_self, e]; rfl
theorem goF_write : ∀ (r : List (Int × List Int)) (pre : List Int) (last left : Int) (out : List (Int × List Int)), left <= 16384 -> rightStep last left r = true -> out.length + r.length <= 64 ->
 goF (yields (pre ++ writeF r) pre.length) last left out = (-1, out ++ r)
 | [], pre, last, left, out, _, _, _ => by
   rw [yields, dif_neg (by simp [writeF]), goF]; simp
 | f :: r, pre, last, left, out, hl, h, hn => by
   rw [rightStep] at h
   split at h
   · cases h
   · rename_i hc
     rw [yields_form pre f r (by omega), goF, if_neg (by simp only; simp at hn; omega)]
     simp only
     rw [goF_write r (pre ++ writeF [f]) f.1 (left - f.2.length) (out ++ [f]) (by omega) h (by simp at hn ⊢; omega)]
     simp
theorem write_len {l : List (Int × List Int)} (h : rightF l = true) : (writeF l).length <= 16384 + 640 := by
 obtain ⟨h1, h2⟩ := rightF_iff.1 h
 have h3 := right_len (by omega) h1 l.length
 rw [List.take_length] at h3;omega
theorem write_len2 : ∀ {l : List (Int × List Int)} {last left : Int}, left <= 16384 -> 0 <= left -> rightStep last left l = true -> ((writeF l).length : Int) <= left + 6 * l.length
 | [], last, left, _, h0, _ => by simp [writeF]; omega
 | g :: r, last, left, hl, h0, h => by
   rw [rightStep] at h
   split at h
   · cases h
   · rename_i hc
     have ih := write_len2 (by omega) (by omega) h
     have h3 : (formN g.2.length).length <= 3 := by
      rw [formN_len, sizeN]
      have : digN g.2.length <= 2 := digN_le (by omega)
      split <;> omega
     rw [writeF_cons];simp only [List.length_cons, List.length_append];omega
theorem read_write {l : List (Int × List Int)} (h : rightF l = true) : readF (writeF l) = (l, 0, 0) := by
 obtain ⟨h1, h2⟩ := rightF_iff.1 h
 have h3 := write_len2 (by omega) (by omega) h1
 have hg := goF_write l [] 0 16384 [] (by omega) h1 (by simp; omega)
 simp only [List.nil_append, List.length_nil] at hg
 rw [readF, if_neg (by omega), hg]
 rfl
theorem fstep_some {bs : List Int} (hbs : byteL bs) {at_ : Nat} {p : List Int × Nat} (h : fstep bs at_ = some p) :
 at_ < p.2 /\ p.2 <= bs.length /\ p.1.length <= 16384 /\ bs.drop (at_ + 1) = formN p.1.length ++ (p.1 ++ bs.drop p.2) := by
 unfold fstep at h
 split at h
 · cases h
 · rename_i hc
   have he : (intN bs (at_ + 1) 0 16384).2.2 = 0 := by
    rcases Int.instDecidableEq (intN bs (at_ + 1) 0 16384).2.2 0 with hne | he
    · exact absurd (.inl hne) hc
    · exact he
   generalize hr : intN bs (at_ + 1) 0 16384 = r at h hc he;obtain ⟨sz, k, e⟩ := r
   simp only at he hc h
   subst he;obtain ⟨g1, g2, g3, g4, g5, g6⟩ := intN_ok hbs hr
   have hfl := formN_le sz.toNat (by omega)
   have hsz : ¬((bs.length : Int) - (at_ + 1 + k) < sz) := fun hx => hc (.inr hx);cases h
   simp only
   have hlen : ((bs.drop ((at_ : Int) + 1 + k).toNat).take sz.toNat).length = sz.toNat := by simp; omega
   refine ⟨by omega, by omega, by omega, ?_⟩
   rw [hlen]
   have e1 : ((at_ : Int) + 1).toNat = at_ + 1 := by omega
   rw [e1] at g5;rw [g5]
   congr 1
   have e2 : ((at_ : Int) + 1 + k + sz).toNat = ((at_ : Int) + 1 + k).toNat + sz.toNat := by omega
   rw [e2, <- List.drop_drop, List.take_append_drop]
theorem goF_back {bs : List Int} (hbs : byteL bs) : ∀ {at_ : Nat} {last left : Int} {out L : List (Int × List Int)}, 0 <= last -> at_ <= bs.length -> out.length <= 64 -> goF (yields bs at_) last left out = (-1, L) ->
 ∃ r, L = out ++ r /\ rightStep last left r = true /\ bs.drop at_ = writeF r /\ L.length <= 64 := by
 intro at_
 induction hm : bs.length - at_ using Nat.strongRecOn generalizing at_ with
 | ind m ih =>
   intro last left out L h0 hat hout h;rw [yields] at h
   split at h
   · rename_i hlt
     split at h
     · rw [goF, if_pos (.inl h0)] at h
       injection h with h1
       omega
     · rename_i p hp
       obtain ⟨g1, g2, g3, g4⟩ := fstep_some hbs hp;rw [goF] at h
       split at h
       · injection h with h1
         simp only at h1
         omega
       · rename_i hc
         simp only at hc h
         have hb : (bs[at_]?).getD 0 = bs[at_] := by rw [List.getElem?_eq_getElem hlt]; rfl
         rw [hb] at hc h
         obtain ⟨r, r1, r2, r3, r4⟩ := ih (bs.length - p.2) (by omega) rfl (by omega) g2 (by simp; omega) h
         refine ⟨(bs[at_], p.1) :: r, by rw [r1]; simp, ?_, ?_, r4⟩
         · rw [rightStep, if_neg (by simp only; omega)]
           exact r2
         · rw [List.drop_eq_getElem_cons hlt, g4, writeF_cons, r3]
   · rw [goF] at h
     cases h
     refine ⟨[], by simp, rfl, ?_, hout⟩
     rw [List.drop_eq_nil_of_le (by omega)]; rfl
theorem goF_sign : ∀ {ys : List (Nat × (Int × List Int))} {last left : Int} {out : List (Int × List Int)}, (goF ys last left out).1 = -1 \/ (0 <= (goF ys last left out).1 /\ (goF ys last left out).2 = [])
 | [], _, _, _ => .inl rfl
 | y :: r, last, left, out => by
   rw [goF];split
   · exact .inr ⟨by simp, rfl⟩
   · exact goF_sign
theorem read_cases (bs : List Int) (hbs : byteL bs) : ((readF bs).2.2 = 0 /\ (readF bs).2.1 = 0 /\ rightF (readF bs).1 = true /\ writeF (readF bs).1 = bs) \/ ((readF bs).1 = [] /\ ((readF bs).2.2 = 3 /\ 16768 < bs.length \/ (readF bs).2.2 = 21)) := by
 unfold readF;split
 · exact .inr ⟨rfl, .inl ⟨rfl, by assumption⟩⟩
 · split
   · exact .inr ⟨rfl, .inr rfl⟩
   · rename_i h1 h2
     have hs := goF_sign (ys := yields bs 0) (last := 0) (left := 16384) (out := [])
     have hw : (goF (yields bs 0) 0 16384 []).1 = -1 := by omega
     obtain ⟨r, r1, r2, r3, r4⟩ := goF_back hbs (at_ := 0) (last := 0) (left := 16384) (out := []) (L := (goF (yields bs 0) 0 16384 []).2) (by omega) (by omega) (by simp) (by rw [<- hw])
     rw [List.nil_append] at r1;rw [List.drop_zero] at r3
     refine .inl ⟨rfl, rfl, rightF_iff.2 ⟨by rw [r1]; exact r2, r4⟩, by simp only [r1]; exact r3.symm⟩
def foldZ (x : Int) : Int := if 0 <= x then 2 * x else -2 * x - 1
def unfoldZ (y : Int) : Int := if y % 2 = 0 then y / 2 else -(y / 2) - 1
theorem w64 (x : Int) : IntKind.u64.wrap x = x % 18446744073709551616 := rfl
theorem nat64 (x : Int) : (BitVec.ofInt 64 x).toNat = (x % 18446744073709551616).toNat := by
 rw [BitVec.toNat_ofInt]; rfl
theorem xor_u0 {c : Int} (h : 0 <= c /\ c < 18446744073709551616) : bitsV .xor .u64 c 0 = c := by
 show IntKind.u64.wrap (((BitVec.ofInt 64 c ^^^ BitVec.ofInt 64 0).toNat : Nat) : Int) = c
 have h0 : BitVec.ofInt 64 0 = 0#64 := rfl;rw [h0, BitVec.xor_zero, nat64, w64];omega
theorem ones : BitVec.ofInt 64 18446744073709551615 = BitVec.allOnes 64 := by decide
theorem ones' : BitVec.ofInt 64 (-1) = BitVec.allOnes 64 := by decide
theorem xor_u1 {c : Int} (h : 0 <= c /\ c < 18446744073709551616) : bitsV .xor .u64 c 18446744073709551615 = 18446744073709551615 - c := by
 show IntKind.u64.wrap (((BitVec.ofInt 64 c ^^^ BitVec.ofInt 64 18446744073709551615).toNat : Nat) : Int) = _
 rw [ones, BitVec.xor_allOnes, BitVec.toNat_not, nat64, w64];omega
theorem i64_big {x : Int} (h : 9223372036854775808 <= x /\ x < 18446744073709551616) : IntKind.i64.wrap x = x - 18446744073709551616 := by
 rw [IntKind.wrap_i64]
 skip
 omega
theorem xor_i0 {c : Int} (h : 0 <= c /\ c <= 9223372036854775807) : bitsV .xor .i64 c 0 = c := by
 show IntKind.i64.wrap (((BitVec.ofInt 64 c ^^^ BitVec.ofInt 64 0).toNat : Nat) : Int) = c
 have h0 : BitVec.ofInt 64 0 = 0#64 := rfl
 rw [h0, BitVec.xor_zero, nat64, IntWalk.i64_in _ ⟨by omega, by omega⟩]
 omega
theorem xor_i1 {c : Int} (h : 0 <= c /\ c <= 9223372036854775807) : bitsV .xor .i64 c (-1) = -c - 1 := by
 show IntKind.i64.wrap (((BitVec.ofInt 64 c ^^^ BitVec.ofInt 64 (-1)).toNat : Nat) : Int) = _
 rw [ones', BitVec.xor_allOnes, BitVec.toNat_not, nat64, i64_big (by omega)]
 omega
theorem and_1 {y : Int} (h : 0 <= y /\ y < 18446744073709551616) : bitsV .and .u64 y 1 = y % 2 := by
 show IntKind.u64.wrap (((BitVec.ofInt 64 y &&& BitVec.ofInt 64 1).toNat : Nat) : Int) = _
 rw [BitVec.toNat_and, nat64, nat64, w64]
 have : (1 % 18446744073709551616 : Int).toNat = 1 := by decide
 rw [this, Nat.and_one_is_mod];omega
theorem ct98 (x : Int) (hx : -9223372036854775808 <= x /\ x <= 9223372036854775807) (I : Mem) : Ct Tryz.prog (fnv 98) #[.int .i64 x] I (fun v _ => v = .int .u64 (foldZ x)) := by
 refine viaR (ct_via (A := { }) Tryz.func98 rfl Tryz.call98 rfl rfl) (Wr .u64 x fun c => (0 : Int) <= 1 /\ Wr .u64 (c * 2) fun a => (0 : Int) <= 63 /\ Wr .u64 (x.fdiv 9223372036854775808) fun b => Value.int .u64 (bitsV .xor .u64 a b) = .int .u64 (foldZ x)) (by kernel_rfl) ?_
 have h1 : (x.fdiv 9223372036854775808 : Int) = if 0 <= x then 0 else -1 := by
  rw [Int.fdiv_eq_ediv_of_nonneg _ (by decide)]
  split <;> omega
 refine ⟨_, rfl, by omega, _, rfl, by omega, _, rfl, ?_⟩
 rw [w64, w64, w64, h1, foldZ]
 congr 1
 split
 · rw [show (0 : Int) % 18446744073709551616 = 0 by decide, xor_u0 (by omega)]; omega
 · rw [show (-1 : Int) % 18446744073709551616 = 18446744073709551615 by decide, xor_u1 (by omega)]; omega
theorem ct38 (y : Int) (hy : 0 <= y /\ y <= 18446744073709551615) (I : Mem) : Ct Tryz.prog (fnv 38) #[.int .u64 y] I (fun v _ => v = .int .i64 (unfoldZ y)) := by
 refine viaR (ct_via (A := { }) Tryz.func38 rfl Tryz.call38 rfl rfl) ((0 : Int) <= 1 /\ Wr .i64 (y.fdiv 2) fun c => Wr .i64 (bitsV .and .u64 y 1) fun a => Wr .i64 (0 - a) fun b => Value.int .i64 (bitsV .xor .i64 c b) = .int .i64 (unfoldZ y)) (by kernel_rfl) ?_
 rw [and_1 (by omega), Int.fdiv_eq_ediv_of_nonneg _ (by decide)]
 refine ⟨by omega, wr_i64 (by omega) (by omega) (wr_i64 (by omega) (by omega) (wr_i64 (by omega) (by omega) ?_))⟩
 rw [unfoldZ]
 congr 1
 rcases (by omega : y % 2 = 0 \/ y % 2 = 1) with h | h
 · rw [h, if_pos rfl, Int.sub_zero, xor_i0 (by omega)]
 · rw [h, if_neg (by decide), show (0 : Int) - 1 = -1 by decide, xor_i1 (by omega)]
set_option maxHeartbeats 1000000
abbrev RS := List Int × Bool
def Rd (I G : Mem) (kb : Nat) (s : RS) : Prop := ∃ a n c, G kb = some (.cells #[.slice a n c, .bool s.2] 94 (0, 0)) /\ SlM I a n 1 (ints .u8 s.1) /\ n <= c /\ c <= maxLen /\ byteL s.1 /\ n <= 1000000
def RdTo (I G G' : Mem) (kb : Nat) (s : RS) : Prop := Rd I G' kb s /\ ∀ x, x ≠ kb -> G' x = G x
theorem addB_eq (G : Mem) (b : Nat) (o : Obj) : addB G b o b = some o := if_pos rfl
theorem addB_ne (G : Mem) {b x : Nat} (o : Obj) (h : x ≠ b) : addB G b o x = G x := if_neg h
theorem put0 {G : Mem} {b : Nat} {x y z : Value} {el : TypeId} (h : G b = some (.cells #[x, y] el (0, 0))) : PutG G (some ⟨b, 0, none⟩) 0 [z] (addB G b (.cells #[z, y] el (0, 0))) :=
 ⟨b, 0, _, _, (0, 0), rfl, h, thaw_zero _, Nat.le_succ 1, rfl⟩
theorem put1 {G : Mem} {b : Nat} {x y z : Value} {el : TypeId} (h : G b = some (.cells #[x, y] el (0, 0))) : PutG G (some ⟨b, 0, none⟩) 1 [z] (addB G b (.cells #[x, z] el (0, 0))) :=
 ⟨b, 0, _, _, (0, 0), rfl, h, thaw_zero _, Nat.le_refl 2, rfl⟩
theorem atC {I : Mem} {k off i : Nat} {cs : Array Value} {el : TypeId} {v : Value} (h : I k = some (.cells cs el)) (hv : cs[off + i]? = some v) : atI I (some ⟨k, off, none⟩) i = some v := by
 simp only [atI, Option.bind_some, Addr.add_lit, cellM, h, Option.isSome_none, Bool.false_eq_true, if_false];exact hv
theorem Rd.mono {I J G : Mem} {kb : Nat} {s : RS} (h : Rd I G kb s) (hle : I.le J) : Rd J G kb s := by
 obtain ⟨a, n, c, h1, h2, h3⟩ := h;exact ⟨a, n, c, h1, h2.mono hle, h3⟩
def nextR (s : RS) : Int × RS := if s.2 = true \/ (readN s.1 0).2.2 ≠ 0 then (0, [], true) else ((readN s.1 0).1, s.1.drop (readN s.1 0).2.1.toNat, false)
theorem rdTo_mk {I G : Mem} {kb : Nat} {o : Obj} {a : Option Addr} {n c : Nat} {bs : List Int} {b : Bool} (hs : SlM I a n 1 (ints .u8 bs)) (hc : n <= c) (hm : c <= maxLen) (hb : byteL bs) (hn : n <= 1000000) :
 RdTo I G (addB (addB G kb o) kb (.cells #[.slice a n c, .bool b] 94 (0, 0))) kb (bs, b) :=
 ⟨⟨a, n, c, addB_eq .., hs, hc, hm, hb, hn⟩, fun x hx => by rw [addB_ne _ _ hx, addB_ne _ _ hx]⟩
theorem rdTo_nil {I G : Mem} {kb : Nat} {o : Obj} {b : Bool} : RdTo I G (addB (addB G kb o) kb (.cells #[.slice none 0 0, .bool b] 94 (0, 0))) kb ([], b) :=
 rdTo_mk (sl_nil _ _) (Nat.le_refl 0) (Nat.zero_le _) (fun z hz => by cases hz) (Nat.zero_le _)
theorem ct39 (s : RS) (kb : Nat) (I G : Mem) (h : Rd I G kb s) :
 CtH Tryz.prog (fnv 39) #[.pointer (some ⟨kb, 0, none⟩)] I G (fun v I' G' => v = .int .u64 (nextR s).1 /\ RdTo I' G G' kb (nextR s).2) := by
 obtain ⟨a, n, c, hG, hs, hc, hm, hb, hn⟩ := h
 refine viaR (ctG_via (A := { calls := [(10, .g), (19, .g), (29, .g), (37, .g), (25, .st), (32, .st), (41, .st)] }) Tryz.func39 rfl Tryz.call39 rfl rfl) (true = true /\ true = true /\ ∃ b d e, atI G (some ⟨kb, 0, none⟩) 0 = some (.slice b d e) /\ Ct Tryz.prog (fnv 69) #[.slice b d e, .int .i64 0] I fun v f => ∃ g h i, v = .tuple #[.int .u64 g, .int .i64 h, .int .i64 i] /\ true = true /\ true = true /\ ∃ j, atI G (some ⟨kb, 0, none⟩) 1 = some (.bool j) /\ Br j (true = true /\ true = true /\ ∃ k, PutG G (some ⟨kb, 0, none⟩) 1 [.bool true] k /\ true = true /\ true = true /\ ∃ l, atI k (some ⟨kb, 0, none⟩) 1 = some (.bool l) /\ Br l (true = true /\ true = true /\ ∃ m, PutG k (some ⟨kb, 0, none⟩) 0 [.slice none 0 0] m /\ Value.int .u64 0 = .int .u64 (nextR s).1 /\ RdTo f G m kb (nextR s).2) (true = true /\ true = true /\ ∃ m o p, atI k (some ⟨kb, 0, none⟩) 0 = some (.slice m o p) /\ 0 <= h /\ h <= (o : Int) /\ true = true /\ true = true /\ ∃ q, PutG k (some ⟨kb, 0, none⟩) 0 [.slice (sladdr m p h.toNat 1) (o - h.toNat) (p - h.toNat)] q /\ Value.int .u64 g = .int .u64 (nextR s).1 /\ RdTo f G q kb (nextR s).2)) (true = true /\ true = true /\ ∃ k, PutG G (some ⟨kb, 0, none⟩) 1 [.bool (i != 0)] k /\ true = true /\ true = true /\ ∃ l, atI k (some ⟨kb, 0, none⟩) 1 = some (.bool l) /\ Br l (true = true /\ true = true /\ ∃ m, PutG k (some ⟨kb, 0, none⟩) 0 [.slice none 0 0] m /\ Value.int .u64 0 = .int .u64 (nextR s).1 /\ RdTo f G m kb (nextR s).2) (true = true /\ true = true /\ ∃ m o p, atI k (some ⟨kb, 0, none⟩) 0 = some (.slice m o p) /\ 0 <= h /\ h <= (o : Int) /\ true = true /\ true = true /\ ∃ q, PutG k (some ⟨kb, 0, none⟩) 0 [.slice (sladdr m p h.toNat 1) (o - h.toNat) (p - h.toNat)] q /\ Value.int .u64 g = .int .u64 (nextR s).1 /\ RdTo f G q kb (nextR s).2))) (by kernel_rfl) ?_
 refine ⟨rfl, rfl, a, n, c, atC hG rfl, (ct69 s.1 hb a n c 0 (by omega) I hs (by omega)).mono fun v I1 l1 hv => ⟨_, _, _, hv, rfl, rfl, s.2, atC hG rfl, Br.mk (fun h1 => ?_) (fun h1 => ?_)⟩⟩
 · have hq : nextR s = (0, [], true) := by rw [nextR, if_pos (.inl h1)]
   rw [hq];exact ⟨rfl, rfl, _, put1 hG, rfl, rfl, true, atC (addB_eq ..) rfl, Br.t rfl ⟨rfl, rfl, _, put0 (addB_eq ..), rfl, rdTo_nil⟩⟩
 refine ⟨rfl, rfl, _, put1 hG, rfl, rfl, _, atC (addB_eq ..) rfl, Br.mk (fun h2 => ?_) (fun h2 => ?_)⟩
 · have hq : nextR s = (0, [], true) := by rw [nextR, if_pos (.inr (by simpa using h2))]
   rw [hq];have hp := put0 (z := .slice none 0 0) (addB_eq G kb (.cells #[.slice a n c, .bool ((readN s.1 0).2.2 != 0)] 94 (0, 0)));rw [h2] at hp ⊢;exact ⟨rfl, rfl, _, hp, rfl, rdTo_nil⟩
 · have h3 : (readN s.1 0).2.2 = 0 := by simpa using h2
   obtain ⟨g1, g2, g3, g4, g5, g6, g7⟩ := readN_back hb (x := (readN s.1 0).1) (n := (readN s.1 0).2.1) (at_ := 0) (Prod.ext rfl (Prod.ext rfl h3))
   have hq : nextR s = ((readN s.1 0).1, s.1.drop (readN s.1 0).2.1.toNat, false) := by rw [nextR, if_neg (by rw [h1, h3]; simp)]
   have hln := hs.numLen;have hp := put0 (z := .slice (sladdr a c (readN s.1 0).2.1.toNat 1) (n - (readN s.1 0).2.1.toNat) (c - (readN s.1 0).2.1.toNat)) (addB_eq G kb (.cells #[.slice a n c, .bool ((readN s.1 0).2.2 != 0)] 94 (0, 0)));generalize (readN s.1 0).2.1 = k at *;rw [h2] at hp ⊢;rw [hq]
   have hsub := sl_sub (hs.mono l1) (f := k.toNat) (t := n) (by omega) (by omega) hc
   rw [List.take_of_length_le (by rw [List.length_drop]; omega)] at hsub
   exact ⟨rfl, rfl, _, _, _, atC (addB_eq ..) rfl, by omega, by omega, rfl, rfl, _, hp, rfl, rdTo_mk hsub (by omega) (by omega) (fun z hz => hb z (List.mem_of_mem_drop hz)) (by omega)⟩
theorem RdTo.trans {I J G G1 G2 : Mem} {kb : Nat} {s1 s2 : RS} (h : RdTo I G G1 kb s1) (h' : RdTo J G1 G2 kb s2) : RdTo J G G2 kb s2 :=
 ⟨h'.1, fun x hx => (h'.2 x hx).trans (h.2 x hx)⟩
theorem RdTo.mono {I J G G1 : Mem} {kb : Nat} {s : RS} (h : RdTo I G G1 kb s) (hle : I.le J) : RdTo J G G1 kb s := ⟨h.1.mono hle, h.2⟩
theorem nextR_range {s : RS} (hb : byteL s.1) : 0 <= (nextR s).1 /\ (nextR s).1 <= 18446744073709551615 := by
 unfold nextR;split
 · decide
 · rename_i h
   simp only [not_or, Decidable.not_not] at h;obtain ⟨g1, g2, g3, g4, _⟩ := readN_back hb (x := (readN s.1 0).1) (n := (readN s.1 0).2.1) (at_ := 0) (Prod.ext rfl (Prod.ext rfl h.2))
   simp only
   omega
def numQ (s : RS) : Int × RS := (IntKind.i64.wrap (nextR s).1, (nextR s).2.1, (nextR s).2.2 || decide (9223372036854775807 < (nextR s).1))
theorem ct31 (s : RS) (p : Int × RS) (hp : p = numQ s) (kb : Nat) (I G : Mem) (h : Rd I G kb s) :
 CtH Tryz.prog (fnv 31) #[.pointer (some ⟨kb, 0, none⟩)] I G (fun v I' G' => v = .int .i64 p.1 /\ RdTo I' G G' kb p.2) := by
 refine viaR (ctG_via (A := { calls := [(5, .g), (10, .g), (16, .st)] }) Tryz.func31 rfl Tryz.call31 rfl rfl) (CtH Tryz.prog (fnv 39) #[.pointer (some ⟨kb, 0, none⟩)] I G fun v a b => ∃ n, v = .int .u64 n /\ true = true /\ true = true /\ ∃ c, atI b (some ⟨kb, 0, none⟩) 1 = some (.bool c) /\ Br c (true = true /\ true = true /\ ∃ d, PutG b (some ⟨kb, 0, none⟩) 1 [.bool true] d /\ Wr .i64 n fun e => Value.int .i64 e = .int .i64 p.1 /\ RdTo a G d kb p.2) (true = true /\ true = true /\ ∃ d, PutG b (some ⟨kb, 0, none⟩) 1 [.bool (decide (9223372036854775807 < n))] d /\ Wr .i64 n fun e => Value.int .i64 e = .int .i64 p.1 /\ RdTo a G d kb p.2)) (by kernel_rfl) ?_
 have hbs : byteL s.1 := by obtain ⟨_, _, _, _, _, _, _, hb, _⟩ := h; exact hb
 refine (ct39 s kb I G h).mono fun v I1 G1 l1 ⟨hv, hr⟩ => ⟨_, hv, rfl, rfl, (nextR s).2.2, ?_⟩;obtain ⟨⟨a, n, c, hG, hs, hc, hm, hb, hn⟩, hx⟩ := hr;have hr := nextR_range hbs
 have fin : ∀ b : Bool, ∃ G', PutG G1 (some ⟨kb, 0, none⟩) 1 [.bool b] G' /\ RdTo I1 G G' kb ((nextR s).2.1, b) := fun b =>
  ⟨_, put1 hG, ⟨a, n, c, addB_eq .., hs, hc, hm, hb, hn⟩, fun x hxk => (addB_ne _ _ hxk).trans (hx x hxk)⟩
 refine ⟨atC hG rfl, Br.mk (fun hb => ?_) (fun hb => ?_)⟩
 · obtain ⟨G2, g1, g2⟩ := fin true
   refine ⟨rfl, rfl, G2, g1, _, rfl, ?_⟩;rw [hp, numQ, hb, Bool.true_or];exact ⟨rfl, g2⟩
 · obtain ⟨G2, g1, g2⟩ := fin (decide (9223372036854775807 < (nextR s).1))
   refine ⟨rfl, rfl, G2, g1, _, rfl, ?_⟩;rw [hp, numQ, hb, Bool.false_or];exact ⟨rfl, g2⟩
def keyQ (s : RS) : (Int × Int × Int) × RS := (((numQ s).1, (numQ (numQ s).2).1, (numQ (numQ (numQ s).2).2).1), (numQ (numQ (numQ s).2).2).2)
theorem ct32 (s : RS) (p : (Int × Int × Int) × RS) (hp : p = keyQ s) (kb : Nat) (I G : Mem) (h : Rd I G kb s) :
 CtH Tryz.prog (fnv 32) #[.pointer (some ⟨kb, 0, none⟩)] I G (fun v I' G' => v = .agg #[.int .i64 p.1.1, .int .i64 p.1.2.1, .int .i64 p.1.2.2] /\ RdTo I' G G' kb p.2) := by
 refine viaR (ctG_via (A := { calls := [(6, .g), (8, .g), (12, .g)] }) Tryz.func32 rfl Tryz.call32 rfl rfl) (CtH Tryz.prog (fnv 31) #[.pointer (some ⟨kb, 0, none⟩)] I G fun v a b => ∃ n, v = .int .i64 n /\ CtH Tryz.prog (fnv 31) #[.pointer (some ⟨kb, 0, none⟩)] a b fun c d e => ∃ f, c = .int .i64 f /\ CtH Tryz.prog (fnv 31) #[.pointer (some ⟨kb, 0, none⟩)] d e fun g i j => ∃ k, g = .int .i64 k /\ Value.agg #[.int .i64 n, .int .i64 f, .int .i64 k] = .agg #[.int .i64 p.1.1, .int .i64 p.1.2.1, .int .i64 p.1.2.2] /\ RdTo i G j kb p.2) (by kernel_rfl) ?_
 refine (ct31 s _ rfl kb I G h).mono fun v I1 G1 l1 ⟨hv, h1⟩ => ⟨_, hv, (ct31 _ _ rfl kb I1 G1 h1.1).mono fun v I2 G2 l2 ⟨hv, h2⟩ => ⟨_, hv, (ct31 _ _ rfl kb I2 G2 h2.1).mono fun v I3 G3 l3 ⟨hv, h3⟩ => ⟨_, hv, ?_⟩⟩⟩;rw [hp];exact ⟨rfl, h1.trans (h2.trans h3)⟩
abbrev EvT := (Int × Int × Int) × Int × Int
def evQ (s : RS) : EvT × RS := (((keyQ s).1, (numQ (keyQ s).2).1, unfoldZ (nextR (numQ (keyQ s).2).2).1), (nextR (numQ (keyQ s).2).2).2)
theorem byte_rd {I G : Mem} {kb : Nat} {s : RS} (h : Rd I G kb s) : byteL s.1 := by obtain ⟨_, _, _, _, _, _, _, hb, _⟩ := h; exact hb
theorem ct42 (s : RS) (p : EvT × RS) (hp : p = evQ s) (kb : Nat) (I G : Mem) (h : Rd I G kb s) :
 CtH Tryz.prog (fnv 42) #[.pointer (some ⟨kb, 0, none⟩)] I G (fun v I' G' => v = .agg #[.int .i64 p.1.1.1, .int .i64 p.1.1.2.1, .int .i64 p.1.1.2.2, .int .i64 p.1.2.1, .int .i64 p.1.2.2] /\ RdTo I' G G' kb p.2) := by
 refine viaR (ctG_via (A := { calls := [(6, .g), (8, .g), (12, .g)] }) Tryz.func42 rfl Tryz.call42 rfl rfl) (CtH Tryz.prog (fnv 32) #[.pointer (some ⟨kb, 0, none⟩)] I G fun v a b => ∃ n c d, v = .agg #[.int .i64 n, .int .i64 c, .int .i64 d] /\ CtH Tryz.prog (fnv 31) #[.pointer (some ⟨kb, 0, none⟩)] a b fun e f g => ∃ i, e = .int .i64 i /\ CtH Tryz.prog (fnv 39) #[.pointer (some ⟨kb, 0, none⟩)] f g fun j k l => ∃ m, j = .int .u64 m /\ Ct Tryz.prog (fnv 38) #[.int .u64 m] k fun o q => ∃ r, o = .int .i64 r /\ Value.agg #[.int .i64 n, .int .i64 c, .int .i64 d, .int .i64 i, .int .i64 r] = .agg #[.int .i64 p.1.1.1, .int .i64 p.1.1.2.1, .int .i64 p.1.1.2.2, .int .i64 p.1.2.1, .int .i64 p.1.2.2] /\ RdTo q G l kb p.2) (by kernel_rfl) ?_
 refine (ct32 s _ rfl kb I G h).mono fun v I1 G1 l1 ⟨hv, h1⟩ => ⟨_, _, _, hv, (ct31 _ _ rfl kb I1 G1 h1.1).mono fun v I2 G2 l2 ⟨hv, h2⟩ => ⟨_, hv, (ct39 _ kb I2 G2 h2.1).mono fun v I3 G3 l3 ⟨hv, h3⟩ => ⟨_, hv, (ct38 _ (nextR_range (byte_rd h2.1)) I3).mono fun v I4 l4 hv => ⟨_, hv, ?_⟩⟩⟩⟩;rw [hp];exact ⟨rfl, h1.trans (h2.trans (h3.mono l4))⟩
def valQ (s : RS) : Int × RS := (unfoldZ (nextR s).1, (nextR s).2)
theorem ct37 (s : RS) (p : Int × RS) (hp : p = valQ s) (kb kv : Nat) (el : TypeId) (I G : Mem) (h : Rd I G kb s) (hv : G kv = some (.cells #[.pointer (some ⟨kb, 0, none⟩)] el (0, 0))) :
 CtH Tryz.prog (fnv 37) #[.pointer (some ⟨kv, 0, none⟩)] I G (fun v I' G' => v = .int .i64 p.1 /\ RdTo I' G G' kb p.2) := by
 refine viaR (ctG_via (A := { calls := [(2, .g), (3, .g)] }) Tryz.func37 rfl Tryz.call37 rfl rfl) (∃ a, atI G (some ⟨kv, 0, none⟩) 0 = some (.pointer a) /\ CtH Tryz.prog (fnv 39) #[.pointer a] I G fun v b c => ∃ n, v = .int .u64 n /\ Ct Tryz.prog (fnv 38) #[.int .u64 n] b fun d e => ∃ f, d = .int .i64 f /\ Value.int .i64 f = .int .i64 p.1 /\ RdTo e G c kb p.2) (by kernel_rfl) ?_
 refine ⟨_, atC hv rfl, (ct39 s kb I G h).mono fun v I1 G1 l1 ⟨hv, h1⟩ => ⟨_, hv, (ct38 _ (nextR_range (byte_rd h)) I1).mono fun v I2 l2 hv => ⟨_, hv, ?_⟩⟩⟩;rw [hp];exact ⟨rfl, h1.mono l2⟩
abbrev HdT := Int × Int × Int × Int × Int
def hdQ (s : RS) : HdT × RS := (((numQ s).1, (numQ (numQ s).2).1, (numQ (numQ (numQ s).2).2).1, (numQ (numQ (numQ (numQ s).2).2).2).1, IntKind.u8.wrap (numQ (numQ (numQ (numQ (numQ s).2).2).2).2).1), ((numQ (numQ (numQ (numQ (numQ s).2).2).2).2).2.1, (numQ (numQ (numQ (numQ (numQ s).2).2).2).2).2.2 || decide (255 < (numQ (numQ (numQ (numQ (numQ s).2).2).2).2).1)))
theorem setBad {I G : Mem} {kb : Nat} {s : RS} (h : Rd I G kb s) (b : Bool) : ∃ G', PutG G (some ⟨kb, 0, none⟩) 1 [.bool b] G' /\ RdTo I G G' kb (s.1, b) := by
 obtain ⟨a, n, c, hG, hs, hc, hm, hb, hn⟩ := h;exact ⟨_, put1 hG, ⟨a, n, c, addB_eq .., hs, hc, hm, hb, hn⟩, fun x hxk => addB_ne _ _ hxk⟩
theorem Rd.bad {I G : Mem} {kb : Nat} {s : RS} (h : Rd I G kb s) : atI G (some ⟨kb, 0, none⟩) 1 = some (.bool s.2) := by
 obtain ⟨a, n, c, hG, _⟩ := h;exact atC hG rfl
theorem ct48 (s : RS) (p : HdT × RS) (hp : p = hdQ s) (kb : Nat) (I G : Mem) (h : Rd I G kb s) :
 CtH Tryz.prog (fnv 48) #[.pointer (some ⟨kb, 0, none⟩)] I G (fun v I' G' => v = .agg #[.int .i64 p.1.1, .int .i64 p.1.2.1, .int .i64 p.1.2.2.1, .int .i64 p.1.2.2.2.1, .int .u8 p.1.2.2.2.2] /\ RdTo I' G G' kb p.2) := by
 refine viaR (ctG_via (A := { calls := [(9, .g), (11, .g), (13, .g), (15, .g), (17, .g), (22, .g), (28, .st)] }) Tryz.func48 rfl Tryz.call48 rfl rfl) (CtH Tryz.prog (fnv 31) #[.pointer (some ⟨kb, 0, none⟩)] I G fun v a b => ∃ n, v = .int .i64 n /\ CtH Tryz.prog (fnv 31) #[.pointer (some ⟨kb, 0, none⟩)] a b fun c d e => ∃ f, c = .int .i64 f /\ CtH Tryz.prog (fnv 31) #[.pointer (some ⟨kb, 0, none⟩)] d e fun g i j => ∃ k, g = .int .i64 k /\ CtH Tryz.prog (fnv 31) #[.pointer (some ⟨kb, 0, none⟩)] i j fun l m o => ∃ q, l = .int .i64 q /\ CtH Tryz.prog (fnv 31) #[.pointer (some ⟨kb, 0, none⟩)] m o fun r t u => ∃ w, r = .int .i64 w /\ true = true /\ true = true /\ ∃ x, atI u (some ⟨kb, 0, none⟩) 1 = some (.bool x) /\ Br x (true = true /\ true = true /\ ∃ y, PutG u (some ⟨kb, 0, none⟩) 1 [.bool true] y /\ Wr .u8 w fun z => Value.agg #[.int .i64 n, .int .i64 f, .int .i64 k, .int .i64 q, .int .u8 z] = .agg #[.int .i64 p.1.1, .int .i64 p.1.2.1, .int .i64 p.1.2.2.1, .int .i64 p.1.2.2.2.1, .int .u8 p.1.2.2.2.2] /\ RdTo t G y kb p.2) (true = true /\ true = true /\ ∃ y, PutG u (some ⟨kb, 0, none⟩) 1 [.bool (decide (255 < w))] y /\ Wr .u8 w fun z => Value.agg #[.int .i64 n, .int .i64 f, .int .i64 k, .int .i64 q, .int .u8 z] = .agg #[.int .i64 p.1.1, .int .i64 p.1.2.1, .int .i64 p.1.2.2.1, .int .i64 p.1.2.2.2.1, .int .u8 p.1.2.2.2.2] /\ RdTo t G y kb p.2)) (by kernel_rfl) ?_
 refine (ct31 s _ rfl kb I G h).mono fun v I1 G1 l1 ⟨hv, h1⟩ => ⟨_, hv, (ct31 _ _ rfl kb I1 G1 h1.1).mono fun v I2 G2 l2 ⟨hv, h2⟩ => ⟨_, hv, (ct31 _ _ rfl kb I2 G2 h2.1).mono fun v I3 G3 l3 ⟨hv, h3⟩ => ⟨_, hv, (ct31 _ _ rfl kb I3 G3 h3.1).mono fun v I4 G4 l4 ⟨hv, h4⟩ => ⟨_, hv, (ct31 _ _ rfl kb I4 G4 h4.1).mono fun v I5 G5 l5 ⟨hv, h5⟩ => ⟨_, hv, rfl, rfl, _, h5.1.bad, Br.mk (fun hb => ?_) (fun hb => ?_)⟩⟩⟩⟩⟩
 · obtain ⟨G6, g1, g2⟩ := setBad h5.1 true
   refine ⟨rfl, rfl, G6, g1, _, rfl, ?_⟩;rw [hp, hdQ, hb, Bool.true_or];exact ⟨rfl, h1.trans (h2.trans (h3.trans (h4.trans (h5.trans g2))))⟩
 · obtain ⟨G6, g1, g2⟩ := setBad h5.1 (decide (255 < (numQ (numQ (numQ (numQ (numQ s).2).2).2).2).1))
   refine ⟨rfl, rfl, G6, g1, _, rfl, ?_⟩;rw [hp, hdQ, hb, Bool.false_or];exact ⟨rfl, h1.trans (h2.trans (h3.trans (h4.trans (h5.trans g2))))⟩
def strB (bs : List Int) : ByteArray := ⟨(u8s bs).toArray⟩
abbrev PtT := Int × List Int × Int
def szQ (s : RS) : Int × RS := numQ (numQ (numQ s).2).2
def portQ (s : RS) : PtT × RS :=
 if (szQ s).2.2 = true \/ ((szQ s).2.1.length : Int) < (szQ s).1 then ((0, [], 0), ((szQ s).2.1, true))
 else (((numQ s).1, (szQ s).2.1.take (szQ s).1.toNat, (numQ (numQ s).2).1), ((szQ s).2.1.drop (szQ s).1.toNat, false))
theorem numQ_nn {s : RS} (hb : byteL s.1) (h : (numQ s).2.2 = false) : 0 <= (numQ s).1 := by
 have hr := nextR_range hb;simp only [numQ, Bool.or_eq_false_iff, decide_eq_false_iff_not] at h ⊢
 rw [IntWalk.i64_in _ ⟨by omega, by omega⟩]
 exact hr.1
theorem ct45 (s : RS) (p : PtT × RS) (hp : p = portQ s) (kb : Nat) (I G : Mem) (h : Rd I G kb s) :
 CtH Tryz.prog (fnv 45) #[.pointer (some ⟨kb, 0, none⟩)] I G (fun v I' G' => v = .agg #[.int .i64 p.1.1, .string (strB p.1.2.1), .int .i64 p.1.2.2] /\ RdTo I' G G' kb p.2) := by
 refine viaR (ctG_via (A := { calls := [(8, .g), (10, .g), (12, .g), (17, .g), (23, .g), (28, .st), (32, .g), (37, .g), (45, .g), (49, .st)] }) Tryz.func45 rfl Tryz.call45 rfl rfl) (CtH Tryz.prog (fnv 31) #[.pointer (some ⟨kb, 0, none⟩)] I G fun (v : Value) (a : Mem) (b : Mem) => ∃ (n : Int), v = .int .i64 n /\ CtH Tryz.prog (fnv 31) #[.pointer (some ⟨kb, 0, none⟩)] a b fun (c : Value) (d : Mem) (e : Mem) => ∃ (f : Int), c = .int .i64 f /\ CtH Tryz.prog (fnv 31) #[.pointer (some ⟨kb, 0, none⟩)] d e fun (g : Value) (i : Mem) (j : Mem) => ∃ (k : Int), g = .int .i64 k /\ true = true /\ true = true /\ ∃ (l : Bool), atI j (some ⟨kb, 0, none⟩) 1 = some (.bool l) /\ Br l (true = true /\ true = true /\ ∃ (m : Mem), PutG j (some ⟨kb, 0, none⟩) 1 [.bool true] m /\ true = true /\ true = true /\ ∃ (o : Bool), atI m (some ⟨kb, 0, none⟩) 1 = some (.bool o) /\ Br o (Value.agg #[.int .i64 0, .string ⟨#[]⟩, .int .i64 0] = .agg #[.int .i64 p.1.1, .string (strB p.1.2.1), .int .i64 p.1.2.2] /\ RdTo i G m kb p.2) (true = true /\ true = true /\ ∃ (q : Option Addr) (r t : Nat), atI m (some ⟨kb, 0, none⟩) 0 = some (.slice q r t) /\ 0 <= k /\ k <= (t : Int) /\ ∃ (u : List UInt8), u.length = k.toNat /\ (q = none -> k.toNat = 0) /\ (∀ (w : Nat) (x : UInt8), u[w]? = some x -> atI i q w = some (.int .u8 (x.toNat : Int))) /\ true = true /\ true = true /\ ∃ (w : Option Addr) (x y : Nat), atI m (some ⟨kb, 0, none⟩) 0 = some (.slice w x y) /\ 0 <= k /\ k <= (x : Int) /\ true = true /\ true = true /\ ∃ (z : Mem), PutG m (some ⟨kb, 0, none⟩) 0 [.slice (sladdr w y k.toNat 1) (x - k.toNat) (y - k.toNat)] z /\ Value.agg #[.int .i64 n, .string ⟨u.toArray⟩, .int .i64 f] = .agg #[.int .i64 p.1.1, .string (strB p.1.2.1), .int .i64 p.1.2.2] /\ RdTo i G z kb p.2)) (true = true /\ true = true /\ ∃ (m : Option Addr) (o q : Nat), atI j (some ⟨kb, 0, none⟩) 0 = some (.slice m o q) /\ true = true /\ true = true /\ ∃ (r : Mem), PutG j (some ⟨kb, 0, none⟩) 1 [.bool (decide ((o : Int) < k))] r /\ true = true /\ true = true /\ ∃ (t : Bool), atI r (some ⟨kb, 0, none⟩) 1 = some (.bool t) /\ Br t (Value.agg #[.int .i64 0, .string ⟨#[]⟩, .int .i64 0] = .agg #[.int .i64 p.1.1, .string (strB p.1.2.1), .int .i64 p.1.2.2] /\ RdTo i G r kb p.2) (true = true /\ true = true /\ ∃ (u : Option Addr) (w x : Nat), atI r (some ⟨kb, 0, none⟩) 0 = some (.slice u w x) /\ 0 <= k /\ k <= (x : Int) /\ ∃ (y : List UInt8), y.length = k.toNat /\ (u = none -> k.toNat = 0) /\ (∀ (z : Nat) (b1 : UInt8), y[z]? = some b1 -> atI i u z = some (.int .u8 (b1.toNat : Int))) /\ true = true /\ true = true /\ ∃ (z : Option Addr) (n1 c1 : Nat), atI r (some ⟨kb, 0, none⟩) 0 = some (.slice z n1 c1) /\ 0 <= k /\ k <= (n1 : Int) /\ true = true /\ true = true /\ ∃ (G1 : Mem), PutG r (some ⟨kb, 0, none⟩) 0 [.slice (sladdr z c1 k.toNat 1) (n1 - k.toNat) (c1 - k.toNat)] G1 /\ Value.agg #[.int .i64 n, .string ⟨y.toArray⟩, .int .i64 f] = .agg #[.int .i64 p.1.1, .string (strB p.1.2.1), .int .i64 p.1.2.2] /\ RdTo i G G1 kb p.2))) (by kernel_rfl) ?_
 refine (ct31 s _ rfl kb I G h).mono fun v I1 G1 l1 ⟨hv, h1⟩ => ⟨_, hv, (ct31 _ _ rfl kb I1 G1 h1.1).mono fun v I2 G2 l2 ⟨hv, h2⟩ => ⟨_, hv, (ct31 _ _ rfl kb I2 G2 h2.1).mono fun v I3 G3 l3 ⟨hv, h3⟩ => ⟨_, hv, rfl, rfl, _, h3.1.bad, ?_⟩⟩⟩;have h3 : RdTo I3 G2 G3 kb (szQ s).2 := h3;have hb2 := byte_rd h2.1;have hnn : (szQ s).2.2 = false -> 0 <= (szQ s).1 := numQ_nn hb2;have hz : (numQ (numQ (numQ s).2).2) = szQ s := rfl;rw [hz];have h03 : ∀ {G4 : Mem} {t : RS}, RdTo I3 G3 G4 kb t -> RdTo I3 G G4 kb t := fun g => h1.trans (h2.trans (h3.trans g))
 obtain ⟨⟨a, n, c, hG, hs, hc, hm, hbb, hn⟩, hx⟩ := id h3;have hln := hs.numLen;have R : ∀ {b : Bool}, RdTo I3 G3 (addB G3 kb (.cells #[.slice a n c, .bool b] 94 (0, 0))) kb ((szQ s).2.1, b) := fun {b} => ⟨⟨a, n, c, addB_eq .., hs, hc, hm, hbb, hn⟩, fun x hxk => addB_ne _ _ hxk⟩;refine Br.mk (fun hb => ?_) (fun hb => ⟨rfl, rfl, _, _, _, atC hG rfl, rfl, rfl, _, put1 hG, rfl, rfl, _, atC (addB_eq ..) rfl, Br.mk (fun hlt => ?_) (fun hge => ?_)⟩)
 · refine ⟨rfl, rfl, _, put1 hG, rfl, rfl, _, atC (addB_eq ..) rfl, Br.t rfl ?_⟩
   rw [hp, portQ, if_pos (.inl hb)];exact ⟨rfl, h03 R⟩
 · rw [hlt]
   have hlt := of_decide_eq_true hlt
   rw [hp, portQ, if_pos (.inr (by omega))]
   exact ⟨rfl, h03 R⟩
 · have hge' := of_decide_eq_false hge
   have h0 := hnn hb
   have hs2 := sl_take hs (k := (szQ s).1.toNat) (by omega)
   obtain ⟨q1, q2, q3⟩ := u8s_at (fun z hz => hbb z (List.mem_of_mem_take hz)) hs2
   have hsub := sl_sub hs (f := (szQ s).1.toNat) (t := n) (by omega) (by omega) hc
   rw [List.take_of_length_le (by rw [List.length_drop]; omega)] at hsub
   refine ⟨rfl, rfl, _, _, _, atC (addB_eq ..) rfl, h0, by omega, _, q1, q2, q3, rfl, rfl, _, _, _, atC (addB_eq ..) rfl, h0, by omega, rfl, rfl, _, put0 (addB_eq ..), ?_⟩
   rw [hp, portQ, if_neg (by rw [hb]; simp; omega)]
   refine ⟨rfl, h03 ?_⟩;rw [hge]
   exact rdTo_mk hsub (by omega) (by omega) (fun z hz => hbb z (List.mem_of_mem_drop hz)) (by omega)
set_option maxHeartbeats 1000000
theorem join_comm {A B : Mem} (h : A.apart B) : join A B = join B A := by
 funext b
 cases hA : A b with
 | some o =>
   have hB := (h b).resolve_left (by rw [hA]; simp)
   rw [join_some hA, join_none hB, hA]
 | none =>
   rw [join_none hA]
   cases hB : B b with
   | some o => rw [join_some hB]
   | none => rw [join_none hB, hA]
theorem apart_comm {A B : Mem} (h : A.apart B) : B.apart A := fun b => (h b).symm
def runAll {α : Type} (take : RS -> α × RS) : Nat -> RS -> List α × RS
 | 0, s => ([], s)
 | k + 1, s => if s.1 = [] \/ s.2 = true then ([], s) else ((take s).1 :: (runAll take k (take s).2).1, (runAll take k (take s).2).2)
theorem runAll_done {α : Type} {take : RS -> α × RS} {s : RS} (h : s.1 = [] \/ s.2 = true) : ∀ k, runAll take k s = ([], s)
 | 0 => rfl
 | k + 1 => by rw [runAll, if_pos h]
theorem runAll_step {α : Type} {take : RS -> α × RS} {k : Nat} {s : RS} (h : ¬ (s.1 = [] \/ s.2 = true)) : runAll take (k + 1) s = ((take s).1 :: (runAll take k (take s).2).1, (runAll take k (take s).2).2) := by rw [runAll, if_neg h]
def TakeOk {α : Type} (take : RS -> α × RS) (enc : α -> Value) (tv : Value) (X : Mem) (kb : Nat) (I : Mem) : Prop :=
 ∀ (s : RS) (I' G : Mem), I.le I' -> X.le G -> Rd I' G kb s -> CtH Tryz.prog tv #[] I' G (fun v I2 G2 => v = enc (take s).1 /\ RdTo I2 G G2 kb (take s).2)
def Dec {α : Type} (take : RS -> α × RS) : Prop := ∀ s : RS, byteL s.1 -> s.1 ≠ [] -> s.2 = false -> (take s).2.1.length < s.1.length
def encA {α : Type} (enc : α -> Value) (l : List α) (k : Nat) (args : Array Value) (_ : Mem) : Prop := ∃ x, l[k]? = some x /\ args = #[enc x]
def R0A (X : Mem) (kb : Nat) (I : Mem) (s : RS) (G : Mem) : Prop := Rd I G kb s /\ X.le G
def R1A (X : Mem) (kb : Nat) (s : RS) (I G : Mem) : Prop := Rd I G kb s /\ X.le G
def invA {α : Type} (take : RS -> α × RS) (N : Nat) (s : RS) (J : Nat -> Mem -> Mem -> Prop) (X : Mem) (kb : Nat) (j : Nat) (I' G' : Mem) : Prop :=
 ∃ (t : RS) (pre : List α) (Gc Gr : Mem), G' = join Gc Gr /\ Gc.apart Gr /\ J pre.length I' Gc /\ Rd I' Gr kb t /\ X.le Gr /\ t.1.length <= j /\ runAll take N s = (pre ++ (runAll take j t).1, (runAll take j t).2)
theorem le_rd {I G G' : Mem} {kb : Nat} {s : RS} {X : Mem} (hX : X.le G) (hk : X kb = none) (h : RdTo I G G' kb s) : X.le G' := fun b o hb => by
 by_cases hbk : b = kb
 · subst hbk; rw [hk] at hb; cases hb
 · rw [h.2 b hbk]; exact hX b o hb
set_option maxHeartbeats 1000000 in
theorem gives77 (take : RS -> Int × RS) (hd : Dec take) (s : RS) (kb k1 k2 : Nat) (f : FuncId) (fa fb : Array Value) (X : Mem) (hX : X kb = none) (I : Mem) (h1 : I k1 = some (.cells #[.pointer (some ⟨kb, 0, none⟩)] 92)) (h2 : I k2 = some (.cells #[.func (.func f) fa fb] 95))
 (T : TakeOk take (fun x => .int .i64 x) (.func (.func f) fa fb) X kb I) :
 GivesR Tryz.prog (.func (.func 66) #[] #[.pointer (some ⟨k1, 0, none⟩), .pointer (some ⟨k2, 0, none⟩)]) I (runAll take s.1.length s).1.length (encA (fun x => .int .i64 x) (runAll take s.1.length s).1) (R0A X kb I s) (R1A X kb (runAll take s.1.length s).2) := by
 refine ⟨fun Y W => ⟨66, _, run_semV_func.trans (Tryz.call66 _ _)⟩, fun Y J D I0 Gc Gr hI0 hJ0 hR0 hap hJ hD hY => ?_⟩
 refine viaR (ctG_via (A := { gloops := [(0, ⟨[(0, .keep), (1, .keep), (2, .keep)], [], [], fun _ _ _ _ => True, fun _ _ => 0⟩, fun j _ _ I' G' => invA take s.1.length s J X kb j I' G')], calls := [(8, .g), (15, .g), (19, .g), (22, .g)] }) Tryz.func66 rfl Tryz.call66 rfl rfl) ((Rf (SV.v Y) /\ Rf (SV.v (.pointer (some ⟨k1, 0, none⟩))) /\ Rf (SV.v (.pointer (some ⟨k2, 0, none⟩))) /\ ∃ j, invA take s.1.length s J X kb j I0 (join Gc Gr)) /\ ∀ (a G : Mem), Mem.le I0 a -> ∀ (j : Nat), invA take s.1.length s J X kb j a G -> ∃ b, atI a (some ⟨k1, 0, none⟩) 0 = some (.pointer b) /\ b.isSome = true /\ b.isSome = true /\ ∃ c n d, atI G b 0 = some (.slice c n d) /\ Br (decide (0 < (n : Int))) (∃ e, atI a (some ⟨k1, 0, none⟩) 0 = some (.pointer e) /\ e.isSome = true /\ e.isSome = true /\ ∃ g, atI G e 1 = some (.bool g) /\ Br (!g) (∃ x, atI a (some ⟨k2, 0, none⟩) 0 = some x /\ CtH Tryz.prog x #[] a G fun v h i => ∃ k, v = .int .i64 k /\ CtH Tryz.prog Y #[.int .i64 k] h i fun l m o => ∃ p, l = .bool p /\ Br (!p) (∃ q r, o = join q r /\ (∀ (t : Nat), q t = none \/ r t = none) /\ (J (runAll take s.1.length s).1.length m q /\ R1A X kb (runAll take s.1.length s).2 m r \/ D m q)) (Rf (SV.v Y) /\ Rf (SV.v (.pointer (some ⟨k1, 0, none⟩))) /\ Rf (SV.v (.pointer (some ⟨k2, 0, none⟩))) /\ ∃ q, q < j /\ invA take s.1.length s J X kb q m o)) (∃ h i, G = join h i /\ (∀ (k : Nat), h k = none \/ i k = none) /\ (J (runAll take s.1.length s).1.length a h /\ R1A X kb (runAll take s.1.length s).2 a i \/ D a h))) (∃ e g, G = join e g /\ (∀ (h : Nat), e h = none \/ g h = none) /\ (J (runAll take s.1.length s).1.length a e /\ R1A X kb (runAll take s.1.length s).2 a g \/ D a e))) (by kernel_rfl) ?_
 have hmx : maxLen = 9223372036854775807 := by decide
 refine ⟨⟨rfl, rfl, rfl, s.1.length, s, [], Gc, Gr, rfl, hap, hJ0, hR0.1.mono hI0, hR0.2, Nat.le_refl _, rfl⟩, ?_⟩;intro I1 G1 l1 j ⟨t, pre, Gc1, Gr1, hG, hap1, hJ1, hrd, hXG, hlen, hrun⟩;subst hG;have c1 : atI I1 (some ⟨k1, 0, none⟩) 0 = some (.pointer (some ⟨kb, 0, none⟩)) := atC (l1 _ _ (hI0 _ _ h1)) rfl;have c2 : atI I1 (some ⟨k2, 0, none⟩) 0 = some (.func (.func f) fa fb) := atC (l1 _ _ (hI0 _ _ h2)) rfl;obtain ⟨a, n, c, hGr, hs, hc, hm, hb, hn⟩ := id hrd;have hGj := join_right hap1 hGr;have hln := hs.numLen
 have done : (t.1 = [] \/ t.2 = true) -> ∃ Gc' Gr', join Gc1 Gr1 = join Gc' Gr' /\ Gc'.apart Gr' /\ ((J (runAll take s.1.length s).1.length I1 Gc' /\ R1A X kb (runAll take s.1.length s).2 I1 Gr') \/ D I1 Gc') := fun he => by
  rw [runAll_done he, List.append_nil] at hrun;rw [hrun];exact ⟨Gc1, Gr1, rfl, hap1, .inl ⟨hJ1, hrd, hXG⟩⟩
 refine ⟨_, c1, rfl, rfl, _, _, _, atC hGj rfl, Br.mk (fun hpos => ?_) (fun hzero => ?_)⟩
 rotate_left
 · have hzero := of_decide_eq_false hzero
   exact done (.inl (List.eq_nil_of_length_eq_zero (by omega)))
 have hpos := of_decide_eq_true hpos;refine ⟨_, c1, rfl, rfl, _, atC hGj rfl, Br.mk (fun hnb => ?_) (fun hbad => ?_)⟩
 rotate_left
 · exact done (.inr (by simpa using hbad))
 have hnb : t.2 = false := by simpa using hnb
 have hne : t.1 ≠ [] := fun h => by rw [h] at hln; simp at hln; omega
 have hgo : ¬ (t.1 = [] \/ t.2 = true) := by rw [hnb]; simpa using hne
 obtain ⟨j', rfl⟩ : ∃ j', j = j' + 1 := ⟨j - 1, by omega⟩
 rw [runAll_step hgo] at hrun;refine ⟨_, c2, ?_⟩;rw [join_comm hap1];refine ((T t I1 Gr1 (Mem.le_trans hI0 l1) hXG hrd).frame (apart_comm hap1)).mono ?_;rintro v I2 G2 l2 ⟨Gr2, rfl, hap2, hv, hto⟩;refine ⟨_, hv, ?_⟩;rw [join_comm hap2];have hk := hd t hb hne hnb
 have hget : (runAll take s.1.length s).1[pre.length]? = some (take t).1 := by rw [hrun]; simp
 have hlt : pre.length < (runAll take s.1.length s).1.length := (List.getElem?_eq_some_iff.1 hget).1;refine ((hY pre.length I2 Gc1 _ hlt (Mem.le_trans l1 l2) (hJ _ _ _ _ hJ1 l2) ⟨_, hget, rfl⟩).frame (apart_comm hap2)).mono ?_;rintro v I3 G3 l3 ⟨Gc3, rfl, hap3, hv⟩
 rcases hv with ⟨hv, hj⟩ | ⟨hv, hdd⟩
 · refine ⟨true, hv, Br.f rfl ⟨rfl, rfl, rfl, j', Nat.lt_succ_self _, (take t).2, pre ++ [(take t).1], Gc3, Gr2, rfl, hap3, by rw [List.length_append]; exact hj, hto.1.mono l3, le_rd hXG hX hto, by omega, ?_⟩⟩
   rw [hrun, List.append_assoc]; rfl
 · exact ⟨false, hv, Br.t rfl ⟨Gc3, Gr2, rfl, hap3, .inr hdd⟩⟩
theorem ct34 (kb : Nat) (f : FuncId) (fa fb : Array Value) (I : Mem) :
 Ct Tryz.prog (fnv 34) #[.pointer (some ⟨kb, 0, none⟩), .func (.func f) fa fb] I (fun v I' => ∃ k1 k2, v = .func (.func 66) #[] #[.pointer (some ⟨k1, 0, none⟩), .pointer (some ⟨k2, 0, none⟩)] /\ I' k1 = some (.cells #[.pointer (some ⟨kb, 0, none⟩)] 92) /\ I' k2 = some (.cells #[.func (.func f) fa fb] 95)) := by
 refine viaR (ct_via (A := {}) Tryz.func34 rfl Tryz.call34 rfl rfl) (∀ (b : Nat) (a : Mem), I.le a -> a b = some (.cells #[.pointer (some ⟨kb, 0, none⟩)] 92 (0, 0)) -> ∀ (c : Nat) (d : Mem), a.le d -> d c = some (.cells #[.func (.func f) fa fb] 95 (0, 0)) -> ∃ k e, Value.func (.func 66) #[] #[.pointer (some ⟨b, 0, none⟩), .pointer (some ⟨c, 0, none⟩)] = .func (.func 66) #[] #[.pointer (some ⟨k, 0, none⟩), .pointer (some ⟨e, 0, none⟩)] /\ d k = some (.cells #[.pointer (some ⟨kb, 0, none⟩)] 92 (0, 0)) /\ d e = some (.cells #[.func (.func f) fa fb] 95 (0, 0))) (by kernel_rfl) ?_
 exact fun b I1 l1 h1 b1 I2 l2 h2 => ⟨b, b1, rfl, l2 _ _ h1, h2⟩
set_option maxHeartbeats 1000000 in
theorem gives79 (take : RS -> Int × RS) (hd : Dec take) (s : RS) (kb k1 k2 : Nat) (f : FuncId) (fa fb : Array Value) (X : Mem) (hX : X kb = none) (I : Mem) (h1 : I k1 = some (.cells #[.pointer (some ⟨kb, 0, none⟩)] 92)) (h2 : I k2 = some (.cells #[.func (.func f) fa fb] 107))
 (T : TakeOk take (fun x => .int .i64 x) (.func (.func f) fa fb) X kb I) :
 GivesR Tryz.prog (.func (.func 68) #[] #[.pointer (some ⟨k1, 0, none⟩), .pointer (some ⟨k2, 0, none⟩)]) I (runAll take s.1.length s).1.length (encA (fun x => .int .i64 x) (runAll take s.1.length s).1) (R0A X kb I s) (R1A X kb (runAll take s.1.length s).2) := by
 refine ⟨fun Y W => ⟨68, _, run_semV_func.trans (Tryz.call68 _ _)⟩, fun Y J D I0 Gc Gr hI0 hJ0 hR0 hap hJ hD hY => ?_⟩
 refine viaR (ctG_via (A := { gloops := [(0, ⟨[(0, .keep), (1, .keep), (2, .keep)], [], [], fun _ _ _ _ => True, fun _ _ => 0⟩, fun j _ _ I' G' => invA take s.1.length s J X kb j I' G')], calls := [(8, .g), (15, .g), (19, .g), (22, .g)] }) Tryz.func68 rfl Tryz.call68 rfl rfl) ((Rf (SV.v Y) /\ Rf (SV.v (.pointer (some ⟨k1, 0, none⟩))) /\ Rf (SV.v (.pointer (some ⟨k2, 0, none⟩))) /\ ∃ j, invA take s.1.length s J X kb j I0 (join Gc Gr)) /\ ∀ (a G : Mem), Mem.le I0 a -> ∀ (j : Nat), invA take s.1.length s J X kb j a G -> ∃ b, atI a (some ⟨k1, 0, none⟩) 0 = some (.pointer b) /\ b.isSome = true /\ b.isSome = true /\ ∃ c n d, atI G b 0 = some (.slice c n d) /\ Br (decide (0 < (n : Int))) (∃ e, atI a (some ⟨k1, 0, none⟩) 0 = some (.pointer e) /\ e.isSome = true /\ e.isSome = true /\ ∃ g, atI G e 1 = some (.bool g) /\ Br (!g) (∃ x, atI a (some ⟨k2, 0, none⟩) 0 = some x /\ CtH Tryz.prog x #[] a G fun v h i => ∃ k, v = .int .i64 k /\ CtH Tryz.prog Y #[.int .i64 k] h i fun l m o => ∃ p, l = .bool p /\ Br (!p) (∃ q r, o = join q r /\ (∀ (t : Nat), q t = none \/ r t = none) /\ (J (runAll take s.1.length s).1.length m q /\ R1A X kb (runAll take s.1.length s).2 m r \/ D m q)) (Rf (SV.v Y) /\ Rf (SV.v (.pointer (some ⟨k1, 0, none⟩))) /\ Rf (SV.v (.pointer (some ⟨k2, 0, none⟩))) /\ ∃ q, q < j /\ invA take s.1.length s J X kb q m o)) (∃ h i, G = join h i /\ (∀ (k : Nat), h k = none \/ i k = none) /\ (J (runAll take s.1.length s).1.length a h /\ R1A X kb (runAll take s.1.length s).2 a i \/ D a h))) (∃ e g, G = join e g /\ (∀ (h : Nat), e h = none \/ g h = none) /\ (J (runAll take s.1.length s).1.length a e /\ R1A X kb (runAll take s.1.length s).2 a g \/ D a e))) (by kernel_rfl) ?_
 have hmx : maxLen = 9223372036854775807 := by decide
 refine ⟨⟨rfl, rfl, rfl, s.1.length, s, [], Gc, Gr, rfl, hap, hJ0, hR0.1.mono hI0, hR0.2, Nat.le_refl _, rfl⟩, ?_⟩;intro I1 G1 l1 j ⟨t, pre, Gc1, Gr1, hG, hap1, hJ1, hrd, hXG, hlen, hrun⟩;subst hG;have c1 : atI I1 (some ⟨k1, 0, none⟩) 0 = some (.pointer (some ⟨kb, 0, none⟩)) := atC (l1 _ _ (hI0 _ _ h1)) rfl;have c2 : atI I1 (some ⟨k2, 0, none⟩) 0 = some (.func (.func f) fa fb) := atC (l1 _ _ (hI0 _ _ h2)) rfl;obtain ⟨a, n, c, hGr, hs, hc, hm, hb, hn⟩ := id hrd;have hGj := join_right hap1 hGr;have hln := hs.numLen
 have done : (t.1 = [] \/ t.2 = true) -> ∃ Gc' Gr', join Gc1 Gr1 = join Gc' Gr' /\ Gc'.apart Gr' /\ ((J (runAll take s.1.length s).1.length I1 Gc' /\ R1A X kb (runAll take s.1.length s).2 I1 Gr') \/ D I1 Gc') := fun he => by
  rw [runAll_done he, List.append_nil] at hrun;rw [hrun];exact ⟨Gc1, Gr1, rfl, hap1, .inl ⟨hJ1, hrd, hXG⟩⟩
 refine ⟨_, c1, rfl, rfl, _, _, _, atC hGj rfl, Br.mk (fun hpos => ?_) (fun hzero => ?_)⟩
 rotate_left
 · have hzero := of_decide_eq_false hzero
   exact done (.inl (List.eq_nil_of_length_eq_zero (by omega)))
 have hpos := of_decide_eq_true hpos;refine ⟨_, c1, rfl, rfl, _, atC hGj rfl, Br.mk (fun hnb => ?_) (fun hbad => ?_)⟩
 rotate_left
 · exact done (.inr (by simpa using hbad))
 have hnb : t.2 = false := by simpa using hnb
 have hne : t.1 ≠ [] := fun h => by rw [h] at hln; simp at hln; omega
 have hgo : ¬ (t.1 = [] \/ t.2 = true) := by rw [hnb]; simpa using hne
 obtain ⟨j', rfl⟩ : ∃ j', j = j' + 1 := ⟨j - 1, by omega⟩
 rw [runAll_step hgo] at hrun;refine ⟨_, c2, ?_⟩;rw [join_comm hap1];refine ((T t I1 Gr1 (Mem.le_trans hI0 l1) hXG hrd).frame (apart_comm hap1)).mono ?_;rintro v I2 G2 l2 ⟨Gr2, rfl, hap2, hv, hto⟩;refine ⟨_, hv, ?_⟩;rw [join_comm hap2];have hk := hd t hb hne hnb
 have hget : (runAll take s.1.length s).1[pre.length]? = some (take t).1 := by rw [hrun]; simp
 have hlt : pre.length < (runAll take s.1.length s).1.length := (List.getElem?_eq_some_iff.1 hget).1;refine ((hY pre.length I2 Gc1 _ hlt (Mem.le_trans l1 l2) (hJ _ _ _ _ hJ1 l2) ⟨_, hget, rfl⟩).frame (apart_comm hap2)).mono ?_;rintro v I3 G3 l3 ⟨Gc3, rfl, hap3, hv⟩
 rcases hv with ⟨hv, hj⟩ | ⟨hv, hdd⟩
 · refine ⟨true, hv, Br.f rfl ⟨rfl, rfl, rfl, j', Nat.lt_succ_self _, (take t).2, pre ++ [(take t).1], Gc3, Gr2, rfl, hap3, by rw [List.length_append]; exact hj, hto.1.mono l3, le_rd hXG hX hto, by omega, ?_⟩⟩
   rw [hrun, List.append_assoc]; rfl
 · exact ⟨false, hv, Br.t rfl ⟨Gc3, Gr2, rfl, hap3, .inr hdd⟩⟩
theorem ct36 (kb : Nat) (f : FuncId) (fa fb : Array Value) (I : Mem) :
 Ct Tryz.prog (fnv 36) #[.pointer (some ⟨kb, 0, none⟩), .func (.func f) fa fb] I (fun v I' => ∃ k1 k2, v = .func (.func 68) #[] #[.pointer (some ⟨k1, 0, none⟩), .pointer (some ⟨k2, 0, none⟩)] /\ I' k1 = some (.cells #[.pointer (some ⟨kb, 0, none⟩)] 92) /\ I' k2 = some (.cells #[.func (.func f) fa fb] 107)) := by
 refine viaR (ct_via (A := {}) Tryz.func36 rfl Tryz.call36 rfl rfl) (∀ (b : Nat) (a : Mem), I.le a -> a b = some (.cells #[.pointer (some ⟨kb, 0, none⟩)] 92 (0, 0)) -> ∀ (c : Nat) (d : Mem), a.le d -> d c = some (.cells #[.func (.func f) fa fb] 107 (0, 0)) -> ∃ k e, Value.func (.func 68) #[] #[.pointer (some ⟨b, 0, none⟩), .pointer (some ⟨c, 0, none⟩)] = .func (.func 68) #[] #[.pointer (some ⟨k, 0, none⟩), .pointer (some ⟨e, 0, none⟩)] /\ d k = some (.cells #[.pointer (some ⟨kb, 0, none⟩)] 92 (0, 0)) /\ d e = some (.cells #[.func (.func f) fa fb] 107 (0, 0))) (by kernel_rfl) ?_
 exact fun b I1 l1 h1 b1 I2 l2 h2 => ⟨b, b1, rfl, l2 _ _ h1, h2⟩
set_option maxHeartbeats 1000000 in
theorem gives82 (take : RS -> EvT × RS) (hd : Dec take) (s : RS) (kb k1 k2 : Nat) (f : FuncId) (fa fb : Array Value) (X : Mem) (hX : X kb = none) (I : Mem) (h1 : I k1 = some (.cells #[.pointer (some ⟨kb, 0, none⟩)] 92)) (h2 : I k2 = some (.cells #[.func (.func f) fa fb] 112))
 (T : TakeOk take (fun x => .agg #[.int .i64 x.1.1, .int .i64 x.1.2.1, .int .i64 x.1.2.2, .int .i64 x.2.1, .int .i64 x.2.2]) (.func (.func f) fa fb) X kb I) :
 GivesR Tryz.prog (.func (.func 71) #[] #[.pointer (some ⟨k1, 0, none⟩), .pointer (some ⟨k2, 0, none⟩)]) I (runAll take s.1.length s).1.length (encA (fun x => .agg #[.int .i64 x.1.1, .int .i64 x.1.2.1, .int .i64 x.1.2.2, .int .i64 x.2.1, .int .i64 x.2.2]) (runAll take s.1.length s).1) (R0A X kb I s) (R1A X kb (runAll take s.1.length s).2) := by
 refine ⟨fun Y W => ⟨71, _, run_semV_func.trans (Tryz.call71 _ _)⟩, fun Y J D I0 Gc Gr hI0 hJ0 hR0 hap hJ hD hY => ?_⟩
 refine viaR (ctG_via (A := { gloops := [(0, ⟨[(0, .keep), (1, .keep), (2, .keep)], [], [], fun _ _ _ _ => True, fun _ _ => 0⟩, fun j _ _ I' G' => invA take s.1.length s J X kb j I' G')], calls := [(8, .g), (15, .g), (19, .g), (22, .g)] }) Tryz.func71 rfl Tryz.call71 rfl rfl) ((Rf (SV.v Y) /\ Rf (SV.v (.pointer (some ⟨k1, 0, none⟩))) /\ Rf (SV.v (.pointer (some ⟨k2, 0, none⟩))) /\ ∃ j, invA take s.1.length s J X kb j I0 (join Gc Gr)) /\ ∀ (a G : Mem), Mem.le I0 a -> ∀ (j : Nat), invA take s.1.length s J X kb j a G -> ∃ b, atI a (some ⟨k1, 0, none⟩) 0 = some (.pointer b) /\ b.isSome = true /\ b.isSome = true /\ ∃ c n d, atI G b 0 = some (.slice c n d) /\ Br (decide (0 < (n : Int))) (∃ e, atI a (some ⟨k1, 0, none⟩) 0 = some (.pointer e) /\ e.isSome = true /\ e.isSome = true /\ ∃ g, atI G e 1 = some (.bool g) /\ Br (!g) (∃ x, atI a (some ⟨k2, 0, none⟩) 0 = some x /\ CtH Tryz.prog x #[] a G fun v h i => ∃ k l m o p, v = .agg #[.int .i64 k, .int .i64 l, .int .i64 m, .int .i64 o, .int .i64 p] /\ CtH Tryz.prog Y #[.agg #[.int .i64 k, .int .i64 l, .int .i64 m, .int .i64 o, .int .i64 p]] h i fun q r t => ∃ u, q = .bool u /\ Br (!u) (∃ w y, t = join w y /\ (∀ (z : Nat), w z = none \/ y z = none) /\ (J (runAll take s.1.length s).1.length r w /\ R1A X kb (runAll take s.1.length s).2 r y \/ D r w)) (Rf (SV.v Y) /\ Rf (SV.v (.pointer (some ⟨k1, 0, none⟩))) /\ Rf (SV.v (.pointer (some ⟨k2, 0, none⟩))) /\ ∃ w, w < j /\ invA take s.1.length s J X kb w r t)) (∃ h i, G = join h i /\ (∀ (k : Nat), h k = none \/ i k = none) /\ (J (runAll take s.1.length s).1.length a h /\ R1A X kb (runAll take s.1.length s).2 a i \/ D a h))) (∃ e g, G = join e g /\ (∀ (h : Nat), e h = none \/ g h = none) /\ (J (runAll take s.1.length s).1.length a e /\ R1A X kb (runAll take s.1.length s).2 a g \/ D a e))) (by kernel_rfl) ?_
 have hmx : maxLen = 9223372036854775807 := by decide
 refine ⟨⟨rfl, rfl, rfl, s.1.length, s, [], Gc, Gr, rfl, hap, hJ0, hR0.1.mono hI0, hR0.2, Nat.le_refl _, rfl⟩, ?_⟩;intro I1 G1 l1 j ⟨t, pre, Gc1, Gr1, hG, hap1, hJ1, hrd, hXG, hlen, hrun⟩;subst hG;have c1 : atI I1 (some ⟨k1, 0, none⟩) 0 = some (.pointer (some ⟨kb, 0, none⟩)) := atC (l1 _ _ (hI0 _ _ h1)) rfl;have c2 : atI I1 (some ⟨k2, 0, none⟩) 0 = some (.func (.func f) fa fb) := atC (l1 _ _ (hI0 _ _ h2)) rfl;obtain ⟨a, n, c, hGr, hs, hc, hm, hb, hn⟩ := id hrd;have hGj := join_right hap1 hGr;have hln := hs.numLen
 have done : (t.1 = [] \/ t.2 = true) -> ∃ Gc' Gr', join Gc1 Gr1 = join Gc' Gr' /\ Gc'.apart Gr' /\ ((J (runAll take s.1.length s).1.length I1 Gc' /\ R1A X kb (runAll take s.1.length s).2 I1 Gr') \/ D I1 Gc') := fun he => by
  rw [runAll_done he, List.append_nil] at hrun;rw [hrun];exact ⟨Gc1, Gr1, rfl, hap1, .inl ⟨hJ1, hrd, hXG⟩⟩
 refine ⟨_, c1, rfl, rfl, _, _, _, atC hGj rfl, Br.mk (fun hpos => ?_) (fun hzero => ?_)⟩
 rotate_left
 · have hzero := of_decide_eq_false hzero
   exact done (.inl (List.eq_nil_of_length_eq_zero (by omega)))
 have hpos := of_decide_eq_true hpos;refine ⟨_, c1, rfl, rfl, _, atC hGj rfl, Br.mk (fun hnb => ?_) (fun hbad => ?_)⟩
 rotate_left
 · exact done (.inr (by simpa using hbad))
 have hnb : t.2 = false := by simpa using hnb
 have hne : t.1 ≠ [] := fun h => by rw [h] at hln; simp at hln; omega
 have hgo : ¬ (t.1 = [] \/ t.2 = true) := by rw [hnb]; simpa using hne
 obtain ⟨j', rfl⟩ : ∃ j', j = j' + 1 := ⟨j - 1, by omega⟩
 rw [runAll_step hgo] at hrun;refine ⟨_, c2, ?_⟩;rw [join_comm hap1];refine ((T t I1 Gr1 (Mem.le_trans hI0 l1) hXG hrd).frame (apart_comm hap1)).mono ?_;rintro v I2 G2 l2 ⟨Gr2, rfl, hap2, hv, hto⟩;refine ⟨_, _, _, _, _, hv, ?_⟩;rw [join_comm hap2];have hk := hd t hb hne hnb
 have hget : (runAll take s.1.length s).1[pre.length]? = some (take t).1 := by rw [hrun]; simp
 have hlt : pre.length < (runAll take s.1.length s).1.length := (List.getElem?_eq_some_iff.1 hget).1;refine ((hY pre.length I2 Gc1 _ hlt (Mem.le_trans l1 l2) (hJ _ _ _ _ hJ1 l2) ⟨_, hget, rfl⟩).frame (apart_comm hap2)).mono ?_;rintro v I3 G3 l3 ⟨Gc3, rfl, hap3, hv⟩
 rcases hv with ⟨hv, hj⟩ | ⟨hv, hdd⟩
 · refine ⟨true, hv, Br.f rfl ⟨rfl, rfl, rfl, j', Nat.lt_succ_self _, (take t).2, pre ++ [(take t).1], Gc3, Gr2, rfl, hap3, by rw [List.length_append]; exact hj, hto.1.mono l3, le_rd hXG hX hto, by omega, ?_⟩⟩
   rw [hrun, List.append_assoc]; rfl
 · exact ⟨false, hv, Br.t rfl ⟨Gc3, Gr2, rfl, hap3, .inr hdd⟩⟩
theorem ct41 (kb : Nat) (f : FuncId) (fa fb : Array Value) (I : Mem) :
 Ct Tryz.prog (fnv 41) #[.pointer (some ⟨kb, 0, none⟩), .func (.func f) fa fb] I (fun v I' => ∃ k1 k2, v = .func (.func 71) #[] #[.pointer (some ⟨k1, 0, none⟩), .pointer (some ⟨k2, 0, none⟩)] /\ I' k1 = some (.cells #[.pointer (some ⟨kb, 0, none⟩)] 92) /\ I' k2 = some (.cells #[.func (.func f) fa fb] 112)) := by
 refine viaR (ct_via (A := {}) Tryz.func41 rfl Tryz.call41 rfl rfl) (∀ (b : Nat) (a : Mem), I.le a -> a b = some (.cells #[.pointer (some ⟨kb, 0, none⟩)] 92 (0, 0)) -> ∀ (c : Nat) (d : Mem), a.le d -> d c = some (.cells #[.func (.func f) fa fb] 112 (0, 0)) -> ∃ k e, Value.func (.func 71) #[] #[.pointer (some ⟨b, 0, none⟩), .pointer (some ⟨c, 0, none⟩)] = .func (.func 71) #[] #[.pointer (some ⟨k, 0, none⟩), .pointer (some ⟨e, 0, none⟩)] /\ d k = some (.cells #[.pointer (some ⟨kb, 0, none⟩)] 92 (0, 0)) /\ d e = some (.cells #[.func (.func f) fa fb] 112 (0, 0))) (by kernel_rfl) ?_
 exact fun b I1 l1 h1 b1 I2 l2 h2 => ⟨b, b1, rfl, l2 _ _ h1, h2⟩
set_option maxHeartbeats 1000000 in
theorem gives84 (take : RS -> PtT × RS) (hd : Dec take) (s : RS) (kb k1 k2 : Nat) (f : FuncId) (fa fb : Array Value) (X : Mem) (hX : X kb = none) (I : Mem) (h1 : I k1 = some (.cells #[.pointer (some ⟨kb, 0, none⟩)] 92)) (h2 : I k2 = some (.cells #[.func (.func f) fa fb] 117))
 (T : TakeOk take (fun x => .agg #[.int .i64 x.1, .string (strB x.2.1), .int .i64 x.2.2]) (.func (.func f) fa fb) X kb I) :
 GivesR Tryz.prog (.func (.func 73) #[] #[.pointer (some ⟨k1, 0, none⟩), .pointer (some ⟨k2, 0, none⟩)]) I (runAll take s.1.length s).1.length (encA (fun x => .agg #[.int .i64 x.1, .string (strB x.2.1), .int .i64 x.2.2]) (runAll take s.1.length s).1) (R0A X kb I s) (R1A X kb (runAll take s.1.length s).2) := by
 refine ⟨fun Y W => ⟨73, _, run_semV_func.trans (Tryz.call73 _ _)⟩, fun Y J D I0 Gc Gr hI0 hJ0 hR0 hap hJ hD hY => ?_⟩
 refine viaR (ctG_via (A := { gloops := [(0, ⟨[(0, .keep), (1, .keep), (2, .keep)], [], [], fun _ _ _ _ => True, fun _ _ => 0⟩, fun j _ _ I' G' => invA take s.1.length s J X kb j I' G')], calls := [(8, .g), (15, .g), (19, .g), (22, .g)] }) Tryz.func73 rfl Tryz.call73 rfl rfl) ((Rf (SV.v Y) /\ Rf (SV.v (.pointer (some ⟨k1, 0, none⟩))) /\ Rf (SV.v (.pointer (some ⟨k2, 0, none⟩))) /\ ∃ j, invA take s.1.length s J X kb j I0 (join Gc Gr)) /\ ∀ (a G : Mem), Mem.le I0 a -> ∀ (j : Nat), invA take s.1.length s J X kb j a G -> ∃ b, atI a (some ⟨k1, 0, none⟩) 0 = some (.pointer b) /\ b.isSome = true /\ b.isSome = true /\ ∃ c n d, atI G b 0 = some (.slice c n d) /\ Br (decide (0 < (n : Int))) (∃ e, atI a (some ⟨k1, 0, none⟩) 0 = some (.pointer e) /\ e.isSome = true /\ e.isSome = true /\ ∃ g, atI G e 1 = some (.bool g) /\ Br (!g) (∃ x, atI a (some ⟨k2, 0, none⟩) 0 = some x /\ CtH Tryz.prog x #[] a G fun v h i => ∃ k q l, v = .agg #[.int .i64 k, .string q, .int .i64 l] /\ CtH Tryz.prog Y #[.agg #[.int .i64 k, .string q, .int .i64 l]] h i fun m o p => ∃ r, m = .bool r /\ Br (!r) (∃ t u, p = join t u /\ (∀ (w : Nat), t w = none \/ u w = none) /\ (J (runAll take s.1.length s).1.length o t /\ R1A X kb (runAll take s.1.length s).2 o u \/ D o t)) (Rf (SV.v Y) /\ Rf (SV.v (.pointer (some ⟨k1, 0, none⟩))) /\ Rf (SV.v (.pointer (some ⟨k2, 0, none⟩))) /\ ∃ t, t < j /\ invA take s.1.length s J X kb t o p)) (∃ h i, G = join h i /\ (∀ (k : Nat), h k = none \/ i k = none) /\ (J (runAll take s.1.length s).1.length a h /\ R1A X kb (runAll take s.1.length s).2 a i \/ D a h))) (∃ e g, G = join e g /\ (∀ (h : Nat), e h = none \/ g h = none) /\ (J (runAll take s.1.length s).1.length a e /\ R1A X kb (runAll take s.1.length s).2 a g \/ D a e))) (by kernel_rfl) ?_
 have hmx : maxLen = 9223372036854775807 := by decide
 refine ⟨⟨rfl, rfl, rfl, s.1.length, s, [], Gc, Gr, rfl, hap, hJ0, hR0.1.mono hI0, hR0.2, Nat.le_refl _, rfl⟩, ?_⟩;intro I1 G1 l1 j ⟨t, pre, Gc1, Gr1, hG, hap1, hJ1, hrd, hXG, hlen, hrun⟩;subst hG;have c1 : atI I1 (some ⟨k1, 0, none⟩) 0 = some (.pointer (some ⟨kb, 0, none⟩)) := atC (l1 _ _ (hI0 _ _ h1)) rfl;have c2 : atI I1 (some ⟨k2, 0, none⟩) 0 = some (.func (.func f) fa fb) := atC (l1 _ _ (hI0 _ _ h2)) rfl;obtain ⟨a, n, c, hGr, hs, hc, hm, hb, hn⟩ := id hrd;have hGj := join_right hap1 hGr;have hln := hs.numLen
 have done : (t.1 = [] \/ t.2 = true) -> ∃ Gc' Gr', join Gc1 Gr1 = join Gc' Gr' /\ Gc'.apart Gr' /\ ((J (runAll take s.1.length s).1.length I1 Gc' /\ R1A X kb (runAll take s.1.length s).2 I1 Gr') \/ D I1 Gc') := fun he => by
  rw [runAll_done he, List.append_nil] at hrun;rw [hrun];exact ⟨Gc1, Gr1, rfl, hap1, .inl ⟨hJ1, hrd, hXG⟩⟩
 refine ⟨_, c1, rfl, rfl, _, _, _, atC hGj rfl, Br.mk (fun hpos => ?_) (fun hzero => ?_)⟩
 rotate_left
 · have hzero := of_decide_eq_false hzero
   exact done (.inl (List.eq_nil_of_length_eq_zero (by omega)))
 have hpos := of_decide_eq_true hpos;refine ⟨_, c1, rfl, rfl, _, atC hGj rfl, Br.mk (fun hnb => ?_) (fun hbad => ?_)⟩
 rotate_left
 · exact done (.inr (by simpa using hbad))
 have hnb : t.2 = false := by simpa using hnb
 have hne : t.1 ≠ [] := fun h => by rw [h] at hln; simp at hln; omega
 have hgo : ¬ (t.1 = [] \/ t.2 = true) := by rw [hnb]; simpa using hne
 obtain ⟨j', rfl⟩ : ∃ j', j = j' + 1 := ⟨j - 1, by omega⟩
 rw [runAll_step hgo] at hrun;refine ⟨_, c2, ?_⟩;rw [join_comm hap1];refine ((T t I1 Gr1 (Mem.le_trans hI0 l1) hXG hrd).frame (apart_comm hap1)).mono ?_;rintro v I2 G2 l2 ⟨Gr2, rfl, hap2, hv, hto⟩;refine ⟨_, _, _, hv, ?_⟩;rw [join_comm hap2];have hk := hd t hb hne hnb
 have hget : (runAll take s.1.length s).1[pre.length]? = some (take t).1 := by rw [hrun]; simp
 have hlt : pre.length < (runAll take s.1.length s).1.length := (List.getElem?_eq_some_iff.1 hget).1;refine ((hY pre.length I2 Gc1 _ hlt (Mem.le_trans l1 l2) (hJ _ _ _ _ hJ1 l2) ⟨_, hget, rfl⟩).frame (apart_comm hap2)).mono ?_;rintro v I3 G3 l3 ⟨Gc3, rfl, hap3, hv⟩
 rcases hv with ⟨hv, hj⟩ | ⟨hv, hdd⟩
 · refine ⟨true, hv, Br.f rfl ⟨rfl, rfl, rfl, j', Nat.lt_succ_self _, (take t).2, pre ++ [(take t).1], Gc3, Gr2, rfl, hap3, by rw [List.length_append]; exact hj, hto.1.mono l3, le_rd hXG hX hto, by omega, ?_⟩⟩
   rw [hrun, List.append_assoc]; rfl
 · exact ⟨false, hv, Br.t rfl ⟨Gc3, Gr2, rfl, hap3, .inr hdd⟩⟩
theorem ct44 (kb : Nat) (f : FuncId) (fa fb : Array Value) (I : Mem) :
 Ct Tryz.prog (fnv 44) #[.pointer (some ⟨kb, 0, none⟩), .func (.func f) fa fb] I (fun v I' => ∃ k1 k2, v = .func (.func 73) #[] #[.pointer (some ⟨k1, 0, none⟩), .pointer (some ⟨k2, 0, none⟩)] /\ I' k1 = some (.cells #[.pointer (some ⟨kb, 0, none⟩)] 92) /\ I' k2 = some (.cells #[.func (.func f) fa fb] 117)) := by
 refine viaR (ct_via (A := {}) Tryz.func44 rfl Tryz.call44 rfl rfl) (∀ (b : Nat) (a : Mem), I.le a -> a b = some (.cells #[.pointer (some ⟨kb, 0, none⟩)] 92 (0, 0)) -> ∀ (c : Nat) (d : Mem), a.le d -> d c = some (.cells #[.func (.func f) fa fb] 117 (0, 0)) -> ∃ k e, Value.func (.func 73) #[] #[.pointer (some ⟨b, 0, none⟩), .pointer (some ⟨c, 0, none⟩)] = .func (.func 73) #[] #[.pointer (some ⟨k, 0, none⟩), .pointer (some ⟨e, 0, none⟩)] /\ d k = some (.cells #[.pointer (some ⟨kb, 0, none⟩)] 92 (0, 0)) /\ d e = some (.cells #[.func (.func f) fa fb] 117 (0, 0))) (by kernel_rfl) ?_
 exact fun b I1 l1 h1 b1 I2 l2 h2 => ⟨b, b1, rfl, l2 _ _ h1, h2⟩
set_option maxHeartbeats 1000000 in
theorem gives86 (take : RS -> HdT × RS) (hd : Dec take) (s : RS) (kb k1 k2 : Nat) (f : FuncId) (fa fb : Array Value) (X : Mem) (hX : X kb = none) (I : Mem) (h1 : I k1 = some (.cells #[.pointer (some ⟨kb, 0, none⟩)] 92)) (h2 : I k2 = some (.cells #[.func (.func f) fa fb] 122))
 (T : TakeOk take (fun x => .agg #[.int .i64 x.1, .int .i64 x.2.1, .int .i64 x.2.2.1, .int .i64 x.2.2.2.1, .int .u8 x.2.2.2.2]) (.func (.func f) fa fb) X kb I) :
 GivesR Tryz.prog (.func (.func 75) #[] #[.pointer (some ⟨k1, 0, none⟩), .pointer (some ⟨k2, 0, none⟩)]) I (runAll take s.1.length s).1.length (encA (fun x => .agg #[.int .i64 x.1, .int .i64 x.2.1, .int .i64 x.2.2.1, .int .i64 x.2.2.2.1, .int .u8 x.2.2.2.2]) (runAll take s.1.length s).1) (R0A X kb I s) (R1A X kb (runAll take s.1.length s).2) := by
 refine ⟨fun Y W => ⟨75, _, run_semV_func.trans (Tryz.call75 _ _)⟩, fun Y J D I0 Gc Gr hI0 hJ0 hR0 hap hJ hD hY => ?_⟩
 refine viaR (ctG_via (A := { gloops := [(0, ⟨[(0, .keep), (1, .keep), (2, .keep)], [], [], fun _ _ _ _ => True, fun _ _ => 0⟩, fun j _ _ I' G' => invA take s.1.length s J X kb j I' G')], calls := [(8, .g), (15, .g), (19, .g), (22, .g)] }) Tryz.func75 rfl Tryz.call75 rfl rfl) ((Rf (SV.v Y) /\ Rf (SV.v (.pointer (some ⟨k1, 0, none⟩))) /\ Rf (SV.v (.pointer (some ⟨k2, 0, none⟩))) /\ ∃ j, invA take s.1.length s J X kb j I0 (join Gc Gr)) /\ ∀ (a G : Mem), Mem.le I0 a -> ∀ (j : Nat), invA take s.1.length s J X kb j a G -> ∃ b, atI a (some ⟨k1, 0, none⟩) 0 = some (.pointer b) /\ b.isSome = true /\ b.isSome = true /\ ∃ c n d, atI G b 0 = some (.slice c n d) /\ Br (decide (0 < (n : Int))) (∃ e, atI a (some ⟨k1, 0, none⟩) 0 = some (.pointer e) /\ e.isSome = true /\ e.isSome = true /\ ∃ g, atI G e 1 = some (.bool g) /\ Br (!g) (∃ x, atI a (some ⟨k2, 0, none⟩) 0 = some x /\ CtH Tryz.prog x #[] a G fun v h i => ∃ k l m o p, v = .agg #[.int .i64 k, .int .i64 l, .int .i64 m, .int .i64 o, .int .u8 p] /\ CtH Tryz.prog Y #[.agg #[.int .i64 k, .int .i64 l, .int .i64 m, .int .i64 o, .int .u8 p]] h i fun q r t => ∃ u, q = .bool u /\ Br (!u) (∃ w y, t = join w y /\ (∀ (z : Nat), w z = none \/ y z = none) /\ (J (runAll take s.1.length s).1.length r w /\ R1A X kb (runAll take s.1.length s).2 r y \/ D r w)) (Rf (SV.v Y) /\ Rf (SV.v (.pointer (some ⟨k1, 0, none⟩))) /\ Rf (SV.v (.pointer (some ⟨k2, 0, none⟩))) /\ ∃ w, w < j /\ invA take s.1.length s J X kb w r t)) (∃ h i, G = join h i /\ (∀ (k : Nat), h k = none \/ i k = none) /\ (J (runAll take s.1.length s).1.length a h /\ R1A X kb (runAll take s.1.length s).2 a i \/ D a h))) (∃ e g, G = join e g /\ (∀ (h : Nat), e h = none \/ g h = none) /\ (J (runAll take s.1.length s).1.length a e /\ R1A X kb (runAll take s.1.length s).2 a g \/ D a e))) (by kernel_rfl) ?_
 have hmx : maxLen = 9223372036854775807 := by decide
 refine ⟨⟨rfl, rfl, rfl, s.1.length, s, [], Gc, Gr, rfl, hap, hJ0, hR0.1.mono hI0, hR0.2, Nat.le_refl _, rfl⟩, ?_⟩;intro I1 G1 l1 j ⟨t, pre, Gc1, Gr1, hG, hap1, hJ1, hrd, hXG, hlen, hrun⟩;subst hG;have c1 : atI I1 (some ⟨k1, 0, none⟩) 0 = some (.pointer (some ⟨kb, 0, none⟩)) := atC (l1 _ _ (hI0 _ _ h1)) rfl;have c2 : atI I1 (some ⟨k2, 0, none⟩) 0 = some (.func (.func f) fa fb) := atC (l1 _ _ (hI0 _ _ h2)) rfl;obtain ⟨a, n, c, hGr, hs, hc, hm, hb, hn⟩ := id hrd;have hGj := join_right hap1 hGr;have hln := hs.numLen
 have done : (t.1 = [] \/ t.2 = true) -> ∃ Gc' Gr', join Gc1 Gr1 = join Gc' Gr' /\ Gc'.apart Gr' /\ ((J (runAll take s.1.length s).1.length I1 Gc' /\ R1A X kb (runAll take s.1.length s).2 I1 Gr') \/ D I1 Gc') := fun he => by
  rw [runAll_done he, List.append_nil] at hrun;rw [hrun];exact ⟨Gc1, Gr1, rfl, hap1, .inl ⟨hJ1, hrd, hXG⟩⟩
 refine ⟨_, c1, rfl, rfl, _, _, _, atC hGj rfl, Br.mk (fun hpos => ?_) (fun hzero => ?_)⟩
 rotate_left
 · have hzero := of_decide_eq_false hzero
   exact done (.inl (List.eq_nil_of_length_eq_zero (by omega)))
 have hpos := of_decide_eq_true hpos;refine ⟨_, c1, rfl, rfl, _, atC hGj rfl, Br.mk (fun hnb => ?_) (fun hbad => ?_)⟩
 rotate_left
 · exact done (.inr (by simpa using hbad))
 have hnb : t.2 = false := by simpa using hnb
 have hne : t.1 ≠ [] := fun h => by rw [h] at hln; simp at hln; omega
 have hgo : ¬ (t.1 = [] \/ t.2 = true) := by rw [hnb]; simpa using hne
 obtain ⟨j', rfl⟩ : ∃ j', j = j' + 1 := ⟨j - 1, by omega⟩
 rw [runAll_step hgo] at hrun;refine ⟨_, c2, ?_⟩;rw [join_comm hap1];refine ((T t I1 Gr1 (Mem.le_trans hI0 l1) hXG hrd).frame (apart_comm hap1)).mono ?_;rintro v I2 G2 l2 ⟨Gr2, rfl, hap2, hv, hto⟩;refine ⟨_, _, _, _, _, hv, ?_⟩;rw [join_comm hap2];have hk := hd t hb hne hnb
 have hget : (runAll take s.1.length s).1[pre.length]? = some (take t).1 := by rw [hrun]; simp
 have hlt : pre.length < (runAll take s.1.length s).1.length := (List.getElem?_eq_some_iff.1 hget).1;refine ((hY pre.length I2 Gc1 _ hlt (Mem.le_trans l1 l2) (hJ _ _ _ _ hJ1 l2) ⟨_, hget, rfl⟩).frame (apart_comm hap2)).mono ?_;rintro v I3 G3 l3 ⟨Gc3, rfl, hap3, hv⟩
 rcases hv with ⟨hv, hj⟩ | ⟨hv, hdd⟩
 · refine ⟨true, hv, Br.f rfl ⟨rfl, rfl, rfl, j', Nat.lt_succ_self _, (take t).2, pre ++ [(take t).1], Gc3, Gr2, rfl, hap3, by rw [List.length_append]; exact hj, hto.1.mono l3, le_rd hXG hX hto, by omega, ?_⟩⟩
   rw [hrun, List.append_assoc]; rfl
 · exact ⟨false, hv, Br.t rfl ⟨Gc3, Gr2, rfl, hap3, .inr hdd⟩⟩
theorem ct47 (kb : Nat) (f : FuncId) (fa fb : Array Value) (I : Mem) :
 Ct Tryz.prog (fnv 47) #[.pointer (some ⟨kb, 0, none⟩), .func (.func f) fa fb] I (fun v I' => ∃ k1 k2, v = .func (.func 75) #[] #[.pointer (some ⟨k1, 0, none⟩), .pointer (some ⟨k2, 0, none⟩)] /\ I' k1 = some (.cells #[.pointer (some ⟨kb, 0, none⟩)] 92) /\ I' k2 = some (.cells #[.func (.func f) fa fb] 122)) := by
 refine viaR (ct_via (A := {}) Tryz.func47 rfl Tryz.call47 rfl rfl) (∀ (b : Nat) (a : Mem), I.le a -> a b = some (.cells #[.pointer (some ⟨kb, 0, none⟩)] 92 (0, 0)) -> ∀ (c : Nat) (d : Mem), a.le d -> d c = some (.cells #[.func (.func f) fa fb] 122 (0, 0)) -> ∃ k e, Value.func (.func 75) #[] #[.pointer (some ⟨b, 0, none⟩), .pointer (some ⟨c, 0, none⟩)] = .func (.func 75) #[] #[.pointer (some ⟨k, 0, none⟩), .pointer (some ⟨e, 0, none⟩)] /\ d k = some (.cells #[.pointer (some ⟨kb, 0, none⟩)] 92 (0, 0)) /\ d e = some (.cells #[.func (.func f) fa fb] 122 (0, 0))) (by kernel_rfl) ?_
 exact fun b I1 l1 h1 b1 I2 l2 h2 => ⟨b, b1, rfl, l2 _ _ h1, h2⟩
set_option maxHeartbeats 1000000
theorem ctGF_via {P : Program} {f : FuncId} {fn : Func} {cd : Code} {A : Ann} (hf : P.funcs[f]? = some fn) (hb : fn.body = some cd)
 (hcall : ∀ (args : Array Value) (w : World), (callFunc f args).run P w = .ok (.enter f args) w)
 {args : List Value} {first cap given : Array Value} (hargs : (first ++ given ++ cap).toList = args) (hrd : A.rd = false) {I G : Mem} {post : Value -> Mem -> Mem -> Prop}
 (h : se P A cd (initX (args.map .v) [] fn.ntmps I G) (endX (finF P fn post))) : CtH P (.func (.func f) first cap) given I G post :=
 ctGF_of_se hf hb hcall hargs h hrd
def cI (x : Int) : List Value := [.int .i64 x]
def cE (x : EvT) : List Value := [.int .i64 x.1.1, .int .i64 x.1.2.1, .int .i64 x.1.2.2, .int .i64 x.2.1, .int .i64 x.2.2]
def cP (x : PtT) : List Value := [.int .i64 x.1, .string (strB x.2.1), .int .i64 x.2.2]
def cH (x : HdT) : List Value := [.int .i64 x.1, .int .i64 x.2.1, .int .i64 x.2.2.1, .int .i64 x.2.2.2.1, .int .u8 x.2.2.2.2]
theorem fm_len {α : Type} {c : α -> List Value} {k : Nat} (h : ∀ x, (c x).length = k) : ∀ l : List α, (l.flatMap c).length = l.length * k
 | [] => by simp
 | x :: l => by rw [List.flatMap_cons, List.length_append, h, fm_len h l, List.length_cons, Nat.succ_mul]; omega
theorem fm_snoc {α : Type} {c : α -> List Value} {l : List α} {k : Nat} {x : α} (h : l[k]? = some x) : (l.take (k + 1)).flatMap c = (l.take k).flatMap c ++ c x := by
 rw [take_succ' h]; simp
def LstN (sz : Nat) (I I' : Mem) (v : Value) (xs : List Value) : Prop := ∃ a n c, v = .slice a n c /\ SlM I' a n sz xs /\ n <= c /\ c <= maxLen /\ NewS sz I I' a c
theorem lstN_row {I I1 I' : Mem} {a : Option Addr} {cp sz n m : Nat} {xs : List Value} {el : TypeId} (hr : RowF I1 I' a cp sz xs el) (hle : I.le I1) (hz : 0 < sz) (hl : xs.length = n * sz) (hm : m = n) : LstN sz I I' (.slice a m cp) xs := by
 subst hm;have h1 := hr.row;refine ⟨a, m, cp, rfl, h1.sl hz hl, ?_, h1.2.1, hr.newS.anti hle⟩;have := h1.1;rw [hl] at this;exact Nat.le_of_mul_le_mul_right this hz
theorem ct65 (L : List Int) (hL : L.length <= 1000000) (it : Value) (I G : Mem) (R0 : Mem -> Prop) (R1 : Mem -> Mem -> Prop) (hit : GivesR Tryz.prog it I L.length (encA (fun x => .int .i64 x) L) R0 R1) (hG : R0 G) :
 CtH Tryz.prog (fnv 65) #[.slice none 0 0, it] I G (fun v I' G' => LstN 1 I I' v (L.flatMap cI) /\ ∃ I1, I1.le I' /\ R1 I1 G') := by
 refine viaR (ctGF_via (A := { rfs := [(3, { n := L.length, enc := encA (fun x => .int .i64 x) L, ps := [.sh (.int .i64)], pre := [(2, 1, 3)], ents := [(0, .cells [.row 1]), (1, .row)], inv := (fun k vals xss I' _ => match xss with | [xs] => xs = (L.take k).flatMap cI | _ => False), jumps := [], gst := some (fun _ => R0, fun _ => R1) })] }) Tryz.func65 rfl Tryz.call65 rfl rfl) (∀ (b a c : Nat) (r : Loop), GivesR Tryz.prog it I L.length (encA (fun (x : Int) => .int .i64 x) L) R0 R1 /\ R0 G /\ (∀ (k : Nat) (d : Array Value) (e : Mem), encA (fun (x : Int) => .int .i64 x) L k d e -> psOk [.sh (.int .i64)] d.toList = true) /\ (Rf (Ent.mk (.raw (.deferred (some []))) (some a)) /\ Rf (Ent.mk (.raw (.loop ⟨.ready, none, r.fn, r.tmps, r.params, r.assign, r.body, r.defers⟩)) (some c)) /\ Rf (some b) /\ (0 : Nat) = 0 /\ ((b = b /\ a = a /\ c = c /\ True) /\ Rf (Obj.loop ⟨.ready, none, r.fn, r.tmps, r.params, r.assign, r.body, r.defers⟩)) /\ Rf ([] : List Value)) /\ (∀ (k : Nat) (d : Mem), k < L.length -> I.le d -> ∀ (x : List Value), x = List.flatMap (fun (e : Int) => [.int .i64 e]) (List.take k L) -> ∀ (e : Mem), d.le e -> ∀ (n : Int), encA (fun (f : Int) => .int .i64 f) L k #[.int .i64 n] e -> Rf (Obj.loop ⟨.ready, none, r.fn, r.tmps, r.params, r.assign, r.body, r.defers⟩) /\ Rf (some c) /\ x.length = x.length * 1 /\ x.length + 1 <= 9223372036854775807 /\ (x.length + 1) * 8 <= 140737488355328 /\ Rf (Obj.loop ⟨.busy, none, r.fn, r.tmps, r.params, r.assign, r.body, r.defers⟩) /\ Rf (some c) /\ Mem.emp = Mem.emp /\ Rf (Ent.mk (.raw (.deferred (some []))) (some a)) /\ Rf (Ent.mk (.raw (.loop ⟨.ready, none, r.fn, r.tmps, r.params, r.assign, r.body, r.defers⟩)) (some c)) /\ Rf (some b) /\ x.length + 1 = List.length (x ++ [.int .i64 n]) /\ ((b = b /\ a = a /\ c = c /\ True) /\ Rf (Obj.loop ⟨.ready, none, r.fn, r.tmps, r.params, r.assign, r.body, r.defers⟩)) /\ x ++ [.int .i64 n] = List.flatMap (fun (f : Int) => [.int .i64 f]) (List.take (k + 1) L)) /\ (∀ (d : Mem), I.le d -> ∀ (x : List Value), x = List.flatMap (fun (e : Int) => [.int .i64 e]) (List.take L.length L) -> ∀ (e f : Mem), d.le e -> R1 e f -> ∀ (g : Option Addr) (h : Nat) (i : Mem), e.le i -> RowF e i g h 1 x 3 -> LstN 1 I i (.slice g x.length h) (List.flatMap (fun (j : Int) => [.int .i64 j]) L) /\ ∃ j, j.le i /\ R1 j f) /\ True) (by kernel_rfl) ?_
 simp only [eq_self, true_and, and_true];intro b bd br rc;have hc : ∀ x, (cI x).length = 1 := fun _ => rfl;refine ⟨hit, hG, ?_, ?_, ?_⟩
 · rintro k args I2 ⟨x, _, rfl⟩; rfl
 · rintro k I1 hk l1 xs hxs I2 l2 n ⟨x, hx, he⟩
   cases he
   have hxl : xs.length = (L.take k).length * 1 := by rw [hxs]; exact fm_len hc _
   have hkl : (L.take k).length <= 1000000 := by rw [List.length_take]; omega
   refine ⟨by omega, by omega, by omega, by rw [List.length_append]; simp only [List.length_cons, List.length_nil] <;> omega, ?_⟩
   rw [hxs];exact (fm_snoc (c := cI) hx).symm
 · intro I1 l1 xs hxs I2 G2 l2 hR a cp I3 l3 hrow
   rw [List.take_length] at hxs
   have hxl : xs.length = L.length * 1 := by rw [hxs]; exact fm_len hc _
   subst hxs
   exact ⟨lstN_row hrow (Mem.le_trans l1 l2) (by omega) hxl (by omega), I2, l3, hR⟩
theorem ct33 (L : List Int) (hL : L.length <= 1000000) (it : Value) (I G : Mem) (R0 : Mem -> Prop) (R1 : Mem -> Mem -> Prop) (hit : GivesR Tryz.prog it I L.length (encA (fun x => .int .i64 x) L) R0 R1) (hG : R0 G) :
 CtH Tryz.prog (fnv 33) #[it] I G (fun v I' G' => LstN 1 I I' v (L.flatMap cI) /\ ∃ I1, I1.le I' /\ R1 I1 G') := by
 refine viaR (ctG_via (A := { calls := [(4, .g)] }) Tryz.func33 rfl Tryz.call33 rfl rfl) (CtH Tryz.prog (fnv 65) #[.slice none 0 0, it] I G fun v a b => ∃ c n d, v = .slice c n d /\ LstN 1 I a (.slice c n d) (List.flatMap (fun (x : Int) => [.int .i64 x]) L) /\ ∃ e, e.le a /\ R1 e b) (by kernel_rfl) ?_
 refine (ct65 L hL it I G R0 R1 hit hG).mono fun v I1 G1 l1 h => ?_;obtain ⟨⟨a, n, c, rfl, h1⟩, h2⟩ := h;exact ⟨_, _, _, rfl, ⟨a, n, c, rfl, h1⟩, h2⟩
theorem ct67 (L : List Int) (hL : L.length <= 1000000) (it : Value) (I G : Mem) (R0 : Mem -> Prop) (R1 : Mem -> Mem -> Prop) (hit : GivesR Tryz.prog it I L.length (encA (fun x => .int .i64 x) L) R0 R1) (hG : R0 G) :
 CtH Tryz.prog (fnv 67) #[.slice none 0 0, it] I G (fun v I' G' => LstN 1 I I' v (L.flatMap cI) /\ ∃ I1, I1.le I' /\ R1 I1 G') := by
 refine viaR (ctGF_via (A := { rfs := [(3, { n := L.length, enc := encA (fun x => .int .i64 x) L, ps := [.sh (.int .i64)], pre := [(2, 1, 2)], ents := [(0, .cells [.row 1]), (1, .row)], inv := (fun k vals xss I' _ => match xss with | [xs] => xs = (L.take k).flatMap cI | _ => False), jumps := [], gst := some (fun _ => R0, fun _ => R1) })] }) Tryz.func67 rfl Tryz.call67 rfl rfl) (∀ (b a c : Nat) (r : Loop), GivesR Tryz.prog it I L.length (encA (fun (x : Int) => .int .i64 x) L) R0 R1 /\ R0 G /\ (∀ (k : Nat) (d : Array Value) (e : Mem), encA (fun (x : Int) => .int .i64 x) L k d e -> psOk [.sh (.int .i64)] d.toList = true) /\ (Rf (Ent.mk (.raw (.deferred (some []))) (some a)) /\ Rf (Ent.mk (.raw (.loop ⟨.ready, none, r.fn, r.tmps, r.params, r.assign, r.body, r.defers⟩)) (some c)) /\ Rf (some b) /\ (0 : Nat) = 0 /\ ((b = b /\ a = a /\ c = c /\ True) /\ Rf (Obj.loop ⟨.ready, none, r.fn, r.tmps, r.params, r.assign, r.body, r.defers⟩)) /\ Rf ([] : List Value)) /\ (∀ (k : Nat) (d : Mem), k < L.length -> I.le d -> ∀ (x : List Value), x = List.flatMap (fun (e : Int) => [.int .i64 e]) (List.take k L) -> ∀ (e : Mem), d.le e -> ∀ (n : Int), encA (fun (f : Int) => .int .i64 f) L k #[.int .i64 n] e -> Rf (Obj.loop ⟨.ready, none, r.fn, r.tmps, r.params, r.assign, r.body, r.defers⟩) /\ Rf (some c) /\ x.length = x.length * 1 /\ x.length + 1 <= 9223372036854775807 /\ (x.length + 1) * 8 <= 140737488355328 /\ Rf (Obj.loop ⟨.busy, none, r.fn, r.tmps, r.params, r.assign, r.body, r.defers⟩) /\ Rf (some c) /\ Mem.emp = Mem.emp /\ Rf (Ent.mk (.raw (.deferred (some []))) (some a)) /\ Rf (Ent.mk (.raw (.loop ⟨.ready, none, r.fn, r.tmps, r.params, r.assign, r.body, r.defers⟩)) (some c)) /\ Rf (some b) /\ x.length + 1 = List.length (x ++ [.int .i64 n]) /\ ((b = b /\ a = a /\ c = c /\ True) /\ Rf (Obj.loop ⟨.ready, none, r.fn, r.tmps, r.params, r.assign, r.body, r.defers⟩)) /\ x ++ [.int .i64 n] = List.flatMap (fun (f : Int) => [.int .i64 f]) (List.take (k + 1) L)) /\ (∀ (d : Mem), I.le d -> ∀ (x : List Value), x = List.flatMap (fun (e : Int) => [.int .i64 e]) (List.take L.length L) -> ∀ (e f : Mem), d.le e -> R1 e f -> ∀ (g : Option Addr) (h : Nat) (i : Mem), e.le i -> RowF e i g h 1 x 2 -> LstN 1 I i (.slice g x.length h) (List.flatMap (fun (j : Int) => [.int .i64 j]) L) /\ ∃ j, j.le i /\ R1 j f) /\ True) (by kernel_rfl) ?_
 simp only [eq_self, true_and, and_true];intro b bd br rc;have hc : ∀ x, (cI x).length = 1 := fun _ => rfl;refine ⟨hit, hG, ?_, ?_, ?_⟩
 · rintro k args I2 ⟨x, _, rfl⟩; rfl
 · rintro k I1 hk l1 xs hxs I2 l2 n ⟨x, hx, he⟩
   cases he
   have hxl : xs.length = (L.take k).length * 1 := by rw [hxs]; exact fm_len hc _
   have hkl : (L.take k).length <= 1000000 := by rw [List.length_take]; omega
   refine ⟨by omega, by omega, by omega, by rw [List.length_append]; simp only [List.length_cons, List.length_nil] <;> omega, ?_⟩
   rw [hxs];exact (fm_snoc (c := cI) hx).symm
 · intro I1 l1 xs hxs I2 G2 l2 hR a cp I3 l3 hrow
   rw [List.take_length] at hxs
   have hxl : xs.length = L.length * 1 := by rw [hxs]; exact fm_len hc _
   subst hxs
   exact ⟨lstN_row hrow (Mem.le_trans l1 l2) (by omega) hxl (by omega), I2, l3, hR⟩
theorem ct35 (L : List Int) (hL : L.length <= 1000000) (it : Value) (I G : Mem) (R0 : Mem -> Prop) (R1 : Mem -> Mem -> Prop) (hit : GivesR Tryz.prog it I L.length (encA (fun x => .int .i64 x) L) R0 R1) (hG : R0 G) :
 CtH Tryz.prog (fnv 35) #[it] I G (fun v I' G' => LstN 1 I I' v (L.flatMap cI) /\ ∃ I1, I1.le I' /\ R1 I1 G') := by
 refine viaR (ctG_via (A := { calls := [(4, .g)] }) Tryz.func35 rfl Tryz.call35 rfl rfl) (CtH Tryz.prog (fnv 67) #[.slice none 0 0, it] I G fun v a b => ∃ c n d, v = .slice c n d /\ LstN 1 I a (.slice c n d) (List.flatMap (fun (x : Int) => [.int .i64 x]) L) /\ ∃ e, e.le a /\ R1 e b) (by kernel_rfl) ?_
 refine (ct67 L hL it I G R0 R1 hit hG).mono fun v I1 G1 l1 h => ?_;obtain ⟨⟨a, n, c, rfl, h1⟩, h2⟩ := h;exact ⟨_, _, _, rfl, ⟨a, n, c, rfl, h1⟩, h2⟩
theorem ct70 (L : List EvT) (hL : L.length <= 1000000) (it : Value) (I G : Mem) (R0 : Mem -> Prop) (R1 : Mem -> Mem -> Prop) (hit : GivesR Tryz.prog it I L.length (encA (fun x => .agg #[.int .i64 x.1.1, .int .i64 x.1.2.1, .int .i64 x.1.2.2, .int .i64 x.2.1, .int .i64 x.2.2]) L) R0 R1) (hG : R0 G) :
 CtH Tryz.prog (fnv 70) #[.slice none 0 0, it] I G (fun v I' G' => LstN 5 I I' v (L.flatMap cE) /\ ∃ I1, I1.le I' /\ R1 I1 G') := by
 refine viaR (ctGF_via (A := { rfs := [(3, { n := L.length, enc := encA (fun x => .agg #[.int .i64 x.1.1, .int .i64 x.1.2.1, .int .i64 x.1.2.2, .int .i64 x.2.1, .int .i64 x.2.2]) L, ps := [.agg [.int .i64, .int .i64, .int .i64, .int .i64, .int .i64]], pre := [(2, 5, 69)], ents := [(0, .cells [.row 1]), (1, .row)], inv := (fun k vals xss I' _ => match xss with | [xs] => xs = (L.take k).flatMap cE | _ => False), jumps := [], gst := some (fun _ => R0, fun _ => R1) })] }) Tryz.func70 rfl Tryz.call70 rfl rfl) (∀ (b a c : Nat) (r : Loop), GivesR Tryz.prog it I L.length (encA (fun (x : EvT) => .agg #[.int .i64 x.1.1, .int .i64 x.1.2.1, .int .i64 x.1.2.2, .int .i64 x.2.1, .int .i64 x.2.2]) L) R0 R1 /\ R0 G /\ (∀ (k : Nat) (d : Array Value) (e : Mem), encA (fun (x : EvT) => .agg #[.int .i64 x.1.1, .int .i64 x.1.2.1, .int .i64 x.1.2.2, .int .i64 x.2.1, .int .i64 x.2.2]) L k d e -> psOk [.agg [.int .i64, .int .i64, .int .i64, .int .i64, .int .i64]] d.toList = true) /\ (Rf (Ent.mk (.raw (.deferred (some []))) (some a)) /\ Rf (Ent.mk (.raw (.loop ⟨.ready, none, r.fn, r.tmps, r.params, r.assign, r.body, r.defers⟩)) (some c)) /\ Rf (some b) /\ (0 : Nat) = 0 /\ ((b = b /\ a = a /\ c = c /\ True) /\ Rf (Obj.loop ⟨.ready, none, r.fn, r.tmps, r.params, r.assign, r.body, r.defers⟩)) /\ Rf ([] : List Value)) /\ (∀ (k : Nat) (d : Mem), k < L.length -> I.le d -> ∀ (x : List Value), x = List.flatMap (fun (e : EvT) => [.int .i64 e.1.1, .int .i64 e.1.2.1, .int .i64 e.1.2.2, .int .i64 e.2.1, .int .i64 e.2.2]) (List.take k L) -> ∀ (e : Mem), d.le e -> ∀ (n f g h i : Int), encA (fun (j : EvT) => .agg #[.int .i64 j.1.1, .int .i64 j.1.2.1, .int .i64 j.1.2.2, .int .i64 j.2.1, .int .i64 j.2.2]) L k #[.agg #[.int .i64 n, .int .i64 f, .int .i64 g, .int .i64 h, .int .i64 i]] e -> Rf (Obj.loop ⟨.ready, none, r.fn, r.tmps, r.params, r.assign, r.body, r.defers⟩) /\ Rf (some c) /\ x.length = x.length / 5 * 5 /\ x.length / 5 + 1 <= 9223372036854775807 /\ (x.length / 5 + 1) * 40 <= 140737488355328 /\ Rf (Obj.loop ⟨.busy, none, r.fn, r.tmps, r.params, r.assign, r.body, r.defers⟩) /\ Rf (some c) /\ Mem.emp = Mem.emp /\ Rf (Ent.mk (.raw (.deferred (some []))) (some a)) /\ Rf (Ent.mk (.raw (.loop ⟨.ready, none, r.fn, r.tmps, r.params, r.assign, r.body, r.defers⟩)) (some c)) /\ Rf (some b) /\ x.length / 5 + 1 = List.length (x ++ [.int .i64 n, .int .i64 f, .int .i64 g, .int .i64 h, .int .i64 i]) / 5 /\ ((b = b /\ a = a /\ c = c /\ True) /\ Rf (Obj.loop ⟨.ready, none, r.fn, r.tmps, r.params, r.assign, r.body, r.defers⟩)) /\ x ++ [.int .i64 n, .int .i64 f, .int .i64 g, .int .i64 h, .int .i64 i] = List.flatMap (fun (j : EvT) => [.int .i64 j.1.1, .int .i64 j.1.2.1, .int .i64 j.1.2.2, .int .i64 j.2.1, .int .i64 j.2.2]) (List.take (k + 1) L)) /\ (∀ (d : Mem), I.le d -> ∀ (x : List Value), x = List.flatMap (fun (e : EvT) => [.int .i64 e.1.1, .int .i64 e.1.2.1, .int .i64 e.1.2.2, .int .i64 e.2.1, .int .i64 e.2.2]) (List.take L.length L) -> ∀ (e f : Mem), d.le e -> R1 e f -> ∀ (g : Option Addr) (h : Nat) (i : Mem), e.le i -> RowF e i g h 5 x 69 -> LstN 5 I i (.slice g (x.length / 5) h) (List.flatMap (fun (j : EvT) => [.int .i64 j.1.1, .int .i64 j.1.2.1, .int .i64 j.1.2.2, .int .i64 j.2.1, .int .i64 j.2.2]) L) /\ ∃ j, j.le i /\ R1 j f) /\ True) (by kernel_rfl) ?_
 simp only [eq_self, true_and, and_true];intro b bd br rc;have hc : ∀ x, (cE x).length = 5 := fun _ => rfl;refine ⟨hit, hG, ?_, ?_, ?_⟩
 · rintro k args I2 ⟨x, _, rfl⟩; rfl
 · rintro k I1 hk l1 xs hxs I2 l2 n1 n2 n3 n4 n5 ⟨x, hx, he⟩
   cases he
   have hxl : xs.length = (L.take k).length * 5 := by rw [hxs]; exact fm_len hc _
   have hkl : (L.take k).length <= 1000000 := by rw [List.length_take]; omega
   refine ⟨by omega, by omega, by omega, by rw [List.length_append]; simp only [List.length_cons, List.length_nil] <;> omega, ?_⟩
   rw [hxs];exact (fm_snoc (c := cE) hx).symm
 · intro I1 l1 xs hxs I2 G2 l2 hR a cp I3 l3 hrow
   rw [List.take_length] at hxs
   have hxl : xs.length = L.length * 5 := by rw [hxs]; exact fm_len hc _
   subst hxs
   exact ⟨lstN_row hrow (Mem.le_trans l1 l2) (by omega) hxl (by omega), I2, l3, hR⟩
theorem ct40 (L : List EvT) (hL : L.length <= 1000000) (it : Value) (I G : Mem) (R0 : Mem -> Prop) (R1 : Mem -> Mem -> Prop) (hit : GivesR Tryz.prog it I L.length (encA (fun x => .agg #[.int .i64 x.1.1, .int .i64 x.1.2.1, .int .i64 x.1.2.2, .int .i64 x.2.1, .int .i64 x.2.2]) L) R0 R1) (hG : R0 G) :
 CtH Tryz.prog (fnv 40) #[it] I G (fun v I' G' => LstN 5 I I' v (L.flatMap cE) /\ ∃ I1, I1.le I' /\ R1 I1 G') := by
 refine viaR (ctG_via (A := { calls := [(4, .g)] }) Tryz.func40 rfl Tryz.call40 rfl rfl) (CtH Tryz.prog (fnv 70) #[.slice none 0 0, it] I G fun v a b => ∃ c n d, v = .slice c n d /\ LstN 5 I a (.slice c n d) (List.flatMap (fun (x : EvT) => [.int .i64 x.1.1, .int .i64 x.1.2.1, .int .i64 x.1.2.2, .int .i64 x.2.1, .int .i64 x.2.2]) L) /\ ∃ e, e.le a /\ R1 e b) (by kernel_rfl) ?_
 refine (ct70 L hL it I G R0 R1 hit hG).mono fun v I1 G1 l1 h => ?_;obtain ⟨⟨a, n, c, rfl, h1⟩, h2⟩ := h;exact ⟨_, _, _, rfl, ⟨a, n, c, rfl, h1⟩, h2⟩
theorem ct72 (L : List PtT) (hL : L.length <= 1000000) (it : Value) (I G : Mem) (R0 : Mem -> Prop) (R1 : Mem -> Mem -> Prop) (hit : GivesR Tryz.prog it I L.length (encA (fun x => .agg #[.int .i64 x.1, .string (strB x.2.1), .int .i64 x.2.2]) L) R0 R1) (hG : R0 G) :
 CtH Tryz.prog (fnv 72) #[.slice none 0 0, it] I G (fun v I' G' => LstN 3 I I' v (L.flatMap cP) /\ ∃ I1, I1.le I' /\ R1 I1 G') := by
 refine viaR (ctGF_via (A := { rfs := [(3, { n := L.length, enc := encA (fun x => .agg #[.int .i64 x.1, .string (strB x.2.1), .int .i64 x.2.2]) L, ps := [.agg [.int .i64, .str, .int .i64]], pre := [(2, 3, 77)], ents := [(0, .cells [.row 1]), (1, .row)], inv := (fun k vals xss I' _ => match xss with | [xs] => xs = (L.take k).flatMap cP | _ => False), jumps := [], gst := some (fun _ => R0, fun _ => R1) })] }) Tryz.func72 rfl Tryz.call72 rfl rfl) (∀ (b a c : Nat) (r : Loop), GivesR Tryz.prog it I L.length (encA (fun (x : PtT) => .agg #[.int .i64 x.1, .string (strB x.2.1), .int .i64 x.2.2]) L) R0 R1 /\ R0 G /\ (∀ (k : Nat) (d : Array Value) (e : Mem), encA (fun (x : PtT) => .agg #[.int .i64 x.1, .string (strB x.2.1), .int .i64 x.2.2]) L k d e -> psOk [.agg [.int .i64, .str, .int .i64]] d.toList = true) /\ (Rf (Ent.mk (.raw (.deferred (some []))) (some a)) /\ Rf (Ent.mk (.raw (.loop ⟨.ready, none, r.fn, r.tmps, r.params, r.assign, r.body, r.defers⟩)) (some c)) /\ Rf (some b) /\ (0 : Nat) = 0 /\ ((b = b /\ a = a /\ c = c /\ True) /\ Rf (Obj.loop ⟨.ready, none, r.fn, r.tmps, r.params, r.assign, r.body, r.defers⟩)) /\ Rf ([] : List Value)) /\ (∀ (k : Nat) (d : Mem), k < L.length -> I.le d -> ∀ (x : List Value), x = List.flatMap (fun (e : PtT) => [.int .i64 e.1, .string (strB e.2.1), .int .i64 e.2.2]) (List.take k L) -> ∀ (e : Mem), d.le e -> ∀ (n : Int) (q : ByteArray) (f : Int), encA (fun (g : PtT) => .agg #[.int .i64 g.1, .string (strB g.2.1), .int .i64 g.2.2]) L k #[.agg #[.int .i64 n, .string q, .int .i64 f]] e -> Rf (Obj.loop ⟨.ready, none, r.fn, r.tmps, r.params, r.assign, r.body, r.defers⟩) /\ Rf (some c) /\ x.length = x.length / 3 * 3 /\ x.length / 3 + 1 <= 9223372036854775807 /\ (x.length / 3 + 1) * 32 <= 140737488355328 /\ Rf (Obj.loop ⟨.busy, none, r.fn, r.tmps, r.params, r.assign, r.body, r.defers⟩) /\ Rf (some c) /\ Mem.emp = Mem.emp /\ Rf (Ent.mk (.raw (.deferred (some []))) (some a)) /\ Rf (Ent.mk (.raw (.loop ⟨.ready, none, r.fn, r.tmps, r.params, r.assign, r.body, r.defers⟩)) (some c)) /\ Rf (some b) /\ x.length / 3 + 1 = List.length (x ++ [.int .i64 n, .string q, .int .i64 f]) / 3 /\ ((b = b /\ a = a /\ c = c /\ True) /\ Rf (Obj.loop ⟨.ready, none, r.fn, r.tmps, r.params, r.assign, r.body, r.defers⟩)) /\ x ++ [.int .i64 n, .string q, .int .i64 f] = List.flatMap (fun (g : PtT) => [.int .i64 g.1, .string (strB g.2.1), .int .i64 g.2.2]) (List.take (k + 1) L)) /\ (∀ (d : Mem), I.le d -> ∀ (x : List Value), x = List.flatMap (fun (e : PtT) => [.int .i64 e.1, .string (strB e.2.1), .int .i64 e.2.2]) (List.take L.length L) -> ∀ (e f : Mem), d.le e -> R1 e f -> ∀ (g : Option Addr) (h : Nat) (i : Mem), e.le i -> RowF e i g h 3 x 77 -> LstN 3 I i (.slice g (x.length / 3) h) (List.flatMap (fun (j : PtT) => [.int .i64 j.1, .string (strB j.2.1), .int .i64 j.2.2]) L) /\ ∃ j, j.le i /\ R1 j f) /\ True) (by kernel_rfl) ?_
 simp only [eq_self, true_and, and_true];intro b bd br rc;have hc : ∀ x, (cP x).length = 3 := fun _ => rfl;refine ⟨hit, hG, ?_, ?_, ?_⟩
 · rintro k args I2 ⟨x, _, rfl⟩; rfl
 · rintro k I1 hk l1 xs hxs I2 l2 n1 n2 n3 ⟨x, hx, he⟩
   cases he
   have hxl : xs.length = (L.take k).length * 3 := by rw [hxs]; exact fm_len hc _
   have hkl : (L.take k).length <= 1000000 := by rw [List.length_take]; omega
   refine ⟨by omega, by omega, by omega, by rw [List.length_append]; simp only [List.length_cons, List.length_nil] <;> omega, ?_⟩
   rw [hxs];exact (fm_snoc (c := cP) hx).symm
 · intro I1 l1 xs hxs I2 G2 l2 hR a cp I3 l3 hrow
   rw [List.take_length] at hxs
   have hxl : xs.length = L.length * 3 := by rw [hxs]; exact fm_len hc _
   subst hxs
   exact ⟨lstN_row hrow (Mem.le_trans l1 l2) (by omega) hxl (by omega), I2, l3, hR⟩
theorem ct43 (L : List PtT) (hL : L.length <= 1000000) (it : Value) (I G : Mem) (R0 : Mem -> Prop) (R1 : Mem -> Mem -> Prop) (hit : GivesR Tryz.prog it I L.length (encA (fun x => .agg #[.int .i64 x.1, .string (strB x.2.1), .int .i64 x.2.2]) L) R0 R1) (hG : R0 G) :
 CtH Tryz.prog (fnv 43) #[it] I G (fun v I' G' => LstN 3 I I' v (L.flatMap cP) /\ ∃ I1, I1.le I' /\ R1 I1 G') := by
 refine viaR (ctG_via (A := { calls := [(4, .g)] }) Tryz.func43 rfl Tryz.call43 rfl rfl) (CtH Tryz.prog (fnv 72) #[.slice none 0 0, it] I G fun v a b => ∃ c n d, v = .slice c n d /\ LstN 3 I a (.slice c n d) (List.flatMap (fun (x : PtT) => [.int .i64 x.1, .string (strB x.2.1), .int .i64 x.2.2]) L) /\ ∃ e, e.le a /\ R1 e b) (by kernel_rfl) ?_
 refine (ct72 L hL it I G R0 R1 hit hG).mono fun v I1 G1 l1 h => ?_;obtain ⟨⟨a, n, c, rfl, h1⟩, h2⟩ := h;exact ⟨_, _, _, rfl, ⟨a, n, c, rfl, h1⟩, h2⟩
theorem ct74 (L : List HdT) (hL : L.length <= 1000000) (it : Value) (I G : Mem) (R0 : Mem -> Prop) (R1 : Mem -> Mem -> Prop) (hit : GivesR Tryz.prog it I L.length (encA (fun x => .agg #[.int .i64 x.1, .int .i64 x.2.1, .int .i64 x.2.2.1, .int .i64 x.2.2.2.1, .int .u8 x.2.2.2.2]) L) R0 R1) (hG : R0 G) :
 CtH Tryz.prog (fnv 74) #[.slice none 0 0, it] I G (fun v I' G' => LstN 5 I I' v (L.flatMap cH) /\ ∃ I1, I1.le I' /\ R1 I1 G') := by
 refine viaR (ctGF_via (A := { rfs := [(3, { n := L.length, enc := encA (fun x => .agg #[.int .i64 x.1, .int .i64 x.2.1, .int .i64 x.2.2.1, .int .i64 x.2.2.2.1, .int .u8 x.2.2.2.2]) L, ps := [.agg [.int .i64, .int .i64, .int .i64, .int .i64, .int .u8]], pre := [(2, 5, 80)], ents := [(0, .cells [.row 1]), (1, .row)], inv := (fun k vals xss I' _ => match xss with | [xs] => xs = (L.take k).flatMap cH | _ => False), jumps := [], gst := some (fun _ => R0, fun _ => R1) })] }) Tryz.func74 rfl Tryz.call74 rfl rfl) (∀ (b a c : Nat) (r : Loop), GivesR Tryz.prog it I L.length (encA (fun (x : HdT) => .agg #[.int .i64 x.1, .int .i64 x.2.1, .int .i64 x.2.2.1, .int .i64 x.2.2.2.1, .int .u8 x.2.2.2.2]) L) R0 R1 /\ R0 G /\ (∀ (k : Nat) (d : Array Value) (e : Mem), encA (fun (x : HdT) => .agg #[.int .i64 x.1, .int .i64 x.2.1, .int .i64 x.2.2.1, .int .i64 x.2.2.2.1, .int .u8 x.2.2.2.2]) L k d e -> psOk [.agg [.int .i64, .int .i64, .int .i64, .int .i64, .int .u8]] d.toList = true) /\ (Rf (Ent.mk (.raw (.deferred (some []))) (some a)) /\ Rf (Ent.mk (.raw (.loop ⟨.ready, none, r.fn, r.tmps, r.params, r.assign, r.body, r.defers⟩)) (some c)) /\ Rf (some b) /\ (0 : Nat) = 0 /\ ((b = b /\ a = a /\ c = c /\ True) /\ Rf (Obj.loop ⟨.ready, none, r.fn, r.tmps, r.params, r.assign, r.body, r.defers⟩)) /\ Rf ([] : List Value)) /\ (∀ (k : Nat) (d : Mem), k < L.length -> I.le d -> ∀ (x : List Value), x = List.flatMap (fun (e : HdT) => [.int .i64 e.1, .int .i64 e.2.1, .int .i64 e.2.2.1, .int .i64 e.2.2.2.1, .int .u8 e.2.2.2.2]) (List.take k L) -> ∀ (e : Mem), d.le e -> ∀ (n f g h i : Int), encA (fun (j : HdT) => .agg #[.int .i64 j.1, .int .i64 j.2.1, .int .i64 j.2.2.1, .int .i64 j.2.2.2.1, .int .u8 j.2.2.2.2]) L k #[.agg #[.int .i64 n, .int .i64 f, .int .i64 g, .int .i64 h, .int .u8 i]] e -> Rf (Obj.loop ⟨.ready, none, r.fn, r.tmps, r.params, r.assign, r.body, r.defers⟩) /\ Rf (some c) /\ x.length = x.length / 5 * 5 /\ x.length / 5 + 1 <= 9223372036854775807 /\ (x.length / 5 + 1) * 40 <= 140737488355328 /\ Rf (Obj.loop ⟨.busy, none, r.fn, r.tmps, r.params, r.assign, r.body, r.defers⟩) /\ Rf (some c) /\ Mem.emp = Mem.emp /\ Rf (Ent.mk (.raw (.deferred (some []))) (some a)) /\ Rf (Ent.mk (.raw (.loop ⟨.ready, none, r.fn, r.tmps, r.params, r.assign, r.body, r.defers⟩)) (some c)) /\ Rf (some b) /\ x.length / 5 + 1 = List.length (x ++ [.int .i64 n, .int .i64 f, .int .i64 g, .int .i64 h, .int .u8 i]) / 5 /\ ((b = b /\ a = a /\ c = c /\ True) /\ Rf (Obj.loop ⟨.ready, none, r.fn, r.tmps, r.params, r.assign, r.body, r.defers⟩)) /\ x ++ [.int .i64 n, .int .i64 f, .int .i64 g, .int .i64 h, .int .u8 i] = List.flatMap (fun (j : HdT) => [.int .i64 j.1, .int .i64 j.2.1, .int .i64 j.2.2.1, .int .i64 j.2.2.2.1, .int .u8 j.2.2.2.2]) (List.take (k + 1) L)) /\ (∀ (d : Mem), I.le d -> ∀ (x : List Value), x = List.flatMap (fun (e : HdT) => [.int .i64 e.1, .int .i64 e.2.1, .int .i64 e.2.2.1, .int .i64 e.2.2.2.1, .int .u8 e.2.2.2.2]) (List.take L.length L) -> ∀ (e f : Mem), d.le e -> R1 e f -> ∀ (g : Option Addr) (h : Nat) (i : Mem), e.le i -> RowF e i g h 5 x 80 -> LstN 5 I i (.slice g (x.length / 5) h) (List.flatMap (fun (j : HdT) => [.int .i64 j.1, .int .i64 j.2.1, .int .i64 j.2.2.1, .int .i64 j.2.2.2.1, .int .u8 j.2.2.2.2]) L) /\ ∃ j, j.le i /\ R1 j f) /\ True) (by kernel_rfl) ?_
 simp only [eq_self, true_and, and_true];intro b bd br rc;have hc : ∀ x, (cH x).length = 5 := fun _ => rfl;refine ⟨hit, hG, ?_, ?_, ?_⟩
 · rintro k args I2 ⟨x, _, rfl⟩; rfl
 · rintro k I1 hk l1 xs hxs I2 l2 n1 n2 n3 n4 n5 ⟨x, hx, he⟩
   cases he
   have hxl : xs.length = (L.take k).length * 5 := by rw [hxs]; exact fm_len hc _
   have hkl : (L.take k).length <= 1000000 := by rw [List.length_take]; omega
   refine ⟨by omega, by omega, by omega, by rw [List.length_append]; simp only [List.length_cons, List.length_nil] <;> omega, ?_⟩
   rw [hxs];exact (fm_snoc (c := cH) hx).symm
 · intro I1 l1 xs hxs I2 G2 l2 hR a cp I3 l3 hrow
   rw [List.take_length] at hxs
   have hxl : xs.length = L.length * 5 := by rw [hxs]; exact fm_len hc _
   subst hxs
   exact ⟨lstN_row hrow (Mem.le_trans l1 l2) (by omega) hxl (by omega), I2, l3, hR⟩
theorem ct46 (L : List HdT) (hL : L.length <= 1000000) (it : Value) (I G : Mem) (R0 : Mem -> Prop) (R1 : Mem -> Mem -> Prop) (hit : GivesR Tryz.prog it I L.length (encA (fun x => .agg #[.int .i64 x.1, .int .i64 x.2.1, .int .i64 x.2.2.1, .int .i64 x.2.2.2.1, .int .u8 x.2.2.2.2]) L) R0 R1) (hG : R0 G) :
 CtH Tryz.prog (fnv 46) #[it] I G (fun v I' G' => LstN 5 I I' v (L.flatMap cH) /\ ∃ I1, I1.le I' /\ R1 I1 G') := by
 refine viaR (ctG_via (A := { calls := [(4, .g)] }) Tryz.func46 rfl Tryz.call46 rfl rfl) (CtH Tryz.prog (fnv 74) #[.slice none 0 0, it] I G fun v a b => ∃ c n d, v = .slice c n d /\ LstN 5 I a (.slice c n d) (List.flatMap (fun (x : HdT) => [.int .i64 x.1, .int .i64 x.2.1, .int .i64 x.2.2.1, .int .i64 x.2.2.2.1, .int .u8 x.2.2.2.2]) L) /\ ∃ e, e.le a /\ R1 e b) (by kernel_rfl) ?_
 refine (ct74 L hL it I G R0 R1 hit hG).mono fun v I1 G1 l1 h => ?_;obtain ⟨⟨a, n, c, rfl, h1⟩, h2⟩ := h;exact ⟨_, _, _, rfl, ⟨a, n, c, rfl, h1⟩, h2⟩
set_option maxHeartbeats 1000000
theorem CtH.capture {P : Program} {f : FuncId} {first args cap : Array Value} {I G : Mem} {post : Value -> Mem -> Mem -> Prop} (h : CtH P (fnv f) (first ++ args ++ cap) I G post) : CtH P (.func (.func f) first cap) args I G post := by
 intro W hI hG hap;have := h W hI hG hap;unfold CallV fnv at *;rw [run_semV_func] at *;simpa using this
theorem next_len {s : RS} (hb : byteL s.1) : (nextR s).2.1.length <= s.1.length /\ byteL (nextR s).2.1 /\ (s.1 ≠ [] -> s.2 = false -> (nextR s).2.1.length < s.1.length) := by
 unfold nextR;split
 · refine ⟨Nat.zero_le _, (fun z hz => by cases hz), fun h _ => List.length_pos_iff.2 h⟩
 · rename_i h
   simp only [not_or, Decidable.not_not] at h;obtain ⟨g1, g2, g3, g4, g5, g6, g7⟩ := readN_back hb (x := (readN s.1 0).1) (n := (readN s.1 0).2.1) (at_ := 0) (Prod.ext rfl (Prod.ext rfl h.2));have := (formN_le _ g4).2;simp only [List.length_drop]
   exact ⟨by omega, fun z hz => hb z (List.mem_of_mem_drop hz), fun _ _ => by omega⟩
theorem num_len {s : RS} (hb : byteL s.1) : (numQ s).2.1.length <= s.1.length /\ byteL (numQ s).2.1 /\ (s.1 ≠ [] -> s.2 = false -> (numQ s).2.1.length < s.1.length) := next_len hb
theorem key_len {s : RS} (hb : byteL s.1) : (keyQ s).2.1.length <= s.1.length /\ byteL (keyQ s).2.1 /\ (s.1 ≠ [] -> s.2 = false -> (keyQ s).2.1.length < s.1.length) := by
 obtain ⟨a1, a2, a3⟩ := num_len hb;obtain ⟨b1, b2, _⟩ := num_len a2;obtain ⟨c1, c2, _⟩ := num_len b2;have e : (keyQ s).2 = (numQ (numQ (numQ s).2).2).2 := rfl;rw [e]
 exact ⟨by omega, c2, fun h h' => by have := a3 h h'; omega⟩
theorem dec_num : Dec numQ := fun s hb h h' => (num_len hb).2.2 h h'
theorem dec_val : Dec valQ := fun s hb h h' => (next_len hb).2.2 h h'
theorem dec_ev : Dec evQ := fun s hb h h' => by
 obtain ⟨a1, a2, a3⟩ := key_len hb;obtain ⟨b1, b2, _⟩ := num_len a2;obtain ⟨c1, c2, _⟩ := next_len b2;have e : (evQ s).2 = (nextR (numQ (keyQ s).2).2).2 := rfl;rw [e];have := a3 h h';omega
def hdT (p1 p2 p3 p4 p5 : Int × RS) : HdT × RS := ((p1.1, p2.1, p3.1, p4.1, IntKind.u8.wrap p5.1), (p5.2.1, p5.2.2 || decide (255 < p5.1)))
theorem hd_eq (s : RS) : hdQ s = hdT (numQ s) (numQ (numQ s).2) (numQ (numQ (numQ s).2).2) (numQ (numQ (numQ (numQ s).2).2).2) (numQ (numQ (numQ (numQ (numQ s).2).2).2).2) := by rw [hdQ, hdT]
theorem hdT_rest (p1 p2 p3 p4 p5 : Int × RS) : (hdT p1 p2 p3 p4 p5).2.1 = p5.2.1 := rfl
theorem hd_rest {s s1 s2 s3 s4 : RS} (h1 : (numQ s).2 = s1) (h2 : (numQ s1).2 = s2) (h3 : (numQ s2).2 = s3) (h4 : (numQ s3).2 = s4) : (hdQ s).2.1 = (numQ s4).2.1 := by
 have e := congrArg (fun p : HdT × RS => p.2.1) (hd_eq s);simp only [h1, h2, h3, h4] at e;exact e.trans (hdT_rest _ _ _ _ _)
theorem dec_hd : Dec hdQ := fun s hb h h' => by
 obtain ⟨a1, a2, a3⟩ := num_len hb;have a3 := a3 h h';obtain ⟨s1, h1⟩ : ∃ s1, (numQ s).2 = s1 := ⟨_, rfl⟩;rw [h1] at a1 a2 a3;obtain ⟨b1, b2, _⟩ := num_len a2;obtain ⟨s2, h2⟩ : ∃ s2, (numQ s1).2 = s2 := ⟨_, rfl⟩;rw [h2] at b1 b2;obtain ⟨c1, c2, _⟩ := num_len b2;obtain ⟨s3, h3⟩ : ∃ s3, (numQ s2).2 = s3 := ⟨_, rfl⟩;rw [h3] at c1 c2;obtain ⟨d1, d2, _⟩ := num_len c2;obtain ⟨s4, h4⟩ : ∃ s4, (numQ s3).2 = s4 := ⟨_, rfl⟩;rw [h4] at d1 d2;obtain ⟨e1, _⟩ := num_len d2;rw [hd_rest h1 h2 h3 h4];omega
theorem dec_port : Dec portQ := fun s hb h h' => by
 obtain ⟨a1, a2, a3⟩ := num_len hb;obtain ⟨b1, b2, _⟩ := num_len a2;obtain ⟨c1, c2, _⟩ := num_len b2
 have e : (portQ s).2.1.length <= (szQ s).2.1.length := by
  unfold portQ;split
  · exact Nat.le_refl _
  · simp only [List.length_drop]; omega
 have e2 : (szQ s).2.1 = (numQ (numQ (numQ s).2).2).2.1 := rfl;rw [e2] at e;have := a3 h h';omega
theorem runAll_len {α : Type} {take : RS -> α × RS} : ∀ (k : Nat) (s : RS), (runAll take k s).1.length <= k
 | 0, s => Nat.le_refl 0
 | k + 1, s => by
   rw [runAll];split
   · exact Nat.zero_le _
   · simp only [List.length_cons]
     have := runAll_len (take := take) k (take s).2;omega
structure Rs where
 num : Int
 code : Int
 ser : Int
 port : Int
 time : Int
 kind : Int
 more : Bool
 key : Int × Int × Int
 counts : List Int
 cells : List Int
 events : List EvT
 ports : List PtT
 handles : List HdT
structure Ys where
 c : Value
 l : Value
 e : Value
 p : Value
 h : Value
def rsV (r : Rs) (y : Ys) : List Value := [.int .i64 r.num, .int .i64 r.code, .int .i64 r.ser, .int .i64 r.port, .int .i64 r.time, .int .u8 r.kind, .bool r.more, .int .i64 r.key.1, .int .i64 r.key.2.1, .int .i64 r.key.2.2, y.c, y.l, y.e, y.p, y.h]
def LstM (sz : Nat) (I : Mem) (v : Value) (xs : List Value) : Prop := ∃ a n c, v = .slice a n c /\ SlM I a n sz xs /\ n <= c /\ c <= maxLen
theorem LstM.mono {sz : Nat} {I J : Mem} {v : Value} {xs : List Value} (h : LstM sz I v xs) (hle : I.le J) : LstM sz J v xs := by
 obtain ⟨a, n, c, h1, h2, h3⟩ := h;exact ⟨a, n, c, h1, h2.mono hle, h3⟩
theorem LstN.lst {sz : Nat} {I I' : Mem} {v : Value} {xs : List Value} (h : LstN sz I I' v xs) : LstM sz I' v xs := by
 obtain ⟨a, n, c, h1, h2, h3, h4, _⟩ := h;exact ⟨a, n, c, h1, h2, h3, h4⟩
structure RsM (I : Mem) (r : Rs) (y : Ys) : Prop where
 c : LstM 1 I y.c (r.counts.flatMap cI)
 l : LstM 1 I y.l (r.cells.flatMap cI)
 e : LstM 5 I y.e (r.events.flatMap cE)
 p : LstM 3 I y.p (r.ports.flatMap cP)
 h : LstM 5 I y.h (r.handles.flatMap cH)
theorem RsM.mono {I J : Mem} {r : Rs} {y : Ys} (h : RsM I r y) (hle : I.le J) : RsM J r y := ⟨h.c.mono hle, h.l.mono hle, h.e.mono hle, h.p.mono hle, h.h.mono hle⟩
def NewL (sz : Nat) (I0 I : Mem) (v : Value) : Prop := ∀ a n c, v = .slice a n c -> NewS sz I0 I a c
structure NewY (I0 I : Mem) (y : Ys) : Prop where
 c : NewL 1 I0 I y.c
 l : NewL 1 I0 I y.l
 e : NewL 5 I0 I y.e
 p : NewL 3 I0 I y.p
 h : NewL 5 I0 I y.h
theorem NewL.mono {sz : Nat} {I0 I J : Mem} {v : Value} (h : NewL sz I0 I v) (hle : I.le J) : NewL sz I0 J v := fun a n c hv => (h a n c hv).mono hle
theorem NewL.anti {sz : Nat} {I0 J0 I : Mem} {v : Value} (h : NewL sz I0 I v) (hle : J0.le I0) : NewL sz J0 I v := fun a n c hv => (h a n c hv).anti hle
theorem NewY.mono {I0 I J : Mem} {y : Ys} (h : NewY I0 I y) (hle : I.le J) : NewY I0 J y := ⟨h.c.mono hle, h.l.mono hle, h.e.mono hle, h.p.mono hle, h.h.mono hle⟩
theorem LstN.new {sz : Nat} {I I' : Mem} {v : Value} {xs : List Value} (h : LstN sz I I' v xs) : NewL sz I I' v := by
 obtain ⟨a, n, c, rfl, _, _, _, h4⟩ := h;intro a' n' c' hv;cases hv;exact h4
def takeS (r : Rs) (t : Int) (bs : List Int) : Rs × RS :=
 if t = 1 then ({ r with num := (numQ (bs, false)).1 }, (numQ (bs, false)).2)
 else if t = 2 then ({ r with kind := IntKind.u8.wrap (imin (numQ (bs, false)).1 255) }, (numQ (bs, false)).2)
 else if t = 3 then ({ r with code := (numQ (bs, false)).1 }, (numQ (bs, false)).2)
 else if t = 4 then ({ r with ser := (numQ (bs, false)).1 }, (numQ (bs, false)).2)
 else if t = 5 then ({ r with port := (numQ (bs, false)).1 }, (numQ (bs, false)).2)
 else if t = 6 then ({ r with time := (numQ (bs, false)).1 }, (numQ (bs, false)).2)
 else if t = 7 then ({ r with more := true }, (bs, false))
 else if t = 8 then ({ r with key := (keyQ (bs, false)).1 }, (keyQ (bs, false)).2)
 else if t = 9 then ({ r with counts := (runAll numQ bs.length (bs, false)).1 }, (runAll numQ bs.length (bs, false)).2)
 else if t = 10 then ({ r with cells := (runAll valQ bs.length (bs, false)).1 }, (runAll valQ bs.length (bs, false)).2)
 else if t = 11 then ({ r with events := (runAll evQ bs.length (bs, false)).1 }, (runAll evQ bs.length (bs, false)).2)
 else if t = 12 then ({ r with ports := (runAll portQ bs.length (bs, false)).1 }, (runAll portQ bs.length (bs, false)).2)
 else if t = 13 then ({ r with handles := (runAll hdQ bs.length (bs, false)).1 }, (runAll hdQ bs.length (bs, false)).2)
 else (r, ([], true))
theorem rdB {I G : Mem} {kb : Nat} {s : RS} (h : Rd I G kb s) : ∃ a n c, atI G (some ⟨kb, 0, none⟩) 0 = some (.slice a n c) /\ atI G (some ⟨kb, 0, none⟩) 1 = some (.bool s.2) /\ n = s.1.length := by
 obtain ⟨a, n, c, hG, hs, _⟩ := h;exact ⟨a, n, c, atC hG rfl, atC hG rfl, hs.numLen⟩
def ptrX (kv kb : Nat) : Mem := fun x => if x = kv then some (.cells #[.pointer (some ⟨kb, 0, none⟩)] 92 (0, 0)) else none
theorem ptrX_le {kv kb : Nat} {G : Mem} (h : G kv = some (.cells #[.pointer (some ⟨kb, 0, none⟩)] 92 (0, 0))) : (ptrX kv kb).le G := fun b o hb => by
 unfold ptrX at hb
 split at hb
 · rename_i e
   rw [e, h, <- hb]
 · cases hb
theorem ptrX_at {kv kb : Nat} {G : Mem} (h : (ptrX kv kb).le G) : G kv = some (.cells #[.pointer (some ⟨kb, 0, none⟩)] 92 (0, 0)) := h _ _ (if_pos rfl)
theorem ptrX_no {kv kb : Nat} (h : kb ≠ kv) : ptrX kv kb kb = none := if_neg h
theorem tk_num (kv kb : Nat) (I : Mem) : TakeOk numQ (fun x => .int .i64 x) (.func (.func 31) #[.pointer (some ⟨kb, 0, none⟩)] #[]) (ptrX kv kb) kb I := fun s I' G _ _ h => CtH.capture (ct31 s _ rfl kb I' G h)
theorem tk_ev (kv kb : Nat) (I : Mem) : TakeOk evQ (fun x => .agg #[.int .i64 x.1.1, .int .i64 x.1.2.1, .int .i64 x.1.2.2, .int .i64 x.2.1, .int .i64 x.2.2]) (.func (.func 42) #[.pointer (some ⟨kb, 0, none⟩)] #[]) (ptrX kv kb) kb I := fun s I' G _ _ h => CtH.capture (ct42 s _ rfl kb I' G h)
theorem tk_port (kv kb : Nat) (I : Mem) : TakeOk portQ (fun x => .agg #[.int .i64 x.1, .string (strB x.2.1), .int .i64 x.2.2]) (.func (.func 45) #[.pointer (some ⟨kb, 0, none⟩)] #[]) (ptrX kv kb) kb I := fun s I' G _ _ h => CtH.capture (ct45 s _ rfl kb I' G h)
theorem tk_hd (kv kb : Nat) (I : Mem) : TakeOk hdQ (fun x => .agg #[.int .i64 x.1, .int .i64 x.2.1, .int .i64 x.2.2.1, .int .i64 x.2.2.2.1, .int .u8 x.2.2.2.2]) (.func (.func 48) #[.pointer (some ⟨kb, 0, none⟩)] #[]) (ptrX kv kb) kb I := fun s I' G _ _ h => CtH.capture (ct48 s _ rfl kb I' G h)
theorem tk_val (kv kb : Nat) (I : Mem) : TakeOk valQ (fun x => .int .i64 x) (.func (.func 37) #[] #[.pointer (some ⟨kv, 0, none⟩)]) (ptrX kv kb) kb I := fun s I' G _ hX h => CtH.capture (ct37 s _ rfl kb kv 92 I' G h (ptrX_at hX))
def okS (s : RS) : Bool := !s.2 && decide (s.1 = [])
def TakeP (r : Rs) (y : Ys) (t : Int) (bs : List Int) (kb : Nat) (I I0 : Mem) (sv : SV) (H' : List Ent) (I' : Mem) : Prop :=
 ∃ y', sv = .v (.bool (okS (takeS r t bs).2)) /\ H' = [⟨.cells ((rsV (takeS r t bs).1 y').map .v) 34, some kb⟩] /\ (RsM I r y -> RsM I' (takeS r t bs).1 y') /\ (NewY I0 I y -> I0.le I -> NewY I0 I' y')
theorem eqv {w c : Int} (h : (w == c) = true) : w = c := by simpa using h
theorem nev {w c : Int} (h : (w == c) = false) : w ≠ c := by simpa using h
theorem takeP_mk {r r' : Rs} {y y' : Ys} {t : Int} {bs : List Int} {kb : Nat} {I I0 I' : Mem} {st : RS} {ok : Bool} (hT : takeS r t bs = (r', st)) (hok : ok = okS st) (hM : RsM I r y -> RsM I' r' y') (hN : NewY I0 I y -> I0.le I -> NewY I0 I' y') :
 TakeP r y t bs kb I I0 (.v (.bool ok)) [⟨.cells ((rsV r' y').map .v) 34, some kb⟩] I' := by
 refine ⟨y', ?_, ?_, ?_, hN⟩
 · rw [hT, hok]
 · rw [hT]
 · rw [hT]; exact hM
theorem cs17 (t : Int) (kb : Nat) (r : Rs) (y : Ys) (bs : List Int) (hb : byteL bs) (b : Option Addr) (m d : Nat) (I0 I : Mem) (hs : SlM I b m 1 (ints .u8 bs)) (hd : m <= d) (hm : d <= maxLen) (hn : m <= 1000000) :
 CtS Tryz.prog (.v (fnv 17)) [.ptr 0 0, .v (.agg #[.int .i64 t, .slice b m d])] [⟨.cells ((rsV r y).map .v) 34, some kb⟩] I (TakeP r y t bs kb I I0) := by
 refine viaR (ctS_via (A := { gives := [(2, [3])], calls := [(16, .g), (17, .g), (22, .g), (23, .g), (33, .g), (34, .g), (40, .g), (41, .g), (47, .g), (48, .g), (54, .g), (55, .g), (66, .g), (67, .g), (73, .g), (74, .g), (77, .g), (83, .g), (86, .g), (92, .g), (93, .g), (96, .g), (102, .g), (103, .g), (106, .g), (112, .g), (113, .g), (116, .g), (119, .g), (122, .g), (125, .g), (128, .g)] }) Tryz.func17 rfl Tryz.call17 [0] rfl) (let E1 := fun (x : Nat) => .cells #[.pointer (some ⟨x, 0, none⟩)] 92 (0, 0)
  let E2 := Obj.cells #[.slice b m d, .bool false] 94 (0, 0)
  let E4 := fun (x : Nat) => .v (.bool ((x : Int) == 0))
  let E6 := SV.v (.int .i64 r.key.2.1)
  let E7 := SV.v (.int .i64 r.key.2.2)
  let E3 := [SV.v (.int .i64 r.key.1), E6, E7, .v y.c, .v y.l, .v y.e, .v y.p, .v y.h]
  let E5 := SV.v (.int .i64 r.port) :: .v (.int .i64 r.time) :: .v (.int .u8 r.kind) :: .v (.bool r.more) :: E3
  ∀ (a : Nat), I a = none -> Rf (none : Option Obj) -> ∀ (c : Nat), I c = none -> (if c = a then some E2 else (none : Option Obj)) = none -> Br (t == 1) (∃ e, atI (addB (addB Mem.emp a E2) c (E1 a)) (some ⟨c, 0, none⟩) 0 = some (.pointer e) /\ CtH Tryz.prog (fnv 31) #[.pointer e] I (addB (addB Mem.emp a E2) c (E1 a)) fun v f G => ∃ n, v = .int .i64 n /\ ∃ g, atI G (some ⟨c, 0, none⟩) 0 = some (.pointer g) /\ g.isSome = true /\ g.isSome = true /\ ∃ h, atI G g 1 = some (.bool h) /\ Br (!h) (∃ i, atI G (some ⟨c, 0, none⟩) 0 = some (.pointer i) /\ i.isSome = true /\ i.isSome = true /\ ∃ j k l, atI G i 0 = some (.slice j k l) /\ TakeP r y t bs kb I I0 (E4 k) [⟨.cells (.v (.int .i64 n) :: .v (.int .i64 r.code) :: .v (.int .i64 r.ser) :: E5) 34, some kb⟩] f) (TakeP r y t bs kb I I0 (.v (.bool false)) [⟨.cells (.v (.int .i64 n) :: .v (.int .i64 r.code) :: .v (.int .i64 r.ser) :: E5) 34, some kb⟩] f)) (Br (t == 2) (∃ e, atI (addB (addB Mem.emp a E2) c (E1 a)) (some ⟨c, 0, none⟩) 0 = some (.pointer e) /\ CtH Tryz.prog (fnv 31) #[.pointer e] I (addB (addB Mem.emp a E2) c (E1 a)) fun v f G => ∃ n, v = .int .i64 n /\ Wr .u8 (bif false then imax n 255 else imin n 255) fun g => ∃ h, atI G (some ⟨c, 0, none⟩) 0 = some (.pointer h) /\ h.isSome = true /\ h.isSome = true /\ ∃ i, atI G h 1 = some (.bool i) /\ Br (!i) (∃ j, atI G (some ⟨c, 0, none⟩) 0 = some (.pointer j) /\ j.isSome = true /\ j.isSome = true /\ ∃ k l o, atI G j 0 = some (.slice k l o) /\ TakeP r y t bs kb I I0 (E4 l) [⟨.cells (.v (.int .i64 r.num) :: .v (.int .i64 r.code) :: .v (.int .i64 r.ser) :: .v (.int .i64 r.port) :: .v (.int .i64 r.time) :: .v (.int .u8 g) :: .v (.bool r.more) :: E3) 34, some kb⟩] f) (TakeP r y t bs kb I I0 (.v (.bool false)) [⟨.cells (.v (.int .i64 r.num) :: .v (.int .i64 r.code) :: .v (.int .i64 r.ser) :: .v (.int .i64 r.port) :: .v (.int .i64 r.time) :: .v (.int .u8 g) :: .v (.bool r.more) :: E3) 34, some kb⟩] f)) (Br (t == 3) (∃ e, atI (addB (addB Mem.emp a E2) c (E1 a)) (some ⟨c, 0, none⟩) 0 = some (.pointer e) /\ CtH Tryz.prog (fnv 31) #[.pointer e] I (addB (addB Mem.emp a E2) c (E1 a)) fun v f G => ∃ n, v = .int .i64 n /\ ∃ g, atI G (some ⟨c, 0, none⟩) 0 = some (.pointer g) /\ g.isSome = true /\ g.isSome = true /\ ∃ h, atI G g 1 = some (.bool h) /\ Br (!h) (∃ i, atI G (some ⟨c, 0, none⟩) 0 = some (.pointer i) /\ i.isSome = true /\ i.isSome = true /\ ∃ j k l, atI G i 0 = some (.slice j k l) /\ TakeP r y t bs kb I I0 (E4 k) [⟨.cells (.v (.int .i64 r.num) :: .v (.int .i64 n) :: .v (.int .i64 r.ser) :: E5) 34, some kb⟩] f) (TakeP r y t bs kb I I0 (.v (.bool false)) [⟨.cells (.v (.int .i64 r.num) :: .v (.int .i64 n) :: .v (.int .i64 r.ser) :: E5) 34, some kb⟩] f)) (Br (t == 4) (∃ e, atI (addB (addB Mem.emp a E2) c (E1 a)) (some ⟨c, 0, none⟩) 0 = some (.pointer e) /\ CtH Tryz.prog (fnv 31) #[.pointer e] I (addB (addB Mem.emp a E2) c (E1 a)) fun v f G => ∃ n, v = .int .i64 n /\ ∃ g, atI G (some ⟨c, 0, none⟩) 0 = some (.pointer g) /\ g.isSome = true /\ g.isSome = true /\ ∃ h, atI G g 1 = some (.bool h) /\ Br (!h) (∃ i, atI G (some ⟨c, 0, none⟩) 0 = some (.pointer i) /\ i.isSome = true /\ i.isSome = true /\ ∃ j k l, atI G i 0 = some (.slice j k l) /\ TakeP r y t bs kb I I0 (E4 k) [⟨.cells (.v (.int .i64 r.num) :: .v (.int .i64 r.code) :: .v (.int .i64 n) :: E5) 34, some kb⟩] f) (TakeP r y t bs kb I I0 (.v (.bool false)) [⟨.cells (.v (.int .i64 r.num) :: .v (.int .i64 r.code) :: .v (.int .i64 n) :: E5) 34, some kb⟩] f)) (Br (t == 5) (∃ e, atI (addB (addB Mem.emp a E2) c (E1 a)) (some ⟨c, 0, none⟩) 0 = some (.pointer e) /\ CtH Tryz.prog (fnv 31) #[.pointer e] I (addB (addB Mem.emp a E2) c (E1 a)) fun v f G => ∃ n, v = .int .i64 n /\ ∃ g, atI G (some ⟨c, 0, none⟩) 0 = some (.pointer g) /\ g.isSome = true /\ g.isSome = true /\ ∃ h, atI G g 1 = some (.bool h) /\ Br (!h) (∃ i, atI G (some ⟨c, 0, none⟩) 0 = some (.pointer i) /\ i.isSome = true /\ i.isSome = true /\ ∃ j k l, atI G i 0 = some (.slice j k l) /\ TakeP r y t bs kb I I0 (E4 k) [⟨.cells (.v (.int .i64 r.num) :: .v (.int .i64 r.code) :: .v (.int .i64 r.ser) :: .v (.int .i64 n) :: .v (.int .i64 r.time) :: .v (.int .u8 r.kind) :: .v (.bool r.more) :: E3) 34, some kb⟩] f) (TakeP r y t bs kb I I0 (.v (.bool false)) [⟨.cells (.v (.int .i64 r.num) :: .v (.int .i64 r.code) :: .v (.int .i64 r.ser) :: .v (.int .i64 n) :: .v (.int .i64 r.time) :: .v (.int .u8 r.kind) :: .v (.bool r.more) :: E3) 34, some kb⟩] f)) (Br (t == 6) (∃ e, atI (addB (addB Mem.emp a E2) c (E1 a)) (some ⟨c, 0, none⟩) 0 = some (.pointer e) /\ CtH Tryz.prog (fnv 31) #[.pointer e] I (addB (addB Mem.emp a E2) c (E1 a)) fun v f G => ∃ n, v = .int .i64 n /\ ∃ g, atI G (some ⟨c, 0, none⟩) 0 = some (.pointer g) /\ g.isSome = true /\ g.isSome = true /\ ∃ h, atI G g 1 = some (.bool h) /\ Br (!h) (∃ i, atI G (some ⟨c, 0, none⟩) 0 = some (.pointer i) /\ i.isSome = true /\ i.isSome = true /\ ∃ j k l, atI G i 0 = some (.slice j k l) /\ TakeP r y t bs kb I I0 (E4 k) [⟨.cells (.v (.int .i64 r.num) :: .v (.int .i64 r.code) :: .v (.int .i64 r.ser) :: .v (.int .i64 r.port) :: .v (.int .i64 n) :: .v (.int .u8 r.kind) :: .v (.bool r.more) :: E3) 34, some kb⟩] f) (TakeP r y t bs kb I I0 (.v (.bool false)) [⟨.cells (.v (.int .i64 r.num) :: .v (.int .i64 r.code) :: .v (.int .i64 r.ser) :: .v (.int .i64 r.port) :: .v (.int .i64 n) :: .v (.int .u8 r.kind) :: .v (.bool r.more) :: E3) 34, some kb⟩] f)) (Br (t == 7) (∃ e, atI (addB (addB Mem.emp a E2) c (E1 a)) (some ⟨c, 0, none⟩) 0 = some (.pointer e) /\ e.isSome = true /\ e.isSome = true /\ ∃ f, atI (addB (addB Mem.emp a E2) c (E1 a)) e 1 = some (.bool f) /\ Br (!f) (∃ g, atI (addB (addB Mem.emp a E2) c (E1 a)) (some ⟨c, 0, none⟩) 0 = some (.pointer g) /\ g.isSome = true /\ g.isSome = true /\ ∃ h n i, atI (addB (addB Mem.emp a E2) c (E1 a)) g 0 = some (.slice h n i) /\ TakeP r y t bs kb I I0 (E4 n) [⟨.cells (.v (.int .i64 r.num) :: .v (.int .i64 r.code) :: .v (.int .i64 r.ser) :: .v (.int .i64 r.port) :: .v (.int .i64 r.time) :: .v (.int .u8 r.kind) :: .v (.bool true) :: E3) 34, some kb⟩] I) (TakeP r y t bs kb I I0 (.v (.bool false)) [⟨.cells (.v (.int .i64 r.num) :: .v (.int .i64 r.code) :: .v (.int .i64 r.ser) :: .v (.int .i64 r.port) :: .v (.int .i64 r.time) :: .v (.int .u8 r.kind) :: .v (.bool true) :: E3) 34, some kb⟩] I)) (Br (t == 8) (∃ e, atI (addB (addB Mem.emp a E2) c (E1 a)) (some ⟨c, 0, none⟩) 0 = some (.pointer e) /\ CtH Tryz.prog (fnv 32) #[.pointer e] I (addB (addB Mem.emp a E2) c (E1 a)) fun v f G => ∃ n g h, v = .agg #[.int .i64 n, .int .i64 g, .int .i64 h] /\ ∃ i, atI G (some ⟨c, 0, none⟩) 0 = some (.pointer i) /\ i.isSome = true /\ i.isSome = true /\ ∃ j, atI G i 1 = some (.bool j) /\ Br (!j) (∃ k, atI G (some ⟨c, 0, none⟩) 0 = some (.pointer k) /\ k.isSome = true /\ k.isSome = true /\ ∃ l o p, atI G k 0 = some (.slice l o p) /\ TakeP r y t bs kb I I0 (E4 o) [⟨.cells [.v (.int .i64 r.num), .v (.int .i64 r.code), .v (.int .i64 r.ser), .v (.int .i64 r.port), .v (.int .i64 r.time), .v (.int .u8 r.kind), .v (.bool r.more), .v (.int .i64 n), .v (.int .i64 g), .v (.int .i64 h), .v y.c, .v y.l, .v y.e, .v y.p, .v y.h] 34, some kb⟩] f) (TakeP r y t bs kb I I0 (.v (.bool false)) [⟨.cells [.v (.int .i64 r.num), .v (.int .i64 r.code), .v (.int .i64 r.ser), .v (.int .i64 r.port), .v (.int .i64 r.time), .v (.int .u8 r.kind), .v (.bool r.more), .v (.int .i64 n), .v (.int .i64 g), .v (.int .i64 h), .v y.c, .v y.l, .v y.e, .v y.p, .v y.h] 34, some kb⟩] f)) (Br (t == 9) (∃ e, atI (addB (addB Mem.emp a E2) c (E1 a)) (some ⟨c, 0, none⟩) 0 = some (.pointer e) /\ ∃ f, atI (addB (addB Mem.emp a E2) c (E1 a)) (some ⟨c, 0, none⟩) 0 = some (.pointer f) /\ Ct Tryz.prog (fnv 34) #[.pointer e, .func (.func 31) #[.pointer f] #[]] I fun v g => ∃ x, v = x /\ CtH Tryz.prog (fnv 33) #[x] g (addB (addB Mem.emp a E2) c (E1 a)) fun h i G => ∃ j n k, h = .slice j n k /\ ∃ l, atI G (some ⟨c, 0, none⟩) 0 = some (.pointer l) /\ l.isSome = true /\ l.isSome = true /\ ∃ o, atI G l 1 = some (.bool o) /\ Br (!o) (∃ p, atI G (some ⟨c, 0, none⟩) 0 = some (.pointer p) /\ p.isSome = true /\ p.isSome = true /\ ∃ q s u, atI G p 0 = some (.slice q s u) /\ TakeP r y t bs kb I I0 (E4 s) [⟨.cells [.v (.int .i64 r.num), .v (.int .i64 r.code), .v (.int .i64 r.ser), .v (.int .i64 r.port), .v (.int .i64 r.time), .v (.int .u8 r.kind), .v (.bool r.more), .v (.int .i64 r.key.1), E6, E7, .v (.slice j n k), .v y.l, .v y.e, .v y.p, .v y.h] 34, some kb⟩] i) (TakeP r y t bs kb I I0 (.v (.bool false)) [⟨.cells [.v (.int .i64 r.num), .v (.int .i64 r.code), .v (.int .i64 r.ser), .v (.int .i64 r.port), .v (.int .i64 r.time), .v (.int .u8 r.kind), .v (.bool r.more), .v (.int .i64 r.key.1), E6, E7, .v (.slice j n k), .v y.l, .v y.e, .v y.p, .v y.h] 34, some kb⟩] i)) (Br (t == 10) (∃ e, atI (addB (addB Mem.emp a E2) c (E1 a)) (some ⟨c, 0, none⟩) 0 = some (.pointer e) /\ Ct Tryz.prog (fnv 36) #[.pointer e, .func (.func 37) #[] #[.pointer (some ⟨c, 0, none⟩)]] I fun v f => ∃ x, v = x /\ CtH Tryz.prog (fnv 35) #[x] f (addB (addB Mem.emp a E2) c (E1 a)) fun g h G => ∃ i n j, g = .slice i n j /\ ∃ k, atI G (some ⟨c, 0, none⟩) 0 = some (.pointer k) /\ k.isSome = true /\ k.isSome = true /\ ∃ l, atI G k 1 = some (.bool l) /\ Br (!l) (∃ o, atI G (some ⟨c, 0, none⟩) 0 = some (.pointer o) /\ o.isSome = true /\ o.isSome = true /\ ∃ p q s, atI G o 0 = some (.slice p q s) /\ TakeP r y t bs kb I I0 (E4 q) [⟨.cells [.v (.int .i64 r.num), .v (.int .i64 r.code), .v (.int .i64 r.ser), .v (.int .i64 r.port), .v (.int .i64 r.time), .v (.int .u8 r.kind), .v (.bool r.more), .v (.int .i64 r.key.1), E6, E7, .v y.c, .v (.slice i n j), .v y.e, .v y.p, .v y.h] 34, some kb⟩] h) (TakeP r y t bs kb I I0 (.v (.bool false)) [⟨.cells [.v (.int .i64 r.num), .v (.int .i64 r.code), .v (.int .i64 r.ser), .v (.int .i64 r.port), .v (.int .i64 r.time), .v (.int .u8 r.kind), .v (.bool r.more), .v (.int .i64 r.key.1), E6, E7, .v y.c, .v (.slice i n j), .v y.e, .v y.p, .v y.h] 34, some kb⟩] h)) (Br (t == 11) (∃ e, atI (addB (addB Mem.emp a E2) c (E1 a)) (some ⟨c, 0, none⟩) 0 = some (.pointer e) /\ ∃ f, atI (addB (addB Mem.emp a E2) c (E1 a)) (some ⟨c, 0, none⟩) 0 = some (.pointer f) /\ Ct Tryz.prog (fnv 41) #[.pointer e, .func (.func 42) #[.pointer f] #[]] I fun v g => ∃ x, v = x /\ CtH Tryz.prog (fnv 40) #[x] g (addB (addB Mem.emp a E2) c (E1 a)) fun h i G => ∃ j n k, h = .slice j n k /\ ∃ l, atI G (some ⟨c, 0, none⟩) 0 = some (.pointer l) /\ l.isSome = true /\ l.isSome = true /\ ∃ o, atI G l 1 = some (.bool o) /\ Br (!o) (∃ p, atI G (some ⟨c, 0, none⟩) 0 = some (.pointer p) /\ p.isSome = true /\ p.isSome = true /\ ∃ q s u, atI G p 0 = some (.slice q s u) /\ TakeP r y t bs kb I I0 (E4 s) [⟨.cells [.v (.int .i64 r.num), .v (.int .i64 r.code), .v (.int .i64 r.ser), .v (.int .i64 r.port), .v (.int .i64 r.time), .v (.int .u8 r.kind), .v (.bool r.more), .v (.int .i64 r.key.1), E6, E7, .v y.c, .v y.l, .v (.slice j n k), .v y.p, .v y.h] 34, some kb⟩] i) (TakeP r y t bs kb I I0 (.v (.bool false)) [⟨.cells [.v (.int .i64 r.num), .v (.int .i64 r.code), .v (.int .i64 r.ser), .v (.int .i64 r.port), .v (.int .i64 r.time), .v (.int .u8 r.kind), .v (.bool r.more), .v (.int .i64 r.key.1), E6, E7, .v y.c, .v y.l, .v (.slice j n k), .v y.p, .v y.h] 34, some kb⟩] i)) (Br (t == 12) (∃ e, atI (addB (addB Mem.emp a E2) c (E1 a)) (some ⟨c, 0, none⟩) 0 = some (.pointer e) /\ ∃ f, atI (addB (addB Mem.emp a E2) c (E1 a)) (some ⟨c, 0, none⟩) 0 = some (.pointer f) /\ Ct Tryz.prog (fnv 44) #[.pointer e, .func (.func 45) #[.pointer f] #[]] I fun v g => ∃ x, v = x /\ CtH Tryz.prog (fnv 43) #[x] g (addB (addB Mem.emp a E2) c (E1 a)) fun h i G => ∃ j n k, h = .slice j n k /\ ∃ l, atI G (some ⟨c, 0, none⟩) 0 = some (.pointer l) /\ l.isSome = true /\ l.isSome = true /\ ∃ o, atI G l 1 = some (.bool o) /\ Br (!o) (∃ p, atI G (some ⟨c, 0, none⟩) 0 = some (.pointer p) /\ p.isSome = true /\ p.isSome = true /\ ∃ q s u, atI G p 0 = some (.slice q s u) /\ TakeP r y t bs kb I I0 (E4 s) [⟨.cells [.v (.int .i64 r.num), .v (.int .i64 r.code), .v (.int .i64 r.ser), .v (.int .i64 r.port), .v (.int .i64 r.time), .v (.int .u8 r.kind), .v (.bool r.more), .v (.int .i64 r.key.1), E6, E7, .v y.c, .v y.l, .v y.e, .v (.slice j n k), .v y.h] 34, some kb⟩] i) (TakeP r y t bs kb I I0 (.v (.bool false)) [⟨.cells [.v (.int .i64 r.num), .v (.int .i64 r.code), .v (.int .i64 r.ser), .v (.int .i64 r.port), .v (.int .i64 r.time), .v (.int .u8 r.kind), .v (.bool r.more), .v (.int .i64 r.key.1), E6, E7, .v y.c, .v y.l, .v y.e, .v (.slice j n k), .v y.h] 34, some kb⟩] i)) (Br (t == 13) (∃ e, atI (addB (addB Mem.emp a E2) c (E1 a)) (some ⟨c, 0, none⟩) 0 = some (.pointer e) /\ ∃ f, atI (addB (addB Mem.emp a E2) c (E1 a)) (some ⟨c, 0, none⟩) 0 = some (.pointer f) /\ Ct Tryz.prog (fnv 47) #[.pointer e, .func (.func 48) #[.pointer f] #[]] I fun v g => ∃ x, v = x /\ CtH Tryz.prog (fnv 46) #[x] g (addB (addB Mem.emp a E2) c (E1 a)) fun h i G => ∃ j n k, h = .slice j n k /\ ∃ l, atI G (some ⟨c, 0, none⟩) 0 = some (.pointer l) /\ l.isSome = true /\ l.isSome = true /\ ∃ o, atI G l 1 = some (.bool o) /\ Br (!o) (∃ p, atI G (some ⟨c, 0, none⟩) 0 = some (.pointer p) /\ p.isSome = true /\ p.isSome = true /\ ∃ q s u, atI G p 0 = some (.slice q s u) /\ TakeP r y t bs kb I I0 (E4 s) [⟨.cells [.v (.int .i64 r.num), .v (.int .i64 r.code), .v (.int .i64 r.ser), .v (.int .i64 r.port), .v (.int .i64 r.time), .v (.int .u8 r.kind), .v (.bool r.more), .v (.int .i64 r.key.1), E6, E7, .v y.c, .v y.l, .v y.e, .v y.p, .v (.slice j n k)] 34, some kb⟩] i) (TakeP r y t bs kb I I0 (.v (.bool false)) [⟨.cells [.v (.int .i64 r.num), .v (.int .i64 r.code), .v (.int .i64 r.ser), .v (.int .i64 r.port), .v (.int .i64 r.time), .v (.int .u8 r.kind), .v (.bool r.more), .v (.int .i64 r.key.1), E6, E7, .v y.c, .v y.l, .v y.e, .v y.p, .v (.slice j n k)] 34, some kb⟩] i)) (TakeP r y t bs kb I I0 (.v (.bool false)) [⟨.cells (.v (.int .i64 r.num) :: .v (.int .i64 r.code) :: .v (.int .i64 r.ser) :: E5) 34, some kb⟩] I)))))))))))))) (by kernel_rfl) ?_
 intro E1 E2 E4 E6 E7 E3 E5
 have hrd0 : ∀ b1 b2, b1 ≠ b2 -> Rd I (addB (addB Mem.emp b1 (.cells #[.slice b m d, .bool false] 94 (0, 0))) b2 (.cells #[.pointer (some ⟨b1, 0, none⟩)] 92 (0, 0))) b1 (bs, false) := fun b1 b2 hne => ⟨b, m, d, by rw [addB_ne _ _ hne]; exact addB_eq .., hs, hd, hm, hb, hn⟩
 have hln := hs.numLen;intro b1 _ _ b2 _ hbb
 have hne' : b1 ≠ b2 := fun e => by rw [e, if_pos rfl] at hbb; cases hbb
 have hne := Ne.symm hne';have hrd := hrd0 b1 b2 hne';have hv0 : (addB (addB Mem.emp b1 (.cells #[.slice b m d, .bool false] 94 (0, 0))) b2 (.cells #[.pointer (some ⟨b1, 0, none⟩)] 92 (0, 0))) b2 = some (.cells #[.pointer (some ⟨b1, 0, none⟩)] 92 (0, 0)) := addB_eq ..
 have fin : ∀ {I' G' : Mem} {st : RS} {H : List Ent}, Rd I' G' b1 st -> G' b2 = some (.cells #[.pointer (some ⟨b1, 0, none⟩)] 92 (0, 0)) -> (∀ ok, ok = okS st -> TakeP r y t bs kb I I0 (.v (.bool ok)) H I') ->
  ∃ a, atI G' (some ⟨b2, 0, none⟩) 0 = some (.pointer a) /\ a.isSome = true /\ a.isSome = true /\ ∃ b, atI G' a 1 = some (.bool b) /\ Br (!b) (∃ a, atI G' (some ⟨b2, 0, none⟩) 0 = some (.pointer a) /\ a.isSome = true /\ a.isSome = true /\ ∃ a_1 n c, atI G' a 0 = some (.slice a_1 n c) /\ TakeP r y t bs kb I I0 (.v (.bool (((n : Nat) : Int) == 0))) H I') (TakeP r y t bs kb I I0 (.v (.bool false)) H I') := by
  intro I' G' st H h1 h2 h3;obtain ⟨a, n, c, g1, g2, g3⟩ := rdB h1;refine ⟨_, atC h2 rfl, rfl, rfl, _, g2, Br.mk (fun hb => ⟨_, atC h2 rfl, rfl, rfl, a, n, c, g1, h3 _ ?_⟩) (fun hb => h3 _ ?_)⟩
  · rw [okS, hb, Bool.true_and, g3]
    by_cases hz : st.1 = []
    · rw [hz]; rfl
    · rw [decide_eq_false hz]
      have := List.length_pos_iff.2 hz
      simp; exact hz
  · rw [okS, hb]; rfl
 generalize addB (addB Mem.emp b1 (.cells #[.slice b m d, .bool false] 94 (0, 0))) b2 (.cells #[.pointer (some ⟨b1, 0, none⟩)] 92 (0, 0)) = G0 at hrd hv0 ⊢;refine Br.mk (fun e => ?_) (fun e1 => Br.mk (fun e => ?_) (fun e2 => Br.mk (fun e => ?_) (fun e3 => Br.mk (fun e => ?_) (fun e4 => Br.mk (fun e => ?_) (fun e5 => Br.mk (fun e => ?_) (fun e6 => Br.mk (fun e => ?_) (fun e7 => Br.mk (fun e => ?_) (fun e8 => Br.mk (fun e => ?_) (fun e9 => Br.mk (fun e => ?_) (fun e10 => Br.mk (fun e => ?_) (fun e11 => Br.mk (fun e => ?_) (fun e12 => Br.mk (fun e => ?_) (fun e13 => ?_)))))))))))))
 · have e := eqv e
   subst e;have hT : takeS r 1 bs = (_, _) := rfl;refine ⟨_, atC hv0 rfl, (ct31 (bs, false) _ rfl b1 I _ hrd).mono fun v I1 G1 l1 ⟨hv, h1⟩ => ⟨_, hv, fin h1.1 ((h1.2 _ hne).trans hv0) fun ok hok => takeP_mk hT hok (fun h => ⟨h.c.mono l1, h.l.mono l1, h.e.mono l1, h.p.mono l1, h.h.mono l1⟩) (fun h _ => h.mono l1)⟩⟩
 · have e := eqv e
   subst e;have hT : takeS r 2 bs = (_, _) := rfl;refine ⟨_, atC hv0 rfl, (ct31 (bs, false) _ rfl b1 I _ hrd).mono fun v I1 G1 l1 ⟨hv, h1⟩ => ⟨_, hv, ⟨_, rfl, fin h1.1 ((h1.2 _ hne).trans hv0) fun ok hok => takeP_mk hT hok (fun h => ⟨h.c.mono l1, h.l.mono l1, h.e.mono l1, h.p.mono l1, h.h.mono l1⟩) (fun h _ => h.mono l1)⟩⟩⟩
 · have e := eqv e
   subst e;have hT : takeS r 3 bs = (_, _) := rfl;refine ⟨_, atC hv0 rfl, (ct31 (bs, false) _ rfl b1 I _ hrd).mono fun v I1 G1 l1 ⟨hv, h1⟩ => ⟨_, hv, fin h1.1 ((h1.2 _ hne).trans hv0) fun ok hok => takeP_mk hT hok (fun h => ⟨h.c.mono l1, h.l.mono l1, h.e.mono l1, h.p.mono l1, h.h.mono l1⟩) (fun h _ => h.mono l1)⟩⟩
 · have e := eqv e
   subst e;have hT : takeS r 4 bs = (_, _) := rfl;refine ⟨_, atC hv0 rfl, (ct31 (bs, false) _ rfl b1 I _ hrd).mono fun v I1 G1 l1 ⟨hv, h1⟩ => ⟨_, hv, fin h1.1 ((h1.2 _ hne).trans hv0) fun ok hok => takeP_mk hT hok (fun h => ⟨h.c.mono l1, h.l.mono l1, h.e.mono l1, h.p.mono l1, h.h.mono l1⟩) (fun h _ => h.mono l1)⟩⟩
 · have e := eqv e
   subst e;have hT : takeS r 5 bs = (_, _) := rfl;refine ⟨_, atC hv0 rfl, (ct31 (bs, false) _ rfl b1 I _ hrd).mono fun v I1 G1 l1 ⟨hv, h1⟩ => ⟨_, hv, fin h1.1 ((h1.2 _ hne).trans hv0) fun ok hok => takeP_mk hT hok (fun h => ⟨h.c.mono l1, h.l.mono l1, h.e.mono l1, h.p.mono l1, h.h.mono l1⟩) (fun h _ => h.mono l1)⟩⟩
 · have e := eqv e
   subst e;have hT : takeS r 6 bs = (_, _) := rfl;refine ⟨_, atC hv0 rfl, (ct31 (bs, false) _ rfl b1 I _ hrd).mono fun v I1 G1 l1 ⟨hv, h1⟩ => ⟨_, hv, fin h1.1 ((h1.2 _ hne).trans hv0) fun ok hok => takeP_mk hT hok (fun h => ⟨h.c.mono l1, h.l.mono l1, h.e.mono l1, h.p.mono l1, h.h.mono l1⟩) (fun h _ => h.mono l1)⟩⟩
 · have e := eqv e
   subst e;have hT : takeS r 7 bs = (_, _) := rfl;exact fin hrd hv0 fun ok hok => takeP_mk hT hok (fun h => ⟨h.c, h.l, h.e, h.p, h.h⟩) (fun h _ => h)
 · have e := eqv e
   subst e;have hT : takeS r 8 bs = (_, _) := rfl;refine ⟨_, atC hv0 rfl, (ct32 (bs, false) _ rfl b1 I _ hrd).mono fun v I1 G1 l1 ⟨hv, h1⟩ => ⟨_, _, _, hv, fin h1.1 ((h1.2 _ hne).trans hv0) fun ok hok => takeP_mk hT hok (fun h => ⟨h.c.mono l1, h.l.mono l1, h.e.mono l1, h.p.mono l1, h.h.mono l1⟩) (fun h _ => h.mono l1)⟩⟩
 · have e := eqv e
   subst e;have hT : takeS r 9 bs = (_, _) := rfl;refine ⟨_, atC hv0 rfl, _, atC hv0 rfl, (ct34 b1 31 #[.pointer (some ⟨b1, 0, none⟩)] #[] I).mono fun v I1 l1 ⟨k1, k2, hv, g1, g2⟩ => ⟨_, hv, ?_⟩⟩
   refine (ct33 (runAll numQ bs.length (bs, false)).1 (Nat.le_trans (runAll_len _ _) (by omega)) _ I1 _ _ _ (gives77 numQ dec_num (bs, false) b1 k1 k2 31 #[.pointer (some ⟨b1, 0, none⟩)] #[] (ptrX b2 b1) (ptrX_no hne') I1 g1 g2 (tk_num b2 b1 I1)) ⟨hrd.mono l1, ptrX_le hv0⟩).mono fun v I2 G2 l2 hL => ?_
   obtain ⟨hL, I3, l3, h1⟩ := hL;have hL' := hL;obtain ⟨a2, n2, c2, rfl, _⟩ := hL'
   refine ⟨_, _, _, rfl, fin (h1.1.mono l3) (ptrX_at h1.2) fun ok hok => takeP_mk (r' := { r with counts := (runAll numQ bs.length (bs, false)).1 }) (y' := { y with c := .slice a2 n2 c2 }) hT hok (fun h => ?_) (fun h h0 => ?_)⟩
   · have h := h.mono (Mem.le_trans l1 l2)
     exact { h with c := hL.lst }
   · have h := h.mono (Mem.le_trans l1 l2)
     exact { h with c := hL.new.anti (Mem.le_trans h0 l1) }
 · have e := eqv e
   subst e;have hT : takeS r 10 bs = (_, _) := rfl;refine ⟨_, atC hv0 rfl, (ct36 b1 37 #[] #[.pointer (some ⟨b2, 0, none⟩)] I).mono fun v I1 l1 ⟨k1, k2, hv, g1, g2⟩ => ⟨_, hv, ?_⟩⟩
   refine (ct35 (runAll valQ bs.length (bs, false)).1 (Nat.le_trans (runAll_len _ _) (by omega)) _ I1 _ _ _ (gives79 valQ dec_val (bs, false) b1 k1 k2 37 #[] #[.pointer (some ⟨b2, 0, none⟩)] (ptrX b2 b1) (ptrX_no hne') I1 g1 g2 (tk_val b2 b1 I1)) ⟨hrd.mono l1, ptrX_le hv0⟩).mono fun v I2 G2 l2 hL => ?_
   obtain ⟨hL, I3, l3, h1⟩ := hL;have hL' := hL;obtain ⟨a2, n2, c2, rfl, _⟩ := hL'
   refine ⟨_, _, _, rfl, fin (h1.1.mono l3) (ptrX_at h1.2) fun ok hok => takeP_mk (r' := { r with cells := (runAll valQ bs.length (bs, false)).1 }) (y' := { y with l := .slice a2 n2 c2 }) hT hok (fun h => ?_) (fun h h0 => ?_)⟩
   · have h := h.mono (Mem.le_trans l1 l2)
     exact { h with l := hL.lst }
   · have h := h.mono (Mem.le_trans l1 l2)
     exact { h with l := hL.new.anti (Mem.le_trans h0 l1) }
 · have e := eqv e
   subst e;have hT : takeS r 11 bs = (_, _) := rfl;refine ⟨_, atC hv0 rfl, _, atC hv0 rfl, (ct41 b1 42 #[.pointer (some ⟨b1, 0, none⟩)] #[] I).mono fun v I1 l1 ⟨k1, k2, hv, g1, g2⟩ => ⟨_, hv, ?_⟩⟩
   refine (ct40 (runAll evQ bs.length (bs, false)).1 (Nat.le_trans (runAll_len _ _) (by omega)) _ I1 _ _ _ (gives82 evQ dec_ev (bs, false) b1 k1 k2 42 #[.pointer (some ⟨b1, 0, none⟩)] #[] (ptrX b2 b1) (ptrX_no hne') I1 g1 g2 (tk_ev b2 b1 I1)) ⟨hrd.mono l1, ptrX_le hv0⟩).mono fun v I2 G2 l2 hL => ?_
   obtain ⟨hL, I3, l3, h1⟩ := hL;have hL' := hL;obtain ⟨a2, n2, c2, rfl, _⟩ := hL'
   refine ⟨_, _, _, rfl, fin (h1.1.mono l3) (ptrX_at h1.2) fun ok hok => takeP_mk (r' := { r with events := (runAll evQ bs.length (bs, false)).1 }) (y' := { y with e := .slice a2 n2 c2 }) hT hok (fun h => ?_) (fun h h0 => ?_)⟩
   · have h := h.mono (Mem.le_trans l1 l2)
     exact { h with e := hL.lst }
   · have h := h.mono (Mem.le_trans l1 l2)
     exact { h with e := hL.new.anti (Mem.le_trans h0 l1) }
 · have e := eqv e
   subst e;have hT : takeS r 12 bs = (_, _) := rfl;refine ⟨_, atC hv0 rfl, _, atC hv0 rfl, (ct44 b1 45 #[.pointer (some ⟨b1, 0, none⟩)] #[] I).mono fun v I1 l1 ⟨k1, k2, hv, g1, g2⟩ => ⟨_, hv, ?_⟩⟩
   refine (ct43 (runAll portQ bs.length (bs, false)).1 (Nat.le_trans (runAll_len _ _) (by omega)) _ I1 _ _ _ (gives84 portQ dec_port (bs, false) b1 k1 k2 45 #[.pointer (some ⟨b1, 0, none⟩)] #[] (ptrX b2 b1) (ptrX_no hne') I1 g1 g2 (tk_port b2 b1 I1)) ⟨hrd.mono l1, ptrX_le hv0⟩).mono fun v I2 G2 l2 hL => ?_
   obtain ⟨hL, I3, l3, h1⟩ := hL;have hL' := hL;obtain ⟨a2, n2, c2, rfl, _⟩ := hL'
   refine ⟨_, _, _, rfl, fin (h1.1.mono l3) (ptrX_at h1.2) fun ok hok => takeP_mk (r' := { r with ports := (runAll portQ bs.length (bs, false)).1 }) (y' := { y with p := .slice a2 n2 c2 }) hT hok (fun h => ?_) (fun h h0 => ?_)⟩
   · have h := h.mono (Mem.le_trans l1 l2)
     exact { h with p := hL.lst }
   · have h := h.mono (Mem.le_trans l1 l2)
     exact { h with p := hL.new.anti (Mem.le_trans h0 l1) }
 · have e := eqv e
   subst e;have hT : takeS r 13 bs = (_, _) := rfl;refine ⟨_, atC hv0 rfl, _, atC hv0 rfl, (ct47 b1 48 #[.pointer (some ⟨b1, 0, none⟩)] #[] I).mono fun v I1 l1 ⟨k1, k2, hv, g1, g2⟩ => ⟨_, hv, ?_⟩⟩
   refine (ct46 (runAll hdQ bs.length (bs, false)).1 (Nat.le_trans (runAll_len _ _) (by omega)) _ I1 _ _ _ (gives86 hdQ dec_hd (bs, false) b1 k1 k2 48 #[.pointer (some ⟨b1, 0, none⟩)] #[] (ptrX b2 b1) (ptrX_no hne') I1 g1 g2 (tk_hd b2 b1 I1)) ⟨hrd.mono l1, ptrX_le hv0⟩).mono fun v I2 G2 l2 hL => ?_
   obtain ⟨hL, I3, l3, h1⟩ := hL;have hL' := hL;obtain ⟨a2, n2, c2, rfl, _⟩ := hL'
   refine ⟨_, _, _, rfl, fin (h1.1.mono l3) (ptrX_at h1.2) fun ok hok => takeP_mk (r' := { r with handles := (runAll hdQ bs.length (bs, false)).1 }) (y' := { y with h := .slice a2 n2 c2 }) hT hok (fun h => ?_) (fun h h0 => ?_)⟩
   · have h := h.mono (Mem.le_trans l1 l2)
     exact { h with h := hL.lst }
   · have h := h.mono (Mem.le_trans l1 l2)
     exact { h with h := hL.new.anti (Mem.le_trans h0 l1) }
 · have hT : takeS r t bs = (r, ([], true)) := by
    rw [takeS, if_neg (nev e1), if_neg (nev e2), if_neg (nev e3), if_neg (nev e4), if_neg (nev e5), if_neg (nev e6), if_neg (nev e7), if_neg (nev e8), if_neg (nev e9), if_neg (nev e10), if_neg (nev e11), if_neg (nev e12), if_neg (nev e13)]
   exact takeP_mk hT rfl (fun h => h) (fun h _ => h)
set_option maxHeartbeats 1000000
theorem ct111 (x : Int) (I : Mem) : Ct Tryz.prog (fnv 111) #[.int .i64 x] I (fun v _ => v = .bool (decide (x < 0))) := by
 refine viaR (ct_via (A := { }) Tryz.func111 rfl Tryz.call111 rfl rfl) (Rf (Value.bool (decide (x < 0)))) (by kernel_rfl) ?_
 rfl
def negL (l : List Int) : Bool := l.any fun x => decide (x < 0)
theorem any_upto {p : Int -> Bool} {l : List Int} {j : Nat} {x : Int} (h : (l.take j).any p = false) (hx : l[j]? = some x) (hp : p x = false) : (l.take (j + 1)).any p = false := by
 rw [take_succ' hx, List.any_append, h]; simp [hp]
theorem any_at {p : Int -> Bool} {l : List Int} {j : Nat} {x : Int} (hx : l[j]? = some x) (hp : p x = true) : l.any p = true := List.any_eq_true.2 ⟨x, List.mem_of_getElem? hx, hp⟩
theorem ct114 (l : List Int) (a : Option Addr) (n c : Nat) (I : Mem) (h : SlM I a n 1 (ints .i64 l)) (hn : n <= 1000000) :
 Ct Tryz.prog (fnv 114) #[.slice a n c, fnv 111] I (fun v _ => ∃ i : Int, v = .int .i64 i /\ decide (0 <= i) = negL l) := by
 refine viaR (ct_via (A := { loops := [(2, ⟨[(0, .keep), (1, .keep), (7, .keep), (8, .sh (.int .i64))], [], [], fun vals _ _ _ => match vals with | [.int .i64 j] => 0 <= j /\ j <= n /\ (l.take j.toNat).any (fun x => decide (x < 0)) = false | _ => False, fun vals _ => match vals with | [.int .i64 j] => (n - j).toNat | _ => 0⟩)] }) Tryz.func114 rfl Tryz.call114 rfl rfl) ((Rf (SV.v (.slice a n c)) /\ Rf (SV.v (fnv 111)) /\ Rf (SV.v (.int .i64 (n : Int))) /\ (0 : Int) <= 0 /\ 0 <= (n : Int) /\ false = false) /\ ∀ (b : Mem), Mem -> I.le b -> ∀ (d : Int), 0 <= d /\ d <= (n : Int) /\ (List.take d.toNat l).any (fun (x : Int) => decide (x < 0)) = false -> Br (decide (d < (n : Int))) (0 <= d /\ d < (n : Int) /\ a.isSome = true /\ ∃ e, atI b a (d.toNat * 1 + 0) = some (.int .i64 e) /\ Ct Tryz.prog (fnv 111) #[.int .i64 e] b fun v f => ∃ g, v = .bool g /\ Br g (∃ i, Value.int .i64 d = .int .i64 i /\ decide (0 <= i) = negL l) (Wr .i64 (d + 1) (fun i => Rf (SV.v (.slice a n c)) /\ Rf (SV.v (fnv 111)) /\ Rf (SV.v (.int .i64 (n : Int))) /\ (0 <= i /\ i <= (n : Int) /\ (List.take i.toNat l).any (fun (x : Int) => decide (x < 0)) = false) /\ Int.toNat ((n : Int) - i) < Int.toNat ((n : Int) - d)))) (∃ i, Value.int .i64 (-1) = .int .i64 i /\ decide (0 <= i) = negL l)) (by kernel_rfl) ?_
 have hln := h.numLen
 refine ⟨⟨rfl, rfl, rfl, by omega, by omega, rfl⟩, fun I1 _ l1 j ⟨j0, j1, hj⟩ => Br.mk (fun hlt => ?_) (fun hge => ?_)⟩
 · have hlt := of_decide_eq_true hlt
   obtain ⟨x, hx, e⟩ := (h.mono l1).intAt j0 hlt
   refine ⟨j0, hlt, h.isSome (by omega), x, e, (ct111 x I1).mono fun v I2 l2 hv => ⟨_, hv, Br.mk (fun hb => ?_) (fun hb => ?_)⟩⟩
   · exact ⟨_, rfl, by rw [decide_eq_true j0]; exact (any_at hx hb).symm⟩
   · refine wr_i64 (by omega) (by omega) ⟨rfl, rfl, rfl, ⟨by omega, by omega, ?_⟩, by omega⟩
     rw [show (j + 1).toNat = j.toNat + 1 by omega]
     exact any_upto hj hx hb
 · have hge := of_decide_eq_false hge
   rw [List.take_of_length_le (by omega)] at hj
   exact ⟨_, rfl, by rw [negL, hj]; rfl⟩
theorem ct86 (l : List Int) (a : Option Addr) (n c : Nat) (I : Mem) (h : SlM I a n 1 (ints .i64 l)) (hn : n <= 1000000) :
 Ct Tryz.prog (fnv 86) #[.slice a n c] I (fun v _ => v = .bool (!negL l)) := by
 have C : Ct Tryz.prog (fnv 110) #[.slice a n c, fnv 111] I (fun v _ => v = .bool (negL l)) := by
  refine viaR (ct_via (A := { }) Tryz.func110 rfl Tryz.call110 rfl rfl) (Ct Tryz.prog (fnv 114) #[.slice a n c, .func (.func 111) #[] #[]] I fun v b => ∃ d, v = .int .i64 d /\ Value.bool (decide (0 <= d)) = .bool (negL l)) (by kernel_rfl) ?_
  exact (ct114 l a n c I h hn).mono fun v I1 l1 ⟨i, hv, hi⟩ => ⟨_, hv, by rw [hi]⟩
 refine viaR (ct_via (A := { }) Tryz.func86 rfl Tryz.call86 rfl rfl) (Ct Tryz.prog (fnv 110) #[.slice a n c, .func (.func 111) #[] #[]] I fun v b => ∃ d, v = .bool d /\ Value.bool (!d) = .bool (!(negL l))) (by kernel_rfl) ?_
 exact C.mono fun v I1 l1 hv => ⟨_, hv, rfl⟩
theorem ct116 (x : Int) (I : Mem) : Ct Tryz.prog (fnv 116) #[.int .u8 x] I (fun v _ => v = .bool (decide (15 < x))) := by
 refine viaR (ct_via (A := { }) Tryz.func116 rfl Tryz.call116 rfl rfl) (Rf (Value.bool (decide (15 < x)))) (by kernel_rfl) ?_
 rfl
theorem ct88 (x : Int) (I : Mem) : Ct Tryz.prog (fnv 88) #[.int .u8 x] I (fun v _ => v = .bool (decide (x <= 15))) := by
 have C : ∀ (a : Option Addr) (J : Mem), SlM J a 1 1 [.int .u8 x] -> Ct Tryz.prog (fnv 117) #[.slice a 1 1, fnv 116] J (fun v _ => ∃ i : Int, v = .int .i64 i /\ decide (0 <= i) = decide (15 < x)) := fun a J h => by
  refine viaR (ct_via (A := { loops := [(2, ⟨[(0, .keep), (1, .keep), (7, .keep), (8, .sh (.int .i64))], [], [], fun vals _ _ _ => match vals with | [.int .i64 j] => 0 <= j /\ j <= 1 /\ (j = 1 -> decide (15 < x) = false) | _ => False, fun vals _ => match vals with | [.int .i64 j] => (1 - j).toNat | _ => 0⟩)] }) Tryz.func117 rfl Tryz.call117 rfl rfl) ((Rf (SV.v (.slice a 1 1)) /\ Rf (SV.v (fnv 116)) /\ Rf (SV.v (.int .i64 1)) /\ (0 : Int) <= 0 /\ (0 : Int) <= 1 /\ ((0 : Int) = 1 -> decide (15 < x) = false)) /\ ∀ (b : Mem), Mem -> J.le b -> ∀ (n : Int), 0 <= n /\ n <= 1 /\ (n = 1 -> decide (15 < x) = false) -> Br (decide (n < 1)) (0 <= n /\ n < 1 /\ a.isSome = true /\ ∃ c, atI b a (n.toNat * 1 + 0) = some (.int .u8 c) /\ Ct Tryz.prog (fnv 116) #[.int .u8 c] b fun v d => ∃ e, v = .bool e /\ Br e (∃ i, Value.int .i64 n = .int .i64 i /\ decide (0 <= i) = decide (15 < x)) (Wr .i64 (n + 1) (fun f => Rf (SV.v (.slice a 1 1)) /\ Rf (SV.v (fnv 116)) /\ Rf (SV.v (.int .i64 1)) /\ (0 <= f /\ f <= 1 /\ (f = 1 -> decide (15 < x) = false)) /\ Int.toNat (1 - f) < Int.toNat (1 - n)))) (∃ i, Value.int .i64 (-1) = .int .i64 i /\ decide (0 <= i) = decide (15 < x))) (by kernel_rfl) ?_
  refine ⟨⟨rfl, rfl, rfl, by omega, by omega, fun h => by omega⟩, fun I1 _ l1 j ⟨j0, j1, hj⟩ => Br.mk (fun hlt => ?_) (fun hge => ?_)⟩
  · have hlt := of_decide_eq_true hlt
    obtain rfl : j = 0 := by omega
    refine ⟨by omega, by omega, h.isSome (by omega), x, (h.mono l1).at_ 0 _ rfl, (ct116 x I1).mono fun v I2 l2 hv => ⟨_, hv, Br.mk (fun hb => ?_) (fun hb => ?_)⟩⟩
    · exact ⟨_, rfl, by rw [hb]; rfl⟩
    · exact wr_i64 (by omega) (by omega) ⟨rfl, rfl, rfl, ⟨by omega, by omega, fun _ => hb⟩, by omega⟩
  · have hge := of_decide_eq_false hge
    exact ⟨_, rfl, by rw [hj (by omega)]; rfl⟩
 have C1 : ∀ (a : Option Addr) (J : Mem), SlM J a 1 1 [.int .u8 x] -> Ct Tryz.prog (fnv 115) #[.slice a 1 1, fnv 116] J (fun v _ => v = .bool (decide (15 < x))) := fun a J h => by
  refine viaR (ct_via (A := { }) Tryz.func115 rfl Tryz.call115 rfl rfl) (Ct Tryz.prog (fnv 117) #[.slice a 1 1, .func (.func 116) #[] #[]] J fun v b => ∃ n, v = .int .i64 n /\ Value.bool (decide (0 <= n)) = .bool (decide (15 < x))) (by kernel_rfl) ?_
  exact (C a J h).mono fun v I1 l1 ⟨i, hv, hi⟩ => ⟨_, hv, by rw [hi]⟩
 have C2 : ∀ (a : Option Addr) (J : Mem), SlM J a 1 1 [.int .u8 x] -> Ct Tryz.prog (fnv 112) #[.slice a 1 1] J (fun v _ => v = .bool (!decide (15 < x))) := fun a J h => by
  refine viaR (ct_via (A := { }) Tryz.func112 rfl Tryz.call112 rfl rfl) (Ct Tryz.prog (fnv 115) #[.slice a 1 1, .func (.func 116) #[] #[]] J fun v b => ∃ c, v = .bool c /\ Value.bool (!c) = .bool (!(decide (15 < x)))) (by kernel_rfl) ?_
  exact (C1 a J h).mono fun v I1 l1 hv => ⟨_, hv, rfl⟩
 refine viaR (ct_via (A := { }) Tryz.func88 rfl Tryz.call88 rfl rfl) (∀ (b : Nat) (a : Mem), I.le a -> a b = some (.cells #[.int .u8 x] 78 (0, 0)) -> Ct Tryz.prog (fnv 112) #[.slice (some ⟨b, 0, none⟩) 1 1] a fun v c => ∃ d, v = .bool d /\ Value.bool d = .bool (decide (x <= 15))) (by kernel_rfl) ?_
 intro b I1 l1 hb
 refine (C2 _ I1 (sl_cells hb rfl (by decide))).mono fun v I2 l2 hv => ⟨_, hv, ?_⟩
 by_cases hx : x <= 15
 · rw [decide_eq_true hx, decide_eq_false (by omega)]; rfl
 · rw [decide_eq_false hx, decide_eq_true (by omega)]; rfl
def strL (s : ByteArray) : List Int := s.data.toList.map fun b => (b.toNat : Int)
def nameStep (b c : Int) : Bool := if (97 <= c /\ c <= 122) \/ (48 <= c /\ c <= 57) then true else if c = 45 then decide (b ≠ 46) else if c = 46 then decide (b ≠ 46) && decide (b ≠ 45) else false
def nameGo : List Int -> Int -> Option Int
 | [], b => some b
 | c :: r, b => if nameStep b c then nameGo r c else none
def nameEnd : Option Int -> Bool
 | none => false
 | some b => decide (b ≠ 46) && decide (b ≠ 45)
def nameB (s : List Int) : Bool := decide (1 <= s.length) && (decide (s.length <= 32) && (decide (97 <= s.headD 0 /\ s.headD 0 <= 122) && nameEnd (nameGo s 46)))
theorem strL_len (s : ByteArray) : (strL s).length = s.size := by rw [strL, List.length_map, Array.length_toList]; rfl
theorem strL_get {s : ByteArray} {j : Nat} {c : UInt8} (h : s.data.toList[j]? = some c) : (strL s)[j]? = some (c.toNat : Int) := by
 rw [strL, List.getElem?_map, h]; rfl
theorem str_at {s : ByteArray} {j : Int} (h0 : 0 <= j) (h1 : j < s.size) : ∃ c : UInt8, s.data.toList[j.toNat]? = some c := by
 have : j.toNat < s.data.toList.length := by
  rw [Array.length_toList];have e : s.size = s.data.size := rfl;omega
 exact ⟨_, List.getElem?_eq_getElem this⟩
theorem ct87 (s : ByteArray) (I : Mem) : Ct Tryz.prog (fnv 87) #[.string s] I (fun v _ => v = .bool (nameB (strL s))) := by
 refine viaR (ct_via (A := { cuts := [(15, ⟨[(0, .keep), (2, .keep), (3, .sh .bool), (4, .kv), (5, .keep), (6, .kv), (26, .keep), (27, .keep)], [], [], fun vals _ _ _ => match vals with | [.bool ok, .int .u8 b, .int .u8 c] => ok = nameStep b c | _ => False, fun _ _ => 0⟩)], loops := [(6, ⟨[(0, .keep), (2, .keep), (3, .sh .bool), (4, .sh (.int .u8)), (26, .keep), (27, .sh (.int .i64))], [], [], fun vals _ _ _ => match vals with | [.bool ok, .int .u8 b, .int .i64 j] => 0 <= j /\ j <= s.size /\ ok = true /\ nameGo (strL s) 46 = nameGo ((strL s).drop j.toNat) b | _ => False, fun vals _ => match vals with | [_, _, .int .i64 j] => (s.size - j).toNat | _ => 0⟩)] }) Tryz.func87 rfl Tryz.call87 rfl rfl) (Br (decide ((s.size : Int) < 1)) (Value.bool false = .bool (nameB (strL s))) (Br (decide (32 < (s.size : Int))) (Value.bool false = .bool (nameB (strL s))) (∃ c, s.data.toList[0]? = some c /\ (0 : Int) <= 0 /\ Br (decide ((c.toNat : Int) < 97)) (Value.bool false = .bool (nameB (strL s))) (∃ a, s.data.toList[0]? = some a /\ (0 : Int) <= 0 /\ Br (decide (122 < (a.toNat : Int))) (Value.bool false = .bool (nameB (strL s))) ((Rf (SV.v (.string s)) /\ Rf (SV.v (.bool false)) /\ Rf (SV.v (.int .i64 (s.size : Int))) /\ (0 : Int) <= 0 /\ 0 <= (s.size : Int) /\ true = true /\ nameGo (strL s) 46 = nameGo (List.drop 0 (strL s)) 46) /\ ∀ (b : Mem), Mem -> I.le b -> ∀ (d : Bool) (n e : Int), 0 <= e /\ e <= (s.size : Int) /\ d = true /\ nameGo (strL s) 46 = nameGo (List.drop e.toNat (strL s)) n -> Br (decide (e < (s.size : Int))) (∃ f, s.data.toList[e.toNat]? = some f /\ 0 <= e /\ Br (decide (97 <= (f.toNat : Int))) (Br (decide ((f.toNat : Int) <= 122)) (Rf (SV.v (.string s)) /\ Rf (SV.v (.bool false)) /\ Rf (SV.v (.int .u8 n)) /\ Rf (SV.v (.int .i64 e)) /\ Rf (SV.v (.int .u8 (f.toNat : Int))) /\ Rf (SV.v (.int .i64 (s.size : Int))) /\ Rf (SV.v (.int .i64 e)) /\ d = nameStep n (f.toNat : Int)) (Br (decide (48 <= (f.toNat : Int))) (Br (decide ((f.toNat : Int) <= 57)) (Rf (SV.v (.string s)) /\ Rf (SV.v (.bool false)) /\ Rf (SV.v (.int .u8 n)) /\ Rf (SV.v (.int .i64 e)) /\ Rf (SV.v (.int .u8 (f.toNat : Int))) /\ Rf (SV.v (.int .i64 (s.size : Int))) /\ Rf (SV.v (.int .i64 e)) /\ d = nameStep n (f.toNat : Int)) (Br ((f.toNat : Int) == 45) (Rf (SV.v (.string s)) /\ Rf (SV.v (.bool false)) /\ Rf (SV.v (.int .u8 n)) /\ Rf (SV.v (.int .i64 e)) /\ Rf (SV.v (.int .u8 (f.toNat : Int))) /\ Rf (SV.v (.int .i64 (s.size : Int))) /\ Rf (SV.v (.int .i64 e)) /\ (n != 46) = nameStep n (f.toNat : Int)) (Br ((f.toNat : Int) == 46) (Br (n != 46) (Rf (SV.v (.string s)) /\ Rf (SV.v (.bool false)) /\ Rf (SV.v (.int .u8 n)) /\ Rf (SV.v (.int .i64 e)) /\ Rf (SV.v (.int .u8 (f.toNat : Int))) /\ Rf (SV.v (.int .i64 (s.size : Int))) /\ Rf (SV.v (.int .i64 e)) /\ (n != 45) = nameStep n (f.toNat : Int)) (Rf (SV.v (.string s)) /\ Rf (SV.v (.bool false)) /\ Rf (SV.v (.int .u8 n)) /\ Rf (SV.v (.int .i64 e)) /\ Rf (SV.v (.int .u8 (f.toNat : Int))) /\ Rf (SV.v (.int .i64 (s.size : Int))) /\ Rf (SV.v (.int .i64 e)) /\ false = nameStep n (f.toNat : Int))) (Rf (SV.v (.string s)) /\ Rf (SV.v (.bool false)) /\ Rf (SV.v (.int .u8 n)) /\ Rf (SV.v (.int .i64 e)) /\ Rf (SV.v (.int .u8 (f.toNat : Int))) /\ Rf (SV.v (.int .i64 (s.size : Int))) /\ Rf (SV.v (.int .i64 e)) /\ false = nameStep n (f.toNat : Int))))) (Br ((f.toNat : Int) == 45) (Rf (SV.v (.string s)) /\ Rf (SV.v (.bool false)) /\ Rf (SV.v (.int .u8 n)) /\ Rf (SV.v (.int .i64 e)) /\ Rf (SV.v (.int .u8 (f.toNat : Int))) /\ Rf (SV.v (.int .i64 (s.size : Int))) /\ Rf (SV.v (.int .i64 e)) /\ (n != 46) = nameStep n (f.toNat : Int)) (Br ((f.toNat : Int) == 46) (Br (n != 46) (Rf (SV.v (.string s)) /\ Rf (SV.v (.bool false)) /\ Rf (SV.v (.int .u8 n)) /\ Rf (SV.v (.int .i64 e)) /\ Rf (SV.v (.int .u8 (f.toNat : Int))) /\ Rf (SV.v (.int .i64 (s.size : Int))) /\ Rf (SV.v (.int .i64 e)) /\ (n != 45) = nameStep n (f.toNat : Int)) (Rf (SV.v (.string s)) /\ Rf (SV.v (.bool false)) /\ Rf (SV.v (.int .u8 n)) /\ Rf (SV.v (.int .i64 e)) /\ Rf (SV.v (.int .u8 (f.toNat : Int))) /\ Rf (SV.v (.int .i64 (s.size : Int))) /\ Rf (SV.v (.int .i64 e)) /\ false = nameStep n (f.toNat : Int))) (Rf (SV.v (.string s)) /\ Rf (SV.v (.bool false)) /\ Rf (SV.v (.int .u8 n)) /\ Rf (SV.v (.int .i64 e)) /\ Rf (SV.v (.int .u8 (f.toNat : Int))) /\ Rf (SV.v (.int .i64 (s.size : Int))) /\ Rf (SV.v (.int .i64 e)) /\ false = nameStep n (f.toNat : Int)))))) (Br (decide (48 <= (f.toNat : Int))) (Br (decide ((f.toNat : Int) <= 57)) (Rf (SV.v (.string s)) /\ Rf (SV.v (.bool false)) /\ Rf (SV.v (.int .u8 n)) /\ Rf (SV.v (.int .i64 e)) /\ Rf (SV.v (.int .u8 (f.toNat : Int))) /\ Rf (SV.v (.int .i64 (s.size : Int))) /\ Rf (SV.v (.int .i64 e)) /\ d = nameStep n (f.toNat : Int)) (Br ((f.toNat : Int) == 45) (Rf (SV.v (.string s)) /\ Rf (SV.v (.bool false)) /\ Rf (SV.v (.int .u8 n)) /\ Rf (SV.v (.int .i64 e)) /\ Rf (SV.v (.int .u8 (f.toNat : Int))) /\ Rf (SV.v (.int .i64 (s.size : Int))) /\ Rf (SV.v (.int .i64 e)) /\ (n != 46) = nameStep n (f.toNat : Int)) (Br ((f.toNat : Int) == 46) (Br (n != 46) (Rf (SV.v (.string s)) /\ Rf (SV.v (.bool false)) /\ Rf (SV.v (.int .u8 n)) /\ Rf (SV.v (.int .i64 e)) /\ Rf (SV.v (.int .u8 (f.toNat : Int))) /\ Rf (SV.v (.int .i64 (s.size : Int))) /\ Rf (SV.v (.int .i64 e)) /\ (n != 45) = nameStep n (f.toNat : Int)) (Rf (SV.v (.string s)) /\ Rf (SV.v (.bool false)) /\ Rf (SV.v (.int .u8 n)) /\ Rf (SV.v (.int .i64 e)) /\ Rf (SV.v (.int .u8 (f.toNat : Int))) /\ Rf (SV.v (.int .i64 (s.size : Int))) /\ Rf (SV.v (.int .i64 e)) /\ false = nameStep n (f.toNat : Int))) (Rf (SV.v (.string s)) /\ Rf (SV.v (.bool false)) /\ Rf (SV.v (.int .u8 n)) /\ Rf (SV.v (.int .i64 e)) /\ Rf (SV.v (.int .u8 (f.toNat : Int))) /\ Rf (SV.v (.int .i64 (s.size : Int))) /\ Rf (SV.v (.int .i64 e)) /\ false = nameStep n (f.toNat : Int))))) (Br ((f.toNat : Int) == 45) (Rf (SV.v (.string s)) /\ Rf (SV.v (.bool false)) /\ Rf (SV.v (.int .u8 n)) /\ Rf (SV.v (.int .i64 e)) /\ Rf (SV.v (.int .u8 (f.toNat : Int))) /\ Rf (SV.v (.int .i64 (s.size : Int))) /\ Rf (SV.v (.int .i64 e)) /\ (n != 46) = nameStep n (f.toNat : Int)) (Br ((f.toNat : Int) == 46) (Br (n != 46) (Rf (SV.v (.string s)) /\ Rf (SV.v (.bool false)) /\ Rf (SV.v (.int .u8 n)) /\ Rf (SV.v (.int .i64 e)) /\ Rf (SV.v (.int .u8 (f.toNat : Int))) /\ Rf (SV.v (.int .i64 (s.size : Int))) /\ Rf (SV.v (.int .i64 e)) /\ (n != 45) = nameStep n (f.toNat : Int)) (Rf (SV.v (.string s)) /\ Rf (SV.v (.bool false)) /\ Rf (SV.v (.int .u8 n)) /\ Rf (SV.v (.int .i64 e)) /\ Rf (SV.v (.int .u8 (f.toNat : Int))) /\ Rf (SV.v (.int .i64 (s.size : Int))) /\ Rf (SV.v (.int .i64 e)) /\ false = nameStep n (f.toNat : Int))) (Rf (SV.v (.string s)) /\ Rf (SV.v (.bool false)) /\ Rf (SV.v (.int .u8 n)) /\ Rf (SV.v (.int .i64 e)) /\ Rf (SV.v (.int .u8 (f.toNat : Int))) /\ Rf (SV.v (.int .i64 (s.size : Int))) /\ Rf (SV.v (.int .i64 e)) /\ false = nameStep n (f.toNat : Int))))) /\ ∀ (g : Mem), Mem -> b.le g -> ∀ (h : Bool), h = nameStep n (f.toNat : Int) -> Br (!h) (Br h (Br (n != 46) (Value.bool (n != 45) = .bool (nameB (strL s))) (Value.bool false = .bool (nameB (strL s)))) (Value.bool false = .bool (nameB (strL s)))) (Wr .i64 (e + 1) (fun i => Rf (SV.v (.string s)) /\ Rf (SV.v (.bool false)) /\ Rf (SV.v (.int .i64 (s.size : Int))) /\ (0 <= i /\ i <= (s.size : Int) /\ h = true /\ nameGo (strL s) 46 = nameGo (List.drop i.toNat (strL s)) (f.toNat : Int)) /\ Int.toNat ((s.size : Int) - i) < Int.toNat ((s.size : Int) - e)))) (Br d (Br (n != 46) (Value.bool (n != 45) = .bool (nameB (strL s))) (Value.bool false = .bool (nameB (strL s)))) (Value.bool false = .bool (nameB (strL s))))))))) (by kernel_rfl) ?_
 have hl := strL_len s;refine Br.mk (fun h => ?_) (fun h1 => Br.mk (fun h => ?_) (fun h2 => ?_))
 · have h := of_decide_eq_true h
   rw [nameB, decide_eq_false (by omega), Bool.false_and]
 · have h := of_decide_eq_true h
   rw [nameB, decide_eq_false (p := (strL s).length <= 32) (by omega), Bool.false_and, Bool.and_false]
 have h1 := of_decide_eq_false h1;have h2 := of_decide_eq_false h2
 obtain ⟨c0, hc0⟩ := str_at (s := s) (j := 0) (by omega) (by omega)
 have hc0' := strL_get hc0
 have hd : (strL s).headD 0 = (c0.toNat : Int) := by
  cases hq : strL s with
  | nil => rw [hq] at hc0'; cases hc0'
  | cons x r => rw [hq] at hc0'; exact Option.some.inj hc0'
 have hB : nameB (strL s) = (decide (97 <= (c0.toNat : Int) /\ (c0.toNat : Int) <= 122) && nameEnd (nameGo (strL s) 46)) := by
  rw [nameB, decide_eq_true (by omega), decide_eq_true (p := (strL s).length <= 32) (by omega), hd, Bool.true_and, Bool.true_and]
 refine ⟨c0, hc0, by omega, Br.mk (fun h => ?_) (fun h3 => ⟨c0, hc0, by omega, Br.mk (fun h => ?_) (fun h4 => ?_)⟩)⟩
 · have h := of_decide_eq_true h
   rw [hB, decide_eq_false (by omega), Bool.false_and]
 · have h := of_decide_eq_true h
   rw [hB, decide_eq_false (by omega), Bool.false_and]
 have h3 := of_decide_eq_false h3;have h4 := of_decide_eq_false h4
 have hB : nameB (strL s) = nameEnd (nameGo (strL s) 46) := by
  rw [hB, decide_eq_true (by omega), Bool.true_and]
 rw [hB]
 have fin : ∀ (ok : Bool) (b : Int), (if ok then nameEnd (some b) else false) = nameEnd (nameGo (strL s) 46) -> Br ok (Br (b != 46) (Value.bool (b != 45) = Value.bool (nameEnd (nameGo (strL s) 46))) (Value.bool false = Value.bool (nameEnd (nameGo (strL s) 46)))) (Value.bool false = Value.bool (nameEnd (nameGo (strL s) 46))) := fun ok b h => by
  rw [<- h]
  cases ok with
  | false => exact rfl
  | true =>
    refine Br.t rfl (Br.mk (fun g => ?_) (fun g => ?_))
    · have g : b ≠ 46 := fun e => by rw [e] at g; cases g
      simp only [nameEnd, if_true];rw [decide_eq_true g, Bool.true_and]
      congr 1
      by_cases h45 : b = 45 <;> simp [h45]
    · have g : b = 46 := by
       by_cases e : b = 46
       · exact e
       · rw [bne_iff_ne.2 e] at g; cases g
      subst g; rfl
 refine ⟨⟨rfl, rfl, rfl, by omega, by omega, rfl, rfl⟩, fun I1 _ l1 ok b j ⟨j0, j1, hok, hgo⟩ => Br.mk (fun hlt => ?_) (fun hge => ?_)⟩
 rotate_left
 · have hge := of_decide_eq_false hge
   refine fin ok b ?_
   rw [hgo, List.drop_eq_nil_of_le (by omega), hok]; rfl
 have hlt := of_decide_eq_true hlt;obtain ⟨c, hc⟩ := str_at j0 hlt;have hc' := strL_get hc;rw [drop_cons hc', nameGo] at hgo;refine ⟨c, hc, j0, ?_, fun I2 _ l2 ok2 hok2 => ?_⟩
 · rw [hok]
   generalize (c.toNat : Int) = x
   clear fin hgo
   repeat' refine Br.mk (fun _ => ?_) (fun _ => ?_)
   all_goals
    refine ⟨rfl, rfl, rfl, rfl, rfl, rfl, rfl, ?_⟩;simp only [decide_eq_true_eq, decide_eq_false_iff_not, beq_iff_eq, beq_eq_false_iff_ne, bne_iff_ne, bne_eq_false_iff_eq, ne_eq] at *;unfold nameStep
    repeat' split
    all_goals first
     | omega
     | rfl
     | (simp_all; done)
     | (by_cases e45 : b = 45 <;> by_cases e46 : b = 46 <;> simp_all <;> omega)
     | skip
 · rw [<- hok2] at hgo
   refine Br.mk (fun h => fin ok2 b ?_) (fun h => ?_)
   · have h : ok2 = false := by simpa using h
     rw [h] at hgo ⊢
     rw [hgo]; rfl
   · have h : ok2 = true := by simpa using h
     rw [h, if_pos rfl] at hgo
     exact wr_i64 (by omega) (by omega) ⟨rfl, rfl, rfl, ⟨by omega, by omega, h, by rw [show (j + 1).toNat = j.toNat + 1 by omega]; exact hgo⟩, by omega⟩
