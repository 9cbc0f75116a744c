/- Part of a proof by the rules of the symbolic walk (see the law's own text): contracts of functions of the program. -/
import Derived.Test.YtjjjbafnplmjoaaDoorls4
import Derived.Test.YtjjjbafnplmjoaaDoorRows
import Derived.Lib.LaidTab
import Derived.Lib.LaidU8
import Derived.Stop.LaidErr
import Derived.Stop.Joined
import Derived.Shelf.Vars
import Derived.Lay
import Derived.MakeChecks
import Derived.ProofKit
import Derived.Test.YtjjjbafnplmjoaaDoorls3
set_option linter.unusedVariables false
set_option linter.unusedSimpArgs false
open Go Go.Proofs Go.SE Go.RowKit
set_option linter.unusedVariables false
set_option maxRecDepth 100000
theorem ct19 (p q : List Ins) (a b : Option Addr) (n m c d : Nat) (I : Mem) (h : InsM I a n p) (h' : InsM I b m q) : Ct Tryd.prog (fnv 19) #[.slice a n c, .slice b m d] I (fun v _ => v = .bool (decide (p = q))) := by
 obtain ⟨Q, hQ⟩ : ∃ w : Bool, w = decide (p = q) := ⟨_, rfl⟩;obtain ⟨N, hN⟩ : ∃ f : Int -> Prop, f = fun j : Int => 0 <= j /\ j <= n /\ n = m /\ p.take j.toNat = q.take j.toNat := ⟨_, rfl⟩;rw [<- hQ]
 refine viaR (ct_via (A := { loops := [(4, ⟨[(0, .keep), (1, .keep), (12, .keep), (13, .sh (.int .i64))], [], [], fun vals _ _ _ => match vals with | [.int .i64 j] => N j | _ => False, fun vals _ => match vals with | [.int .i64 j] => (n - j).toNat | _ => 0⟩)] }) Tryd.func19 rfl Tryd.call19 rfl rfl) (Br ((n : Int) != (m : Int)) (Value.bool false = .bool Q) ((Rf (SV.v (.slice a n c)) /\ Rf (SV.v (.slice b m d)) /\ Rf (SV.v (.int .i64 (n : Int))) /\ N 0) /\ ∀ (e : Mem), Mem -> I.le e -> ∀ (f : Int), N f -> Br (decide (f < (n : Int))) (0 <= f /\ f < (n : Int) /\ a.isSome = true /\ (5 : Nat) = 5 /\ ∃ g, atI e a (f.toNat * 5 + 0) = some (.int .u8 g) /\ ∃ i, atI e a (f.toNat * 5 + 1) = some (.int .u8 i) /\ ∃ j, atI e a (f.toNat * 5 + 2) = some (.int .u8 j) /\ ∃ k, atI e a (f.toNat * 5 + 3) = some (.int .u8 k) /\ ∃ l, atI e a (f.toNat * 5 + 4) = some (.int .i64 l) /\ 0 <= f /\ f < (m : Int) /\ b.isSome = true /\ (5 : Nat) = 5 /\ ∃ o, atI e b (f.toNat * 5 + 0) = some (.int .u8 o) /\ ∃ r, atI e b (f.toNat * 5 + 1) = some (.int .u8 r) /\ ∃ s, atI e b (f.toNat * 5 + 2) = some (.int .u8 s) /\ ∃ t, atI e b (f.toNat * 5 + 3) = some (.int .u8 t) /\ ∃ u, atI e b (f.toNat * 5 + 4) = some (.int .i64 u) /\ Br (!(g == o && (i == r && (j == s && (k == t && (l == u && true)))))) (Value.bool false = .bool Q) (Wr .i64 (f + 1) (fun v => Rf (SV.v (.slice a n c)) /\ Rf (SV.v (.slice b m d)) /\ Rf (SV.v (.int .i64 (n : Int))) /\ N v /\ Int.toNat ((n : Int) - v) < Int.toNat ((n : Int) - f)))) (Value.bool true = .bool Q))) (by kernel_rfl) ?_
 have hl := h.len;have hl' := h'.len;have hmx : n <= maxLen := SlR.max h
 have hmx2 : maxLen <= 9223372036854775807 := by decide
 refine Br.mk (fun h1 => ?_) (fun h1 => ⟨⟨rfl, rfl, rfl, by rw [hN]; exact ⟨by omega, by omega, Int.natCast_inj.1 (by simpa using h1), rfl⟩⟩, fun e G le f hf => ?_⟩)
 · rw [hQ, decide_eq_false]
   rintro rfl;have : n = m := hl.symm.trans hl';subst this;simp at h1
 rw [hN] at hf ⊢;obtain ⟨h2, h3, h4, h5⟩ := hf;refine Br.mk (fun h6 => ?_) (fun h6 => ?_)
 · have h6 := of_decide_eq_true h6
   obtain ⟨i, g1, g2, e0, e1, e2, e3, e4⟩ := (h.mono le).get h2 h6
   obtain ⟨j, k1, k2, d0, d1, d2, d3, d4⟩ := (h'.mono le).get h2 (by omega)
   have t1 : p.take (f + 1).toNat = p.take f.toNat ++ [i] := by rw [show (f + 1).toNat = f.toNat + 1 by omega, List.take_add_one, g1]; rfl
   have t2 : q.take (f + 1).toNat = q.take f.toNat ++ [j] := by rw [show (f + 1).toNat = f.toNat + 1 by omega, List.take_add_one, k1]; rfl
   refine ⟨h2, h6, SlR.isSome (h.mono le) (by omega), rfl, _, e0, _, e1, _, e2, _, e3, _, e4, h2, by omega, SlR.isSome (h'.mono le) (by omega), rfl, _, d0, _, d1, _, d2, _, d3, _, d4, Br.mk (fun h7 => ?_) (fun h7 => ?_)⟩
   · rw [hQ, decide_eq_false]
     rintro rfl;rw [g1] at k1;cases k1;simp at h7
   · have hij : i = j := by
      obtain ⟨o, a1, b1, c1, n1⟩ := i;obtain ⟨o2, a2, b2, c2, n2⟩ := j;simp only [Bool.not_eq_false', Bool.and_eq_true, beq_iff_eq, and_true] at h7;obtain ⟨rfl, rfl, rfl, rfl, rfl⟩ := h7;rfl
     exact wr_i64 (by omega) (by omega) ⟨rfl, rfl, rfl, ⟨by omega, by omega, h4, by rw [t1, t2, h5, hij]⟩, by omega⟩
 · have h6 := of_decide_eq_false h6
   rw [List.take_of_length_le (by omega), List.take_of_length_le (by omega)] at h5
   rw [hQ, decide_eq_true h5]
def awT1 : Tx := [108, 111, 111, 112, 58, 32, 115, 117, 98, 32, 114, 49, 32, 114, 49, 32, 114, 50, 32, 59, 32, 100, 111, 119, 110, 10, 32, 32, 106, 122, 32, 114, 49, 32, 101, 110, 100, 10, 32, 32, 106, 117, 109, 112, 32, 108, 111, 111, 112, 10, 101, 110, 100, 58, 10, 32, 32, 104, 97, 108, 116, 10]
def awT2 : Tx := [108, 48, 58, 10, 32, 32, 115, 117, 98, 32, 114, 49, 32, 114, 49, 32, 114, 50, 10, 32, 32, 106, 122, 32, 114, 49, 32, 108, 51, 10, 32, 32, 106, 117, 109, 112, 32, 108, 48, 10, 108, 51, 58, 10, 32, 32, 104, 97, 108, 116, 10]
def awP : List Ins := [⟨34, 1, 1, 2, 0⟩, ⟨10, 1, 0, 0, 3⟩, ⟨9, 0, 0, 0, 0⟩, ⟨1, 0, 0, 0, 0⟩]
def awL : Array MapEntry := #[⟨.string ⟨#[115, 101, 116, 32, 114, 49]⟩, .int .i64 151, 0⟩, ⟨.string ⟨#[115, 101, 116, 32, 114, 56, 32, 49]⟩, .int .i64 152, 1⟩, ⟨.string ⟨#[115, 101, 116, 32, 114, 49, 32, 48, 49]⟩, .int .i64 152, 2⟩, ⟨.string ⟨#[102, 111, 111]⟩, .int .i64 150, 3⟩, ⟨.string ⟨#[106, 117, 109, 112, 32, 110, 111, 119, 104, 101, 114, 101]⟩, .int .i64 155, 4⟩, ⟨.string ⟨#[106, 117, 109, 112, 32, 49, 120]⟩, .int .i64 153, 5⟩, ⟨.string ⟨#[97, 58]⟩, .int .i64 156, 6⟩, ⟨.string ⟨#[109, 111, 118, 101, 32, 114, 49, 32, 114, 50]⟩, .int .i64 143, 7⟩]
theorem aw1 : parseA awT1 = (awP, 0, 0) := by decide +kernel
theorem aw2 : writeA awP = (awT2, 0) := by decide +kernel
theorem aw3_0 : parseA [115, 101, 116, 32, 114, 49] = ([], 1, 151) := by decide +kernel
theorem aw3_1 : parseA [115, 101, 116, 32, 114, 56, 32, 49] = ([], 1, 152) := by decide +kernel
theorem aw3_2 : parseA [115, 101, 116, 32, 114, 49, 32, 48, 49] = ([], 1, 152) := by decide +kernel
theorem aw3_3 : parseA [102, 111, 111] = ([], 1, 150) := by decide +kernel
theorem aw3_4 : parseA [106, 117, 109, 112, 32, 110, 111, 119, 104, 101, 114, 101] = ([], 1, 155) := by decide +kernel
theorem aw3_5 : parseA [106, 117, 109, 112, 32, 49, 120] = ([], 1, 153) := by decide +kernel
theorem aw3_6 : parseA [97, 58] = ([], 1, 156) := by decide +kernel
theorem aw3_7 : parseA [109, 111, 118, 101, 32, 114, 49, 32, 114, 50] = ([], 1, 143) := by decide +kernel
theorem aw4 : parseA [] = ([], 0, 6) := by decide +kernel
set_option maxHeartbeats 2000000 in
theorem ct8 (I : Mem) (hG : Globs I) : Ct Tryd.prog (fnv 8) #[] I (fun v _ => v = .bool true) := by
 refine viaR (ct_via (A := { loops := [(8, ⟨[(45, .keep)], [(1, .keep), (2, .iter)], [], fun vals xss _ _ => match vals, xss with | [], [_] => True | _, _ => False, fun vals xss => match xss with | [x] => (leftOf awL (decI x)).size | _ => 0⟩)] }) Tryd.func8 rfl Tryd.call8 rfl rfl) (Ct Tryd.prog (fnv 17) #[.string ⟨#[108, 111, 111, 112, 58, 32, 115, 117, 98, 32, 114, 49, 32, 114, 49, 32, 114, 50, 32, 59, 32, 100, 111, 119, 110, 10, 32, 32, 106, 122, 32, 114, 49, 32, 101, 110, 100, 10, 32, 32, 106, 117, 109, 112, 32, 108, 111, 111, 112, 10, 101, 110, 100, 58, 10, 32, 32, 104, 97, 108, 116, 10]⟩] I fun (v : Value) (a : Mem) => ∃ (b : Option Addr) (n c : Nat) (d e : Int), v = .tuple #[.slice b n c, .int .i64 d, .int .i64 e] /\ Br (e != 0) (Value.bool false = .bool true) (Br (d != 0) (Value.bool false = .bool true) (∀ (f : Nat) (g : Mem), a.le g -> g f = some (.cells #[.int .u8 34, .int .u8 1, .int .u8 1, .int .u8 2, .int .i64 0, .int .u8 10, .int .u8 1, .int .u8 0, .int .u8 0, .int .i64 3, .int .u8 9, .int .u8 0, .int .u8 0, .int .u8 0, .int .i64 0, .int .u8 1, .int .u8 0, .int .u8 0, .int .u8 0, .int .i64 0] 44 (0, 0)) -> Ct Tryd.prog (fnv 19) #[.slice b n c, .slice (some ⟨f, 0, none⟩) 4 4] g fun (h : Value) (i : Mem) => ∃ (j : Bool), h = .bool j /\ Br (!j) (Value.bool false = .bool true) (Ct Tryd.prog (fnv 16) #[.slice b n c] i (fun (k : Value) (l : Mem) => ∃ (q : ByteArray) (m : Int), k = .tuple #[.string q, .int .i64 m] /\ Br (m != 0) (Value.bool false = .bool true) (Br (!(q.toList == (ByteArray.mk #[108, 48, 58, 10, 32, 32, 115, 117, 98, 32, 114, 49, 32, 114, 49, 32, 114, 50, 10, 32, 32, 106, 122, 32, 114, 49, 32, 108, 51, 10, 32, 32, 106, 117, 109, 112, 32, 108, 48, 10, 108, 51, 58, 10, 32, 32, 104, 97, 108, 116, 10]).toList)) (Value.bool false = .bool true) (∀ (o : Nat), o = o /\ true = true /\ Rf (some (none : Option (Prod Nat Value))) /\ o = o /\ true = true /\ Rf (some (none : Option (Prod Nat Value))) /\ o = o /\ true = true /\ Rf (some (none : Option (Prod Nat Value))) /\ o = o /\ true = true /\ Rf (some (none : Option (Prod Nat Value))) /\ o = o /\ true = true /\ Rf (some (none : Option (Prod Nat Value))) /\ o = o /\ true = true /\ Rf (some (none : Option (Prod Nat Value))) /\ o = o /\ true = true /\ Rf (some (none : Option (Prod Nat Value))) /\ o = o /\ true = true /\ Rf (some (none : Option (Prod Nat Value))) /\ o = o /\ (Rf (Ent.mk (.raw (.map #[⟨.string ⟨#[115, 101, 116, 32, 114, 49]⟩, .int .i64 151, 0⟩, ⟨.string ⟨#[115, 101, 116, 32, 114, 56, 32, 49]⟩, .int .i64 152, 1⟩, ⟨.string ⟨#[115, 101, 116, 32, 114, 49, 32, 48, 49]⟩, .int .i64 152, 2⟩, ⟨.string ⟨#[102, 111, 111]⟩, .int .i64 150, 3⟩, ⟨.string ⟨#[106, 117, 109, 112, 32, 110, 111, 119, 104, 101, 114, 101]⟩, .int .i64 155, 4⟩, ⟨.string ⟨#[106, 117, 109, 112, 32, 49, 120]⟩, .int .i64 153, 5⟩, ⟨.string ⟨#[97, 58]⟩, .int .i64 156, 6⟩, ⟨.string ⟨#[109, 111, 118, 101, 32, 114, 49, 32, 114, 50]⟩, .int .i64 143, 7⟩] 8)) (some o)) /\ (Rf (some o) /\ (8 : Nat) = 8 /\ (8 : Nat) = 8 /\ Rf (none : Option Nat)) /\ Rf (SV.ptr 2 0) /\ True) /\ ∀ (p : Mem), Mem -> l.le p -> ∀ (x : List Value), True -> o = o /\ true = true /\ (8 : Nat) <= 8 /\ ((leftOf #[⟨.string ⟨#[115, 101, 116, 32, 114, 49]⟩, .int .i64 151, 0⟩, ⟨.string ⟨#[115, 101, 116, 32, 114, 56, 32, 49]⟩, .int .i64 152, 1⟩, ⟨.string ⟨#[115, 101, 116, 32, 114, 49, 32, 48, 49]⟩, .int .i64 152, 2⟩, ⟨.string ⟨#[102, 111, 111]⟩, .int .i64 150, 3⟩, ⟨.string ⟨#[106, 117, 109, 112, 32, 110, 111, 119, 104, 101, 114, 101]⟩, .int .i64 155, 4⟩, ⟨.string ⟨#[106, 117, 109, 112, 32, 49, 120]⟩, .int .i64 153, 5⟩, ⟨.string ⟨#[97, 58]⟩, .int .i64 156, 6⟩, ⟨.string ⟨#[109, 111, 118, 101, 32, 114, 49, 32, 114, 50]⟩, .int .i64 143, 7⟩] (decI x)).size = 0 -> Ct Tryd.prog (fnv 17) #[.string ⟨#[]⟩] p fun (r : Value) (s : Mem) => ∃ (t : Option Addr) (u w : Nat) (y z : Int), r = .tuple #[.slice t u w, .int .i64 y, .int .i64 z] /\ Br (y == 0) (Value.bool (z == 6) = .bool true) (Value.bool false = .bool true)) /\ ((decI x).contains (0 : Nat) = false -> o = o /\ (8 : Nat) = 8 /\ List.Nodup [(0 : Nat), 1, 2, 3, 4, 5, 6, 7] /\ (∃ (s : Array Nat) (r : Nat), ((decI x).toList.concat (0 : Nat)).toArray = s.push r /\ Membership.mem [MapEntry.mk (.string ⟨#[115, 101, 116, 32, 114, 49]⟩) (.int .i64 151) 0, ⟨.string ⟨#[115, 101, 116, 32, 114, 56, 32, 49]⟩, .int .i64 152, 1⟩, ⟨.string ⟨#[115, 101, 116, 32, 114, 49, 32, 48, 49]⟩, .int .i64 152, 2⟩, ⟨.string ⟨#[102, 111, 111]⟩, .int .i64 150, 3⟩, ⟨.string ⟨#[106, 117, 109, 112, 32, 110, 111, 119, 104, 101, 114, 101]⟩, .int .i64 155, 4⟩, ⟨.string ⟨#[106, 117, 109, 112, 32, 49, 120]⟩, .int .i64 153, 5⟩, ⟨.string ⟨#[97, 58]⟩, .int .i64 156, 6⟩, ⟨.string ⟨#[109, 111, 118, 101, 32, 114, 49, 32, 114, 50]⟩, .int .i64 143, 7⟩] (MapEntry.mk (.string ⟨#[115, 101, 116, 32, 114, 49]⟩) (.int .i64 151) r)) /\ Ct Tryd.prog (fnv 17) #[.string ⟨#[115, 101, 116, 32, 114, 49]⟩] p fun (r : Value) (s : Mem) => ∃ (t : Option Addr) (u w : Nat) (y z : Int), r = .tuple #[.slice t u w, .int .i64 y, .int .i64 z] /\ Br (y != 1) (Value.bool false = .bool true) (Br (z != 151) (Value.bool false = .bool true) (Rf (Ent.mk (.raw (.map #[⟨.string ⟨#[115, 101, 116, 32, 114, 49]⟩, .int .i64 151, 0⟩, ⟨.string ⟨#[115, 101, 116, 32, 114, 56, 32, 49]⟩, .int .i64 152, 1⟩, ⟨.string ⟨#[115, 101, 116, 32, 114, 49, 32, 48, 49]⟩, .int .i64 152, 2⟩, ⟨.string ⟨#[102, 111, 111]⟩, .int .i64 150, 3⟩, ⟨.string ⟨#[106, 117, 109, 112, 32, 110, 111, 119, 104, 101, 114, 101]⟩, .int .i64 155, 4⟩, ⟨.string ⟨#[106, 117, 109, 112, 32, 49, 120]⟩, .int .i64 153, 5⟩, ⟨.string ⟨#[97, 58]⟩, .int .i64 156, 6⟩, ⟨.string ⟨#[109, 111, 118, 101, 32, 114, 49, 32, 114, 50]⟩, .int .i64 143, 7⟩] 8)) (some o)) /\ (Rf (some o) /\ (8 : Nat) = 8 /\ (8 : Nat) = 8 /\ Rf (none : Option Nat)) /\ Rf (SV.ptr 2 0) /\ True /\ (leftOf #[⟨.string ⟨#[115, 101, 116, 32, 114, 49]⟩, .int .i64 151, 0⟩, ⟨.string ⟨#[115, 101, 116, 32, 114, 56, 32, 49]⟩, .int .i64 152, 1⟩, ⟨.string ⟨#[115, 101, 116, 32, 114, 49, 32, 48, 49]⟩, .int .i64 152, 2⟩, ⟨.string ⟨#[102, 111, 111]⟩, .int .i64 150, 3⟩, ⟨.string ⟨#[106, 117, 109, 112, 32, 110, 111, 119, 104, 101, 114, 101]⟩, .int .i64 155, 4⟩, ⟨.string ⟨#[106, 117, 109, 112, 32, 49, 120]⟩, .int .i64 153, 5⟩, ⟨.string ⟨#[97, 58]⟩, .int .i64 156, 6⟩, ⟨.string ⟨#[109, 111, 118, 101, 32, 114, 49, 32, 114, 50]⟩, .int .i64 143, 7⟩] (decI (encI ((decI x).toList.concat (0 : Nat)).toArray))).size < (leftOf #[⟨.string ⟨#[115, 101, 116, 32, 114, 49]⟩, .int .i64 151, 0⟩, ⟨.string ⟨#[115, 101, 116, 32, 114, 56, 32, 49]⟩, .int .i64 152, 1⟩, ⟨.string ⟨#[115, 101, 116, 32, 114, 49, 32, 48, 49]⟩, .int .i64 152, 2⟩, ⟨.string ⟨#[102, 111, 111]⟩, .int .i64 150, 3⟩, ⟨.string ⟨#[106, 117, 109, 112, 32, 110, 111, 119, 104, 101, 114, 101]⟩, .int .i64 155, 4⟩, ⟨.string ⟨#[106, 117, 109, 112, 32, 49, 120]⟩, .int .i64 153, 5⟩, ⟨.string ⟨#[97, 58]⟩, .int .i64 156, 6⟩, ⟨.string ⟨#[109, 111, 118, 101, 32, 114, 49, 32, 114, 50]⟩, .int .i64 143, 7⟩] (decI x)).size))) /\ ((decI x).contains (1 : Nat) = false -> o = o /\ (8 : Nat) = 8 /\ List.Nodup [(0 : Nat), 1, 2, 3, 4, 5, 6, 7] /\ (∃ (s : Array Nat) (r : Nat), ((decI x).toList.concat (1 : Nat)).toArray = s.push r /\ Membership.mem [MapEntry.mk (.string ⟨#[115, 101, 116, 32, 114, 49]⟩) (.int .i64 151) 0, ⟨.string ⟨#[115, 101, 116, 32, 114, 56, 32, 49]⟩, .int .i64 152, 1⟩, ⟨.string ⟨#[115, 101, 116, 32, 114, 49, 32, 48, 49]⟩, .int .i64 152, 2⟩, ⟨.string ⟨#[102, 111, 111]⟩, .int .i64 150, 3⟩, ⟨.string ⟨#[106, 117, 109, 112, 32, 110, 111, 119, 104, 101, 114, 101]⟩, .int .i64 155, 4⟩, ⟨.string ⟨#[106, 117, 109, 112, 32, 49, 120]⟩, .int .i64 153, 5⟩, ⟨.string ⟨#[97, 58]⟩, .int .i64 156, 6⟩, ⟨.string ⟨#[109, 111, 118, 101, 32, 114, 49, 32, 114, 50]⟩, .int .i64 143, 7⟩] (MapEntry.mk (.string ⟨#[115, 101, 116, 32, 114, 56, 32, 49]⟩) (.int .i64 152) r)) /\ Ct Tryd.prog (fnv 17) #[.string ⟨#[115, 101, 116, 32, 114, 56, 32, 49]⟩] p fun (r : Value) (s : Mem) => ∃ (t : Option Addr) (u w : Nat) (y z : Int), r = .tuple #[.slice t u w, .int .i64 y, .int .i64 z] /\ Br (y != 1) (Value.bool false = .bool true) (Br (z != 152) (Value.bool false = .bool true) (Rf (Ent.mk (.raw (.map #[⟨.string ⟨#[115, 101, 116, 32, 114, 49]⟩, .int .i64 151, 0⟩, ⟨.string ⟨#[115, 101, 116, 32, 114, 56, 32, 49]⟩, .int .i64 152, 1⟩, ⟨.string ⟨#[115, 101, 116, 32, 114, 49, 32, 48, 49]⟩, .int .i64 152, 2⟩, ⟨.string ⟨#[102, 111, 111]⟩, .int .i64 150, 3⟩, ⟨.string ⟨#[106, 117, 109, 112, 32, 110, 111, 119, 104, 101, 114, 101]⟩, .int .i64 155, 4⟩, ⟨.string ⟨#[106, 117, 109, 112, 32, 49, 120]⟩, .int .i64 153, 5⟩, ⟨.string ⟨#[97, 58]⟩, .int .i64 156, 6⟩, ⟨.string ⟨#[109, 111, 118, 101, 32, 114, 49, 32, 114, 50]⟩, .int .i64 143, 7⟩] 8)) (some o)) /\ (Rf (some o) /\ (8 : Nat) = 8 /\ (8 : Nat) = 8 /\ Rf (none : Option Nat)) /\ Rf (SV.ptr 2 0) /\ True /\ (leftOf #[⟨.string ⟨#[115, 101, 116, 32, 114, 49]⟩, .int .i64 151, 0⟩, ⟨.string ⟨#[115, 101, 116, 32, 114, 56, 32, 49]⟩, .int .i64 152, 1⟩, ⟨.string ⟨#[115, 101, 116, 32, 114, 49, 32, 48, 49]⟩, .int .i64 152, 2⟩, ⟨.string ⟨#[102, 111, 111]⟩, .int .i64 150, 3⟩, ⟨.string ⟨#[106, 117, 109, 112, 32, 110, 111, 119, 104, 101, 114, 101]⟩, .int .i64 155, 4⟩, ⟨.string ⟨#[106, 117, 109, 112, 32, 49, 120]⟩, .int .i64 153, 5⟩, ⟨.string ⟨#[97, 58]⟩, .int .i64 156, 6⟩, ⟨.string ⟨#[109, 111, 118, 101, 32, 114, 49, 32, 114, 50]⟩, .int .i64 143, 7⟩] (decI (encI ((decI x).toList.concat (1 : Nat)).toArray))).size < (leftOf #[⟨.string ⟨#[115, 101, 116, 32, 114, 49]⟩, .int .i64 151, 0⟩, ⟨.string ⟨#[115, 101, 116, 32, 114, 56, 32, 49]⟩, .int .i64 152, 1⟩, ⟨.string ⟨#[115, 101, 116, 32, 114, 49, 32, 48, 49]⟩, .int .i64 152, 2⟩, ⟨.string ⟨#[102, 111, 111]⟩, .int .i64 150, 3⟩, ⟨.string ⟨#[106, 117, 109, 112, 32, 110, 111, 119, 104, 101, 114, 101]⟩, .int .i64 155, 4⟩, ⟨.string ⟨#[106, 117, 109, 112, 32, 49, 120]⟩, .int .i64 153, 5⟩, ⟨.string ⟨#[97, 58]⟩, .int .i64 156, 6⟩, ⟨.string ⟨#[109, 111, 118, 101, 32, 114, 49, 32, 114, 50]⟩, .int .i64 143, 7⟩] (decI x)).size))) /\ ((decI x).contains (2 : Nat) = false -> o = o /\ (8 : Nat) = 8 /\ List.Nodup [(0 : Nat), 1, 2, 3, 4, 5, 6, 7] /\ (∃ (s : Array Nat) (r : Nat), ((decI x).toList.concat (2 : Nat)).toArray = s.push r /\ Membership.mem [MapEntry.mk (.string ⟨#[115, 101, 116, 32, 114, 49]⟩) (.int .i64 151) 0, ⟨.string ⟨#[115, 101, 116, 32, 114, 56, 32, 49]⟩, .int .i64 152, 1⟩, ⟨.string ⟨#[115, 101, 116, 32, 114, 49, 32, 48, 49]⟩, .int .i64 152, 2⟩, ⟨.string ⟨#[102, 111, 111]⟩, .int .i64 150, 3⟩, ⟨.string ⟨#[106, 117, 109, 112, 32, 110, 111, 119, 104, 101, 114, 101]⟩, .int .i64 155, 4⟩, ⟨.string ⟨#[106, 117, 109, 112, 32, 49, 120]⟩, .int .i64 153, 5⟩, ⟨.string ⟨#[97, 58]⟩, .int .i64 156, 6⟩, ⟨.string ⟨#[109, 111, 118, 101, 32, 114, 49, 32, 114, 50]⟩, .int .i64 143, 7⟩] (MapEntry.mk (.string ⟨#[115, 101, 116, 32, 114, 49, 32, 48, 49]⟩) (.int .i64 152) r)) /\ Ct Tryd.prog (fnv 17) #[.string ⟨#[115, 101, 116, 32, 114, 49, 32, 48, 49]⟩] p fun (r : Value) (s : Mem) => ∃ (t : Option Addr) (u w : Nat) (y z : Int), r = .tuple #[.slice t u w, .int .i64 y, .int .i64 z] /\ Br (y != 1) (Value.bool false = .bool true) (Br (z != 152) (Value.bool false = .bool true) (Rf (Ent.mk (.raw (.map #[⟨.string ⟨#[115, 101, 116, 32, 114, 49]⟩, .int .i64 151, 0⟩, ⟨.string ⟨#[115, 101, 116, 32, 114, 56, 32, 49]⟩, .int .i64 152, 1⟩, ⟨.string ⟨#[115, 101, 116, 32, 114, 49, 32, 48, 49]⟩, .int .i64 152, 2⟩, ⟨.string ⟨#[102, 111, 111]⟩, .int .i64 150, 3⟩, ⟨.string ⟨#[106, 117, 109, 112, 32, 110, 111, 119, 104, 101, 114, 101]⟩, .int .i64 155, 4⟩, ⟨.string ⟨#[106, 117, 109, 112, 32, 49, 120]⟩, .int .i64 153, 5⟩, ⟨.string ⟨#[97, 58]⟩, .int .i64 156, 6⟩, ⟨.string ⟨#[109, 111, 118, 101, 32, 114, 49, 32, 114, 50]⟩, .int .i64 143, 7⟩] 8)) (some o)) /\ (Rf (some o) /\ (8 : Nat) = 8 /\ (8 : Nat) = 8 /\ Rf (none : Option Nat)) /\ Rf (SV.ptr 2 0) /\ True /\ (leftOf #[⟨.string ⟨#[115, 101, 116, 32, 114, 49]⟩, .int .i64 151, 0⟩, ⟨.string ⟨#[115, 101, 116, 32, 114, 56, 32, 49]⟩, .int .i64 152, 1⟩, ⟨.string ⟨#[115, 101, 116, 32, 114, 49, 32, 48, 49]⟩, .int .i64 152, 2⟩, ⟨.string ⟨#[102, 111, 111]⟩, .int .i64 150, 3⟩, ⟨.string ⟨#[106, 117, 109, 112, 32, 110, 111, 119, 104, 101, 114, 101]⟩, .int .i64 155, 4⟩, ⟨.string ⟨#[106, 117, 109, 112, 32, 49, 120]⟩, .int .i64 153, 5⟩, ⟨.string ⟨#[97, 58]⟩, .int .i64 156, 6⟩, ⟨.string ⟨#[109, 111, 118, 101, 32, 114, 49, 32, 114, 50]⟩, .int .i64 143, 7⟩] (decI (encI ((decI x).toList.concat (2 : Nat)).toArray))).size < (leftOf #[⟨.string ⟨#[115, 101, 116, 32, 114, 49]⟩, .int .i64 151, 0⟩, ⟨.string ⟨#[115, 101, 116, 32, 114, 56, 32, 49]⟩, .int .i64 152, 1⟩, ⟨.string ⟨#[115, 101, 116, 32, 114, 49, 32, 48, 49]⟩, .int .i64 152, 2⟩, ⟨.string ⟨#[102, 111, 111]⟩, .int .i64 150, 3⟩, ⟨.string ⟨#[106, 117, 109, 112, 32, 110, 111, 119, 104, 101, 114, 101]⟩, .int .i64 155, 4⟩, ⟨.string ⟨#[106, 117, 109, 112, 32, 49, 120]⟩, .int .i64 153, 5⟩, ⟨.string ⟨#[97, 58]⟩, .int .i64 156, 6⟩, ⟨.string ⟨#[109, 111, 118, 101, 32, 114, 49, 32, 114, 50]⟩, .int .i64 143, 7⟩] (decI x)).size))) /\ ((decI x).contains (3 : Nat) = false -> o = o /\ (8 : Nat) = 8 /\ List.Nodup [(0 : Nat), 1, 2, 3, 4, 5, 6, 7] /\ (∃ (s : Array Nat) (r : Nat), ((decI x).toList.concat (3 : Nat)).toArray = s.push r /\ Membership.mem [MapEntry.mk (.string ⟨#[115, 101, 116, 32, 114, 49]⟩) (.int .i64 151) 0, ⟨.string ⟨#[115, 101, 116, 32, 114, 56, 32, 49]⟩, .int .i64 152, 1⟩, ⟨.string ⟨#[115, 101, 116, 32, 114, 49, 32, 48, 49]⟩, .int .i64 152, 2⟩, ⟨.string ⟨#[102, 111, 111]⟩, .int .i64 150, 3⟩, ⟨.string ⟨#[106, 117, 109, 112, 32, 110, 111, 119, 104, 101, 114, 101]⟩, .int .i64 155, 4⟩, ⟨.string ⟨#[106, 117, 109, 112, 32, 49, 120]⟩, .int .i64 153, 5⟩, ⟨.string ⟨#[97, 58]⟩, .int .i64 156, 6⟩, ⟨.string ⟨#[109, 111, 118, 101, 32, 114, 49, 32, 114, 50]⟩, .int .i64 143, 7⟩] (MapEntry.mk (.string ⟨#[102, 111, 111]⟩) (.int .i64 150) r)) /\ Ct Tryd.prog (fnv 17) #[.string ⟨#[102, 111, 111]⟩] p fun (r : Value) (s : Mem) => ∃ (t : Option Addr) (u w : Nat) (y z : Int), r = .tuple #[.slice t u w, .int .i64 y, .int .i64 z] /\ Br (y != 1) (Value.bool false = .bool true) (Br (z != 150) (Value.bool false = .bool true) (Rf (Ent.mk (.raw (.map #[⟨.string ⟨#[115, 101, 116, 32, 114, 49]⟩, .int .i64 151, 0⟩, ⟨.string ⟨#[115, 101, 116, 32, 114, 56, 32, 49]⟩, .int .i64 152, 1⟩, ⟨.string ⟨#[115, 101, 116, 32, 114, 49, 32, 48, 49]⟩, .int .i64 152, 2⟩, ⟨.string ⟨#[102, 111, 111]⟩, .int .i64 150, 3⟩, ⟨.string ⟨#[106, 117, 109, 112, 32, 110, 111, 119, 104, 101, 114, 101]⟩, .int .i64 155, 4⟩, ⟨.string ⟨#[106, 117, 109, 112, 32, 49, 120]⟩, .int .i64 153, 5⟩, ⟨.string ⟨#[97, 58]⟩, .int .i64 156, 6⟩, ⟨.string ⟨#[109, 111, 118, 101, 32, 114, 49, 32, 114, 50]⟩, .int .i64 143, 7⟩] 8)) (some o)) /\ (Rf (some o) /\ (8 : Nat) = 8 /\ (8 : Nat) = 8 /\ Rf (none : Option Nat)) /\ Rf (SV.ptr 2 0) /\ True /\ (leftOf #[⟨.string ⟨#[115, 101, 116, 32, 114, 49]⟩, .int .i64 151, 0⟩, ⟨.string ⟨#[115, 101, 116, 32, 114, 56, 32, 49]⟩, .int .i64 152, 1⟩, ⟨.string ⟨#[115, 101, 116, 32, 114, 49, 32, 48, 49]⟩, .int .i64 152, 2⟩, ⟨.string ⟨#[102, 111, 111]⟩, .int .i64 150, 3⟩, ⟨.string ⟨#[106, 117, 109, 112, 32, 110, 111, 119, 104, 101, 114, 101]⟩, .int .i64 155, 4⟩, ⟨.string ⟨#[106, 117, 109, 112, 32, 49, 120]⟩, .int .i64 153, 5⟩, ⟨.string ⟨#[97, 58]⟩, .int .i64 156, 6⟩, ⟨.string ⟨#[109, 111, 118, 101, 32, 114, 49, 32, 114, 50]⟩, .int .i64 143, 7⟩] (decI (encI ((decI x).toList.concat (3 : Nat)).toArray))).size < (leftOf #[⟨.string ⟨#[115, 101, 116, 32, 114, 49]⟩, .int .i64 151, 0⟩, ⟨.string ⟨#[115, 101, 116, 32, 114, 56, 32, 49]⟩, .int .i64 152, 1⟩, ⟨.string ⟨#[115, 101, 116, 32, 114, 49, 32, 48, 49]⟩, .int .i64 152, 2⟩, ⟨.string ⟨#[102, 111, 111]⟩, .int .i64 150, 3⟩, ⟨.string ⟨#[106, 117, 109, 112, 32, 110, 111, 119, 104, 101, 114, 101]⟩, .int .i64 155, 4⟩, ⟨.string ⟨#[106, 117, 109, 112, 32, 49, 120]⟩, .int .i64 153, 5⟩, ⟨.string ⟨#[97, 58]⟩, .int .i64 156, 6⟩, ⟨.string ⟨#[109, 111, 118, 101, 32, 114, 49, 32, 114, 50]⟩, .int .i64 143, 7⟩] (decI x)).size))) /\ ((decI x).contains (4 : Nat) = false -> o = o /\ (8 : Nat) = 8 /\ List.Nodup [(0 : Nat), 1, 2, 3, 4, 5, 6, 7] /\ (∃ (s : Array Nat) (r : Nat), ((decI x).toList.concat (4 : Nat)).toArray = s.push r /\ Membership.mem [MapEntry.mk (.string ⟨#[115, 101, 116, 32, 114, 49]⟩) (.int .i64 151) 0, ⟨.string ⟨#[115, 101, 116, 32, 114, 56, 32, 49]⟩, .int .i64 152, 1⟩, ⟨.string ⟨#[115, 101, 116, 32, 114, 49, 32, 48, 49]⟩, .int .i64 152, 2⟩, ⟨.string ⟨#[102, 111, 111]⟩, .int .i64 150, 3⟩, ⟨.string ⟨#[106, 117, 109, 112, 32, 110, 111, 119, 104, 101, 114, 101]⟩, .int .i64 155, 4⟩, ⟨.string ⟨#[106, 117, 109, 112, 32, 49, 120]⟩, .int .i64 153, 5⟩, ⟨.string ⟨#[97, 58]⟩, .int .i64 156, 6⟩, ⟨.string ⟨#[109, 111, 118, 101, 32, 114, 49, 32, 114, 50]⟩, .int .i64 143, 7⟩] (MapEntry.mk (.string ⟨#[106, 117, 109, 112, 32, 110, 111, 119, 104, 101, 114, 101]⟩) (.int .i64 155) r)) /\ Ct Tryd.prog (fnv 17) #[.string ⟨#[106, 117, 109, 112, 32, 110, 111, 119, 104, 101, 114, 101]⟩] p fun (r : Value) (s : Mem) => ∃ (t : Option Addr) (u w : Nat) (y z : Int), r = .tuple #[.slice t u w, .int .i64 y, .int .i64 z] /\ Br (y != 1) (Value.bool false = .bool true) (Br (z != 155) (Value.bool false = .bool true) (Rf (Ent.mk (.raw (.map #[⟨.string ⟨#[115, 101, 116, 32, 114, 49]⟩, .int .i64 151, 0⟩, ⟨.string ⟨#[115, 101, 116, 32, 114, 56, 32, 49]⟩, .int .i64 152, 1⟩, ⟨.string ⟨#[115, 101, 116, 32, 114, 49, 32, 48, 49]⟩, .int .i64 152, 2⟩, ⟨.string ⟨#[102, 111, 111]⟩, .int .i64 150, 3⟩, ⟨.string ⟨#[106, 117, 109, 112, 32, 110, 111, 119, 104, 101, 114, 101]⟩, .int .i64 155, 4⟩, ⟨.string ⟨#[106, 117, 109, 112, 32, 49, 120]⟩, .int .i64 153, 5⟩, ⟨.string ⟨#[97, 58]⟩, .int .i64 156, 6⟩, ⟨.string ⟨#[109, 111, 118, 101, 32, 114, 49, 32, 114, 50]⟩, .int .i64 143, 7⟩] 8)) (some o)) /\ (Rf (some o) /\ (8 : Nat) = 8 /\ (8 : Nat) = 8 /\ Rf (none : Option Nat)) /\ Rf (SV.ptr 2 0) /\ True /\ (leftOf #[⟨.string ⟨#[115, 101, 116, 32, 114, 49]⟩, .int .i64 151, 0⟩, ⟨.string ⟨#[115, 101, 116, 32, 114, 56, 32, 49]⟩, .int .i64 152, 1⟩, ⟨.string ⟨#[115, 101, 116, 32, 114, 49, 32, 48, 49]⟩, .int .i64 152, 2⟩, ⟨.string ⟨#[102, 111, 111]⟩, .int .i64 150, 3⟩, ⟨.string ⟨#[106, 117, 109, 112, 32, 110, 111, 119, 104, 101, 114, 101]⟩, .int .i64 155, 4⟩, ⟨.string ⟨#[106, 117, 109, 112, 32, 49, 120]⟩, .int .i64 153, 5⟩, ⟨.string ⟨#[97, 58]⟩, .int .i64 156, 6⟩, ⟨.string ⟨#[109, 111, 118, 101, 32, 114, 49, 32, 114, 50]⟩, .int .i64 143, 7⟩] (decI (encI ((decI x).toList.concat (4 : Nat)).toArray))).size < (leftOf #[⟨.string ⟨#[115, 101, 116, 32, 114, 49]⟩, .int .i64 151, 0⟩, ⟨.string ⟨#[115, 101, 116, 32, 114, 56, 32, 49]⟩, .int .i64 152, 1⟩, ⟨.string ⟨#[115, 101, 116, 32, 114, 49, 32, 48, 49]⟩, .int .i64 152, 2⟩, ⟨.string ⟨#[102, 111, 111]⟩, .int .i64 150, 3⟩, ⟨.string ⟨#[106, 117, 109, 112, 32, 110, 111, 119, 104, 101, 114, 101]⟩, .int .i64 155, 4⟩, ⟨.string ⟨#[106, 117, 109, 112, 32, 49, 120]⟩, .int .i64 153, 5⟩, ⟨.string ⟨#[97, 58]⟩, .int .i64 156, 6⟩, ⟨.string ⟨#[109, 111, 118, 101, 32, 114, 49, 32, 114, 50]⟩, .int .i64 143, 7⟩] (decI x)).size))) /\ ((decI x).contains (5 : Nat) = false -> o = o /\ (8 : Nat) = 8 /\ List.Nodup [(0 : Nat), 1, 2, 3, 4, 5, 6, 7] /\ (∃ (s : Array Nat) (r : Nat), ((decI x).toList.concat (5 : Nat)).toArray = s.push r /\ Membership.mem [MapEntry.mk (.string ⟨#[115, 101, 116, 32, 114, 49]⟩) (.int .i64 151) 0, ⟨.string ⟨#[115, 101, 116, 32, 114, 56, 32, 49]⟩, .int .i64 152, 1⟩, ⟨.string ⟨#[115, 101, 116, 32, 114, 49, 32, 48, 49]⟩, .int .i64 152, 2⟩, ⟨.string ⟨#[102, 111, 111]⟩, .int .i64 150, 3⟩, ⟨.string ⟨#[106, 117, 109, 112, 32, 110, 111, 119, 104, 101, 114, 101]⟩, .int .i64 155, 4⟩, ⟨.string ⟨#[106, 117, 109, 112, 32, 49, 120]⟩, .int .i64 153, 5⟩, ⟨.string ⟨#[97, 58]⟩, .int .i64 156, 6⟩, ⟨.string ⟨#[109, 111, 118, 101, 32, 114, 49, 32, 114, 50]⟩, .int .i64 143, 7⟩] (MapEntry.mk (.string ⟨#[106, 117, 109, 112, 32, 49, 120]⟩) (.int .i64 153) r)) /\ Ct Tryd.prog (fnv 17) #[.string ⟨#[106, 117, 109, 112, 32, 49, 120]⟩] p fun (r : Value) (s : Mem) => ∃ (t : Option Addr) (u w : Nat) (y z : Int), r = .tuple #[.slice t u w, .int .i64 y, .int .i64 z] /\ Br (y != 1) (Value.bool false = .bool true) (Br (z != 153) (Value.bool false = .bool true) (Rf (Ent.mk (.raw (.map #[⟨.string ⟨#[115, 101, 116, 32, 114, 49]⟩, .int .i64 151, 0⟩, ⟨.string ⟨#[115, 101, 116, 32, 114, 56, 32, 49]⟩, .int .i64 152, 1⟩, ⟨.string ⟨#[115, 101, 116, 32, 114, 49, 32, 48, 49]⟩, .int .i64 152, 2⟩, ⟨.string ⟨#[102, 111, 111]⟩, .int .i64 150, 3⟩, ⟨.string ⟨#[106, 117, 109, 112, 32, 110, 111, 119, 104, 101, 114, 101]⟩, .int .i64 155, 4⟩, ⟨.string ⟨#[106, 117, 109, 112, 32, 49, 120]⟩, .int .i64 153, 5⟩, ⟨.string ⟨#[97, 58]⟩, .int .i64 156, 6⟩, ⟨.string ⟨#[109, 111, 118, 101, 32, 114, 49, 32, 114, 50]⟩, .int .i64 143, 7⟩] 8)) (some o)) /\ (Rf (some o) /\ (8 : Nat) = 8 /\ (8 : Nat) = 8 /\ Rf (none : Option Nat)) /\ Rf (SV.ptr 2 0) /\ True /\ (leftOf #[⟨.string ⟨#[115, 101, 116, 32, 114, 49]⟩, .int .i64 151, 0⟩, ⟨.string ⟨#[115, 101, 116, 32, 114, 56, 32, 49]⟩, .int .i64 152, 1⟩, ⟨.string ⟨#[115, 101, 116, 32, 114, 49, 32, 48, 49]⟩, .int .i64 152, 2⟩, ⟨.string ⟨#[102, 111, 111]⟩, .int .i64 150, 3⟩, ⟨.string ⟨#[106, 117, 109, 112, 32, 110, 111, 119, 104, 101, 114, 101]⟩, .int .i64 155, 4⟩, ⟨.string ⟨#[106, 117, 109, 112, 32, 49, 120]⟩, .int .i64 153, 5⟩, ⟨.string ⟨#[97, 58]⟩, .int .i64 156, 6⟩, ⟨.string ⟨#[109, 111, 118, 101, 32, 114, 49, 32, 114, 50]⟩, .int .i64 143, 7⟩] (decI (encI ((decI x).toList.concat (5 : Nat)).toArray))).size < (leftOf #[⟨.string ⟨#[115, 101, 116, 32, 114, 49]⟩, .int .i64 151, 0⟩, ⟨.string ⟨#[115, 101, 116, 32, 114, 56, 32, 49]⟩, .int .i64 152, 1⟩, ⟨.string ⟨#[115, 101, 116, 32, 114, 49, 32, 48, 49]⟩, .int .i64 152, 2⟩, ⟨.string ⟨#[102, 111, 111]⟩, .int .i64 150, 3⟩, ⟨.string ⟨#[106, 117, 109, 112, 32, 110, 111, 119, 104, 101, 114, 101]⟩, .int .i64 155, 4⟩, ⟨.string ⟨#[106, 117, 109, 112, 32, 49, 120]⟩, .int .i64 153, 5⟩, ⟨.string ⟨#[97, 58]⟩, .int .i64 156, 6⟩, ⟨.string ⟨#[109, 111, 118, 101, 32, 114, 49, 32, 114, 50]⟩, .int .i64 143, 7⟩] (decI x)).size))) /\ ((decI x).contains (6 : Nat) = false -> o = o /\ (8 : Nat) = 8 /\ List.Nodup [(0 : Nat), 1, 2, 3, 4, 5, 6, 7] /\ (∃ (s : Array Nat) (r : Nat), ((decI x).toList.concat (6 : Nat)).toArray = s.push r /\ Membership.mem [MapEntry.mk (.string ⟨#[115, 101, 116, 32, 114, 49]⟩) (.int .i64 151) 0, ⟨.string ⟨#[115, 101, 116, 32, 114, 56, 32, 49]⟩, .int .i64 152, 1⟩, ⟨.string ⟨#[115, 101, 116, 32, 114, 49, 32, 48, 49]⟩, .int .i64 152, 2⟩, ⟨.string ⟨#[102, 111, 111]⟩, .int .i64 150, 3⟩, ⟨.string ⟨#[106, 117, 109, 112, 32, 110, 111, 119, 104, 101, 114, 101]⟩, .int .i64 155, 4⟩, ⟨.string ⟨#[106, 117, 109, 112, 32, 49, 120]⟩, .int .i64 153, 5⟩, ⟨.string ⟨#[97, 58]⟩, .int .i64 156, 6⟩, ⟨.string ⟨#[109, 111, 118, 101, 32, 114, 49, 32, 114, 50]⟩, .int .i64 143, 7⟩] (MapEntry.mk (.string ⟨#[97, 58]⟩) (.int .i64 156) r)) /\ Ct Tryd.prog (fnv 17) #[.string ⟨#[97, 58]⟩] p fun (r : Value) (s : Mem) => ∃ (t : Option Addr) (u w : Nat) (y z : Int), r = .tuple #[.slice t u w, .int .i64 y, .int .i64 z] /\ Br (y != 1) (Value.bool false = .bool true) (Br (z != 156) (Value.bool false = .bool true) (Rf (Ent.mk (.raw (.map #[⟨.string ⟨#[115, 101, 116, 32, 114, 49]⟩, .int .i64 151, 0⟩, ⟨.string ⟨#[115, 101, 116, 32, 114, 56, 32, 49]⟩, .int .i64 152, 1⟩, ⟨.string ⟨#[115, 101, 116, 32, 114, 49, 32, 48, 49]⟩, .int .i64 152, 2⟩, ⟨.string ⟨#[102, 111, 111]⟩, .int .i64 150, 3⟩, ⟨.string ⟨#[106, 117, 109, 112, 32, 110, 111, 119, 104, 101, 114, 101]⟩, .int .i64 155, 4⟩, ⟨.string ⟨#[106, 117, 109, 112, 32, 49, 120]⟩, .int .i64 153, 5⟩, ⟨.string ⟨#[97, 58]⟩, .int .i64 156, 6⟩, ⟨.string ⟨#[109, 111, 118, 101, 32, 114, 49, 32, 114, 50]⟩, .int .i64 143, 7⟩] 8)) (some o)) /\ (Rf (some o) /\ (8 : Nat) = 8 /\ (8 : Nat) = 8 /\ Rf (none : Option Nat)) /\ Rf (SV.ptr 2 0) /\ True /\ (leftOf #[⟨.string ⟨#[115, 101, 116, 32, 114, 49]⟩, .int .i64 151, 0⟩, ⟨.string ⟨#[115, 101, 116, 32, 114, 56, 32, 49]⟩, .int .i64 152, 1⟩, ⟨.string ⟨#[115, 101, 116, 32, 114, 49, 32, 48, 49]⟩, .int .i64 152, 2⟩, ⟨.string ⟨#[102, 111, 111]⟩, .int .i64 150, 3⟩, ⟨.string ⟨#[106, 117, 109, 112, 32, 110, 111, 119, 104, 101, 114, 101]⟩, .int .i64 155, 4⟩, ⟨.string ⟨#[106, 117, 109, 112, 32, 49, 120]⟩, .int .i64 153, 5⟩, ⟨.string ⟨#[97, 58]⟩, .int .i64 156, 6⟩, ⟨.string ⟨#[109, 111, 118, 101, 32, 114, 49, 32, 114, 50]⟩, .int .i64 143, 7⟩] (decI (encI ((decI x).toList.concat (6 : Nat)).toArray))).size < (leftOf #[⟨.string ⟨#[115, 101, 116, 32, 114, 49]⟩, .int .i64 151, 0⟩, ⟨.string ⟨#[115, 101, 116, 32, 114, 56, 32, 49]⟩, .int .i64 152, 1⟩, ⟨.string ⟨#[115, 101, 116, 32, 114, 49, 32, 48, 49]⟩, .int .i64 152, 2⟩, ⟨.string ⟨#[102, 111, 111]⟩, .int .i64 150, 3⟩, ⟨.string ⟨#[106, 117, 109, 112, 32, 110, 111, 119, 104, 101, 114, 101]⟩, .int .i64 155, 4⟩, ⟨.string ⟨#[106, 117, 109, 112, 32, 49, 120]⟩, .int .i64 153, 5⟩, ⟨.string ⟨#[97, 58]⟩, .int .i64 156, 6⟩, ⟨.string ⟨#[109, 111, 118, 101, 32, 114, 49, 32, 114, 50]⟩, .int .i64 143, 7⟩] (decI x)).size))) /\ ((decI x).contains (7 : Nat) = false -> o = o /\ (8 : Nat) = 8 /\ List.Nodup [(0 : Nat), 1, 2, 3, 4, 5, 6, 7] /\ (∃ (s : Array Nat) (r : Nat), ((decI x).toList.concat (7 : Nat)).toArray = s.push r /\ Membership.mem [MapEntry.mk (.string ⟨#[115, 101, 116, 32, 114, 49]⟩) (.int .i64 151) 0, ⟨.string ⟨#[115, 101, 116, 32, 114, 56, 32, 49]⟩, .int .i64 152, 1⟩, ⟨.string ⟨#[115, 101, 116, 32, 114, 49, 32, 48, 49]⟩, .int .i64 152, 2⟩, ⟨.string ⟨#[102, 111, 111]⟩, .int .i64 150, 3⟩, ⟨.string ⟨#[106, 117, 109, 112, 32, 110, 111, 119, 104, 101, 114, 101]⟩, .int .i64 155, 4⟩, ⟨.string ⟨#[106, 117, 109, 112, 32, 49, 120]⟩, .int .i64 153, 5⟩, ⟨.string ⟨#[97, 58]⟩, .int .i64 156, 6⟩, ⟨.string ⟨#[109, 111, 118, 101, 32, 114, 49, 32, 114, 50]⟩, .int .i64 143, 7⟩] (MapEntry.mk (.string ⟨#[109, 111, 118, 101, 32, 114, 49, 32, 114, 50]⟩) (.int .i64 143) r)) /\ Ct Tryd.prog (fnv 17) #[.string ⟨#[109, 111, 118, 101, 32, 114, 49, 32, 114, 50]⟩] p fun (r : Value) (s : Mem) => ∃ (t : Option Addr) (u w : Nat) (y z : Int), r = .tuple #[.slice t u w, .int .i64 y, .int .i64 z] /\ Br (y != 1) (Value.bool false = .bool true) (Br (z != 143) (Value.bool false = .bool true) (Rf (Ent.mk (.raw (.map #[⟨.string ⟨#[115, 101, 116, 32, 114, 49]⟩, .int .i64 151, 0⟩, ⟨.string ⟨#[115, 101, 116, 32, 114, 56, 32, 49]⟩, .int .i64 152, 1⟩, ⟨.string ⟨#[115, 101, 116, 32, 114, 49, 32, 48, 49]⟩, .int .i64 152, 2⟩, ⟨.string ⟨#[102, 111, 111]⟩, .int .i64 150, 3⟩, ⟨.string ⟨#[106, 117, 109, 112, 32, 110, 111, 119, 104, 101, 114, 101]⟩, .int .i64 155, 4⟩, ⟨.string ⟨#[106, 117, 109, 112, 32, 49, 120]⟩, .int .i64 153, 5⟩, ⟨.string ⟨#[97, 58]⟩, .int .i64 156, 6⟩, ⟨.string ⟨#[109, 111, 118, 101, 32, 114, 49, 32, 114, 50]⟩, .int .i64 143, 7⟩] 8)) (some o)) /\ (Rf (some o) /\ (8 : Nat) = 8 /\ (8 : Nat) = 8 /\ Rf (none : Option Nat)) /\ Rf (SV.ptr 2 0) /\ True /\ (leftOf #[⟨.string ⟨#[115, 101, 116, 32, 114, 49]⟩, .int .i64 151, 0⟩, ⟨.string ⟨#[115, 101, 116, 32, 114, 56, 32, 49]⟩, .int .i64 152, 1⟩, ⟨.string ⟨#[115, 101, 116, 32, 114, 49, 32, 48, 49]⟩, .int .i64 152, 2⟩, ⟨.string ⟨#[102, 111, 111]⟩, .int .i64 150, 3⟩, ⟨.string ⟨#[106, 117, 109, 112, 32, 110, 111, 119, 104, 101, 114, 101]⟩, .int .i64 155, 4⟩, ⟨.string ⟨#[106, 117, 109, 112, 32, 49, 120]⟩, .int .i64 153, 5⟩, ⟨.string ⟨#[97, 58]⟩, .int .i64 156, 6⟩, ⟨.string ⟨#[109, 111, 118, 101, 32, 114, 49, 32, 114, 50]⟩, .int .i64 143, 7⟩] (decI (encI ((decI x).toList.concat (7 : Nat)).toArray))).size < (leftOf #[⟨.string ⟨#[115, 101, 116, 32, 114, 49]⟩, .int .i64 151, 0⟩, ⟨.string ⟨#[115, 101, 116, 32, 114, 56, 32, 49]⟩, .int .i64 152, 1⟩, ⟨.string ⟨#[115, 101, 116, 32, 114, 49, 32, 48, 49]⟩, .int .i64 152, 2⟩, ⟨.string ⟨#[102, 111, 111]⟩, .int .i64 150, 3⟩, ⟨.string ⟨#[106, 117, 109, 112, 32, 110, 111, 119, 104, 101, 114, 101]⟩, .int .i64 155, 4⟩, ⟨.string ⟨#[106, 117, 109, 112, 32, 49, 120]⟩, .int .i64 153, 5⟩, ⟨.string ⟨#[97, 58]⟩, .int .i64 156, 6⟩, ⟨.string ⟨#[109, 111, 118, 101, 32, 114, 49, 32, 114, 50]⟩, .int .i64 143, 7⟩] (decI x)).size)))))))))) (by kernel_rfl) ?_
 have hok : ∀ i ∈ awP, okI i := fun i hi => by
  simp only [awP, List.mem_cons, List.not_mem_nil, or_false] at hi
  rcases hi with rfl | rfl | rfl | rfl <;> exact ⟨by decide, by decide, by decide, by decide, by decide⟩
 refine (ct17 (strT awT1) (by rw [strT_size]; decide) I hG).mono fun v a la h => ?_
 rw [show tx (strT awT1) = awT1 from rfl, aw1] at h
 obtain ⟨b, n, c, hv, hp, h3, h4⟩ := h;refine ⟨b, n, c, 0, 0, hv, Br.f rfl (Br.f rfl fun f g lg hf => ?_)⟩
 have hins : InsM g (some ⟨f, 0, none⟩) 4 awP := ⟨insVs awP, sl_cells (n := 4) (sz := 5) hf rfl (by decide), rowR_ins g hok⟩
 refine (ct19 awP awP b (some ⟨f, 0, none⟩) n 4 c 4 g (hp.mono lg) hins).mono fun h i li hh => ⟨_, hh, Br.f (by simp) ?_⟩
 refine (ct16 awP b n c i (hG.mono (Mem.le_trans la (Mem.le_trans lg li))) (hp.mono (Mem.le_trans lg li))).mono fun k l lk hk => ?_;rw [aw2] at hk
 refine ⟨_, _, hk, Br.f rfl (Br.f (by show (!(strT awT2).toList == (strT awT2).toList) = false; rw [str_eq, decide_eq_true rfl]; rfl) fun o => ?_)⟩
 have hG : Globs l := hG.mono (Mem.le_trans la (Mem.le_trans lg (Mem.le_trans li lk)));simp only [Rf, eq_self, true_and, and_true, true_implies, decI_encI];intro I1 G1 hI1 xs
 refine ⟨by omega, fun hend => ?_, fun hs => ?_, fun hs => ?_, fun hs => ?_, fun hs => ?_, fun hs => ?_, fun hs => ?_, fun hs => ?_, fun hs => ?_⟩
 · refine (ct17 (strT []) (by rw [strT_size]; decide) I1 (hG.mono hI1)).mono fun v I2 hI2 ⟨b2, n2, c2, hv, _⟩ => ?_
   rw [show tx (strT []) = [] from rfl, aw4] at hv
   exact ⟨_, _, _, _, _, hv, Br.t rfl rfl⟩
 · refine ⟨by decide, ⟨decI xs, 0, rfl, by simp⟩, (ct17 (strT [115, 101, 116, 32, 114, 49]) (by rw [strT_size]; decide) I1 (hG.mono hI1)).mono fun v I2 hI2 ⟨b2, n2, c2, hv, _⟩ => ?_⟩
   rw [show tx (strT [115, 101, 116, 32, 114, 49]) = [115, 101, 116, 32, 114, 49] from rfl, aw3_0] at hv
   exact ⟨_, _, _, _, _, hv, Br.f rfl (Br.f rfl (left_lt (es := awL) (y := ⟨.string ⟨#[115, 101, 116, 32, 114, 49]⟩, .int .i64 151, 0⟩) (by simp [awL]) hs))⟩
 · refine ⟨by decide, ⟨decI xs, 1, rfl, by simp⟩, (ct17 (strT [115, 101, 116, 32, 114, 56, 32, 49]) (by rw [strT_size]; decide) I1 (hG.mono hI1)).mono fun v I2 hI2 ⟨b2, n2, c2, hv, _⟩ => ?_⟩
   rw [show tx (strT [115, 101, 116, 32, 114, 56, 32, 49]) = [115, 101, 116, 32, 114, 56, 32, 49] from rfl, aw3_1] at hv
   exact ⟨_, _, _, _, _, hv, Br.f rfl (Br.f rfl (left_lt (es := awL) (y := ⟨.string ⟨#[115, 101, 116, 32, 114, 56, 32, 49]⟩, .int .i64 152, 1⟩) (by simp [awL]) hs))⟩
 · refine ⟨by decide, ⟨decI xs, 2, rfl, by simp⟩, (ct17 (strT [115, 101, 116, 32, 114, 49, 32, 48, 49]) (by rw [strT_size]; decide) I1 (hG.mono hI1)).mono fun v I2 hI2 ⟨b2, n2, c2, hv, _⟩ => ?_⟩
   rw [show tx (strT [115, 101, 116, 32, 114, 49, 32, 48, 49]) = [115, 101, 116, 32, 114, 49, 32, 48, 49] from rfl, aw3_2] at hv
   exact ⟨_, _, _, _, _, hv, Br.f rfl (Br.f rfl (left_lt (es := awL) (y := ⟨.string ⟨#[115, 101, 116, 32, 114, 49, 32, 48, 49]⟩, .int .i64 152, 2⟩) (by simp [awL]) hs))⟩
 · refine ⟨by decide, ⟨decI xs, 3, rfl, by simp⟩, (ct17 (strT [102, 111, 111]) (by rw [strT_size]; decide) I1 (hG.mono hI1)).mono fun v I2 hI2 ⟨b2, n2, c2, hv, _⟩ => ?_⟩
   rw [show tx (strT [102, 111, 111]) = [102, 111, 111] from rfl, aw3_3] at hv
   exact ⟨_, _, _, _, _, hv, Br.f rfl (Br.f rfl (left_lt (es := awL) (y := ⟨.string ⟨#[102, 111, 111]⟩, .int .i64 150, 3⟩) (by simp [awL]) hs))⟩
 · refine ⟨by decide, ⟨decI xs, 4, rfl, by simp⟩, (ct17 (strT [106, 117, 109, 112, 32, 110, 111, 119, 104, 101, 114, 101]) (by rw [strT_size]; decide) I1 (hG.mono hI1)).mono fun v I2 hI2 ⟨b2, n2, c2, hv, _⟩ => ?_⟩
   rw [show tx (strT [106, 117, 109, 112, 32, 110, 111, 119, 104, 101, 114, 101]) = [106, 117, 109, 112, 32, 110, 111, 119, 104, 101, 114, 101] from rfl, aw3_4] at hv
   exact ⟨_, _, _, _, _, hv, Br.f rfl (Br.f rfl (left_lt (es := awL) (y := ⟨.string ⟨#[106, 117, 109, 112, 32, 110, 111, 119, 104, 101, 114, 101]⟩, .int .i64 155, 4⟩) (by simp [awL]) hs))⟩
 · refine ⟨by decide, ⟨decI xs, 5, rfl, by simp⟩, (ct17 (strT [106, 117, 109, 112, 32, 49, 120]) (by rw [strT_size]; decide) I1 (hG.mono hI1)).mono fun v I2 hI2 ⟨b2, n2, c2, hv, _⟩ => ?_⟩
   rw [show tx (strT [106, 117, 109, 112, 32, 49, 120]) = [106, 117, 109, 112, 32, 49, 120] from rfl, aw3_5] at hv
   exact ⟨_, _, _, _, _, hv, Br.f rfl (Br.f rfl (left_lt (es := awL) (y := ⟨.string ⟨#[106, 117, 109, 112, 32, 49, 120]⟩, .int .i64 153, 5⟩) (by simp [awL]) hs))⟩
 · refine ⟨by decide, ⟨decI xs, 6, rfl, by simp⟩, (ct17 (strT [97, 58]) (by rw [strT_size]; decide) I1 (hG.mono hI1)).mono fun v I2 hI2 ⟨b2, n2, c2, hv, _⟩ => ?_⟩
   rw [show tx (strT [97, 58]) = [97, 58] from rfl, aw3_6] at hv
   exact ⟨_, _, _, _, _, hv, Br.f rfl (Br.f rfl (left_lt (es := awL) (y := ⟨.string ⟨#[97, 58]⟩, .int .i64 156, 6⟩) (by simp [awL]) hs))⟩
 · refine ⟨by decide, ⟨decI xs, 7, rfl, by simp⟩, (ct17 (strT [109, 111, 118, 101, 32, 114, 49, 32, 114, 50]) (by rw [strT_size]; decide) I1 (hG.mono hI1)).mono fun v I2 hI2 ⟨b2, n2, c2, hv, _⟩ => ?_⟩
   rw [show tx (strT [109, 111, 118, 101, 32, 114, 49, 32, 114, 50]) = [109, 111, 118, 101, 32, 114, 49, 32, 114, 50] from rfl, aw3_7] at hv
   exact ⟨_, _, _, _, _, hv, Br.f rfl (Br.f rfl (left_lt (es := awL) (y := ⟨.string ⟨#[109, 111, 118, 101, 32, 114, 49, 32, 114, 50]⟩, .int .i64 143, 7⟩) (by simp [awL]) hs))⟩
def laidL : List (String × DataW Unit) := [("math/bits.deBruijn32tab", YtjjjbafnplmjoaaDoor.Rows.laid_math_bits_deBruijn32tab), ("math/bits.deBruijn64tab", YtjjjbafnplmjoaaDoor.Rows.laid_math_bits_deBruijn64tab), ("internal/strconv.uint64pow10", YtjjjbafnplmjoaaDoor.Rows.laid_internal_strconv_uint64pow10), ("strconv.ErrRange", YtjjjbafnplmjoaaDoor.Rows.laid_strconv_ErrRange), ("strconv.ErrSyntax", YtjjjbafnplmjoaaDoor.Rows.laid_strconv_ErrSyntax)]
theorem gPow : Tryd.prog.globalNamed "internal/strconv.uint64pow10" = some 1 := by kernel_rfl
theorem gSyn : Tryd.prog.globalNamed "strconv.ErrSyntax" = some 4 := by kernel_rfl
theorem gRng : Tryd.prog.globalNamed "strconv.ErrRange" = some 5 := by kernel_rfl
theorem cell_to {W w : World} (hw : (memW W).inW w) {a : Addr} {v : Value} (h : W.cell? a = some v) (hs : a.spot = none) : w.cell? a = some v := by
 refine cellM_world hw ?_;unfold World.cell? at h;unfold cellM memW;rw [hs] at h ⊢
 cases hb : W.heap[a.block]? with
 | none => rw [hb] at h; simp at h
 | some o =>
   rw [hb] at h
   cases o <;> simp_all
theorem var_to {W w : World} (hw : (memW W).inW w) {n : String} {cs : Array Value} (h : W.var? Tryd.prog n = some cs) : w.var? Tryd.prog n = some cs := by
 unfold World.var? at h ⊢
 cases hg : Tryd.prog.globalNamed n with
 | none => rw [hg] at h; cases h
 | some g =>
   rw [hg] at h;simp only [Option.bind_some] at h ⊢
   cases hb : W.heap[g]? with
   | none => rw [hb] at h; cases h
   | some o =>
     have := hw g o hb;rw [hb] at h
     rw [this]; exact h
theorem starS : "*errors.errorString" = "*" ++ "errors.errorString" := by decide +kernel
theorem rowS : ∀ u, Tryd.prog.typeName? 3 u = some "*errors.errorString" -> u = 190 := fun u h =>
 typeName_ptr_named (nm := "errors.errorString") (by rw [<- starS]; kernel_rfl) (by kernel_rfl) (by decide) u (by rw [<- starS]; exact h)
theorem sent {W : World} {n : String} {text : List UInt8} {r : List (String × DataW Unit)} {g : Nat} (hg : Tryd.prog.globalNamed n = some g) (ht : (Tryd.prog.globals[g]?).map (·.type) = some 84)
 (h : laidMet Tryd.prog ((n, .iface "*errors.errorString" (.ptr (.agg [.lit (.string text)]))) :: r) W) : ∃ tp p, W.cell? ⟨g, 0, none⟩ = some (.iface tp p) := by
 obtain ⟨a, s, hv, _⟩ := laid_sentinel h hg ht Tryd.underlying84 rowS Tryd.underlying190 Tryd.underlying192 rfl rfl Tryd.underlying9 (by kernel_rfl) (by kernel_rfl)
 have := World.var?_cell hg hv 0;exact ⟨_, _, this⟩
theorem globs_of {W : World} (hsh : W.ShapedOpen Tryd.prog) (hL : laidMetH Tryd.prog laidL W) : Globs (memW W) := by
 rw [MakeChecks.laidMetH_plain _ _ _ (by kernel_rfl)] at hL
 obtain ⟨m, hm⟩ := cell_of_shapedOpen_int (P := Tryd.prog) (g := 0) (t := 3) (zero := #[.int .i64 0]) (k := .i64) hsh (of_decide_eq_true (by kernel_rfl)) (by kernel_rfl) rfl (by kernel_rfl) (by kernel_rfl) Tryd.underlying3
 have h1 : laidMet Tryd.prog (laidL.drop 2) W := hL.tail.tail
 have hT : Lib.TabIs Tryd.prog W "internal/strconv.uint64pow10" .u64 Lib.pow10Tab := Lib.tabIs_of_head (t := 164) (e := 126) (n := 20) gPow (by kernel_rfl) (by kernel_rfl) (by kernel_rfl) (by kernel_rfl) (by kernel_rfl) h1
 have h2 : laidMet Tryd.prog (laidL.drop 3) W := hL.tail.tail.tail
 obtain ⟨t1, p1, hr⟩ := sent gRng (by kernel_rfl) h2
 obtain ⟨t2, p2, hs⟩ := sent gSyn (by kernel_rfl) h2.tail
 intro w hw;exact ⟨⟨m, cell_to hw hm rfl⟩, var_to hw hT, ⟨t2, p2, cell_to hw hs rfl⟩, ⟨t1, p1, cell_to hw hr rfl⟩⟩
theorem cells5 : Tryd.prog.cellsOf 5 = 1 := by kernel_rfl
def Q5 (I : Mem) (v : Value) : Prop := ∃ n, v = .int .u8 n /\ 0 <= n /\ n <= 255
def Q9 (I : Mem) (v : Value) : Prop := ∃ s : ByteArray, v = .string s /\ s.size <= reachBytes
section
variable {H : Type} {enc : TypeId × Value -> H} {W : World} {r : Reach} {b0 : Nat} {v : Value} {d : DataW H} {ps : List MemPlace}
theorem op5 (hval : Value.okWide Tryd.prog W r b0 5 v) (hd : DataW.Trod enc Tryd.prog W 0 (fun _ => true) true 5 v d ps) (hw : ∀ n ∈ d.weights Tryd.prog 5, n <= reachBytes) : Q5 (memW W) v := by
 obtain ⟨n, rfl, h1, h2⟩ := opI Tryd.underlying5 hval;exact ⟨n, rfl, h1, h2⟩
theorem op9 (hval : Value.okWide Tryd.prog W r b0 9 v) (hd : DataW.Trod enc Tryd.prog W 0 (fun _ => true) true 9 v d ps) (hw : ∀ n ∈ d.weights Tryd.prog 9, n <= reachBytes) : Q9 (memW W) v := by
 obtain ⟨s, rfl⟩ := Go.WideShapes.okWide_string Tryd.underlying9 hval;obtain ⟨fuel, hf⟩ := hd;obtain ⟨s', h1, h2⟩ := opc_str Tryd.underlying9 H enc fuel _ d ps hf hw;cases h1;exact ⟨s, rfl, h2⟩
end
theorem find_word {s : Tx} (h : (findT s).2 = true) : wordT (findT s).1 = s := by
 unfold findT at h ⊢;split
 · rename_i h1
   unfold opFind at h1 ⊢
   split at h1
   · rename_i k hk
     obtain ⟨hlt, he, _⟩ := List.findIdx?_eq_some_iff_getElem.1 hk;have he := of_decide_eq_true he;simp only [hk]
     rw [wordT, if_pos (by omega), opName, if_neg (by omega), show (32 + ((k : Int) + 1) - 32 - 1).toNat = k by omega, List.getElem?_eq_getElem hlt]
     exact he
   · cases h1
 · rename_i h1
   rw [if_neg h1] at h;unfold baseFind at h ⊢
   split at h
   · rename_i k hk
     obtain ⟨hlt, he, _⟩ := List.findIdx?_eq_some_iff_getElem.1 hk;have he := of_decide_eq_true he;have hl : baseNames.length = 11 := rfl;simp only [hk]
     rw [wordT, if_neg (by omega), if_neg (by omega), show (((k : Int) + 1) - 1).toNat = k by omega, List.getElem?_eq_getElem hlt]
     exact he
   · cases h
theorem find_not {s : Tx} (h : (findT s).2 = false) : (findT s).1 = 0 := by
 unfold findT at h ⊢
 split at h
 · cases h
 · rename_i h1
   rw [if_neg h1];unfold baseFind at h ⊢
   split at h
   · cases h
   · rfl
theorem out_len (p : List Ins) : ∀ (l : List Ins) (k : Nat), (∀ i ∈ l, okI i) -> k + l.length <= 256 -> (outGo p l k).length <= 130 * l.length
 | [], _, _, _ => Nat.zero_le _
 | i :: l, k, h, hk => by
   have ih := out_len p l (k + 1) (fun j hj => h j (List.mem_cons_of_mem _ hj)) (by simp only [List.length_cons] at hk; omega)
   have h1 := insT_len (h i (by simp))
   have h2 : (lab (k : Int)).length <= 22 := by
    simp only [List.length_cons] at hk
    have := itoa_len (n := (k : Int)) ⟨by omega, by omega⟩
    simp only [lab, List.length_cons]; omega
   rw [outGo];simp only [List.length_append, List.length_cons];split
   · simp only [List.length_append, List.length_cons, List.length_nil]; omega
   · simp only [List.length_nil]; omega
theorem cells44 : Tryd.prog.cellsOf 44 = 5 := by kernel_rfl
theorem cells2 : Tryd.prog.cellsOf 2 = 1 := by kernel_rfl
def Q30 (I : Mem) (v : Value) : Prop := ∃ a n c p, v = .slice a n c /\ InsM I a n p /\ n <= c /\ c <= maxLen
theorem opc44 (W : World) : OpC Tryd.prog W 44 fun cs => ∃ x, InsC (memW W) cs x := by
 refine (opc_struct (P := Tryd.prog) (W := W) Tryd.underlying44 cells44 (.cons rfl cells5 (opc_int Tryd.underlying5) (.cons rfl cells5 (opc_int Tryd.underlying5) (.cons rfl cells5 (opc_int Tryd.underlying5) (.cons rfl cells5 (opc_int Tryd.underlying5) (.cons rfl cells2 (opc_int Tryd.underlying2) .nil)))))).mono ?_;rintro cs ⟨hl, ⟨k, h1, k1, k2⟩, ⟨a, h2, k3, k4⟩, ⟨b, h3, k5, k6⟩, ⟨c, h4, k7, k8⟩, ⟨n, h5, k9, k10⟩, _⟩
 match cs, hl with
 | [y0, y1, y2, y3, y4], _ =>
   simp only [List.drop_succ_cons, List.drop_zero, List.take_succ_cons, List.take_zero, List.cons.injEq, and_true] at h1 h2 h3 h4 h5
   subst h1; subst h2; subst h3; subst h4; subst h5
   exact ⟨⟨k, a, b, c, n⟩, rfl, ⟨k1, k2⟩, ⟨k3, k4⟩, ⟨k5, k6⟩, ⟨k7, k8⟩, ⟨k9, k10⟩⟩
section
variable {H : Type} {enc : TypeId × Value -> H} {W : World} {r : Reach} {b0 : Nat} {v : Value} {d : DataW H} {ps : List MemPlace}
theorem op30 (hval : Value.okWide Tryd.prog W r b0 30 v) (hd : DataW.Trod enc Tryd.prog W 0 (fun _ => true) true 30 v d ps) (hw : ∀ n ∈ d.weights Tryd.prog 30, n <= reachBytes) : Q30 (memW W) v := by
 obtain ⟨a, n, c, xs, h1, h2, h3, h4, _, h5⟩ := opc_top_slice (opc_slice (by decide) Tryd.underlying30 cells44 (opc44 W)) Tryd.underlying30 hval hd hw
 simp only [List.cons.injEq, and_true] at h1;obtain ⟨l, hl, hr⟩ := RowR.of (E := InsC) n xs h4.len h5;exact ⟨a, n, c, l, h1, ⟨xs, h4, hr⟩, h2, h3⟩
end
theorem InsM.ok {I : Mem} {a : Option Addr} {n : Nat} {p : List Ins} (h : InsM I a n p) : ∀ x ∈ p, okI x := by
 obtain ⟨xs, _, h2⟩ := h;exact RowR.all (P := okI) (fun h => h.2) h2
theorem ct91 (s : ByteArray) (hs : s.size <= 1000) (L : UInt8) (c : Int) (hc : c = L.toNat) (I : Mem) : Ct Tryd.prog (fnv 91) #[.string s, .int .u8 c] I (fun v _ => v = .int .i64 ((tx s).count L : Nat)) := by
 obtain ⟨N, hN⟩ : ∃ f : Int -> Int -> Prop, f = fun (j n : Int) => 0 <= j /\ j <= s.size /\ n = (((tx s).take j.toNat).count L : Nat) := ⟨_, rfl⟩;obtain ⟨Q, hQ⟩ : ∃ q : Value, q = .int .i64 ((tx s).count L : Nat) := ⟨_, rfl⟩;rw [<- hQ]
 refine viaR (ct_via (A := { loops := [(3, ⟨[(0, .keep), (1, .keep), (5, .sh (.int .i64)), (6, .sh (.int .i64))], [], [], fun vals _ _ _ => match vals with | [.int .i64 n, .int .i64 j] => N j n | _ => False, fun vals _ => match vals with | [_, .int .i64 j] => (s.size - j).toNat | _ => 0⟩)] }) Tryd.func91 rfl Tryd.call91 rfl rfl) ((Rf (SV.v (.string s)) /\ Rf (SV.v (.int .u8 c)) /\ N 0 0) /\ ∀ (a : Mem), Mem -> I.le a -> ∀ (n b : Int), N b n -> Br (decide (b < (s.size : Int))) (∃ d, s.data.toList[b.toNat]? = some d /\ 0 <= b /\ Br ((d.toNat : Int) == c) (Wr .i64 (n + 1) (fun e => Wr .i64 (b + 1) fun f => Rf (SV.v (.string s)) /\ Rf (SV.v (.int .u8 c)) /\ N f e /\ Int.toNat ((s.size : Int) - f) < Int.toNat ((s.size : Int) - b))) (Wr .i64 (b + 1) (fun e => Rf (SV.v (.string s)) /\ Rf (SV.v (.int .u8 c)) /\ N e n /\ Int.toNat ((s.size : Int) - e) < Int.toNat ((s.size : Int) - b)))) (Value.int .i64 n = Q)) (by kernel_rfl) ?_
 refine ⟨⟨rfl, rfl, by rw [hN]; exact ⟨Int.le_refl _, by omega, rfl⟩⟩, fun J _ l n b hn => ?_⟩
 rw [hN] at hn;obtain ⟨h1, h2, h3⟩ := hn;have htl : (tx s).length = s.size := Array.length_toList;refine Br.mk (fun h4 => ?_) (fun h4 => ?_)
 · have h4 := of_decide_eq_true h4
   obtain ⟨d, hd⟩ : ∃ d, (tx s)[b.toNat]? = some d := ⟨_, List.getElem?_eq_getElem (by omega)⟩
   have htk : (tx s).take (b + 1).toNat = (tx s).take b.toNat ++ [d] := by rw [show (b + 1).toNat = b.toNat + 1 by omega, List.take_add_one, hd]; rfl
   have hle : ((tx s).take b.toNat).count L <= s.size := Nat.le_trans List.count_le_length (by rw [List.length_take]; omega)
   refine ⟨d, hd, h1, Br.mk (fun h5 => ?_) (fun h5 => ?_)⟩
   · have h5 : (d.toNat : Int) = c := by simpa using h5
     have hdL : d = L := UInt8.toNat_inj.1 (by omega)
     refine wr_i64 (by omega) (by omega) (wr_i64 (by omega) (by omega) ⟨rfl, rfl, ?_, by omega⟩)
     rw [hN]
     refine ⟨by omega, by omega, ?_⟩
     rw [htk, List.count_append, hdL, List.count_singleton_self]; omega
   · have h5 : ¬ (d.toNat : Int) = c := by simpa using h5
     refine wr_i64 (by omega) (by omega) ⟨rfl, rfl, ?_, by omega⟩
     rw [hN]
     refine ⟨by omega, by omega, ?_⟩
     rw [htk, List.count_append, List.count_singleton, if_neg (by simp only [beq_iff_eq]; rintro rfl; exact h5 hc.symm)]; exact h3
 · have h4 := of_decide_eq_false h4
   rw [List.take_of_length_le (by omega)] at h3
   rw [hQ, h3]
theorem ct56 (op : Int) (h : 0 <= op /\ op <= 255) (I : Mem) : Ct Tryd.prog (fnv 56) #[.int .u8 op] I (fun v _ => v = .tuple #[.string (strT (formL op)), .bool (formT op).isSome]) := by
 obtain ⟨Q, hQ⟩ : ∃ q : Value, q = .tuple #[.string (strT (formL op)), .bool (formT op).isSome] := ⟨_, rfl⟩;rw [<- hQ]
 refine viaR (ct_via (A := { }) Tryd.func56 rfl Tryd.call56 rfl rfl) (Br (op == 1) (Br (op == 1) (Value.tuple #[.string ⟨#[]⟩, .bool true] = Q) (Br (op == 3) (Value.tuple #[.string ⟨#[114, 110]⟩, .bool true] = Q) (Br (op == 4) (Br (op == 4) (Value.tuple #[.string ⟨#[114, 114]⟩, .bool true] = Q) (Br (op == 8) (Value.tuple #[.string ⟨#[114, 114, 112]⟩, .bool true] = Q) (Br (op == 9) (Value.tuple #[.string ⟨#[116]⟩, .bool true] = Q) (Br (op == 10) (Br (op == 10) (Value.tuple #[.string ⟨#[114, 116]⟩, .bool true] = Q) (Br (decide (33 <= op)) (Br (decide (op <= 49)) (Value.tuple #[.string ⟨#[114, 114, 114]⟩, .bool true] = Q) (Value.tuple #[.string ⟨#[]⟩, .bool false] = Q)) (Value.tuple #[.string ⟨#[]⟩, .bool false] = Q))) (Br (op == 11) (Value.tuple #[.string ⟨#[114, 116]⟩, .bool true] = Q) (Br (decide (33 <= op)) (Br (decide (op <= 49)) (Value.tuple #[.string ⟨#[114, 114, 114]⟩, .bool true] = Q) (Value.tuple #[.string ⟨#[]⟩, .bool false] = Q)) (Value.tuple #[.string ⟨#[]⟩, .bool false] = Q))))))) (Br (op == 5) (Br (op == 5) (Value.tuple #[.string ⟨#[114, 114]⟩, .bool true] = Q) (Br (op == 8) (Value.tuple #[.string ⟨#[114, 114, 112]⟩, .bool true] = Q) (Br (op == 9) (Value.tuple #[.string ⟨#[116]⟩, .bool true] = Q) (Br (op == 10) (Br (op == 10) (Value.tuple #[.string ⟨#[114, 116]⟩, .bool true] = Q) (Br (decide (33 <= op)) (Br (decide (op <= 49)) (Value.tuple #[.string ⟨#[114, 114, 114]⟩, .bool true] = Q) (Value.tuple #[.string ⟨#[]⟩, .bool false] = Q)) (Value.tuple #[.string ⟨#[]⟩, .bool false] = Q))) (Br (op == 11) (Value.tuple #[.string ⟨#[114, 116]⟩, .bool true] = Q) (Br (decide (33 <= op)) (Br (decide (op <= 49)) (Value.tuple #[.string ⟨#[114, 114, 114]⟩, .bool true] = Q) (Value.tuple #[.string ⟨#[]⟩, .bool false] = Q)) (Value.tuple #[.string ⟨#[]⟩, .bool false] = Q))))))) (Br (op == 6) (Br (op == 6) (Value.tuple #[.string ⟨#[114, 114]⟩, .bool true] = Q) (Br (op == 8) (Value.tuple #[.string ⟨#[114, 114, 112]⟩, .bool true] = Q) (Br (op == 9) (Value.tuple #[.string ⟨#[116]⟩, .bool true] = Q) (Br (op == 10) (Br (op == 10) (Value.tuple #[.string ⟨#[114, 116]⟩, .bool true] = Q) (Br (decide (33 <= op)) (Br (decide (op <= 49)) (Value.tuple #[.string ⟨#[114, 114, 114]⟩, .bool true] = Q) (Value.tuple #[.string ⟨#[]⟩, .bool false] = Q)) (Value.tuple #[.string ⟨#[]⟩, .bool false] = Q))) (Br (op == 11) (Value.tuple #[.string ⟨#[114, 116]⟩, .bool true] = Q) (Br (decide (33 <= op)) (Br (decide (op <= 49)) (Value.tuple #[.string ⟨#[114, 114, 114]⟩, .bool true] = Q) (Value.tuple #[.string ⟨#[]⟩, .bool false] = Q)) (Value.tuple #[.string ⟨#[]⟩, .bool false] = Q))))))) (Br (op == 7) (Value.tuple #[.string ⟨#[114, 114]⟩, .bool true] = Q) (Br (op == 8) (Value.tuple #[.string ⟨#[114, 114, 112]⟩, .bool true] = Q) (Br (op == 9) (Value.tuple #[.string ⟨#[116]⟩, .bool true] = Q) (Br (op == 10) (Br (op == 10) (Value.tuple #[.string ⟨#[114, 116]⟩, .bool true] = Q) (Br (decide (33 <= op)) (Br (decide (op <= 49)) (Value.tuple #[.string ⟨#[114, 114, 114]⟩, .bool true] = Q) (Value.tuple #[.string ⟨#[]⟩, .bool false] = Q)) (Value.tuple #[.string ⟨#[]⟩, .bool false] = Q))) (Br (op == 11) (Value.tuple #[.string ⟨#[114, 116]⟩, .bool true] = Q) (Br (decide (33 <= op)) (Br (decide (op <= 49)) (Value.tuple #[.string ⟨#[114, 114, 114]⟩, .bool true] = Q) (Value.tuple #[.string ⟨#[]⟩, .bool false] = Q)) (Value.tuple #[.string ⟨#[]⟩, .bool false] = Q)))))))))))) (Br (op == 2) (Value.tuple #[.string ⟨#[]⟩, .bool true] = Q) (Br (op == 3) (Value.tuple #[.string ⟨#[114, 110]⟩, .bool true] = Q) (Br (op == 4) (Br (op == 4) (Value.tuple #[.string ⟨#[114, 114]⟩, .bool true] = Q) (Br (op == 8) (Value.tuple #[.string ⟨#[114, 114, 112]⟩, .bool true] = Q) (Br (op == 9) (Value.tuple #[.string ⟨#[116]⟩, .bool true] = Q) (Br (op == 10) (Br (op == 10) (Value.tuple #[.string ⟨#[114, 116]⟩, .bool true] = Q) (Br (decide (33 <= op)) (Br (decide (op <= 49)) (Value.tuple #[.string ⟨#[114, 114, 114]⟩, .bool true] = Q) (Value.tuple #[.string ⟨#[]⟩, .bool false] = Q)) (Value.tuple #[.string ⟨#[]⟩, .bool false] = Q))) (Br (op == 11) (Value.tuple #[.string ⟨#[114, 116]⟩, .bool true] = Q) (Br (decide (33 <= op)) (Br (decide (op <= 49)) (Value.tuple #[.string ⟨#[114, 114, 114]⟩, .bool true] = Q) (Value.tuple #[.string ⟨#[]⟩, .bool false] = Q)) (Value.tuple #[.string ⟨#[]⟩, .bool false] = Q))))))) (Br (op == 5) (Br (op == 5) (Value.tuple #[.string ⟨#[114, 114]⟩, .bool true] = Q) (Br (op == 8) (Value.tuple #[.string ⟨#[114, 114, 112]⟩, .bool true] = Q) (Br (op == 9) (Value.tuple #[.string ⟨#[116]⟩, .bool true] = Q) (Br (op == 10) (Br (op == 10) (Value.tuple #[.string ⟨#[114, 116]⟩, .bool true] = Q) (Br (decide (33 <= op)) (Br (decide (op <= 49)) (Value.tuple #[.string ⟨#[114, 114, 114]⟩, .bool true] = Q) (Value.tuple #[.string ⟨#[]⟩, .bool false] = Q)) (Value.tuple #[.string ⟨#[]⟩, .bool false] = Q))) (Br (op == 11) (Value.tuple #[.string ⟨#[114, 116]⟩, .bool true] = Q) (Br (decide (33 <= op)) (Br (decide (op <= 49)) (Value.tuple #[.string ⟨#[114, 114, 114]⟩, .bool true] = Q) (Value.tuple #[.string ⟨#[]⟩, .bool false] = Q)) (Value.tuple #[.string ⟨#[]⟩, .bool false] = Q))))))) (Br (op == 6) (Br (op == 6) (Value.tuple #[.string ⟨#[114, 114]⟩, .bool true] = Q) (Br (op == 8) (Value.tuple #[.string ⟨#[114, 114, 112]⟩, .bool true] = Q) (Br (op == 9) (Value.tuple #[.string ⟨#[116]⟩, .bool true] = Q) (Br (op == 10) (Br (op == 10) (Value.tuple #[.string ⟨#[114, 116]⟩, .bool true] = Q) (Br (decide (33 <= op)) (Br (decide (op <= 49)) (Value.tuple #[.string ⟨#[114, 114, 114]⟩, .bool true] = Q) (Value.tuple #[.string ⟨#[]⟩, .bool false] = Q)) (Value.tuple #[.string ⟨#[]⟩, .bool false] = Q))) (Br (op == 11) (Value.tuple #[.string ⟨#[114, 116]⟩, .bool true] = Q) (Br (decide (33 <= op)) (Br (decide (op <= 49)) (Value.tuple #[.string ⟨#[114, 114, 114]⟩, .bool true] = Q) (Value.tuple #[.string ⟨#[]⟩, .bool false] = Q)) (Value.tuple #[.string ⟨#[]⟩, .bool false] = Q))))))) (Br (op == 7) (Value.tuple #[.string ⟨#[114, 114]⟩, .bool true] = Q) (Br (op == 8) (Value.tuple #[.string ⟨#[114, 114, 112]⟩, .bool true] = Q) (Br (op == 9) (Value.tuple #[.string ⟨#[116]⟩, .bool true] = Q) (Br (op == 10) (Br (op == 10) (Value.tuple #[.string ⟨#[114, 116]⟩, .bool true] = Q) (Br (decide (33 <= op)) (Br (decide (op <= 49)) (Value.tuple #[.string ⟨#[114, 114, 114]⟩, .bool true] = Q) (Value.tuple #[.string ⟨#[]⟩, .bool false] = Q)) (Value.tuple #[.string ⟨#[]⟩, .bool false] = Q))) (Br (op == 11) (Value.tuple #[.string ⟨#[114, 116]⟩, .bool true] = Q) (Br (decide (33 <= op)) (Br (decide (op <= 49)) (Value.tuple #[.string ⟨#[114, 114, 114]⟩, .bool true] = Q) (Value.tuple #[.string ⟨#[]⟩, .bool false] = Q)) (Value.tuple #[.string ⟨#[]⟩, .bool false] = Q))))))))))))) (by kernel_rfl) ?_
 have hs : op = 1 \/ op = 2 \/ op = 3 \/ op = 4 \/ op = 5 \/ op = 6 \/ op = 7 \/ op = 8 \/ op = 9 \/ op = 10 \/ op = 11 \/ (33 <= op /\ op <= 49) \/ (op ≠ 1 /\ op ≠ 2 /\ op ≠ 3 /\ op ≠ 4 /\ op ≠ 5 /\ op ≠ 6 /\ op ≠ 7 /\ op ≠ 8 /\ op ≠ 9 /\ op ≠ 10 /\ op ≠ 11 /\ ¬ (33 <= op /\ op <= 49)) := by omega
 rcases hs with rfl | rfl | rfl | rfl | rfl | rfl | rfl | rfl | rfl | rfl | rfl | hs | ⟨n1, n2, n3, n4, n5, n6, n7, n8, n9, n10, n11, n12⟩
 all_goals repeat (first | refine Br.t rfl ?_ | refine Br.f rfl ?_ | refine Br.f (beq_false_of_ne (by omega)) ?_)
 all_goals try (rw [hQ]; rfl)
 · refine Br.t (decide_eq_true hs.1) (Br.t (decide_eq_true hs.2) ?_)
   rw [hQ, formL, formT, if_pos hs]; rfl
 · have e : formT op = none := by rw [formT, if_neg n12, if_neg n1, if_neg n2, if_neg n3, if_neg n4, if_neg n5, if_neg n6, if_neg n7, if_neg n8, if_neg n9, if_neg n10, if_neg n11]
   have q : Value.tuple #[.string ⟨#[]⟩, .bool false] = Q := by rw [hQ, formL, e]; rfl
   exact Br.mk (fun h1 => Br.mk (fun h2 => absurd ⟨of_decide_eq_true h1, of_decide_eq_true h2⟩ n12) (fun h2 => q)) (fun h1 => q)
theorem ct33 (op : Int) (h : 0 <= op /\ op <= 255) (I : Mem) : Ct Tryd.prog (fnv 33) #[.int .u8 op] I (fun v _ => v = .string (strT (wordT op))) := by
 obtain ⟨Q, hQ⟩ : ∃ q : Value, q = .string (strT (wordT op)) := ⟨_, rfl⟩;rw [<- hQ]
 refine viaR (ct_via (A := { }) Tryd.func33 rfl Tryd.call33 rfl rfl) (Br (op == 1) (Value.string ⟨#[104, 97, 108, 116]⟩ = Q) (Br (op == 2) (Value.string ⟨#[102, 97, 105, 108]⟩ = Q) (Br (op == 3) (Value.string ⟨#[115, 101, 116]⟩ = Q) (Br (op == 4) (Value.string ⟨#[109, 111, 118, 101]⟩ = Q) (Br (op == 5) (Value.string ⟨#[108, 111, 97, 100]⟩ = Q) (Br (op == 6) (Value.string ⟨#[115, 116, 111, 114, 101]⟩ = Q) (Br (op == 7) (Value.string ⟨#[100, 114, 97, 119]⟩ = Q) (Br (op == 8) (Value.string ⟨#[115, 101, 110, 100]⟩ = Q) (Br (op == 9) (Value.string ⟨#[106, 117, 109, 112]⟩ = Q) (Br (op == 10) (Value.string ⟨#[106, 122]⟩ = Q) (Br (op == 11) (Value.string ⟨#[106, 110]⟩ = Q) (Br (decide (33 <= op)) (Br (decide (op <= 49)) (Wr .u8 (op - 33) (fun c => 0 <= c /\ c < 17 /\ ∃ q, [SV.v (.string ⟨#[97, 100, 100]⟩), .v (.string ⟨#[115, 117, 98]⟩), .v (.string ⟨#[109, 117, 108]⟩), .v (.string ⟨#[100, 105, 118]⟩), .v (.string ⟨#[114, 101, 109]⟩), .v (.string ⟨#[109, 111, 100]⟩), .v (.string ⟨#[97, 110, 100]⟩), .v (.string ⟨#[111, 114]⟩), .v (.string ⟨#[120, 111, 114]⟩), .v (.string ⟨#[115, 104, 108]⟩), .v (.string ⟨#[115, 104, 114]⟩), .v (.string ⟨#[115, 97, 114]⟩), .v (.string ⟨#[108, 101, 115, 115]⟩), .v (.string ⟨#[98, 101, 108, 111, 119]⟩), .v (.string ⟨#[101, 113, 117, 97, 108]⟩), .v (.string ⟨#[109, 105, 110]⟩), .v (.string ⟨#[109, 97, 120]⟩)][0 + c.toNat * 1 + 0]?.bind (fun (x : SV) => (match x with
  | SV.v x => some x
  | x => none)) = some (.string q) /\ Value.string q = Q)) (Value.string ⟨#[]⟩ = Q)) (Value.string ⟨#[]⟩ = Q))))))))))))) (by kernel_rfl) ?_
 have hs : op = 0 \/ op = 1 \/ op = 2 \/ op = 3 \/ op = 4 \/ op = 5 \/ op = 6 \/ op = 7 \/ op = 8 \/ op = 9 \/ op = 10 \/ op = 11 \/ op = 33 \/ op = 34 \/ op = 35 \/ op = 36 \/ op = 37 \/ op = 38 \/ op = 39 \/ op = 40 \/ op = 41 \/ op = 42 \/ op = 43 \/ op = 44 \/ op = 45 \/ op = 46 \/ op = 47 \/ op = 48 \/ op = 49 \/ (11 < op /\ op <= 32) \/ 49 < op := by omega
 rcases hs with rfl | rfl | rfl | rfl | rfl | rfl | rfl | rfl | rfl | rfl | rfl | rfl | rfl | rfl | rfl | rfl | rfl | rfl | rfl | rfl | rfl | rfl | rfl | rfl | rfl | rfl | rfl | rfl | rfl | hs | hs
 all_goals repeat (first | refine Br.t rfl ?_ | refine Br.f rfl ?_ | refine Br.f (beq_false_of_ne (by omega)) ?_)
 all_goals try (rw [hQ]; rfl)
 all_goals try exact wr_u8 (by decide) (by decide) ⟨by decide, by decide, _, rfl, by rw [hQ]; rfl⟩
 · refine Br.f (decide_eq_false (by omega)) ?_
   rw [hQ, wordT, if_neg (by omega), if_neg (by omega), List.getElem?_eq_none (by show 11 <= _; omega)]; rfl
 · refine Br.t (decide_eq_true (by omega)) (Br.f (decide_eq_false (by omega)) ?_)
   rw [hQ, wordT, if_pos (by omega), opName, if_neg (by omega), List.getElem?_eq_none (by show 17 <= _; omega)]; rfl
def abcOk (l : Tx) (i : Ins) : Prop := i.a <= 7 /\ i.b <= 7 /\ i.c <= 7 /\ (l.count 114 < 1 -> i.a = 0) /\ (l.count 114 < 2 -> i.b = 0) /\ (l.count 114 < 3 -> i.c = 0)
def mostN (l : Tx) : Int := if l.count 116 = 1 then 255 else if l.count 112 = 1 then 15 else 0
theorem one_laws {i : Ins} (h : okI i) {l : Tx} (hl : formT i.op = some l) : (¬ abcOk l i -> oneE i = 141) /\ (abcOk l i -> l.count 110 = 1 -> oneE i = 0) /\ (abcOk l i -> l.count 110 ≠ 1 -> (i.n < 0 \/ mostN l < i.n -> oneE i = 141) /\ (0 <= i.n /\ i.n <= mostN l -> oneE i = 0)) := by
 obtain ⟨_, ha, hb, hc, _⟩ := h
 have e : oneE i = oneGo l i.a i.b i.c i.n 0 := by rw [oneE, hl]
 rw [e];generalize i.n = n at *;have hcs := formT_cases i.op;rw [hl] at hcs;simp only [reduceCtorEq, Option.some.injEq, false_or] at hcs;unfold abcOk mostN;generalize i.a = a at *;generalize i.b = b at *;generalize i.c = c at *
 rcases hcs with rfl | rfl | rfl | rfl | rfl | rfl | rfl
 all_goals simp [oneGo, regAt]
 all_goals repeat' (first | split | apply And.intro | intro _)
 all_goals omega
theorem ct71 (i : Ins) (h : okI i) (I : Mem) : Ct Tryd.prog (fnv 71) #[.agg (insV i).toArray] I (fun v _ => v = .int .i64 (oneE i)) := by
 obtain ⟨Q, hQ⟩ : ∃ q : Value, q = .int .i64 (oneE i) := ⟨_, rfl⟩;rw [<- hQ]
 refine viaR (ct_via (A := { }) Tryd.func71 rfl Tryd.call71 rfl rfl) (let E1 := fun (x : ByteArray) (a : Mem) => Ct Tryd.prog (fnv 91) #[.string x, .int .u8 110] a fun v b => ∃ n, v = .int .i64 n /\ Br (n == 1) (Value.int .i64 0 = Q) (Ct Tryd.prog (fnv 91) #[.string x, .int .u8 112] b (fun c d => ∃ e, c = .int .i64 e /\ Br (e == 1) (Ct Tryd.prog (fnv 91) #[.string x, .int .u8 116] d (fun f g => ∃ j, f = .int .i64 j /\ Br (j == 1) (Br (decide (i.n < 0)) (Value.int .i64 141 = Q) (Br (decide (255 < i.n)) (Value.int .i64 141 = Q) (Value.int .i64 0 = Q))) (Br (decide (i.n < 0)) (Value.int .i64 141 = Q) (Br (decide (15 < i.n)) (Value.int .i64 141 = Q) (Value.int .i64 0 = Q))))) (Ct Tryd.prog (fnv 91) #[.string x, .int .u8 116] d (fun f g => ∃ j, f = .int .i64 j /\ Br (j == 1) (Br (decide (i.n < 0)) (Value.int .i64 141 = Q) (Br (decide (255 < i.n)) (Value.int .i64 141 = Q) (Value.int .i64 0 = Q))) (Br (decide (i.n < 0)) (Value.int .i64 141 = Q) (Br (decide (0 < i.n)) (Value.int .i64 141 = Q) (Value.int .i64 0 = Q)))))))
  let E2 := fun (x : Int) (a : ByteArray) (b : Mem) => Br (decide (x < 3)) (Br (i.c != 0) (Value.int .i64 141 = Q) (E1 a b)) (E1 a b)
  Ct Tryd.prog (fnv 56) #[.int .u8 i.op] I fun v a => ∃ q b, v = .tuple #[.string q, .bool b] /\ Br (!b) (Value.int .i64 140 = Q) (Ct Tryd.prog (fnv 91) #[.string q, .int .u8 114] a (fun c d => ∃ n, c = .int .i64 n /\ Br (decide (7 < i.a)) (Value.int .i64 141 = Q) (Br (decide (7 < i.b)) (Value.int .i64 141 = Q) (Br (decide (7 < i.c)) (Value.int .i64 141 = Q) (Br (decide (n < 1)) (Br (i.a != 0) (Value.int .i64 141 = Q) (Br (decide (n < 2)) (Br (i.b != 0) (Value.int .i64 141 = Q) (E2 n q d)) (E2 n q d))) (Br (decide (n < 2)) (Br (i.b != 0) (Value.int .i64 141 = Q) (E2 n q d)) (E2 n q d)))))))) (by kernel_rfl) ?_
 intro E1 E2;refine (ct56 i.op h.op I).mono fun v a l hv => ⟨_, _, hv, ?_⟩;have hlen := (formL_mem i.op).2.1
 have hsz : (strT (formL i.op)).size <= 1000 := by rw [strT_size]; omega
 cases hq : formT i.op with
 | none =>
   refine Br.t rfl ?_;rw [hQ, oneE, hq]
 | some q =>
   refine Br.f rfl ?_
   have hf : formL i.op = q := by rw [formL, hq]; rfl
   obtain ⟨f1, f2, f3⟩ := one_laws h hq
   have main : abcOk q i -> ∀ b, E1 (strT (formL i.op)) b := fun hok b => by
    refine (ct91 _ hsz 110 _ rfl b).mono fun v c l hv => ⟨_, hv, ?_⟩;rw [tx_strT, hf];refine Br.mk (fun h1 => ?_) (fun h1 => ?_)
    · have h1 : ((q.count 110 : Nat) : Int) = 1 := by simpa using h1
      rw [hQ, f2 hok (by omega)]
    have h1 : q.count 110 ≠ 1 := fun hh => by rw [hh] at h1; cases h1
    obtain ⟨g1, g2⟩ := f3 hok h1
    have fin : ∀ m : Int, m = mostN q -> Br (decide (i.n < 0)) (.int .i64 141 = Q) (Br (decide (m < i.n)) (.int .i64 141 = Q) (.int .i64 0 = Q)) := fun m hm => Br.mk (fun h3 => by rw [hQ, g1 (.inl (of_decide_eq_true h3))]) (fun h3 => Br.mk (fun h4 => by rw [hQ, g1 (.inr (by rw [<- hm]; exact of_decide_eq_true h4))]) (fun h4 => by rw [hQ, g2 ⟨by have := of_decide_eq_false h3; omega, by rw [<- hm]; have := of_decide_eq_false h4; omega⟩]))
    rw [<- hf];refine (ct91 _ hsz 112 _ rfl _).mono fun v d l hv => ⟨_, hv, ?_⟩;rw [tx_strT, hf];refine Br.mk (fun h2 => ?_) (fun h2 => ?_)
    all_goals rw [<- hf]
    all_goals refine (ct91 _ hsz 116 _ rfl _).mono fun v d l hv => ⟨_, hv, ?_⟩
    all_goals rw [tx_strT, hf]
    all_goals refine Br.mk (fun h3 => fin _ ?_) (fun h3 => fin _ ?_)
    · have h3 : ((q.count 116 : Nat) : Int) = 1 := by simpa using h3
      have h3 : q.count 116 = 1 := by omega
      rw [mostN, if_pos h3]
    · have h3 : q.count 116 ≠ 1 := fun hh => by rw [hh] at h3; cases h3
      have h2 : ((q.count 112 : Nat) : Int) = 1 := by simpa using h2
      have h2 : q.count 112 = 1 := by omega
      rw [mostN, if_neg h3, if_pos h2]
    · have h3 : ((q.count 116 : Nat) : Int) = 1 := by simpa using h3
      have h3 : q.count 116 = 1 := by omega
      rw [mostN, if_pos h3]
    · have h3 : q.count 116 ≠ 1 := fun hh => by rw [hh] at h3; cases h3
      have h2 : q.count 112 ≠ 1 := fun hh => by rw [hh] at h2; cases h2
      rw [mostN, if_neg h3, if_neg h2]
   refine (ct91 _ hsz 114 _ rfl a).mono fun v d l hv => ⟨_, hv, ?_⟩;rw [tx_strT, hf];rw [<- hf]
   have bad : ¬ abcOk q i -> Value.int .i64 141 = Q := fun hh => by rw [hQ, f1 hh]
   have m2 : (formL i.op).count 114 = q.count 114 := by rw [hf]
   have t1 : i.a <= 7 -> i.b <= 7 -> i.c <= 7 -> (q.count 114 < 1 -> i.a = 0) -> (q.count 114 < 2 -> i.b = 0) -> E2 ((formL i.op).count 114 : Nat) (strT (formL i.op)) d := fun k1 k2 k3 k4 k5 => by
    refine Br.mk (fun h1 => Br.mk (fun h2 => bad fun hh => ?_) (fun h2 => main ⟨k1, k2, k3, k4, k5, fun _ => by simpa using h2⟩ d)) (fun h1 => main ⟨k1, k2, k3, k4, k5, fun hh => absurd hh ?_⟩ d)
    · have h1 := of_decide_eq_true h1
      have h2 : i.c ≠ 0 := by simpa using h2
      exact h2 (hh.2.2.2.2.2 (by omega))
    · have h1 := of_decide_eq_false h1
      omega
   have t2 : i.a <= 7 -> i.b <= 7 -> i.c <= 7 -> (q.count 114 < 1 -> i.a = 0) -> Br (decide (((formL i.op).count 114 : Nat) < (2 : Int))) (Br (i.b != 0) (.int .i64 141 = Q) (E2 ((formL i.op).count 114 : Nat) (strT (formL i.op)) d)) (E2 ((formL i.op).count 114 : Nat) (strT (formL i.op)) d) := fun k1 k2 k3 k4 => by
    refine Br.mk (fun h1 => Br.mk (fun h2 => bad fun hh => ?_) (fun h2 => t1 k1 k2 k3 k4 fun _ => by simpa using h2)) (fun h1 => t1 k1 k2 k3 k4 fun hh => absurd hh ?_)
    · have h1 := of_decide_eq_true h1
      have h2 : i.b ≠ 0 := by simpa using h2
      exact h2 (hh.2.2.2.2.1 (by omega))
    · have h1 := of_decide_eq_false h1
      omega
   refine Br.mk (fun h1 => bad fun hh => absurd hh.1 (by have := of_decide_eq_true h1; omega)) (fun h1 => Br.mk (fun h2 => bad fun hh => absurd hh.2.1 (by have := of_decide_eq_true h2; omega)) (fun h2 => Br.mk (fun h3 => bad fun hh => absurd hh.2.2.1 (by have := of_decide_eq_true h3; omega)) (fun h3 => ?_)))
   have k1 : i.a <= 7 := by have := of_decide_eq_false h1; omega
   have k2 : i.b <= 7 := by have := of_decide_eq_false h2; omega
   have k3 : i.c <= 7 := by have := of_decide_eq_false h3; omega
   refine Br.mk (fun h4 => Br.mk (fun h5 => bad fun hh => ?_) (fun h5 => t2 k1 k2 k3 fun _ => by simpa using h5)) (fun h4 => t2 k1 k2 k3 fun hh => absurd hh ?_)
   · have h4 := of_decide_eq_true h4
     have h5 : i.a ≠ 0 := by simpa using h5
     exact h5 (hh.2.2.2.1 (by omega))
   · have h4 := of_decide_eq_false h4
     omega
theorem ct72 (i : Ins) (h : okI i) (I : Mem) : Ct Tryd.prog (fnv 72) #[.agg (insV i).toArray] I (fun v _ => v = .bool (goesB i)) := by
 obtain ⟨Q, hQ⟩ : ∃ q : Value, q = .bool (goesB i) := ⟨_, rfl⟩;rw [<- hQ]
 refine viaR (ct_via (A := { }) Tryd.func72 rfl Tryd.call72 rfl rfl) (Ct Tryd.prog (fnv 71) #[.agg #[.int .u8 i.op, .int .u8 i.a, .int .u8 i.b, .int .u8 i.c, .int .i64 i.n]] I fun v a => ∃ n, v = .int .i64 n /\ Br (n == 0) (Br (i.op != 1) (Br (i.op != 2) (Value.bool (i.op != 9) = Q) (Value.bool false = Q)) (Value.bool false = Q)) (Value.bool false = Q)) (by kernel_rfl) ?_
 refine (ct71 i h I).mono fun v J l hv => ⟨_, hv, ?_⟩;rw [hQ, goesB];refine Br.mk (fun h1 => Br.mk (fun h2 => Br.mk (fun h3 => ?_) (fun h3 => ?_)) (fun h2 => ?_)) (fun h1 => ?_)
 · have h1 : oneE i = 0 := by simpa using h1
   have h2 : i.op ≠ 1 := by simpa using h2
   have h3 : i.op ≠ 2 := by simpa using h3
   rw [decide_eq_true h1, decide_eq_true h2, decide_eq_true h3];simp only [bne, Bool.true_and, decide_not];rfl
 · have h3 : i.op = 2 := by simpa using h3
   rw [h3]; simp
 · have h2 : i.op = 1 := by simpa using h2
   rw [h2]; simp
 · have h1 : oneE i ≠ 0 := by simpa using h1
   rw [decide_eq_false h1]; rfl
theorem ct54 (i : Ins) (h : okI i) (I : Mem) : Ct Tryd.prog (fnv 54) #[.agg (insV i).toArray] I (fun v _ => v = .tuple #[.int .i64 (targetE i).1, .bool (targetE i).2]) := by
 obtain ⟨Q, hQ⟩ : ∃ q : Value, q = .tuple #[.int .i64 (targetE i).1, .bool (targetE i).2] := ⟨_, rfl⟩;rw [<- hQ]
 refine viaR (ct_via (A := { }) Tryd.func54 rfl Tryd.call54 rfl rfl) (Ct Tryd.prog (fnv 71) #[.agg #[.int .u8 i.op, .int .u8 i.a, .int .u8 i.b, .int .u8 i.c, .int .i64 i.n]] I fun v a => ∃ n, v = .int .i64 n /\ Br (n != 0) (Value.tuple #[.int .i64 0, .bool false] = Q) (Br (decide (i.op < 9)) (Value.tuple #[.int .i64 0, .bool false] = Q) (Br (decide (11 < i.op)) (Value.tuple #[.int .i64 0, .bool false] = Q) (Value.tuple #[.int .i64 i.n, .bool true] = Q)))) (by kernel_rfl) ?_
 refine (ct71 i h I).mono fun v J l hv => ⟨_, hv, ?_⟩;rw [hQ, targetE];refine Br.mk (fun h1 => ?_) (fun h1 => Br.mk (fun h2 => ?_) (fun h2 => Br.mk (fun h3 => ?_) (fun h3 => ?_)))
 · have h1 : oneE i ≠ 0 := by simpa using h1
   rw [if_neg (fun hh => h1 hh.1)]
 all_goals have h1 : oneE i = 0 := by simpa using h1
 · have h2 := of_decide_eq_true h2
   rw [if_neg (fun hh => by omega)]
 · have h3 := of_decide_eq_true h3
   rw [if_neg (fun hh => by omega)]
 · have h2 := of_decide_eq_false h2
   have h3 := of_decide_eq_false h3
   rw [if_pos ⟨h1, by omega⟩]
theorem ct53 (p : List Ins) (a : Option Addr) (n c : Nat) (I : Mem) (h : InsM I a n p) : Ct Tryd.prog (fnv 53) #[.slice a n c] I (fun v _ => v = .tuple #[.int .i64 (checkL p).1, .int .i64 (checkL p).2]) := by
 obtain ⟨Q, hQ⟩ : ∃ q : Value, q = .tuple #[.int .i64 (checkL p).1, .int .i64 (checkL p).2] := ⟨_, rfl⟩;obtain ⟨N, hN⟩ : ∃ f : Int -> Prop, f = fun j : Int => 0 <= j /\ j <= n /\ checkGo p.length p 0 = checkGo p.length (p.drop j.toNat) j := ⟨_, rfl⟩;rw [<- hQ]
 refine viaR (ct_via (A := { loops := [(6, ⟨[(0, .keep), (4, .sh (.int .i64))], [], [], fun vals _ _ _ => match vals with | [.int .i64 j] => N j | _ => False, fun vals _ => match vals with | [.int .i64 j] => (n - j).toNat | _ => 0⟩)] }) Tryd.func53 rfl Tryd.call53 rfl rfl) (Br ((n : Int) == 0) (Value.tuple #[.int .i64 (-1), .int .i64 6] = Q) (Br (decide (256 < (n : Int))) (Value.tuple #[.int .i64 (-1), .int .i64 5] = Q) ((Rf (SV.v (.slice a n c)) /\ N 0) /\ ∀ (b : Mem), Mem -> I.le b -> ∀ (d : Int), N d -> Br (decide (d < (n : Int))) (0 <= d /\ d < (n : Int) /\ a.isSome = true /\ (5 : Nat) = 5 /\ ∃ e, atI b a (d.toNat * 5 + 0) = some (.int .u8 e) /\ ∃ f, atI b a (d.toNat * 5 + 1) = some (.int .u8 f) /\ ∃ g, atI b a (d.toNat * 5 + 2) = some (.int .u8 g) /\ ∃ i, atI b a (d.toNat * 5 + 3) = some (.int .u8 i) /\ ∃ j, atI b a (d.toNat * 5 + 4) = some (.int .i64 j) /\ Ct Tryd.prog (fnv 71) #[.agg #[.int .u8 e, .int .u8 f, .int .u8 g, .int .u8 i, .int .i64 j]] b fun v k => ∃ l, v = .int .i64 l /\ Br (l != 0) (Value.tuple #[.int .i64 d, .int .i64 l] = Q) (0 <= d /\ d < (n : Int) /\ a.isSome = true /\ (5 : Nat) = 5 /\ ∃ m, atI k a (d.toNat * 5 + 0) = some (.int .u8 m) /\ ∃ o, atI k a (d.toNat * 5 + 1) = some (.int .u8 o) /\ ∃ q, atI k a (d.toNat * 5 + 2) = some (.int .u8 q) /\ ∃ r, atI k a (d.toNat * 5 + 3) = some (.int .u8 r) /\ ∃ s, atI k a (d.toNat * 5 + 4) = some (.int .i64 s) /\ Ct Tryd.prog (fnv 54) #[.agg #[.int .u8 m, .int .u8 o, .int .u8 q, .int .u8 r, .int .i64 s]] k fun t u => ∃ w x, t = .tuple #[.int .i64 w, .bool x] /\ Br x (Br (decide ((n : Int) <= w)) (Value.tuple #[.int .i64 d, .int .i64 142] = Q) (Wr .i64 (d + 1) (fun y => Rf (SV.v (.slice a n c)) /\ N y /\ Int.toNat ((n : Int) - y) < Int.toNat ((n : Int) - d)))) (Wr .i64 (d + 1) (fun y => Rf (SV.v (.slice a n c)) /\ N y /\ Int.toNat ((n : Int) - y) < Int.toNat ((n : Int) - d))))) (Wr .i64 ((n : Int) - 1) (fun e => 0 <= e /\ e < (n : Int) /\ a.isSome = true /\ (5 : Nat) = 5 /\ ∃ f, atI b a (e.toNat * 5 + 0) = some (.int .u8 f) /\ ∃ g, atI b a (e.toNat * 5 + 1) = some (.int .u8 g) /\ ∃ i, atI b a (e.toNat * 5 + 2) = some (.int .u8 i) /\ ∃ j, atI b a (e.toNat * 5 + 3) = some (.int .u8 j) /\ ∃ k, atI b a (e.toNat * 5 + 4) = some (.int .i64 k) /\ Ct Tryd.prog (fnv 72) #[.agg #[.int .u8 f, .int .u8 g, .int .u8 i, .int .u8 j, .int .i64 k]] b fun v l => ∃ m, v = .bool m /\ Br m (Wr .i64 ((n : Int) - 1) (fun o => Value.tuple #[.int .i64 o, .int .i64 143] = Q)) (Value.tuple #[.int .i64 (-1), .int .i64 0] = Q)))))) (by kernel_rfl) ?_
 have hl := h.len;have hmx : n <= maxLen := SlR.max h
 have hmx2 : maxLen <= 9223372036854775807 := by decide
 refine Br.mk (fun h1 => ?_) (fun h1 => Br.mk (fun h2 => ?_) (fun h2 => ⟨⟨rfl, by rw [hN]; exact ⟨by omega, by omega, rfl⟩⟩, fun b G lb d hd => ?_⟩))
 · have h1 : n = 0 := by have := eq_of_beq h1; omega
   rw [hQ, checkL, if_pos (by omega)]
 · have h1 : n ≠ 0 := fun e => by subst e; simp at h1
   have h2 := of_decide_eq_true h2
   rw [hQ, checkL, if_neg (by omega), if_pos (by omega)]
 have h1 : n ≠ 0 := fun e => by subst e; simp at h1
 have h2 := of_decide_eq_false h2
 have hck : checkL p = if (checkGo p.length p 0).2 ≠ 0 then checkGo p.length p 0 else if lastGoes p then ((p.length : Int) - 1, 143) else (-1, 0) := by
  rw [checkL, if_neg (by omega), if_neg (by omega)]
 rw [hN] at hd ⊢;obtain ⟨h3, h4, h5⟩ := hd;have hb := h.mono lb;refine Br.mk (fun h6 => ?_) (fun h6 => ?_)
 · have h6 := of_decide_eq_true h6
   obtain ⟨i, g1, g2, e0, e1, e2, e3, e4⟩ := hb.get h3 h6
   have hdr : p.drop d.toNat = i :: p.drop (d + 1).toNat := by
    have hlt : d.toNat < p.length := by omega
    rw [show (d + 1).toNat = d.toNat + 1 by omega, List.drop_eq_getElem_cons hlt]
    congr 1
    rw [List.getElem?_eq_getElem hlt] at g1;exact Option.some.inj g1
   rw [hdr, checkGo] at h5
   refine ⟨h3, h6, SlR.isSome hb (by omega), rfl, _, e0, _, e1, _, e2, _, e3, _, e4, (ct71 i g2 b).mono fun v k lk hv => ⟨_, hv, Br.mk (fun h7 => ?_) (fun h7 => ?_)⟩⟩
   · have h7 : oneE i ≠ 0 := by simpa using h7
     rw [if_pos h7] at h5;rw [hQ, hck, h5, if_pos h7]
   · have h7 : ¬ (oneE i ≠ 0) := by simpa using h7
     rw [if_neg h7] at h5
     have next : (¬ ((targetE i).2 = true /\ (p.length : Int) <= (targetE i).1)) -> (0 <= d + 1 /\ d + 1 <= n /\ checkGo p.length p 0 = checkGo p.length (p.drop (d + 1).toNat) (d + 1)) := fun hh => by
      rw [if_neg hh] at h5
      exact ⟨by omega, by omega, h5⟩
     refine ⟨h3, h6, SlR.isSome hb (by omega), rfl, _, atI_le lk e0, _, atI_le lk e1, _, atI_le lk e2, _, atI_le lk e3, _, atI_le lk e4, (ct54 i g2 k).mono fun v m lm hv => ⟨_, _, hv, Br.mk (fun h8 => Br.mk (fun h9 => ?_) (fun h9 => ?_)) (fun h8 => ?_)⟩⟩
     · have h9 := of_decide_eq_true h9
       rw [if_pos ⟨h8, by omega⟩] at h5
       rw [hQ, hck, h5, if_pos (by show (142 : Int) ≠ 0; decide)]
     · have h9 := of_decide_eq_false h9
       exact wr_i64 (by omega) (by omega) ⟨rfl, next (fun hh => by omega), by omega⟩
     · exact wr_i64 (by omega) (by omega) ⟨rfl, next (fun hh => by rw [h8] at hh; cases hh.1), by omega⟩
 · have h6 := of_decide_eq_false h6
   rw [List.drop_eq_nil_of_le (by omega), checkGo] at h5
   obtain ⟨i, g1, g2, e0, e1, e2, e3, e4⟩ := hb.get (j := (n : Int) - 1) (by omega) (by omega)
   refine wr_i64 (by omega) (by omega) ⟨by omega, by omega, SlR.isSome hb (by omega), rfl, _, e0, _, e1, _, e2, _, e3, _, e4, (ct72 i g2 b).mono fun v k lk hv => ⟨_, hv, ?_⟩⟩
   have hlast : lastGoes p = goesB i := by
    rw [lastGoes, List.getLast?_eq_getElem?, show p.length - 1 = ((n : Int) - 1).toNat by omega, g1]
   rw [hQ, hck, h5, if_neg (by simp), hlast]
   refine Br.mk (fun h7 => ?_) (fun h7 => ?_)
   · rw [h7, if_pos rfl, hl]
     exact wr_i64 (by omega) (by omega) rfl
   · rw [h7, if_neg (by simp)]
theorem nil_toList (h : (!(strT []).toList == (⟨#[]⟩ : ByteArray).toList) = true) : False := by
 have e : (strT []).toList = (⟨#[]⟩ : ByteArray).toList := rfl;rw [e] at h;simp at h
theorem word_all : ∀ k : Fin 50, wordT (k.val : Int) ≠ [] -> findT (wordT (k.val : Int)) = ((k.val : Int), true) := by decide +kernel
theorem ct29 (s : ByteArray) (I : Mem) : Ct Tryd.prog (fnv 29) #[.string s] I (fun v _ => v = .tuple #[.int .u8 (findT (tx s)).1, .bool (findT (tx s)).2]) := by
 obtain ⟨N, hN⟩ : ∃ f : Int -> Prop, f = fun j => 1 <= j /\ j <= 50 /\ (∀ k : Int, 1 <= k -> k < j -> wordT k ≠ [] -> wordT k ≠ tx s) := ⟨_, rfl⟩;obtain ⟨Q, hQ⟩ : ∃ q : Value, q = .tuple #[.int .u8 (findT (tx s)).1, .bool (findT (tx s)).2] := ⟨_, rfl⟩;rw [<- hQ]
 refine viaR (ct_via (A := { loops := [(2, ⟨[(0, .keep), (4, .sh (.int .i64))], [], [], fun vals _ _ _ => match vals with | [.int .i64 j] => N j | _ => False, fun vals _ => match vals with | [.int .i64 j] => (50 - j).toNat | _ => 0⟩)] }) Tryd.func29 rfl Tryd.call29 rfl rfl) ((Rf (SV.v (.string s)) /\ N 1) /\ ∀ (a : Mem), Mem -> I.le a -> ∀ (n : Int), N n -> Br (decide (n < 50)) (Wr .u8 n (fun c => Ct Tryd.prog (fnv 33) #[.int .u8 c] a fun v b => ∃ q, v = .string q /\ Br (!(q.toList == (ByteArray.mk #[]).toList)) (Wr .u8 n (fun d => Ct Tryd.prog (fnv 33) #[.int .u8 d] b fun e f => ∃ g, e = .string g /\ Br (g.toList == s.toList) (Wr .u8 n (fun h => Value.tuple #[.int .u8 h, .bool true] = Q)) (Wr .i64 (n + 1) (fun h => Rf (SV.v (.string s)) /\ N h /\ Int.toNat (50 - h) < Int.toNat (50 - n))))) (Wr .i64 (n + 1) (fun d => Rf (SV.v (.string s)) /\ N d /\ Int.toNat (50 - d) < Int.toNat (50 - n))))) (Value.tuple #[.int .u8 0, .bool false] = Q)) (by kernel_rfl) ?_
 refine ⟨⟨rfl, by rw [hN]; exact ⟨by omega, by omega, fun k h1 h2 => by omega⟩⟩, fun J _ l n hn => ?_⟩
 rw [hN] at hn ⊢;obtain ⟨h1, h2, h3⟩ := hn
 have nxt : (wordT n ≠ [] -> wordT n ≠ tx s) -> n < 50 -> Wr .i64 (n + 1) fun d => Rf (SV.v (.string s)) /\ (1 <= d /\ d <= 50 /\ ∀ k : Int, 1 <= k -> k < d -> wordT k ≠ [] -> wordT k ≠ tx s) /\ (50 - d).toNat < (50 - n).toNat := fun hh hlt =>
  wr_i64 (by omega) (by omega) ⟨rfl, ⟨by omega, by omega, fun k k1 k2 => if hk : k < n then h3 k k1 hk else by
   have : k = n := by omega
   subst this; exact hh⟩, by omega⟩
 refine Br.mk (fun h4 => ?_) (fun h4 => ?_)
 · have h4 := of_decide_eq_true h4
   refine wr_u8 (by omega) (by omega) ((ct33 n (by omega) J).mono fun v K lk hv => ⟨_, hv, ?_⟩)
   refine Br.mk (fun h5 => ?_) (fun h5 => ?_)
   · have h5 : wordT n ≠ [] := fun hh => by rw [hh] at h5; exact nil_toList h5
     refine wr_u8 (by omega) (by omega) ((ct33 n (by omega) K).mono fun v K lk hv => ⟨_, hv, ?_⟩)
     rw [str_eq]
     refine Br.mk (fun h6 => wr_u8 (by omega) (by omega) ?_) (fun h6 => nxt (fun _ hh => of_decide_eq_false h6 (by rw [hh, strT_tx])) h4)
     have h6 : wordT n = tx s := by have := congrArg tx (of_decide_eq_true h6); rwa [tx_strT] at this
     have := word_all ⟨n.toNat, by omega⟩
     simp only [Int.toNat_of_nonneg (show 0 <= n by omega)] at this
     rw [hQ, <- h6, this h5]
   · refine nxt (fun hh => absurd ?_ hh) h4
     rw [show (⟨#[]⟩ : ByteArray) = strT [] from rfl, str_eq] at h5
     simp only [Bool.not_eq_false'] at h5;exact strT_inj (of_decide_eq_true h5)
 · have h4 := of_decide_eq_false h4
   have hf : (findT (tx s)).2 = false := by
    cases hq : (findT (tx s)).2 with
    | false => rfl
    | true =>
      have h5 := find_word hq;have h6 := findT_rng (tx s)
      have h7 : tx s ≠ [] := fun hh => by rw [hh] at hq; cases hq
      have h8 : (findT (tx s)).1 ≠ 0 := fun hh => by rw [hh] at h5; exact h7 h5.symm
      exact absurd h5 (h3 _ (by omega) (by omega) (by rw [h5]; exact h7))
   rw [hQ, hf, find_not hf]
theorem ct34 (s : ByteArray) (hs : s.size <= 10000000) (I : Mem) : Ct Tryd.prog (fnv 34) #[.string s] I (fun v _ => v = .bool (nameB (tx s))) := by
 obtain ⟨N, hN⟩ : ∃ f : Int -> Prop, f = fun (j : Int) => 0 <= j /\ j <= s.size /\ nameGo false (tx s) = nameGo false ((tx s).drop j.toNat) := ⟨_, rfl⟩;obtain ⟨Q, hQ⟩ : ∃ q : Value, q = .bool (nameB (tx s)) := ⟨_, rfl⟩;rw [<- hQ]
 refine viaR (ct_via (A := { loops := [(4, ⟨[(0, .keep), (3, .sh (.int .i64))], [], [], fun vals _ _ _ => match vals with | [.int .i64 j] => N j | _ => False, fun vals _ => match vals with | [.int .i64 j] => (s.size - j).toNat | _ => 0⟩)] }) Tryd.func34 rfl Tryd.call34 rfl rfl) (let E2 := fun (x : Int) => Wr .i64 (x + 1) fun c => Rf (SV.v (.string s)) /\ N c /\ Int.toNat ((s.size : Int) - c) < Int.toNat ((s.size : Int) - x)
  let E1 := fun (x : Int) => ∃ c, s.data.toList[x.toNat]? = some c /\ 0 <= x /\ Br (decide ((c.toNat : Int) < 48)) (∃ a, s.data.toList[x.toNat]? = some a /\ 0 <= x /\ Br ((a.toNat : Int) != 95) (Value.bool false = Q) (E2 x)) (∃ a, s.data.toList[x.toNat]? = some a /\ 0 <= x /\ Br (decide (57 < (a.toNat : Int))) (∃ b, s.data.toList[x.toNat]? = some b /\ 0 <= x /\ Br ((b.toNat : Int) != 95) (Value.bool false = Q) (E2 x)) (E2 x))
  Br (decide ((s.size : Int) < 1)) (Value.bool false = Q) (Br (decide (32 < (s.size : Int))) (Value.bool false = Q) (∃ c, s.data.toList[0]? = some c /\ (0 : Int) <= 0 /\ Br (decide ((c.toNat : Int) < 97)) (Value.bool false = Q) (∃ a, s.data.toList[0]? = some a /\ (0 : Int) <= 0 /\ Br (decide (122 < (a.toNat : Int))) (Value.bool false = Q) ((Rf (SV.v (.string s)) /\ N 0) /\ ∀ (b : Mem), Mem -> I.le b -> ∀ (n : Int), N n -> Br (decide (n < (s.size : Int))) (∃ d, s.data.toList[n.toNat]? = some d /\ 0 <= n /\ Br (decide ((d.toNat : Int) < 97)) (E1 n) (∃ e, s.data.toList[n.toNat]? = some e /\ 0 <= n /\ Br (decide (122 < (e.toNat : Int))) (E1 n) (E2 n))) (Value.bool true = Q)))))) (by kernel_rfl) ?_
 intro E2 E1;have htl : (tx s).length = s.size := Array.length_toList;refine Br.mk (fun h1 => ?_) (fun h1 => Br.mk (fun h2 => ?_) (fun h2 => ?_))
 · have h1 := of_decide_eq_true h1
   rw [hQ, nameB, decide_eq_false (p := 1 <= (tx s).length /\ _) (by omega), Bool.and_false]
 · have h2 := of_decide_eq_true h2
   rw [hQ, nameB, decide_eq_false (p := 1 <= (tx s).length /\ _) (by omega), Bool.and_false]
 have h1 := of_decide_eq_false h1;have h2 := of_decide_eq_false h2
 have hB : nameB (tx s) = nameGo true (tx s) := by rw [nameB, decide_eq_true (p := 1 <= (tx s).length /\ _) (by omega), Bool.and_true]
 rw [hB] at hQ
 obtain ⟨c, r, hc⟩ : ∃ c r, tx s = c :: r := by
  cases hq : tx s with
  | nil => rw [hq] at htl; simp at htl; omega
  | cons c r => exact ⟨c, r, rfl⟩
 have h0 : s.data.toList[0]? = some c := by show (tx s)[0]? = _; rw [hc]; rfl
 have bad : lowB c = false -> Value.bool false = Q := fun hh => by rw [hQ, hc, nameGo, chrB, hh]; rfl
 refine ⟨c, h0, Int.le_refl _, Br.mk (fun h3 => bad ?_) (fun h3 => ⟨c, h0, Int.le_refl _, Br.mk (fun h4 => bad ?_) (fun h4 => ?_)⟩)⟩
 · have h3 := of_decide_eq_true h3
   exact decide_eq_false (by omega)
 · have h4 := of_decide_eq_true h4
   exact decide_eq_false (by omega)
 have h3 := of_decide_eq_false h3;have h4 := of_decide_eq_false h4
 have hlow : lowB c = true := decide_eq_true (by omega)
 have hG : nameGo true (tx s) = nameGo false (tx s) := by rw [hc, nameGo, nameGo, chrB, chrB, hlow]; rfl
 rw [hG] at hQ
 refine ⟨⟨rfl, by rw [hN]; exact ⟨by omega, by omega, rfl⟩⟩, fun J _ l n hn => ?_⟩
 rw [hN] at hn;obtain ⟨g1, g2, g3⟩ := hn;refine Br.mk (fun h5 => ?_) (fun h5 => ?_)
 · have h5 := of_decide_eq_true h5
   have hlt : n.toNat < (tx s).length := by omega
   obtain ⟨d, hd⟩ : ∃ d, (tx s)[n.toNat]? = some d := ⟨_, List.getElem?_eq_getElem hlt⟩
   have hdr : (tx s).drop n.toNat = d :: (tx s).drop (n + 1).toNat := by
    rw [show (n + 1).toNat = n.toNat + 1 by omega, List.drop_eq_getElem_cons hlt]
    congr 1
    rw [List.getElem?_eq_getElem hlt] at hd;exact Option.some.inj hd
   rw [hdr, nameGo] at g3
   have go : chrB false d = true -> E2 n := fun hh => by
    rw [hh, Bool.true_and] at g3
    refine wr_i64 (by omega) (by omega) ⟨rfl, ?_, by omega⟩
    rw [hN]; exact ⟨by omega, by omega, g3⟩
   have no : chrB false d = false -> Value.bool false = Q := fun hh => by rw [hQ, g3, hh]; rfl
   have eB : chrB false d = (lowB d || (decide (d = 95) || decide (48 <= d.toNat /\ d.toNat <= 57))) := by rw [chrB]; rfl
   have e95 : ((d.toNat : Int) != 95) = !decide (d = 95) := by
    by_cases hh : d = 95
    · subst hh; rfl
    · have : (d.toNat : Int) ≠ 95 := fun e => hh (UInt8.toNat_inj.1 (by show d.toNat = 95; omega))
      rw [decide_eq_false hh]; simpa using this
   have und : lowB d = false -> ¬ (48 <= d.toNat /\ d.toNat <= 57) -> Br ((d.toNat : Int) != 95) (Value.bool false = Q) (E2 n) := fun hl hd => by
    rw [hl, decide_eq_false hd, Bool.false_or, Bool.or_false] at eB;rw [e95]
    exact Br.mk (fun h6 => no (by rw [eB]; simpa using h6)) (fun h6 => go (by rw [eB]; simpa using h6))
   have key : lowB d = false -> E1 n := fun hl => by
    refine ⟨d, hd, g1, Br.mk (fun h6 => ⟨d, hd, g1, und hl (by have := of_decide_eq_true h6; omega)⟩) (fun h6 => ⟨d, hd, g1, Br.mk (fun h7 => ⟨d, hd, g1, und hl (by have := of_decide_eq_true h7; omega)⟩) (fun h7 => go ?_)⟩)⟩
    rw [eB, decide_eq_true (p := 48 <= d.toNat /\ d.toNat <= 57) (by have := of_decide_eq_false h6; have := of_decide_eq_false h7; omega)]; simp
   refine ⟨d, hd, g1, Br.mk (fun h6 => key (decide_eq_false (by have := of_decide_eq_true h6; omega))) (fun h6 => ⟨d, hd, g1, Br.mk (fun h7 => key (decide_eq_false (by have := of_decide_eq_true h7; omega))) (fun h7 => go ?_)⟩)⟩
   rw [eB, show lowB d = true from decide_eq_true (by have := of_decide_eq_false h6; have := of_decide_eq_false h7; omega)]; rfl
 · have h5 := of_decide_eq_false h5
   rw [List.drop_eq_nil_of_le (by omega), nameGo] at g3
   rw [hQ, g3]
theorem insR_one {I : Mem} : ∀ {p : List Ins} {xs : List Value}, RowR 5 InsC I xs p -> ∀ v ∈ xs, v.oneCell' = true
 | [], _, h => by rw [show _ = [] from h]; intro v hv; cases hv
 | _ :: _, _, ⟨c, r, h1, h2, ⟨h3, _⟩, h4⟩ => fun v hv => by
   rw [h1] at hv
   rcases List.mem_append.1 hv with hv | hv
   · rw [h3, insV] at hv
     simp only [List.mem_cons, List.not_mem_nil, or_false] at hv
     rcases hv with rfl | rfl | rfl | rfl | rfl <;> rfl
   · exact insR_one h4 v hv
theorem ct30 (p : List Ins) (a : Option Addr) (n c : Nat) (I : Mem) (h : InsM I a n p) (hn : n <= 1000000) : Ct Tryd.prog (fnv 30) #[.slice a n c] I (fun v I' => ∃ b d, v = .slice b n d /\ InsM I' b n p) := by
 obtain ⟨Q, hQ⟩ : ∃ q : Value -> Mem -> Prop, q = fun v I' => ∃ b d, v = .slice b n d /\ InsM I' b n p := ⟨_, rfl⟩;rw [<- hQ]
 refine viaR (ct_via (A := { }) Tryd.func30 rfl Tryd.call30 rfl rfl) (Br a.isNone (Q (.slice none 0 0) I) (∃ y, y.length = n * 5 /\ (a = none -> n = 0) /\ (∀ (j : Nat) (v : Value), y[j]? = some v -> atI I a j = some v) /\ (∀ (v : Value), Membership.mem y v -> v.oneCell' = true) /\ (0 : Nat) = 0 /\ 0 + n <= 9223372036854775807 /\ (0 + n) * 16 <= 140737488355328 /\ ∀ (b : Option Addr) (d : Nat) (e : Mem), I.le e -> RowM e b d 5 y -> Q (.slice b (0 + n) d) e)) (by kernel_rfl) ?_
 refine Br.mk (fun h0 => ?_) (fun h0 => ?_)
 · have h0 : a = none := by simpa using h0
   obtain ⟨xs, h1, h2⟩ := h;have hz := h1.nil h0
   subst hz; subst h0
   rw [hQ]; exact ⟨none, 0, rfl, xs, h1, h2⟩
 · obtain ⟨xs, h1, h2⟩ := h
   have hpl : p.length = n := SlR.len (by decide) ⟨xs, h1, h2⟩
   refine ⟨xs, h1.len, h1.nil, h1.at_, insR_one h2, rfl, by omega, by omega, fun b d e le hrow => ?_⟩
   rw [hQ, Nat.zero_add];refine ⟨b, d, rfl, ?_⟩
   have := SlR.row (by decide) hrow (RowR.mono insC_mono le h2)
   rwa [hpl] at this
theorem ct32 (p : List Ins) (a : Option Addr) (n c : Nat) (I : Mem) (h : InsM I a n p) (hn : n <= 1000000) : Ct Tryd.prog (fnv 32) #[.slice a n c] I (fun v I' => ∃ b d, v = .slice b n d /\ InsM I' b n p) := by
 obtain ⟨Q, hQ⟩ : ∃ q : Value -> Mem -> Prop, q = fun v I' => ∃ b d, v = .slice b n d /\ InsM I' b n p := ⟨_, rfl⟩;obtain ⟨N, hN⟩ : ∃ f : Int -> List Value -> Prop, f = fun (j : Int) xs => 0 <= j /\ j <= n /\ xs = insVs (p.take j.toNat) := ⟨_, rfl⟩;rw [<- hQ]
 refine viaR (ct_via (A := { loops := [(3, ⟨[(0, .keep), (3, .row 0), (6, .keep), (7, .keep), (8, .sh (.int .i64))], [(0, .row)], [(3, 5, 115)], fun vals xss _ _ => match vals, xss with | [.int .i64 j], [xs] => N j xs | _, _ => False, fun vals _ => match vals with | [.int .i64 j] => (n - j).toNat | _ => 0⟩)] }) Tryd.func32 rfl Tryd.call32 rfl rfl) ((Rf (SV.v (.slice a n c)) /\ (0 : Nat) = 0 /\ Rf (SV.v (.slice a n c)) /\ Rf (SV.v (.int .i64 (n : Int))) /\ N 0 []) /\ ∀ (b : Mem), Mem -> I.le b -> ∀ (x : List Value) (d : Int), N d x -> Br (decide (d < (n : Int))) (0 <= d /\ d < (n : Int) /\ a.isSome = true /\ (5 : Nat) = 5 /\ ∃ e, atI b a (d.toNat * 5 + 0) = some (.int .u8 e) /\ ∃ f, atI b a (d.toNat * 5 + 1) = some (.int .u8 f) /\ ∃ g, atI b a (d.toNat * 5 + 2) = some (.int .u8 g) /\ ∃ i, atI b a (d.toNat * 5 + 3) = some (.int .u8 i) /\ ∃ j, atI b a (d.toNat * 5 + 4) = some (.int .i64 j) /\ x.length = x.length / 5 * 5 /\ x.length / 5 + 1 <= 9223372036854775807 /\ (x.length / 5 + 1) * 16 <= 140737488355328 /\ Wr .i64 (d + 1) fun k => Rf (SV.v (.slice a n c)) /\ x.length / 5 + 1 = List.length (x ++ [.int .u8 e, .int .u8 f, .int .u8 g, .int .u8 i, .int .i64 j]) / 5 /\ Rf (SV.v (.slice a n c)) /\ Rf (SV.v (.int .i64 (n : Int))) /\ N k (x ++ [.int .u8 e, .int .u8 f, .int .u8 g, .int .u8 i, .int .i64 j]) /\ Int.toNat ((n : Int) - k) < Int.toNat ((n : Int) - d)) (∀ (e : Option Addr) (f : Nat) (g : Mem), b.le g -> RowM g e f 5 x -> Q (.slice e (x.length / 5) f) g)) (by kernel_rfl) ?_
 have hpl := h.len;have hok := h.ok
 refine ⟨⟨rfl, rfl, rfl, rfl, by rw [hN]; exact ⟨Int.le_refl _, by omega, rfl⟩⟩, fun b G lb x d hd => ?_⟩
 rw [hN] at hd;obtain ⟨h1, h2, h3⟩ := hd
 have hxl : x.length = d.toNat * 5 := by rw [h3, insVs_len, List.length_take]; omega
 refine Br.mk (fun h5 => ?_) (fun h5 => ?_)
 · have h5 := of_decide_eq_true h5
   obtain ⟨i, q1, q2, e0, e1, e2, e3, e4⟩ := (h.mono lb).get h1 h5
   have htk : p.take (d + 1).toNat = p.take d.toNat ++ [i] := by rw [show (d + 1).toNat = d.toNat + 1 by omega, List.take_add_one, q1]; rfl
   refine ⟨h1, h5, SlR.isSome (h.mono lb) (by omega), rfl, _, e0, _, e1, _, e2, _, e3, _, e4, ?_⟩
   refine ⟨by omega, by omega, by omega, wr_i64 (by omega) (by omega) ⟨rfl, ?_, rfl, rfl, ?_, by omega⟩⟩
   · rw [List.length_append]; simp only [List.length_cons, List.length_nil]; omega
   · rw [hN]
     refine ⟨by omega, by omega, ?_⟩
     rw [h3, htk];simp [insVs, insV]
 · have h5 := of_decide_eq_false h5
   intro e f g lg hrow
   rw [List.take_of_length_le (by omega)] at h3
   rw [h3] at hrow
   have hsl := SlR.row (by decide) hrow (rowR_ins g hok)
   rw [hpl] at hsl
   rw [hQ, show x.length / 5 = n by omega]
   exact ⟨e, f, rfl, hsl⟩
theorem nDigits_lt : ∀ (k u : Nat), 1 <= k -> u < 10 ^ k -> Lib.nDigits u <= k
 | 0, _, h, _ => absurd h (by decide)
 | k + 1, u, _, h => by
   by_cases hu : u < 10
   · rw [Lib.nDigits_small hu]; omega
   · rw [Lib.nDigits_big hu]
     have hk : 1 <= k := by
      rcases Nat.eq_zero_or_pos k with rfl | hk
      · exact absurd (by simpa using h) hu
      · exact hk
     rw [Nat.pow_succ] at h
     have := nDigits_lt k (u / 10) hk (by omega)
     omega
theorem nDigits_le {u : Nat} (h : u <= 9223372036854775808) : Lib.nDigits u <= 19 := nDigits_lt 19 u (by decide) (by
 have : (10 : Nat) ^ 19 = 10000000000000000000 := by decide
 omega)
theorem dec_step {k : Int} (h0 : k <= 0) (t : Tx) : (0 < (-k.tdiv 10) /\ Lib.decDigits (-k).toNat ++ t = Lib.decDigits (-k.tdiv 10).toNat ++ (UInt8.ofNat (48 - k.tmod 10).toNat :: t)) \/ (k.tdiv 10 = 0 /\ Lib.decDigits (-k).toNat ++ t = UInt8.ofNat (48 - k.tmod 10).toNat :: t) := by
 obtain ⟨u, rfl⟩ : ∃ u : Nat, k = -(u : Int) := ⟨(-k).toNat, by omega⟩
 have e1 : (-(u : Int)).tdiv 10 = -((u / 10 : Nat) : Int) := by
  rw [Int.neg_tdiv, Int.tdiv_eq_ediv_of_nonneg (by omega)]; omega
 have e2 : (-(u : Int)).tmod 10 = -((u % 10 : Nat) : Int) := by
  rw [Int.neg_tmod, Int.tmod_eq_emod_of_nonneg (by omega)]; omega
 rw [e1, e2, Lib.decDigits]
 have e3 : (-(-(u : Int))).toNat = u := by omega
 have e4 : (48 - -((u % 10 : Nat) : Int)).toNat = 48 + u % 10 := by omega
 have e5 : (-(-((u / 10 : Nat) : Int))).toNat = u / 10 := by omega
 rw [e4, e5]
 by_cases h : u < 10
 · refine .inr ⟨by omega, ?_⟩
   rw [dif_pos (by omega), e3, Nat.mod_eq_of_lt h]; rfl
 · refine .inl ⟨by omega, ?_⟩
   rw [dif_neg (by omega), e3, List.append_assoc]; rfl
theorem tx_one (b : UInt8) (s : ByteArray) : tx ((⟨#[b]⟩ : ByteArray) ++ s) = b :: tx s := by simp [tx]
theorem ct55n (n : Int) (hn : i64N n) (h0 : n <= 0) (I : Mem) : Ct Tryd.prog (fnv 55) #[.int .i64 n] I (fun v _ => v = .string (strT (if n = 0 then [48] else 45 :: Lib.decDigits n.natAbs))) := by
 obtain ⟨Q, hQ⟩ : ∃ D : Value, D = .string (strT (if n = 0 then [48] else 45 :: Lib.decDigits n.natAbs)) := ⟨_, rfl⟩
 rw [<- hQ];obtain ⟨WI, hWI⟩ : ∃ f : Int -> ByteArray -> Prop, f = fun k s => -9223372036854775808 <= k /\ k <= 0 /\ ((k = 0 /\ tx s = Lib.decDigits n.natAbs) \/ (k < 0 /\ Lib.decDigits n.natAbs = Lib.decDigits (-k).toNat ++ tx s)) := ⟨_, rfl⟩
 refine viaR (ct_via (A := { loops := [(6, ⟨[(0, .sh (.int .i64)), (3, .sh .str)], [], [], fun vals _ _ _ => match vals with | [.int .i64 k, .string s] => WI k s | _ => False, fun vals _ => match vals with | [.int .i64 k, .string s] => (-k).toNat | _ => 0⟩)] }) Tryd.func55 rfl Tryd.call55 rfl rfl) (Br (decide (0 < n)) (Wr .i64 (0 - n) (fun (c : Int) => Ct Tryd.prog (fnv 55) #[.int .i64 c] I fun (v : Value) (a : Mem) => ∃ (q : ByteArray), v = .string q /\ (0 : Int) <= 1 /\ 1 <= (q.size : Int) /\ Value.string (q.extract (Int.toNat 1) q.size) = Q)) (Br (n == 0) (Value.string ⟨#[48]⟩ = Q) (WI n ⟨#[]⟩ /\ ∀ (a : Mem), Mem -> I.le a -> ∀ (b : Int) (q : ByteArray), WI b q -> Br (decide (b < 0)) ((10 : Int) ≠ 0 /\ Wr .i64 (48 - b.tmod 10) fun (c : Int) => Wr .u8 c fun (d : Int) => ∃ (e : List UInt8), e.length = 1 /\ (∀ (j : Nat) (f : UInt8), e[j]? = some f -> [SV.v (.int .u8 d)][0 + j]? = some (.v (.int .u8 (f.toNat : Int)))) /\ (ByteArray.mk e.toArray).size + q.size <= 4611686018427387904 /\ (10 : Int) ≠ 0 /\ Wr .i64 (b.tdiv 10) fun (f : Int) => WI f (⟨e.toArray⟩ ++ q) /\ (-f).toNat < (-b).toNat) (1 + q.size <= 4611686018427387904 /\ Value.string (⟨#[45]⟩ ++ q) = Q)))) (by kernel_rfl) ?_
 have hrem : ∀ {k : Int}, -9223372036854775808 <= k -> k <= 0 -> k.tmod 10 <= 0 /\ -9 <= k.tmod 10 /\ k <= k.tdiv 10 /\ k.tdiv 10 <= 0 /\ (k < 0 -> k < k.tdiv 10) := fun {k} h0 h1 => by
  obtain ⟨u, rfl⟩ : ∃ u : Nat, k = -(u : Int) := ⟨(-k).toNat, by omega⟩
  rw [Int.neg_tdiv, Int.tdiv_eq_ediv_of_nonneg (by omega), Int.neg_tmod, Int.tmod_eq_emod_of_nonneg (by omega)]
  omega
 have hdl : (Lib.decDigits n.natAbs).length <= 19 := by
  rw [Lib.decDigits_length]
  exact nDigits_le (by have := hn.1; have := hn.2; omega)
 have hts : ∀ s : ByteArray, (tx s).length = s.size := fun s => Array.length_toList
 refine Br.f (decide_eq_false (by omega)) (Br.mk (fun h1 => ?_) (fun h1 => ?_))
 · have h1 : n = 0 := by simpa using h1
   rw [hQ, if_pos h1]; rfl
 have h1 : n ≠ 0 := by simpa using h1
 refine ⟨?_, fun J _ l k s hs => ?_⟩
 · rw [hWI]
   refine ⟨hn.1, h0, .inr ⟨by omega, ?_⟩⟩
   rw [show (-n).toNat = n.natAbs by omega]
   exact (List.append_nil _).symm
 rw [hWI] at hs;obtain ⟨k1, k2, k3⟩ := hs;refine Br.mk (fun h2 => ?_) (fun h2 => ?_)
 · have h2 := of_decide_eq_true h2
   have he := (k3.resolve_left (fun hh => by omega)).2
   obtain ⟨r1, r2, r3, r4, r5⟩ := hrem k1 k2
   have hsz : s.size <= 19 := by
    have := congrArg List.length he;rw [List.length_append, hts] at this;omega
   refine ⟨by decide, wr_i64 (by omega) (by omega) (wr_u8 (by omega) (by omega) ⟨[UInt8.ofNat (48 - k.tmod 10).toNat], rfl, fun j b hb => ?_, ?_⟩)⟩
   · match j, hb with
     | 0, hb =>
       simp only [List.getElem?_cons_zero, Option.some.injEq] at hb;subst hb;simp only [Nat.add_zero, List.getElem?_cons_zero, Option.some.injEq, SV.v.injEq, Value.int.injEq, true_and]
       rw [UInt8.toNat_ofNat']; omega
   refine ⟨by show 1 + s.size <= _; omega, by decide, wr_i64 (by omega) (by omega) ⟨?_, by omega⟩⟩
   rw [hWI]
   refine ⟨by omega, r4, ?_⟩
   have e : tx ((⟨[UInt8.ofNat (48 - k.tmod 10).toNat].toArray⟩ : ByteArray) ++ s) = UInt8.ofNat (48 - k.tmod 10).toNat :: tx s := tx_one _ s;rw [e, he]
   rcases dec_step k2 (tx s) with ⟨d1, d2⟩ | ⟨d1, d2⟩
   · exact .inr ⟨by omega, d2⟩
   · exact .inl ⟨d1, d2.symm⟩
 · have h2 := of_decide_eq_false h2
   have he := (k3.resolve_right (fun hh => by omega)).2
   have hsz : s.size <= 19 := by rw [<- hts, he]; exact hdl
   refine ⟨by omega, ?_⟩
   rw [hQ, if_neg h1, <- he];refine congrArg Value.string ?_;apply ByteArray.ext;simp [strT, tx]
theorem ct55 (n : Int) (hn : i64N n) (I : Mem) : Ct Tryd.prog (fnv 55) #[.int .i64 n] I (fun v _ => v = .string (strT (Lib.itoa n))) := by
 by_cases h0 : n <= 0
 · refine (ct55n n hn h0 I).mono fun v J l hv => hv.trans ?_
   by_cases h1 : n = 0
   · subst h1
     rw [if_pos rfl, Lib.itoa, if_neg (by decide), Lib.decDigits, dif_pos (by decide)]; rfl
   · rw [if_neg h1, Lib.itoa, if_pos (by omega)]
 · obtain ⟨Q, hQ⟩ : ∃ D : Value, D = .string (strT (Lib.itoa n)) := ⟨_, rfl⟩
   rw [<- hQ]
   refine viaR (ct_via (A := { loops := [(6, ⟨[(0, .sh (.int .i64)), (3, .sh .str)], [], [], fun vals _ _ _ => False, fun vals _ => 0⟩)] }) Tryd.func55 rfl Tryd.call55 rfl rfl) (Br (decide (0 < n)) (Wr .i64 (0 - n) (fun (c : Int) => Ct Tryd.prog (fnv 55) #[.int .i64 c] I fun (v : Value) (a : Mem) => ∃ (q : ByteArray), v = .string q /\ (0 : Int) <= 1 /\ 1 <= (q.size : Int) /\ Value.string (q.extract (Int.toNat 1) q.size) = Q)) (Br (n == 0) (Value.string ⟨#[48]⟩ = Q) (False /\ ∀ (a : Mem), Mem -> I.le a -> ∀ (b : Int) (q : ByteArray), False -> Br (decide (b < 0)) ((10 : Int) ≠ 0 /\ Wr .i64 (48 - b.tmod 10) fun (c : Int) => Wr .u8 c fun (d : Int) => ∃ (e : List UInt8), e.length = 1 /\ (∀ (j : Nat) (f : UInt8), e[j]? = some f -> [SV.v (.int .u8 d)][0 + j]? = some (.v (.int .u8 (f.toNat : Int)))) /\ (ByteArray.mk e.toArray).size + q.size <= 4611686018427387904 /\ (10 : Int) ≠ 0 /\ Wr .i64 (b.tdiv 10) fun (f : Int) => False /\ (0 : Nat) < 0) (1 + q.size <= 4611686018427387904 /\ Value.string (⟨#[45]⟩ ++ q) = Q)))) (by kernel_rfl) ?_
   refine Br.t (decide_eq_true (by omega)) (wr_i64 (by have := hn.2; omega) (by omega) ((ct55n (0 - n) ⟨by have := hn.2; omega, by omega⟩ (by omega) I).mono fun v J l hv => ⟨_, hv, by decide, ?_, ?_⟩))
   · rw [strT_size, if_neg (by omega)]; simp only [List.length_cons]; omega
   · rw [hQ, if_neg (by omega)]
     have key : tx ((strT (45 :: Lib.decDigits (0 - n).natAbs)).extract (Int.toNat 1) (strT (45 :: Lib.decDigits (0 - n).natAbs)).size) = Lib.itoa n := by
      rw [tx_extract, tx_strT, strT_size, Lib.itoa, if_neg (by omega), show (0 - n).natAbs = n.toNat by omega]
      simp
     exact congrArg Value.string ((strT_tx _).symm.trans (congrArg strT key))
def bv (t : Tx) : List Value := t.map fun c => .int .u8 c.toNat
theorem bv_len (t : Tx) : (bv t).length = t.length := List.length_map ..
theorem bv_app (s t : Tx) : bv (s ++ t) = bv s ++ bv t := List.map_append ..
def markT (p : List Ins) (k : Nat) : Tx := if isTo p k then lab k ++ [58, 10] else []
def RefO (p : List Ins) (j : Int) (xs : List Value) : Prop := 0 <= j /\ j <= p.length /\ ∃ bs, xs = bv bs /\ outGo p p 0 = bs ++ outGo p (p.drop j.toNat) j.toNat
def RefM (p : List Ins) (j : Int) (xs : List Value) : Prop := 0 <= j /\ j < p.length /\ ∃ bs, xs = bv (bs ++ markT p j.toNat) /\ outGo p p 0 = bs ++ outGo p (p.drop j.toNat) j.toNat
def flatO (l : List Tx) : Tx := l.flatMap (32 :: ·)
def RefI (p : List Ins) (j i : Int) (xs : List Value) : Prop := 0 <= j /\ j < p.length /\ 0 <= i /\ ∃ bs ins bt, p[j.toNat]? = some ins /\ i <= (formL ins.op).length /\ xs = bv (bs ++ bt) /\
 outGo p p 0 = bs ++ outGo p (p.drop j.toNat) j.toNat /\ markT p j.toNat ++ [32, 32] ++ wordT ins.op ++ flatO (operands ins) = bt ++ flatO (operA ((formL ins.op).drop i.toNat) ins (((formL ins.op).take i.toNat).count 114))
theorem bytesV_strT (t : Tx) : bytesV (strT t) = bv t := rfl
theorem flat_cons (o : Tx) (l : List Tx) : flatO (o :: l) = 32 :: o ++ flatO l := by simp [flatO]
theorem join_flat : ∀ (w : Tx) (l : List Tx), joinC 32 (w :: l) = w ++ flatO l
 | w, [] => by rw [joinC]; simp [flatO]
 | w, x :: r => by rw [joinC, join_flat x r, flat_cons]; simp
theorem itoa_dig {r : Int} (h0 : 0 <= r) (h1 : r < 8) : bv (Lib.itoa r) = [.int .u8 (48 + r)] := by
 have e : r = 0 \/ r = 1 \/ r = 2 \/ r = 3 \/ r = 4 \/ r = 5 \/ r = 6 \/ r = 7 := by omega
 have d : ∀ u : Nat, u < 10 -> Lib.itoa (u : Int) = [UInt8.ofNat (48 + u)] := fun u hu => by
  rw [Lib.itoa, if_neg (by omega), Int.toNat_natCast, Lib.decDigits, dif_pos hu]
 rcases e with rfl | rfl | rfl | rfl | rfl | rfl | rfl | rfl
 · rw [show (0 : Int) = ((0 : Nat) : Int) from rfl, d 0 (by decide)]; rfl
 · rw [show (1 : Int) = ((1 : Nat) : Int) from rfl, d 1 (by decide)]; rfl
 · rw [show (2 : Int) = ((2 : Nat) : Int) from rfl, d 2 (by decide)]; rfl
 · rw [show (3 : Int) = ((3 : Nat) : Int) from rfl, d 3 (by decide)]; rfl
 · rw [show (4 : Int) = ((4 : Nat) : Int) from rfl, d 4 (by decide)]; rfl
 · rw [show (5 : Int) = ((5 : Nat) : Int) from rfl, d 5 (by decide)]; rfl
 · rw [show (6 : Int) = ((6 : Nat) : Int) from rfl, d 6 (by decide)]; rfl
 · rw [show (7 : Int) = ((7 : Nat) : Int) from rfl, d 7 (by decide)]; rfl
theorem form_regs (op : Int) : ∀ k : Nat, (formL op)[k]? = some 114 -> ((formL op).take k).count 114 = k /\ k < 3 := by
 intro k hk
 rcases formT_cases op with h | h | h | h | h | h | h | h <;> rw [show formL op = _ from by rw [formL, h]] at hk ⊢
 all_goals
  match k, hk with
  | 0, hk => first | (exact ⟨rfl, by decide⟩) | (simp at hk)
  | 1, hk => first | (exact ⟨rfl, by decide⟩) | (simp at hk)
  | 2, hk => first | (exact ⟨rfl, by decide⟩) | (simp at hk)
  | k + 3, hk => simp at hk
theorem one_abc {i : Ins} (h : okI i) (h1 : oneE i = 0) : i.a <= 7 /\ i.b <= 7 /\ i.c <= 7 := by
 cases hq : formT i.op with
 | none => rw [oneE, hq] at h1; cases h1
 | some l =>
   obtain ⟨f1, _, _⟩ := one_laws h hq
   by_cases hh : abcOk l i
   · exact ⟨hh.1, hh.2.1, hh.2.2.1⟩
   · rw [f1 hh] at h1; cases h1
set_option maxHeartbeats 4000000 in
theorem ct31 (p : List Ins) (a : Option Addr) (n c : Nat) (I : Mem) (h : InsM I a n p) :
 Ct Tryd.prog (fnv 31) #[.slice a n c] I (fun v _ => v = .tuple #[.string (strT (writeA p).1), .int .i64 (writeA p).2]) := by
 obtain ⟨Q, hQ⟩ : ∃ q : Value, q = .tuple #[.string (strT (writeA p).1), .int .i64 (writeA p).2] := ⟨_, rfl⟩;obtain ⟨N, hN⟩ : ∃ f, f = RefO p := ⟨_, rfl⟩;obtain ⟨M, hM⟩ : ∃ f, f = RefM p := ⟨_, rfl⟩;obtain ⟨R, hR⟩ : ∃ f, f = RefI p := ⟨_, rfl⟩;obtain ⟨T, hT⟩ : ∃ f : Int -> Int -> Bool -> Prop, f = fun (j m : Int) b => 0 <= m /\ m <= n /\ b = isTo (p.take m.toNat) j.toNat := ⟨_, rfl⟩;rw [<- hQ]
 refine viaR (ct_via (A := { cuts := [(16, ⟨[(0, .keep), (6, .row 0), (7, .kv)], [(0, .row)], [], fun vals xss _ _ => match vals, xss with | [.int .i64 j], [xs] => M j xs | _, _ => False, fun _ _ => 0⟩)], loops := [(6, ⟨[(0, .keep), (6, .row 0), (7, .sh (.int .i64))], [(0, .row)], [(6, 1, 5)], fun vals xss _ _ => match vals, xss with | [.int .i64 j], [xs] => N j xs | _, _ => False, fun vals _ => match vals with | [.int .i64 j] => (n - j).toNat | _ => 0⟩), (10, ⟨[(0, .keep), (6, .keep), (7, .kv), (8, .sh .bool), (9, .sh (.int .i64))], [(0, .keep)], [], fun vals _ _ _ => match vals with | [.int .i64 j, .bool b, .int .i64 m] => T j m b | _ => False, fun vals _ => match vals with | [_, _, .int .i64 m] => (n - m).toNat | _ => 0⟩), (20, ⟨[(0, .keep), (6, .row 0), (7, .kv), (12, .keep), (14, .keep), (15, .sh (.int .i64))], [(0, .row), (1, .keep)], [], fun vals xss _ _ => match vals, xss with | [.int .i64 j, .int .i64 i], [xs] => R j i xs | _, _ => False, fun vals _ => match vals with | [_, .int .i64 i] => (4 - i).toNat | _ => 0⟩)] }) Tryd.func31 rfl Tryd.call31 rfl rfl) (Ct Tryd.prog (fnv 53) #[.slice a n c] I fun v b => ∃ d e, v = .tuple #[.int .i64 d, .int .i64 e] /\ Br (e != 0) (Value.tuple #[.string ⟨#[]⟩, .int .i64 e] = Q) ((Rf (SV.v (.slice a n c)) /\ (0 : Nat) = 0 /\ N 0 []) /\ ∀ (f : Mem), Mem -> b.le f -> ∀ (x : List Value) (g : Int), N g x -> Br (decide (g < (n : Int))) ((Rf (Ent.mk (.row x 1 5) none) /\ Rf (SV.v (.slice a n c)) /\ Rf (SV.rsl 0 x.length) /\ Rf (SV.v (.int .i64 g)) /\ T g 0 false) /\ ∀ (i : Mem), Mem -> f.le i -> ∀ (j : Bool) (k : Int), T g k j -> Br (decide (k < (n : Int))) (0 <= k /\ k < (n : Int) /\ a.isSome = true /\ (5 : Nat) = 5 /\ ∃ l, atI i a (k.toNat * 5 + 0) = some (.int .u8 l) /\ ∃ m, atI i a (k.toNat * 5 + 1) = some (.int .u8 m) /\ ∃ o, atI i a (k.toNat * 5 + 2) = some (.int .u8 o) /\ ∃ q, atI i a (k.toNat * 5 + 3) = some (.int .u8 q) /\ ∃ r, atI i a (k.toNat * 5 + 4) = some (.int .i64 r) /\ Ct Tryd.prog (fnv 54) #[.agg #[.int .u8 l, .int .u8 m, .int .u8 o, .int .u8 q, .int .i64 r]] i fun s t => ∃ u w, s = .tuple #[.int .i64 u, .bool w] /\ Br j (Wr .i64 (k + 1) (fun y => Rf (Ent.mk (.row x 1 5) none) /\ Rf (SV.v (.slice a n c)) /\ Rf (SV.rsl 0 x.length) /\ Rf (SV.v (.int .i64 g)) /\ T g y true /\ Int.toNat ((n : Int) - y) < Int.toNat ((n : Int) - k))) (Br w (Wr .i64 (k + 1) (fun y => Rf (Ent.mk (.row x 1 5) none) /\ Rf (SV.v (.slice a n c)) /\ Rf (SV.rsl 0 x.length) /\ Rf (SV.v (.int .i64 g)) /\ T g y (u == g) /\ Int.toNat ((n : Int) - y) < Int.toNat ((n : Int) - k))) (Wr .i64 (k + 1) (fun y => Rf (Ent.mk (.row x 1 5) none) /\ Rf (SV.v (.slice a n c)) /\ Rf (SV.rsl 0 x.length) /\ Rf (SV.v (.int .i64 g)) /\ T g y false /\ Int.toNat ((n : Int) - y) < Int.toNat ((n : Int) - k))))) (Br j (x.length = x.length * 1 /\ x.length + 1 <= 9223372036854775807 /\ (x.length + 1) * 1 <= 140737488355328 /\ Ct Tryd.prog (fnv 55) #[.int .i64 g] i fun l m => ∃ q, l = .string q /\ (1 : Nat) = 1 /\ List.length (x ++ [.int .u8 108]) = (x.length + 1) * 1 /\ x.length + 1 + q.size <= 9223372036854775807 /\ (x.length + 1 + q.size) * 1 <= 140737488355328 /\ List.length (x ++ [.int .u8 108] ++ bytesV q) = (x.length + 1 + q.size) * 1 /\ x.length + 1 + q.size + 2 <= 9223372036854775807 /\ (x.length + 1 + q.size + 2) * 1 <= 140737488355328 /\ Rf (SV.v (.slice a n c)) /\ x.length + 1 + q.size + 2 = List.length (x ++ [.int .u8 108] ++ bytesV q ++ [.int .u8 58, .int .u8 10]) /\ Rf (SV.v (.int .i64 g)) /\ M g (x ++ [.int .u8 108] ++ bytesV q ++ [.int .u8 58, .int .u8 10])) (Rf (SV.v (.slice a n c)) /\ Rf x.length /\ Rf (SV.v (.int .i64 g)) /\ M g x) /\ ∀ (l : Mem), Mem -> i.le l -> ∀ (m : List Value), M g m -> 0 <= g /\ g < (n : Int) /\ a.isSome = true /\ a.isSome = true /\ ∃ o, atI l a (g.toNat * 5 + 0 + 0) = some (.int .u8 o) /\ (1 : Nat) = 1 /\ m.length = m.length * 1 /\ m.length + 2 <= 9223372036854775807 /\ (m.length + 2) * 1 <= 140737488355328 /\ Ct Tryd.prog (fnv 33) #[.int .u8 o] l fun q r => ∃ s, q = .string s /\ (1 : Nat) = 1 /\ List.length (m ++ bytesV ⟨#[32, 32]⟩) = (m.length + 2) * 1 /\ m.length + 2 + s.size <= 9223372036854775807 /\ (m.length + 2 + s.size) * 1 <= 140737488355328 /\ 0 <= g /\ g < (n : Int) /\ a.isSome = true /\ a.isSome = true /\ ∃ t, atI r a (g.toNat * 5 + 0 + 0) = some (.int .u8 t) /\ Ct Tryd.prog (fnv 56) #[.int .u8 t] r fun u w => ∃ y z, u = .tuple #[.string y, .bool z] /\ 0 <= g /\ g < (n : Int) /\ a.isSome = true /\ a.isSome = true /\ ∃ n1, atI w a (g.toNat * 5 + 1 + 0) = some (.int .u8 n1) /\ 0 <= g /\ g < (n : Int) /\ a.isSome = true /\ a.isSome = true /\ ∃ n2, atI w a (g.toNat * 5 + 2 + 0) = some (.int .u8 n2) /\ 0 <= g /\ g < (n : Int) /\ a.isSome = true /\ a.isSome = true /\ ∃ n3, atI w a (g.toNat * 5 + 3 + 0) = some (.int .u8 n3) /\ (Rf (Ent.mk (.cells [.v (.int .u8 n1), .v (.int .u8 n2), .v (.int .u8 n3)] 5) none) /\ Rf (SV.v (.slice a n c)) /\ m.length + 2 + s.size = List.length (m ++ bytesV ⟨#[32, 32]⟩ ++ bytesV s) /\ Rf (SV.v (.int .i64 g)) /\ Rf (SV.v (.string y)) /\ Rf (SV.xsl (List.length [Ent.mk (.row (m ++ bytesV ⟨#[32, 32]⟩ ++ bytesV s) 1 5) none]) 0 3 3) /\ R g 0 (m ++ bytesV ⟨#[32, 32]⟩ ++ bytesV s)) /\ ∀ (I1 : Mem), Mem -> w.le I1 -> ∀ (x1 : List Value) (n4 : Int), R g n4 x1 -> Br (decide (n4 < (y.size : Int))) (x1.length = x1.length * 1 /\ x1.length + 1 <= 9223372036854775807 /\ (x1.length + 1) * 1 <= 140737488355328 /\ ∃ c1, y.data.toList[n4.toNat]? = some c1 /\ 0 <= n4 /\ Br ((c1.toNat : Int) == 114) (0 <= n4 /\ n4 < 3 /\ ∃ n5, [SV.v (.int .u8 n1), .v (.int .u8 n2), .v (.int .u8 n3)][0 + n4.toNat * 1 + 0]?.bind (fun (x2 : SV) => (match x2 with
  | SV.v x => some x
  | x => none)) = some (.int .u8 n5) /\ Wr .u8 (48 + n5) fun c2 => List.length (x1 ++ [.int .u8 32]) = (x1.length + 1) * 1 /\ x1.length + 1 + 2 <= 9223372036854775807 /\ (x1.length + 1 + 2) * 1 <= 140737488355328 /\ Wr .i64 (n4 + 1) fun c3 => Rf (Ent.mk (.cells [.v (.int .u8 n1), .v (.int .u8 n2), .v (.int .u8 n3)] 5) none) /\ Rf (SV.v (.slice a n c)) /\ x1.length + 1 + 2 = List.length (x1 ++ [.int .u8 32] ++ [.int .u8 114, .int .u8 c2]) /\ Rf (SV.v (.int .i64 g)) /\ Rf (SV.v (.string y)) /\ Rf (SV.xsl (List.length [Ent.mk (.row (m ++ bytesV ⟨#[32, 32]⟩ ++ bytesV s) 1 5) none]) 0 3 3) /\ R g c3 (x1 ++ [.int .u8 32] ++ [.int .u8 114, .int .u8 c2]) /\ Int.toNat (4 - c3) < Int.toNat (4 - n4)) (∃ c2, y.data.toList[n4.toNat]? = some c2 /\ 0 <= n4 /\ Br ((c2.toNat : Int) == 116) (List.length (x1 ++ [.int .u8 32]) = (x1.length + 1) * 1 /\ x1.length + 1 + 1 <= 9223372036854775807 /\ (x1.length + 1 + 1) * 1 <= 140737488355328 /\ 0 <= g /\ g < (n : Int) /\ a.isSome = true /\ a.isSome = true /\ ∃ n5, atI I1 a (g.toNat * 5 + 4 + 0) = some (.int .i64 n5) /\ Ct Tryd.prog (fnv 55) #[.int .i64 n5] I1 fun v1 I2 => ∃ q1, v1 = .string q1 /\ (1 : Nat) = 1 /\ List.length (x1 ++ [.int .u8 32] ++ [.int .u8 108]) = (x1.length + 1 + 1) * 1 /\ x1.length + 1 + 1 + q1.size <= 9223372036854775807 /\ (x1.length + 1 + 1 + q1.size) * 1 <= 140737488355328 /\ Wr .i64 (n4 + 1) fun c3 => Rf (Ent.mk (.cells [.v (.int .u8 n1), .v (.int .u8 n2), .v (.int .u8 n3)] 5) none) /\ Rf (SV.v (.slice a n c)) /\ x1.length + 1 + 1 + q1.size = List.length (x1 ++ [.int .u8 32] ++ [.int .u8 108] ++ bytesV q1) /\ Rf (SV.v (.int .i64 g)) /\ Rf (SV.v (.string y)) /\ Rf (SV.xsl (List.length [Ent.mk (.row (m ++ bytesV ⟨#[32, 32]⟩ ++ bytesV s) 1 5) none]) 0 3 3) /\ R g c3 (x1 ++ [.int .u8 32] ++ [.int .u8 108] ++ bytesV q1) /\ Int.toNat (4 - c3) < Int.toNat (4 - n4)) (0 <= g /\ g < (n : Int) /\ a.isSome = true /\ a.isSome = true /\ ∃ n5, atI I1 a (g.toNat * 5 + 4 + 0) = some (.int .i64 n5) /\ Ct Tryd.prog (fnv 55) #[.int .i64 n5] I1 fun v1 I2 => ∃ q1, v1 = .string q1 /\ (1 : Nat) = 1 /\ List.length (x1 ++ [.int .u8 32]) = (x1.length + 1) * 1 /\ x1.length + 1 + q1.size <= 9223372036854775807 /\ (x1.length + 1 + q1.size) * 1 <= 140737488355328 /\ Wr .i64 (n4 + 1) fun c3 => Rf (Ent.mk (.cells [.v (.int .u8 n1), .v (.int .u8 n2), .v (.int .u8 n3)] 5) none) /\ Rf (SV.v (.slice a n c)) /\ x1.length + 1 + q1.size = List.length (x1 ++ [.int .u8 32] ++ bytesV q1) /\ Rf (SV.v (.int .i64 g)) /\ Rf (SV.v (.string y)) /\ Rf (SV.xsl (List.length [Ent.mk (.row (m ++ bytesV ⟨#[32, 32]⟩ ++ bytesV s) 1 5) none]) 0 3 3) /\ R g c3 (x1 ++ [.int .u8 32] ++ bytesV q1) /\ Int.toNat (4 - c3) < Int.toNat (4 - n4)))) (x1.length = x1.length * 1 /\ x1.length + 1 <= 9223372036854775807 /\ (x1.length + 1) * 1 <= 140737488355328 /\ Wr .i64 (g + 1) fun c1 => Rf (SV.v (.slice a n c)) /\ x1.length + 1 = List.length (x1 ++ [.int .u8 10]) /\ N c1 (x1 ++ [.int .u8 10]) /\ Int.toNat ((n : Int) - c1) < Int.toNat ((n : Int) - g)))) (∃ q, q.length = x.length /\ List.take x.length x = List.map (fun (i : UInt8) => .int .u8 (i.toNat : Int)) q /\ Value.tuple #[.string ⟨q.toArray⟩, .int .i64 0] = Q))) (by kernel_rfl) ?_
 have hl := h.len;have hok := h.ok;refine (ct53 p a n c I h).mono fun v b lb hv => ⟨_, _, hv, Br.mk (fun h1 => ?_) (fun h1 => ?_)⟩
 · have h1 : (checkL p).2 ≠ 0 := by simpa using h1
   rw [hQ, writeA, if_pos h1]; rfl
 have h1 : (checkL p).2 = 0 := by simpa using h1
 obtain ⟨c1, c2, c3, c4⟩ := check_len h1;have hck := checkGo_ok _ _ _ c3
 have hol := out_len p p 0 hok (by omega)
 have hW : writeA p = (outGo p p 0, 0) := by rw [writeA, if_neg (fun hh => hh h1)]
 rw [hW] at hQ;refine ⟨⟨rfl, rfl, ?_⟩, fun f _ lf x g hg => ?_⟩
 · rw [hN]; exact ⟨Int.le_refl _, Int.natCast_nonneg _, [], rfl, by simp⟩
 rw [hN] at hg;obtain ⟨g1, g2, bs, rfl, g3⟩ := hg;have hbl := bv_len bs
 have hbs : bs.length <= 130 * p.length := by have := congrArg List.length g3; rw [List.length_append] at this; omega
 have hf := h.mono (Mem.le_trans lb lf);refine Br.mk (fun h2 => ?_) (fun h2 => ?_)
 · have h2 := of_decide_eq_true h2
   obtain ⟨ins, q1, q2, _⟩ := hf.get g1 h2
   have hdr : p.drop g.toNat = ins :: p.drop (g + 1).toNat := by
    have hlt : g.toNat < p.length := by omega
    rw [show (g + 1).toNat = g.toNat + 1 by omega, List.drop_eq_getElem_cons hlt]
    congr 1
    rw [List.getElem?_eq_getElem hlt] at q1;exact Option.some.inj q1
   have hin : insT ins = [32, 32] ++ wordT ins.op ++ flatO (operands ins) ++ [10] := by rw [insT, join_flat]; simp
   have g4 : outGo p p 0 = bs ++ (markT p g.toNat ++ [32, 32] ++ wordT ins.op ++ flatO (operands ins)) ++ [10] ++ outGo p (p.drop (g + 1).toNat) (g + 1).toNat := by
    rw [g3, hdr, outGo, hin, show (g + 1).toNat = g.toNat + 1 by omega]
    simp [markT]
   have hg4 := congrArg List.length g4;simp only [List.length_append, List.length_cons, List.length_nil] at hg4;have hone := hck ins (List.mem_of_getElem? q1);have habc := one_abc q2 hone.1;refine ⟨⟨rfl, rfl, rfl, rfl, ?_⟩, fun i _ li j k hT1 => ?_⟩
   · rw [hT]; exact ⟨Int.le_refl _, by omega, rfl⟩
   rw [hT] at hT1;obtain ⟨t1, t2, t3⟩ := hT1;have hi := hf.mono li;refine Br.mk (fun h3 => ?_) (fun h3 => ?_)
   · have h3 := of_decide_eq_true h3
     obtain ⟨y, r1, r2, e0, e1, e2, e3, e4⟩ := hi.get t1 h3
     have htk : p.take (k + 1).toNat = p.take k.toNat ++ [y] := by rw [show (k + 1).toNat = k.toNat + 1 by omega, List.take_add_one, r1]; rfl
     have hnew : isTo (p.take (k + 1).toNat) g.toNat = (j || ((targetE y).2 && ((targetE y).1 == g))) := by
      rw [isTo] at t3
      rw [htk, isTo, List.any_append, List.any_cons, List.any_nil, Bool.or_false, <- t3, show ((g.toNat : Nat) : Int) = g by omega]; rfl
     refine ⟨t1, h3, SlR.isSome hi (by omega), rfl, _, e0, _, e1, _, e2, _, e3, _, e4, (ct54 y r2 i).mono fun v s ls hv => ⟨_, _, hv, Br.mk (fun h4 => wr_i64 (by omega) (by omega) ⟨rfl, rfl, rfl, rfl, ?_, by omega⟩) (fun h4 => Br.mk (fun h5 => wr_i64 (by omega) (by omega) ⟨rfl, rfl, rfl, rfl, ?_, by omega⟩) (fun h5 => wr_i64 (by omega) (by omega) ⟨rfl, rfl, rfl, rfl, ?_, by omega⟩))⟩⟩
     · rw [hT]; exact ⟨by omega, by omega, by rw [hnew, h4]; rfl⟩
     · rw [hT]; exact ⟨by omega, by omega, by rw [hnew, h4, h5]; rfl⟩
     · rw [hT]; exact ⟨by omega, by omega, by rw [hnew, h4, h5]; rfl⟩
   have h3 := of_decide_eq_false h3
   rw [List.take_of_length_le (by omega)] at t3
   have hgn : i64N g := ⟨by omega, by omega⟩
   have hig := itoa_len hgn
   have hgt : ((g.toNat : Nat) : Int) = g := by omega
   refine ⟨Br.mk (fun h4 => ?_) (fun h4 => ?_), fun l _ ll m hm => ?_⟩
   · have hmk : markT p g.toNat = lab g ++ [58, 10] := by rw [markT, <- t3, h4, if_pos rfl, hgt]
     refine ⟨by omega, by omega, by omega, (ct55 g hgn i).mono fun v s ls hv => ⟨_, hv, rfl, by simp, by rw [strT_size]; omega, by rw [strT_size]; omega, by rw [bytesV_strT]; simp [bv_len, strT_size] <;> omega, by rw [strT_size]; omega, by rw [strT_size]; omega, rfl, by rw [bytesV_strT]; simp [bv_len, strT_size] <;> omega, rfl, ?_⟩⟩
     rw [hM]
     refine ⟨g1, by omega, bs, ?_, g3⟩
     rw [hmk, bytesV_strT, lab];simp [bv]
   · have hmk : markT p g.toNat = [] := by rw [markT, <- t3, h4]; rfl
     refine ⟨rfl, rfl, rfl, ?_⟩;rw [hM]
     refine ⟨g1, by omega, bs, ?_, g3⟩
     rw [hmk, List.append_nil]
   rw [hM] at hm;obtain ⟨_, _, bs', rfl, m3⟩ := hm;obtain rfl : bs' = bs := List.append_cancel_right (m3.symm.trans g3);have hml := bv_len (bs' ++ markT p g.toNat);rw [List.length_append] at hml;have hil := hi.mono ll;obtain ⟨ins', q1', _, e0, e1, e2, e3, e4⟩ := hil.get g1 h2;obtain rfl : ins' = ins := Option.some.inj (q1'.symm.trans q1)
   have hs := SlR.isSome hil (by omega)
   have hwl : (strT (wordT ins'.op)).size = (wordT ins'.op).length := strT_size _;have e32 : bytesV ⟨#[32, 32]⟩ = bv [32, 32] := rfl
   refine ⟨g1, h2, hs, hs, _, e0, rfl, by omega, by omega, by omega, (ct33 ins'.op q2.op l).mono fun v s ls hv => ⟨_, hv, rfl, by rw [e32]; simp [bv_len] <;> omega, by omega, by omega, g1, h2, hs, hs, _, atI_le ls e0, (ct56 ins'.op q2.op s).mono fun v y ly hv => ⟨_, _, hv, g1, h2, hs, hs, _, atI_le ly (atI_le ls e1), g1, h2, hs, hs, _, atI_le ly (atI_le ls e2), g1, h2, hs, hs, _, atI_le ly (atI_le ls e3), ⟨rfl, rfl, by rw [e32, bytesV_strT]; simp [bv_len, strT_size] <;> omega, rfl, rfl, rfl, ?_⟩, fun I1 _ lI x1 n4 hR1 => ?_⟩⟩⟩
   · rw [hR]
     refine ⟨g1, by omega, Int.le_refl _, bs', ins', markT p g.toNat ++ [32, 32] ++ wordT ins'.op, q1, by omega, ?_, g3, rfl⟩
     rw [e32, bytesV_strT];simp [bv]
   rw [hR] at hR1;obtain ⟨_, _, u1, bs2, ins2, bt, w1, w2, rfl, w3, w4⟩ := hR1;obtain rfl : bs2 = bs' := List.append_cancel_right (w3.symm.trans g3);obtain rfl : ins2 = ins' := Option.some.inj (w1.symm.trans q1);have hxl := bv_len (bs2 ++ bt);rw [List.length_append] at hxl;have hw4 := congrArg List.length w4;simp only [List.length_append, List.length_cons, List.length_nil] at hw4;have hfl := (formL_mem ins2.op).2.1;refine Br.mk (fun h5 => ?_) (fun h5 => ?_)
   · have h5 := of_decide_eq_true h5
     rw [strT_size] at h5
     have hlt : n4.toNat < (formL ins2.op).length := by omega
     obtain ⟨L, hL⟩ : ∃ L, (formL ins2.op)[n4.toNat]? = some L := ⟨_, List.getElem?_eq_getElem hlt⟩
     have hdL : (formL ins2.op).drop n4.toNat = L :: (formL ins2.op).drop (n4 + 1).toNat := by
      rw [show (n4 + 1).toNat = n4.toNat + 1 by omega, List.drop_eq_getElem_cons hlt]
      congr 1
      rw [List.getElem?_eq_getElem hlt] at hL;exact Option.some.inj hL
     have hcn : ((formL ins2.op).take (n4 + 1).toNat).count 114 = ((formL ins2.op).take n4.toNat).count 114 + (if L = 114 then 1 else 0) := by
      rw [show (n4 + 1).toNat = n4.toNat + 1 by omega, List.take_add_one, hL, List.count_append]
      simp [List.count_cons]
     rw [hdL, operA] at w4;have hnn := itoa_len (n := ins2.n) q2.n
     have put : ∀ (o : Tx) (xs : List Value), xs = bv (bs2 ++ (bt ++ 32 :: o)) -> bt ++ flatO (o :: operA ((formL ins2.op).drop (n4 + 1).toNat) ins2 (((formL ins2.op).take (n4 + 1).toNat).count 114)) = markT p g.toNat ++ [32, 32] ++ wordT ins2.op ++ flatO (operands ins2) -> R g (n4 + 1) xs := fun o xs hxs ho => by
      rw [hR]
      refine ⟨g1, by omega, by omega, bs2, ins2, bt ++ 32 :: o, q1, by omega, hxs, g3, ?_⟩
      rw [<- ho, flat_cons]; simp
     refine ⟨by omega, by omega, by omega, L, hL, u1, Br.mk (fun h6 => ?_) (fun h6 => ⟨L, hL, u1, ?_⟩)⟩
     · have h6 : (L.toNat : Int) = 114 := by simpa using h6
       obtain rfl : L = 114 := UInt8.toNat_inj.1 (by show L.toNat = 114; omega)
       obtain ⟨f1, f2⟩ := form_regs ins2.op n4.toNat hL;rw [if_pos rfl, f1] at w4;rw [if_pos rfl, f1] at hcn
       have hr : 0 <= regAt ins2.a ins2.b ins2.c n4.toNat /\ regAt ins2.a ins2.b ins2.c n4.toNat < 8 := by
        have := q2.a; have := q2.b; have := q2.c
        unfold regAt
        split <;> omega
       refine ⟨u1, by omega, regAt ins2.a ins2.b ins2.c n4.toNat, ?_, wr_u8 (by omega) (by omega) ⟨by simp, by omega, by omega, wr_i64 (by omega) (by omega) ⟨rfl, rfl, by simp, rfl, rfl, rfl, put (114 :: Lib.itoa (regAt ins2.a ins2.b ins2.c n4.toNat)) _ ?_ ?_, by omega⟩⟩⟩
       · have hcs : n4 = 0 \/ n4 = 1 \/ n4 = 2 := by omega
         rcases hcs with rfl | rfl | rfl <;> rfl
       · have e := itoa_dig hr.1 hr.2
         have e1 : bv (bs2 ++ (bt ++ 32 :: 114 :: Lib.itoa (regAt ins2.a ins2.b ins2.c n4.toNat))) = bv (bs2 ++ bt) ++ ([.int .u8 32, .int .u8 114] ++ bv (Lib.itoa (regAt ins2.a ins2.b ins2.c n4.toNat))) := by simp [bv]
         rw [e1, e]; simp
       · rw [hcn, w4]
     · have h6 : L ≠ 114 := fun hh => by subst hh; cases h6
       rw [if_neg h6] at w4;rw [if_neg h6, Nat.add_zero] at hcn;refine Br.mk (fun h7 => ?_) (fun h7 => ?_)
       · have h7 : (L.toNat : Int) = 116 := by simpa using h7
         obtain rfl : L = 116 := UInt8.toNat_inj.1 (by show L.toNat = 116; omega)
         rw [if_pos rfl] at w4
         refine ⟨by simp, by omega, by omega, g1, h2, hs, hs, _, atI_le lI (atI_le ly (atI_le ls e4)), (ct55 ins2.n q2.n I1).mono fun v I2 l2 hv => ⟨_, hv, rfl, by simp, by rw [strT_size]; omega, by rw [strT_size]; omega, wr_i64 (by omega) (by omega) ⟨rfl, rfl, by rw [bytesV_strT]; simp [bv_len, strT_size] <;> omega, rfl, rfl, rfl, put (lab ins2.n) _ ?_ ?_, by omega⟩⟩⟩
         · rw [bytesV_strT, lab]; simp [bv]
         · rw [hcn, w4]
       · have h7 : L ≠ 116 := fun hh => by subst hh; cases h7
         rw [if_neg h7] at w4
         refine ⟨g1, h2, hs, hs, _, atI_le lI (atI_le ly (atI_le ls e4)), (ct55 ins2.n q2.n I1).mono fun v I2 l2 hv => ⟨_, hv, rfl, by simp, by rw [strT_size]; omega, by rw [strT_size]; omega, wr_i64 (by omega) (by omega) ⟨rfl, rfl, by rw [bytesV_strT]; simp [bv_len, strT_size] <;> omega, rfl, rfl, rfl, put (Lib.itoa ins2.n) _ ?_ ?_, by omega⟩⟩⟩
         · rw [bytesV_strT]; simp [bv]
         · rw [hcn, w4]
   · have h5 := of_decide_eq_false h5
     rw [strT_size] at h5
     rw [List.drop_eq_nil_of_le (by omega), operA, show flatO [] = [] from rfl, List.append_nil] at w4
     refine ⟨by omega, by omega, by omega, wr_i64 (by omega) (by omega) ⟨rfl, by simp, ?_, by omega⟩⟩
     rw [hN]
     refine ⟨by omega, by omega, bs2 ++ bt ++ [10], by rw [bv_app (bs2 ++ bt)]; rfl, ?_⟩
     rw [<- w4]; exact g4
 · have h2 := of_decide_eq_false h2
   rw [List.drop_eq_nil_of_le (by omega), outGo, List.append_nil] at g3
   refine ⟨bs, hbl.symm, by rw [List.take_length]; rfl, ?_⟩
   rw [hQ, g3]; rfl
theorem ct13 (op : Int) (ho : 0 <= op /\ op <= 255) (s : ByteArray) (p : List Ins) (a : Option Addr) (n c : Nat) (I : Mem) (hG : Globs I) (h : InsM I a n p) :
 Ct Tryd.prog (fnv 13) #[.int .u8 op, .string s, .slice a n c] I (fun v _ => v = .bool true) := by
 refine viaR (ct_via (A := { }) Tryd.func13 rfl Tryd.call13 rfl rfl) (Br (decide (300 < (s.size : Int))) (Rf (Value.bool true)) (Br (decide (300 < (n : Int))) (Rf (Value.bool true)) (Ct Tryd.prog (fnv 11) #[.string s] I (fun v b => ∃ d e, v = .tuple #[.int .u8 d, .bool e] /\ Ct Tryd.prog (fnv 29) #[.string s] b fun f g => ∃ i j, f = .tuple #[.int .u8 i, .bool j] /\ Ct Tryd.prog (fnv 30) #[.slice a n c] g fun k l => ∃ m o q, k = .slice m o q /\ Ct Tryd.prog (fnv 16) #[.slice m o q] l fun r t => ∃ u w, r = .tuple #[.string u, .int .i64 w] /\ Ct Tryd.prog (fnv 32) #[.slice a n c] t fun x y => ∃ z n1 c1, x = .slice z n1 c1 /\ Ct Tryd.prog (fnv 31) #[.slice z n1 c1] y fun v1 I1 => ∃ q1 n2, v1 = .tuple #[.string q1, .int .i64 n2] /\ Ct Tryd.prog (fnv 10) #[.int .u8 op] I1 fun v2 I2 => ∃ q2, v2 = .string q2 /\ Ct Tryd.prog (fnv 33) #[.int .u8 op] I2 fun v3 I3 => ∃ q3, v3 = .string q3 /\ Br (q2.toList == q3.toList) (Br (d == i) (Br (e == j) (Ct Tryd.prog (fnv 12) #[.string s] I3 (fun v4 I4 => ∃ b1, v4 = .bool b1 /\ Ct Tryd.prog (fnv 34) #[.string s] I4 fun v5 I5 => ∃ b2, v5 = .bool b2 /\ Br (b1 == b2) (Br (u.toList == q1.toList) (Br (w == n2) (Ct Tryd.prog (fnv 19) #[.slice m o q, .slice a n c] I5 (fun v6 I6 => ∃ b3, v6 = .bool b3 /\ Value.bool b3 = .bool true)) (Value.bool false = .bool true)) (Value.bool false = .bool true)) (Value.bool false = .bool true))) (Value.bool false = .bool true)) (Value.bool false = .bool true)) (Value.bool false = .bool true))))) (by kernel_rfl) ?_
 refine Br.mk (fun _ => rfl) (fun h1 => Br.mk (fun _ => rfl) (fun h2 => ?_));have h1 := of_decide_eq_false h1;have h2 := of_decide_eq_false h2
 refine (ct11 s I).mono fun v b lb hv => ⟨_, _, hv, (ct29 s b).mono fun v g lg hv => ⟨_, _, hv, (ct30 p a n c g (h.mono (Mem.le_trans lb lg)) (by omega)).mono fun v l ll hv => ?_⟩⟩
 obtain ⟨m, q, hv, hm⟩ := hv;have hl := h.mono (Mem.le_trans lb (Mem.le_trans lg ll))
 refine ⟨_, _, _, hv, (ct16 p m n q l (hG.mono (Mem.le_trans lb (Mem.le_trans lg ll))) hm).mono fun v t lt hv => ⟨_, _, hv, (ct32 p a n c t (hl.mono lt) (by omega)).mono fun v y ly hv => ?_⟩⟩
 obtain ⟨z, c1, hv, hz⟩ := hv
 refine ⟨_, _, _, hv, (ct31 p z n c1 y hz).mono fun v I1 l1 hv => ⟨_, _, hv, (ct10 op ho I1).mono fun v I2 l2 hv => ⟨_, hv, (ct33 op ho I2).mono fun v I3 l3 hv => ⟨_, hv, Br.t (by simp) (Br.t (by simp) (Br.t (by simp) ((ct12 s (by omega) I3).mono fun v I4 l4 hv => ⟨_, hv, (ct34 s (by omega) I4).mono fun v I5 l5 hv => ⟨_, hv, Br.t (by simp) (Br.t (by simp) (Br.t (by simp) ?_))⟩⟩)))⟩⟩⟩⟩
 have l6 := Mem.le_trans lt (Mem.le_trans ly (Mem.le_trans l1 (Mem.le_trans l2 (Mem.le_trans l3 (Mem.le_trans l4 l5)))))
 refine (ct19 p p m a n n q c I5 (hm.mono l6) (hl.mono l6)).mono fun v I6 l6 hv => ⟨_, hv, by simp⟩
theorem ct4 (op : Int) (ho : 0 <= op /\ op <= 255) (s : ByteArray) (p : List Ins) (a : Option Addr) (n c : Nat) (I : Mem) (hG : Globs I) (h : InsM I a n p) :
 Ct Tryd.prog (fnv 4) #[.int .u8 op, .string s, .slice a n c] I (fun v _ => v = .bool true) := by
 refine viaR (ct_via (A := { }) Tryd.func4 rfl Tryd.call4 rfl rfl) (Ct Tryd.prog (fnv 13) #[.int .u8 op, .string s, .slice a n c] I fun v b => ∃ d, v = .bool d /\ Br d (Ct Tryd.prog (fnv 8) #[] b (fun e f => ∃ g, e = .bool g /\ Value.bool g = .bool true)) (Value.bool false = .bool true)) (by kernel_rfl) ?_
 refine (ct13 op ho s p a n c I hG h).mono fun v b lb hv => ⟨_, hv, Br.t rfl ((ct8 b (hG.mono lb)).mono fun v e le hv => ⟨_, hv, rfl⟩)⟩
theorem ct4Q (I : Mem) (hG : Globs I) (v0 v1 v2 : Value) (h0 : Q5 I v0) (h1 : Q9 I v1) (h2 : Q30 I v2) : Ct Tryd.prog (fnv 4) #[v0, v1, v2] I (fun v _ => v = .bool true) := by
 obtain ⟨op, rfl, h⟩ := h0;obtain ⟨s, rfl, _⟩ := h1;obtain ⟨a, n, c, p, rfl, h3, _⟩ := h2;exact ct4 op h s p a n c I hG h3
