/- Part of a proof by the rules of the symbolic walk (see the law's own text): contracts of functions of the program. -/
import Derived.Test.YtjjjbafnplmjoaaDoork4
import Derived.Test.YtjjjbafnplmjoaaDoorRows
import Derived.Lib.LaidTab
import Derived.Lib.LaidU8
import Derived.Stop.LaidErr
import Derived.Stop.Joined
import Derived.Shelf.Vars
import Derived.Lay
import Derived.MakeChecks
import Derived.ProofKit
import Derived.Test.YtjjjbafnplmjoaaDoork3
set_option linter.unusedVariables false
set_option linter.unusedSimpArgs false
open Go Go.Proofs Go.SE Go.RowKit
set_option linter.unusedVariables false
set_option maxRecDepth 100000
theorem ct19 (p q : List Ins) (a b : Option Addr) (n m c d : Nat) (I : Mem) (h : InsM I a n p) (h' : InsM I b m q) : Ct Tryd.prog (fnv 19) #[.slice a n c, .slice b m d] I (fun v _ => v = .bool (decide (p = q))) := by
 obtain ⟨Q, hQ⟩ : ∃ w : Bool, w = decide (p = q) := ⟨_, rfl⟩;obtain ⟨N, hN⟩ : ∃ f : Int -> Prop, f = fun j : Int => 0 <= j /\ j <= n /\ n = m /\ p.take j.toNat = q.take j.toNat := ⟨_, rfl⟩;rw [<- hQ]
 refine viaR (ct_via (A := { loops := [(4, ⟨[(0, .keep), (1, .keep), (12, .keep), (13, .sh (.int .i64))], [], [], fun vals _ _ _ => match vals with | [.int .i64 j] => N j | _ => False, fun vals _ => match vals with | [.int .i64 j] => (n - j).toNat | _ => 0⟩)] }) Tryd.func19 rfl Tryd.call19 rfl rfl) (Br ((n : Int) != (m : Int)) (Value.bool false = .bool Q) ((Rf (SV.v (.slice a n c)) /\ Rf (SV.v (.slice b m d)) /\ Rf (SV.v (.int .i64 (n : Int))) /\ N 0) /\ ∀ (e : Mem), Mem -> I.le e -> ∀ (f : Int), N f -> Br (decide (f < (n : Int))) (0 <= f /\ f < (n : Int) /\ a.isSome = true /\ (5 : Nat) = 5 /\ ∃ g, atI e a (f.toNat * 5 + 0) = some (.int .u8 g) /\ ∃ i, atI e a (f.toNat * 5 + 1) = some (.int .u8 i) /\ ∃ j, atI e a (f.toNat * 5 + 2) = some (.int .u8 j) /\ ∃ k, atI e a (f.toNat * 5 + 3) = some (.int .u8 k) /\ ∃ l, atI e a (f.toNat * 5 + 4) = some (.int .i64 l) /\ 0 <= f /\ f < (m : Int) /\ b.isSome = true /\ (5 : Nat) = 5 /\ ∃ o, atI e b (f.toNat * 5 + 0) = some (.int .u8 o) /\ ∃ r, atI e b (f.toNat * 5 + 1) = some (.int .u8 r) /\ ∃ s, atI e b (f.toNat * 5 + 2) = some (.int .u8 s) /\ ∃ t, atI e b (f.toNat * 5 + 3) = some (.int .u8 t) /\ ∃ u, atI e b (f.toNat * 5 + 4) = some (.int .i64 u) /\ Br (!(g == o && (i == r && (j == s && (k == t && (l == u && true)))))) (Value.bool false = .bool Q) (Wr .i64 (f + 1) (fun v => Rf (SV.v (.slice a n c)) /\ Rf (SV.v (.slice b m d)) /\ Rf (SV.v (.int .i64 (n : Int))) /\ N v /\ Int.toNat ((n : Int) - v) < Int.toNat ((n : Int) - f)))) (Value.bool true = .bool Q))) (by kernel_rfl) ?_
 have hl := h.len;have hl' := h'.len;have hmx : n <= maxLen := SlR.max h
 have hmx2 : maxLen <= 9223372036854775807 := by decide
 refine Br.mk (fun h1 => ?_) (fun h1 => ⟨⟨rfl, rfl, rfl, by rw [hN]; exact ⟨by omega, by omega, Int.natCast_inj.1 (by simpa using h1), rfl⟩⟩, fun e G le f hf => ?_⟩)
 · rw [hQ, decide_eq_false]
   rintro rfl;have : n = m := hl.symm.trans hl';subst this;simp at h1
 rw [hN] at hf ⊢;obtain ⟨h2, h3, h4, h5⟩ := hf;refine Br.mk (fun h6 => ?_) (fun h6 => ?_)
 · have h6 := of_decide_eq_true h6
   obtain ⟨i, g1, g2, e0, e1, e2, e3, e4⟩ := (h.mono le).get h2 h6
   obtain ⟨j, k1, k2, d0, d1, d2, d3, d4⟩ := (h'.mono le).get h2 (by omega)
   have t1 : p.take (f + 1).toNat = p.take f.toNat ++ [i] := by rw [show (f + 1).toNat = f.toNat + 1 by omega, List.take_add_one, g1]; rfl
   have t2 : q.take (f + 1).toNat = q.take f.toNat ++ [j] := by rw [show (f + 1).toNat = f.toNat + 1 by omega, List.take_add_one, k1]; rfl
   refine ⟨h2, h6, SlR.isSome (h.mono le) (by omega), rfl, _, e0, _, e1, _, e2, _, e3, _, e4, h2, by omega, SlR.isSome (h'.mono le) (by omega), rfl, _, d0, _, d1, _, d2, _, d3, _, d4, Br.mk (fun h7 => ?_) (fun h7 => ?_)⟩
   · rw [hQ, decide_eq_false]
     rintro rfl;rw [g1] at k1;cases k1;simp at h7
   · have hij : i = j := by
      obtain ⟨o, a1, b1, c1, n1⟩ := i;obtain ⟨o2, a2, b2, c2, n2⟩ := j;simp only [Bool.not_eq_false', Bool.and_eq_true, beq_iff_eq, and_true] at h7;obtain ⟨rfl, rfl, rfl, rfl, rfl⟩ := h7;rfl
     exact wr_i64 (by omega) (by omega) ⟨rfl, rfl, rfl, ⟨by omega, by omega, h4, by rw [t1, t2, h5, hij]⟩, by omega⟩
 · have h6 := of_decide_eq_false h6
   rw [List.take_of_length_le (by omega), List.take_of_length_le (by omega)] at h5
   rw [hQ, decide_eq_true h5]
def awT1 : Tx := [108, 111, 111, 112, 58, 32, 115, 117, 98, 32, 114, 49, 32, 114, 49, 32, 114, 50, 32, 59, 32, 100, 111, 119, 110, 10, 32, 32, 106, 122, 32, 114, 49, 32, 101, 110, 100, 10, 32, 32, 106, 117, 109, 112, 32, 108, 111, 111, 112, 10, 101, 110, 100, 58, 10, 32, 32, 104, 97, 108, 116, 10]
def awT2 : Tx := [108, 48, 58, 10, 32, 32, 115, 117, 98, 32, 114, 49, 32, 114, 49, 32, 114, 50, 10, 32, 32, 106, 122, 32, 114, 49, 32, 108, 51, 10, 32, 32, 106, 117, 109, 112, 32, 108, 48, 10, 108, 51, 58, 10, 32, 32, 104, 97, 108, 116, 10]
def awP : List Ins := [⟨34, 1, 1, 2, 0⟩, ⟨10, 1, 0, 0, 3⟩, ⟨9, 0, 0, 0, 0⟩, ⟨1, 0, 0, 0, 0⟩]
def awL : Array MapEntry := #[⟨.string ⟨#[115, 101, 116, 32, 114, 49]⟩, .int .i64 151, 0⟩, ⟨.string ⟨#[115, 101, 116, 32, 114, 56, 32, 49]⟩, .int .i64 152, 1⟩, ⟨.string ⟨#[115, 101, 116, 32, 114, 49, 32, 48, 49]⟩, .int .i64 152, 2⟩, ⟨.string ⟨#[102, 111, 111]⟩, .int .i64 150, 3⟩, ⟨.string ⟨#[106, 117, 109, 112, 32, 110, 111, 119, 104, 101, 114, 101]⟩, .int .i64 155, 4⟩, ⟨.string ⟨#[106, 117, 109, 112, 32, 49, 120]⟩, .int .i64 153, 5⟩, ⟨.string ⟨#[97, 58]⟩, .int .i64 156, 6⟩, ⟨.string ⟨#[109, 111, 118, 101, 32, 114, 49, 32, 114, 50]⟩, .int .i64 143, 7⟩]
theorem aw1 : parseA awT1 = (awP, 0, 0) := by decide +kernel
theorem aw2 : writeA awP = (awT2, 0) := by decide +kernel
theorem aw3_0 : parseA [115, 101, 116, 32, 114, 49] = ([], 1, 151) := by decide +kernel
theorem aw3_1 : parseA [115, 101, 116, 32, 114, 56, 32, 49] = ([], 1, 152) := by decide +kernel
theorem aw3_2 : parseA [115, 101, 116, 32, 114, 49, 32, 48, 49] = ([], 1, 152) := by decide +kernel
theorem aw3_3 : parseA [102, 111, 111] = ([], 1, 150) := by decide +kernel
theorem aw3_4 : parseA [106, 117, 109, 112, 32, 110, 111, 119, 104, 101, 114, 101] = ([], 1, 155) := by decide +kernel
theorem aw3_5 : parseA [106, 117, 109, 112, 32, 49, 120] = ([], 1, 153) := by decide +kernel
theorem aw3_6 : parseA [97, 58] = ([], 1, 156) := by decide +kernel
theorem aw3_7 : parseA [109, 111, 118, 101, 32, 114, 49, 32, 114, 50] = ([], 1, 143) := by decide +kernel
theorem aw4 : parseA [] = ([], 0, 6) := by decide +kernel
set_option maxHeartbeats 2000000 in
theorem ct8 (I : Mem) (hG : Globs I) : Ct Tryd.prog (fnv 8) #[] I (fun v _ => v = .bool true) := by
 refine viaR (ct_via (A := { loops := [(8, ⟨[(45, .keep)], [(1, .keep), (2, .iter)], [], fun vals xss _ _ => match vals, xss with | [], [_] => True | _, _ => False, fun vals xss => match xss with | [x] => (leftOf awL (decI x)).size | _ => 0⟩)] }) Tryd.func8 rfl Tryd.call8 rfl rfl) (Ct Tryd.prog (fnv 17) #[.string ⟨#[108, 111, 111, 112, 58, 32, 115, 117, 98, 32, 114, 49, 32, 114, 49, 32, 114, 50, 32, 59, 32, 100, 111, 119, 110, 10, 32, 32, 106, 122, 32, 114, 49, 32, 101, 110, 100, 10, 32, 32, 106, 117, 109, 112, 32, 108, 111, 111, 112, 10, 101, 110, 100, 58, 10, 32, 32, 104, 97, 108, 116, 10]⟩] I fun (v : Value) (a : Mem) => ∃ (b : Option Addr) (n c : Nat) (d e : Int), v = .tuple #[.slice b n c, .int .i64 d, .int .i64 e] /\ Br (e != 0) (Value.bool false = .bool true) (Br (d != 0) (Value.bool false = .bool true) (∀ (f : Nat) (g : Mem), a.le g -> g f = some (.cells #[.int .u8 34, .int .u8 1, .int .u8 1, .int .u8 2, .int .i64 0, .int .u8 10, .int .u8 1, .int .u8 0, .int .u8 0, .int .i64 3, .int .u8 9, .int .u8 0, .int .u8 0, .int .u8 0, .int .i64 0, .int .u8 1, .int .u8 0, .int .u8 0, .int .u8 0, .int .i64 0] 44 (0, 0)) -> Ct Tryd.prog (fnv 19) #[.slice b n c, .slice (some ⟨f, 0, none⟩) 4 4] g fun (h : Value) (i : Mem) => ∃ (j : Bool), h = .bool j /\ Br (!j) (Value.bool false = .bool true) (Ct Tryd.prog (fnv 16) #[.slice b n c] i (fun (k : Value) (l : Mem) => ∃ (q : ByteArray) (m : Int), k = .tuple #[.string q, .int .i64 m] /\ Br (m != 0) (Value.bool false = .bool true) (Br (!(q.toList == (ByteArray.mk #[108, 48, 58, 10, 32, 32, 115, 117, 98, 32, 114, 49, 32, 114, 49, 32, 114, 50, 10, 32, 32, 106, 122, 32, 114, 49, 32, 108, 51, 10, 32, 32, 106, 117, 109, 112, 32, 108, 48, 10, 108, 51, 58, 10, 32, 32, 104, 97, 108, 116, 10]).toList)) (Value.bool false = .bool true) (∀ (o : Nat), o = o /\ true = true /\ Rf (some (none : Option (Prod Nat Value))) /\ o = o /\ true = true /\ Rf (some (none : Option (Prod Nat Value))) /\ o = o /\ true = true /\ Rf (some (none : Option (Prod Nat Value))) /\ o = o /\ true = true /\ Rf (some (none : Option (Prod Nat Value))) /\ o = o /\ true = true /\ Rf (some (none : Option (Prod Nat Value))) /\ o = o /\ true = true /\ Rf (some (none : Option (Prod Nat Value))) /\ o = o /\ true = true /\ Rf (some (none : Option (Prod Nat Value))) /\ o = o /\ true = true /\ Rf (some (none : Option (Prod Nat Value))) /\ o = o /\ (Rf (Ent.mk (.raw (.map #[⟨.string ⟨#[115, 101, 116, 32, 114, 49]⟩, .int .i64 151, 0⟩, ⟨.string ⟨#[115, 101, 116, 32, 114, 56, 32, 49]⟩, .int .i64 152, 1⟩, ⟨.string ⟨#[115, 101, 116, 32, 114, 49, 32, 48, 49]⟩, .int .i64 152, 2⟩, ⟨.string ⟨#[102, 111, 111]⟩, .int .i64 150, 3⟩, ⟨.string ⟨#[106, 117, 109, 112, 32, 110, 111, 119, 104, 101, 114, 101]⟩, .int .i64 155, 4⟩, ⟨.string ⟨#[106, 117, 109, 112, 32, 49, 120]⟩, .int .i64 153, 5⟩, ⟨.string ⟨#[97, 58]⟩, .int .i64 156, 6⟩, ⟨.string ⟨#[109, 111, 118, 101, 32, 114, 49, 32, 114, 50]⟩, .int .i64 143, 7⟩] 8)) (some o)) /\ (Rf (some o) /\ (8 : Nat) = 8 /\ (8 : Nat) = 8 /\ Rf (none : Option Nat)) /\ Rf (SV.ptr 2 0) /\ True) /\ ∀ (p : Mem), Mem -> l.le p -> ∀ (x : List Value), True -> o = o /\ true = true /\ (8 : Nat) <= 8 /\ ((leftOf #[⟨.string ⟨#[115, 101, 116, 32, 114, 49]⟩, .int .i64 151, 0⟩, ⟨.string ⟨#[115, 101, 116, 32, 114, 56, 32, 49]⟩, .int .i64 152, 1⟩, ⟨.string ⟨#[115, 101, 116, 32, 114, 49, 32, 48, 49]⟩, .int .i64 152, 2⟩, ⟨.string ⟨#[102, 111, 111]⟩, .int .i64 150, 3⟩, ⟨.string ⟨#[106, 117, 109, 112, 32, 110, 111, 119, 104, 101, 114, 101]⟩, .int .i64 155, 4⟩, ⟨.string ⟨#[106, 117, 109, 112, 32, 49, 120]⟩, .int .i64 153, 5⟩, ⟨.string ⟨#[97, 58]⟩, .int .i64 156, 6⟩, ⟨.string ⟨#[109, 111, 118, 101, 32, 114, 49, 32, 114, 50]⟩, .int .i64 143, 7⟩] (decI x)).size = 0 -> Ct Tryd.prog (fnv 17) #[.string ⟨#[]⟩] p fun (r : Value) (s : Mem) => ∃ (t : Option Addr) (u w : Nat) (y z : Int), r = .tuple #[.slice t u w, .int .i64 y, .int .i64 z] /\ Br (y == 0) (Value.bool (z == 6) = .bool true) (Value.bool false = .bool true)) /\ ((decI x).contains (0 : Nat) = false -> o = o /\ (8 : Nat) = 8 /\ List.Nodup [(0 : Nat), 1, 2, 3, 4, 5, 6, 7] /\ (∃ (s : Array Nat) (r : Nat), ((decI x).toList.concat (0 : Nat)).toArray = s.push r /\ Membership.mem [MapEntry.mk (.string ⟨#[115, 101, 116, 32, 114, 49]⟩) (.int .i64 151) 0, ⟨.string ⟨#[115, 101, 116, 32, 114, 56, 32, 49]⟩, .int .i64 152, 1⟩, ⟨.string ⟨#[115, 101, 116, 32, 114, 49, 32, 48, 49]⟩, .int .i64 152, 2⟩, ⟨.string ⟨#[102, 111, 111]⟩, .int .i64 150, 3⟩, ⟨.string ⟨#[106, 117, 109, 112, 32, 110, 111, 119, 104, 101, 114, 101]⟩, .int .i64 155, 4⟩, ⟨.string ⟨#[106, 117, 109, 112, 32, 49, 120]⟩, .int .i64 153, 5⟩, ⟨.string ⟨#[97, 58]⟩, .int .i64 156, 6⟩, ⟨.string ⟨#[109, 111, 118, 101, 32, 114, 49, 32, 114, 50]⟩, .int .i64 143, 7⟩] (MapEntry.mk (.string ⟨#[115, 101, 116, 32, 114, 49]⟩) (.int .i64 151) r)) /\ Ct Tryd.prog (fnv 17) #[.string ⟨#[115, 101, 116, 32, 114, 49]⟩] p fun (r : Value) (s : Mem) => ∃ (t : Option Addr) (u w : Nat) (y z : Int), r = .tuple #[.slice t u w, .int .i64 y, .int .i64 z] /\ Br (y != 1) (Value.bool false = .bool true) (Br (z != 151) (Value.bool false = .bool true) (Rf (Ent.mk (.raw (.map #[⟨.string ⟨#[115, 101, 116, 32, 114, 49]⟩, .int .i64 151, 0⟩, ⟨.string ⟨#[115, 101, 116, 32, 114, 56, 32, 49]⟩, .int .i64 152, 1⟩, ⟨.string ⟨#[115, 101, 116, 32, 114, 49, 32, 48, 49]⟩, .int .i64 152, 2⟩, ⟨.string ⟨#[102, 111, 111]⟩, .int .i64 150, 3⟩, ⟨.string ⟨#[106, 117, 109, 112, 32, 110, 111, 119, 104, 101, 114, 101]⟩, .int .i64 155, 4⟩, ⟨.string ⟨#[106, 117, 109, 112, 32, 49, 120]⟩, .int .i64 153, 5⟩, ⟨.string ⟨#[97, 58]⟩, .int .i64 156, 6⟩, ⟨.string ⟨#[109, 111, 118, 101, 32, 114, 49, 32, 114, 50]⟩, .int .i64 143, 7⟩] 8)) (some o)) /\ (Rf (some o) /\ (8 : Nat) = 8 /\ (8 : Nat) = 8 /\ Rf (none : Option Nat)) /\ Rf (SV.ptr 2 0) /\ True /\ (leftOf #[⟨.string ⟨#[115, 101, 116, 32, 114, 49]⟩, .int .i64 151, 0⟩, ⟨.string ⟨#[115, 101, 116, 32, 114, 56, 32, 49]⟩, .int .i64 152, 1⟩, ⟨.string ⟨#[115, 101, 116, 32, 114, 49, 32, 48, 49]⟩, .int .i64 152, 2⟩, ⟨.string ⟨#[102, 111, 111]⟩, .int .i64 150, 3⟩, ⟨.string ⟨#[106, 117, 109, 112, 32, 110, 111, 119, 104, 101, 114, 101]⟩, .int .i64 155, 4⟩, ⟨.string ⟨#[106, 117, 109, 112, 32, 49, 120]⟩, .int .i64 153, 5⟩, ⟨.string ⟨#[97, 58]⟩, .int .i64 156, 6⟩, ⟨.string ⟨#[109, 111, 118, 101, 32, 114, 49, 32, 114, 50]⟩, .int .i64 143, 7⟩] (decI (encI ((decI x).toList.concat (0 : Nat)).toArray))).size < (leftOf #[⟨.string ⟨#[115, 101, 116, 32, 114, 49]⟩, .int .i64 151, 0⟩, ⟨.string ⟨#[115, 101, 116, 32, 114, 56, 32, 49]⟩, .int .i64 152, 1⟩, ⟨.string ⟨#[115, 101, 116, 32, 114, 49, 32, 48, 49]⟩, .int .i64 152, 2⟩, ⟨.string ⟨#[102, 111, 111]⟩, .int .i64 150, 3⟩, ⟨.string ⟨#[106, 117, 109, 112, 32, 110, 111, 119, 104, 101, 114, 101]⟩, .int .i64 155, 4⟩, ⟨.string ⟨#[106, 117, 109, 112, 32, 49, 120]⟩, .int .i64 153, 5⟩, ⟨.string ⟨#[97, 58]⟩, .int .i64 156, 6⟩, ⟨.string ⟨#[109, 111, 118, 101, 32, 114, 49, 32, 114, 50]⟩, .int .i64 143, 7⟩] (decI x)).size))) /\ ((decI x).contains (1 : Nat) = false -> o = o /\ (8 : Nat) = 8 /\ List.Nodup [(0 : Nat), 1, 2, 3, 4, 5, 6, 7] /\ (∃ (s : Array Nat) (r : Nat), ((decI x).toList.concat (1 : Nat)).toArray = s.push r /\ Membership.mem [MapEntry.mk (.string ⟨#[115, 101, 116, 32, 114, 49]⟩) (.int .i64 151) 0, ⟨.string ⟨#[115, 101, 116, 32, 114, 56, 32, 49]⟩, .int .i64 152, 1⟩, ⟨.string ⟨#[115, 101, 116, 32, 114, 49, 32, 48, 49]⟩, .int .i64 152, 2⟩, ⟨.string ⟨#[102, 111, 111]⟩, .int .i64 150, 3⟩, ⟨.string ⟨#[106, 117, 109, 112, 32, 110, 111, 119, 104, 101, 114, 101]⟩, .int .i64 155, 4⟩, ⟨.string ⟨#[106, 117, 109, 112, 32, 49, 120]⟩, .int .i64 153, 5⟩, ⟨.string ⟨#[97, 58]⟩, .int .i64 156, 6⟩, ⟨.string ⟨#[109, 111, 118, 101, 32, 114, 49, 32, 114, 50]⟩, .int .i64 143, 7⟩] (MapEntry.mk (.string ⟨#[115, 101, 116, 32, 114, 56, 32, 49]⟩) (.int .i64 152) r)) /\ Ct Tryd.prog (fnv 17) #[.string ⟨#[115, 101, 116, 32, 114, 56, 32, 49]⟩] p fun (r : Value) (s : Mem) => ∃ (t : Option Addr) (u w : Nat) (y z : Int), r = .tuple #[.slice t u w, .int .i64 y, .int .i64 z] /\ Br (y != 1) (Value.bool false = .bool true) (Br (z != 152) (Value.bool false = .bool true) (Rf (Ent.mk (.raw (.map #[⟨.string ⟨#[115, 101, 116, 32, 114, 49]⟩, .int .i64 151, 0⟩, ⟨.string ⟨#[115, 101, 116, 32, 114, 56, 32, 49]⟩, .int .i64 152, 1⟩, ⟨.string ⟨#[115, 101, 116, 32, 114, 49, 32, 48, 49]⟩, .int .i64 152, 2⟩, ⟨.string ⟨#[102, 111, 111]⟩, .int .i64 150, 3⟩, ⟨.string ⟨#[106, 117, 109, 112, 32, 110, 111, 119, 104, 101, 114, 101]⟩, .int .i64 155, 4⟩, ⟨.string ⟨#[106, 117, 109, 112, 32, 49, 120]⟩, .int .i64 153, 5⟩, ⟨.string ⟨#[97, 58]⟩, .int .i64 156, 6⟩, ⟨.string ⟨#[109, 111, 118, 101, 32, 114, 49, 32, 114, 50]⟩, .int .i64 143, 7⟩] 8)) (some o)) /\ (Rf (some o) /\ (8 : Nat) = 8 /\ (8 : Nat) = 8 /\ Rf (none : Option Nat)) /\ Rf (SV.ptr 2 0) /\ True /\ (leftOf #[⟨.string ⟨#[115, 101, 116, 32, 114, 49]⟩, .int .i64 151, 0⟩, ⟨.string ⟨#[115, 101, 116, 32, 114, 56, 32, 49]⟩, .int .i64 152, 1⟩, ⟨.string ⟨#[115, 101, 116, 32, 114, 49, 32, 48, 49]⟩, .int .i64 152, 2⟩, ⟨.string ⟨#[102, 111, 111]⟩, .int .i64 150, 3⟩, ⟨.string ⟨#[106, 117, 109, 112, 32, 110, 111, 119, 104, 101, 114, 101]⟩, .int .i64 155, 4⟩, ⟨.string ⟨#[106, 117, 109, 112, 32, 49, 120]⟩, .int .i64 153, 5⟩, ⟨.string ⟨#[97, 58]⟩, .int .i64 156, 6⟩, ⟨.string ⟨#[109, 111, 118, 101, 32, 114, 49, 32, 114, 50]⟩, .int .i64 143, 7⟩] (decI (encI ((decI x).toList.concat (1 : Nat)).toArray))).size < (leftOf #[⟨.string ⟨#[115, 101, 116, 32, 114, 49]⟩, .int .i64 151, 0⟩, ⟨.string ⟨#[115, 101, 116, 32, 114, 56, 32, 49]⟩, .int .i64 152, 1⟩, ⟨.string ⟨#[115, 101, 116, 32, 114, 49, 32, 48, 49]⟩, .int .i64 152, 2⟩, ⟨.string ⟨#[102, 111, 111]⟩, .int .i64 150, 3⟩, ⟨.string ⟨#[106, 117, 109, 112, 32, 110, 111, 119, 104, 101, 114, 101]⟩, .int .i64 155, 4⟩, ⟨.string ⟨#[106, 117, 109, 112, 32, 49, 120]⟩, .int .i64 153, 5⟩, ⟨.string ⟨#[97, 58]⟩, .int .i64 156, 6⟩, ⟨.string ⟨#[109, 111, 118, 101, 32, 114, 49, 32, 114, 50]⟩, .int .i64 143, 7⟩] (decI x)).size))) /\ ((decI x).contains (2 : Nat) = false -> o = o /\ (8 : Nat) = 8 /\ List.Nodup [(0 : Nat), 1, 2, 3, 4, 5, 6, 7] /\ (∃ (s : Array Nat) (r : Nat), ((decI x).toList.concat (2 : Nat)).toArray = s.push r /\ Membership.mem [MapEntry.mk (.string ⟨#[115, 101, 116, 32, 114, 49]⟩) (.int .i64 151) 0, ⟨.string ⟨#[115, 101, 116, 32, 114, 56, 32, 49]⟩, .int .i64 152, 1⟩, ⟨.string ⟨#[115, 101, 116, 32, 114, 49, 32, 48, 49]⟩, .int .i64 152, 2⟩, ⟨.string ⟨#[102, 111, 111]⟩, .int .i64 150, 3⟩, ⟨.string ⟨#[106, 117, 109, 112, 32, 110, 111, 119, 104, 101, 114, 101]⟩, .int .i64 155, 4⟩, ⟨.string ⟨#[106, 117, 109, 112, 32, 49, 120]⟩, .int .i64 153, 5⟩, ⟨.string ⟨#[97, 58]⟩, .int .i64 156, 6⟩, ⟨.string ⟨#[109, 111, 118, 101, 32, 114, 49, 32, 114, 50]⟩, .int .i64 143, 7⟩] (MapEntry.mk (.string ⟨#[115, 101, 116, 32, 114, 49, 32, 48, 49]⟩) (.int .i64 152) r)) /\ Ct Tryd.prog (fnv 17) #[.string ⟨#[115, 101, 116, 32, 114, 49, 32, 48, 49]⟩] p fun (r : Value) (s : Mem) => ∃ (t : Option Addr) (u w : Nat) (y z : Int), r = .tuple #[.slice t u w, .int .i64 y, .int .i64 z] /\ Br (y != 1) (Value.bool false = .bool true) (Br (z != 152) (Value.bool false = .bool true) (Rf (Ent.mk (.raw (.map #[⟨.string ⟨#[115, 101, 116, 32, 114, 49]⟩, .int .i64 151, 0⟩, ⟨.string ⟨#[115, 101, 116, 32, 114, 56, 32, 49]⟩, .int .i64 152, 1⟩, ⟨.string ⟨#[115, 101, 116, 32, 114, 49, 32, 48, 49]⟩, .int .i64 152, 2⟩, ⟨.string ⟨#[102, 111, 111]⟩, .int .i64 150, 3⟩, ⟨.string ⟨#[106, 117, 109, 112, 32, 110, 111, 119, 104, 101, 114, 101]⟩, .int .i64 155, 4⟩, ⟨.string ⟨#[106, 117, 109, 112, 32, 49, 120]⟩, .int .i64 153, 5⟩, ⟨.string ⟨#[97, 58]⟩, .int .i64 156, 6⟩, ⟨.string ⟨#[109, 111, 118, 101, 32, 114, 49, 32, 114, 50]⟩, .int .i64 143, 7⟩] 8)) (some o)) /\ (Rf (some o) /\ (8 : Nat) = 8 /\ (8 : Nat) = 8 /\ Rf (none : Option Nat)) /\ Rf (SV.ptr 2 0) /\ True /\ (leftOf #[⟨.string ⟨#[115, 101, 116, 32, 114, 49]⟩, .int .i64 151, 0⟩, ⟨.string ⟨#[115, 101, 116, 32, 114, 56, 32, 49]⟩, .int .i64 152, 1⟩, ⟨.string ⟨#[115, 101, 116, 32, 114, 49, 32, 48, 49]⟩, .int .i64 152, 2⟩, ⟨.string ⟨#[102, 111, 111]⟩, .int .i64 150, 3⟩, ⟨.string ⟨#[106, 117, 109, 112, 32, 110, 111, 119, 104, 101, 114, 101]⟩, .int .i64 155, 4⟩, ⟨.string ⟨#[106, 117, 109, 112, 32, 49, 120]⟩, .int .i64 153, 5⟩, ⟨.string ⟨#[97, 58]⟩, .int .i64 156, 6⟩, ⟨.string ⟨#[109, 111, 118, 101, 32, 114, 49, 32, 114, 50]⟩, .int .i64 143, 7⟩] (decI (encI ((decI x).toList.concat (2 : Nat)).toArray))).size < (leftOf #[⟨.string ⟨#[115, 101, 116, 32, 114, 49]⟩, .int .i64 151, 0⟩, ⟨.string ⟨#[115, 101, 116, 32, 114, 56, 32, 49]⟩, .int .i64 152, 1⟩, ⟨.string ⟨#[115, 101, 116, 32, 114, 49, 32, 48, 49]⟩, .int .i64 152, 2⟩, ⟨.string ⟨#[102, 111, 111]⟩, .int .i64 150, 3⟩, ⟨.string ⟨#[106, 117, 109, 112, 32, 110, 111, 119, 104, 101, 114, 101]⟩, .int .i64 155, 4⟩, ⟨.string ⟨#[106, 117, 109, 112, 32, 49, 120]⟩, .int .i64 153, 5⟩, ⟨.string ⟨#[97, 58]⟩, .int .i64 156, 6⟩, ⟨.string ⟨#[109, 111, 118, 101, 32, 114, 49, 32, 114, 50]⟩, .int .i64 143, 7⟩] (decI x)).size))) /\ ((decI x).contains (3 : Nat) = false -> o = o /\ (8 : Nat) = 8 /\ List.Nodup [(0 : Nat), 1, 2, 3, 4, 5, 6, 7] /\ (∃ (s : Array Nat) (r : Nat), ((decI x).toList.concat (3 : Nat)).toArray = s.push r /\ Membership.mem [MapEntry.mk (.string ⟨#[115, 101, 116, 32, 114, 49]⟩) (.int .i64 151) 0, ⟨.string ⟨#[115, 101, 116, 32, 114, 56, 32, 49]⟩, .int .i64 152, 1⟩, ⟨.string ⟨#[115, 101, 116, 32, 114, 49, 32, 48, 49]⟩, .int .i64 152, 2⟩, ⟨.string ⟨#[102, 111, 111]⟩, .int .i64 150, 3⟩, ⟨.string ⟨#[106, 117, 109, 112, 32, 110, 111, 119, 104, 101, 114, 101]⟩, .int .i64 155, 4⟩, ⟨.string ⟨#[106, 117, 109, 112, 32, 49, 120]⟩, .int .i64 153, 5⟩, ⟨.string ⟨#[97, 58]⟩, .int .i64 156, 6⟩, ⟨.string ⟨#[109, 111, 118, 101, 32, 114, 49, 32, 114, 50]⟩, .int .i64 143, 7⟩] (MapEntry.mk (.string ⟨#[102, 111, 111]⟩) (.int .i64 150) r)) /\ Ct Tryd.prog (fnv 17) #[.string ⟨#[102, 111, 111]⟩] p fun (r : Value) (s : Mem) => ∃ (t : Option Addr) (u w : Nat) (y z : Int), r = .tuple #[.slice t u w, .int .i64 y, .int .i64 z] /\ Br (y != 1) (Value.bool false = .bool true) (Br (z != 150) (Value.bool false = .bool true) (Rf (Ent.mk (.raw (.map #[⟨.string ⟨#[115, 101, 116, 32, 114, 49]⟩, .int .i64 151, 0⟩, ⟨.string ⟨#[115, 101, 116, 32, 114, 56, 32, 49]⟩, .int .i64 152, 1⟩, ⟨.string ⟨#[115, 101, 116, 32, 114, 49, 32, 48, 49]⟩, .int .i64 152, 2⟩, ⟨.string ⟨#[102, 111, 111]⟩, .int .i64 150, 3⟩, ⟨.string ⟨#[106, 117, 109, 112, 32, 110, 111, 119, 104, 101, 114, 101]⟩, .int .i64 155, 4⟩, ⟨.string ⟨#[106, 117, 109, 112, 32, 49, 120]⟩, .int .i64 153, 5⟩, ⟨.string ⟨#[97, 58]⟩, .int .i64 156, 6⟩, ⟨.string ⟨#[109, 111, 118, 101, 32, 114, 49, 32, 114, 50]⟩, .int .i64 143, 7⟩] 8)) (some o)) /\ (Rf (some o) /\ (8 : Nat) = 8 /\ (8 : Nat) = 8 /\ Rf (none : Option Nat)) /\ Rf (SV.ptr 2 0) /\ True /\ (leftOf #[⟨.string ⟨#[115, 101, 116, 32, 114, 49]⟩, .int .i64 151, 0⟩, ⟨.string ⟨#[115, 101, 116, 32, 114, 56, 32, 49]⟩, .int .i64 152, 1⟩, ⟨.string ⟨#[115, 101, 116, 32, 114, 49, 32, 48, 49]⟩, .int .i64 152, 2⟩, ⟨.string ⟨#[102, 111, 111]⟩, .int .i64 150, 3⟩, ⟨.string ⟨#[106, 117, 109, 112, 32, 110, 111, 119, 104, 101, 114, 101]⟩, .int .i64 155, 4⟩, ⟨.string ⟨#[106, 117, 109, 112, 32, 49, 120]⟩, .int .i64 153, 5⟩, ⟨.string ⟨#[97, 58]⟩, .int .i64 156, 6⟩, ⟨.string ⟨#[109, 111, 118, 101, 32, 114, 49, 32, 114, 50]⟩, .int .i64 143, 7⟩] (decI (encI ((decI x).toList.concat (3 : Nat)).toArray))).size < (leftOf #[⟨.string ⟨#[115, 101, 116, 32, 114, 49]⟩, .int .i64 151, 0⟩, ⟨.string ⟨#[115, 101, 116, 32, 114, 56, 32, 49]⟩, .int .i64 152, 1⟩, ⟨.string ⟨#[115, 101, 116, 32, 114, 49, 32, 48, 49]⟩, .int .i64 152, 2⟩, ⟨.string ⟨#[102, 111, 111]⟩, .int .i64 150, 3⟩, ⟨.string ⟨#[106, 117, 109, 112, 32, 110, 111, 119, 104, 101, 114, 101]⟩, .int .i64 155, 4⟩, ⟨.string ⟨#[106, 117, 109, 112, 32, 49, 120]⟩, .int .i64 153, 5⟩, ⟨.string ⟨#[97, 58]⟩, .int .i64 156, 6⟩, ⟨.string ⟨#[109, 111, 118, 101, 32, 114, 49, 32, 114, 50]⟩, .int .i64 143, 7⟩] (decI x)).size))) /\ ((decI x).contains (4 : Nat) = false -> o = o /\ (8 : Nat) = 8 /\ List.Nodup [(0 : Nat), 1, 2, 3, 4, 5, 6, 7] /\ (∃ (s : Array Nat) (r : Nat), ((decI x).toList.concat (4 : Nat)).toArray = s.push r /\ Membership.mem [MapEntry.mk (.string ⟨#[115, 101, 116, 32, 114, 49]⟩) (.int .i64 151) 0, ⟨.string ⟨#[115, 101, 116, 32, 114, 56, 32, 49]⟩, .int .i64 152, 1⟩, ⟨.string ⟨#[115, 101, 116, 32, 114, 49, 32, 48, 49]⟩, .int .i64 152, 2⟩, ⟨.string ⟨#[102, 111, 111]⟩, .int .i64 150, 3⟩, ⟨.string ⟨#[106, 117, 109, 112, 32, 110, 111, 119, 104, 101, 114, 101]⟩, .int .i64 155, 4⟩, ⟨.string ⟨#[106, 117, 109, 112, 32, 49, 120]⟩, .int .i64 153, 5⟩, ⟨.string ⟨#[97, 58]⟩, .int .i64 156, 6⟩, ⟨.string ⟨#[109, 111, 118, 101, 32, 114, 49, 32, 114, 50]⟩, .int .i64 143, 7⟩] (MapEntry.mk (.string ⟨#[106, 117, 109, 112, 32, 110, 111, 119, 104, 101, 114, 101]⟩) (.int .i64 155) r)) /\ Ct Tryd.prog (fnv 17) #[.string ⟨#[106, 117, 109, 112, 32, 110, 111, 119, 104, 101, 114, 101]⟩] p fun (r : Value) (s : Mem) => ∃ (t : Option Addr) (u w : Nat) (y z : Int), r = .tuple #[.slice t u w, .int .i64 y, .int .i64 z] /\ Br (y != 1) (Value.bool false = .bool true) (Br (z != 155) (Value.bool false = .bool true) (Rf (Ent.mk (.raw (.map #[⟨.string ⟨#[115, 101, 116, 32, 114, 49]⟩, .int .i64 151, 0⟩, ⟨.string ⟨#[115, 101, 116, 32, 114, 56, 32, 49]⟩, .int .i64 152, 1⟩, ⟨.string ⟨#[115, 101, 116, 32, 114, 49, 32, 48, 49]⟩, .int .i64 152, 2⟩, ⟨.string ⟨#[102, 111, 111]⟩, .int .i64 150, 3⟩, ⟨.string ⟨#[106, 117, 109, 112, 32, 110, 111, 119, 104, 101, 114, 101]⟩, .int .i64 155, 4⟩, ⟨.string ⟨#[106, 117, 109, 112, 32, 49, 120]⟩, .int .i64 153, 5⟩, ⟨.string ⟨#[97, 58]⟩, .int .i64 156, 6⟩, ⟨.string ⟨#[109, 111, 118, 101, 32, 114, 49, 32, 114, 50]⟩, .int .i64 143, 7⟩] 8)) (some o)) /\ (Rf (some o) /\ (8 : Nat) = 8 /\ (8 : Nat) = 8 /\ Rf (none : Option Nat)) /\ Rf (SV.ptr 2 0) /\ True /\ (leftOf #[⟨.string ⟨#[115, 101, 116, 32, 114, 49]⟩, .int .i64 151, 0⟩, ⟨.string ⟨#[115, 101, 116, 32, 114, 56, 32, 49]⟩, .int .i64 152, 1⟩, ⟨.string ⟨#[115, 101, 116, 32, 114, 49, 32, 48, 49]⟩, .int .i64 152, 2⟩, ⟨.string ⟨#[102, 111, 111]⟩, .int .i64 150, 3⟩, ⟨.string ⟨#[106, 117, 109, 112, 32, 110, 111, 119, 104, 101, 114, 101]⟩, .int .i64 155, 4⟩, ⟨.string ⟨#[106, 117, 109, 112, 32, 49, 120]⟩, .int .i64 153, 5⟩, ⟨.string ⟨#[97, 58]⟩, .int .i64 156, 6⟩, ⟨.string ⟨#[109, 111, 118, 101, 32, 114, 49, 32, 114, 50]⟩, .int .i64 143, 7⟩] (decI (encI ((decI x).toList.concat (4 : Nat)).toArray))).size < (leftOf #[⟨.string ⟨#[115, 101, 116, 32, 114, 49]⟩, .int .i64 151, 0⟩, ⟨.string ⟨#[115, 101, 116, 32, 114, 56, 32, 49]⟩, .int .i64 152, 1⟩, ⟨.string ⟨#[115, 101, 116, 32, 114, 49, 32, 48, 49]⟩, .int .i64 152, 2⟩, ⟨.string ⟨#[102, 111, 111]⟩, .int .i64 150, 3⟩, ⟨.string ⟨#[106, 117, 109, 112, 32, 110, 111, 119, 104, 101, 114, 101]⟩, .int .i64 155, 4⟩, ⟨.string ⟨#[106, 117, 109, 112, 32, 49, 120]⟩, .int .i64 153, 5⟩, ⟨.string ⟨#[97, 58]⟩, .int .i64 156, 6⟩, ⟨.string ⟨#[109, 111, 118, 101, 32, 114, 49, 32, 114, 50]⟩, .int .i64 143, 7⟩] (decI x)).size))) /\ ((decI x).contains (5 : Nat) = false -> o = o /\ (8 : Nat) = 8 /\ List.Nodup [(0 : Nat), 1, 2, 3, 4, 5, 6, 7] /\ (∃ (s : Array Nat) (r : Nat), ((decI x).toList.concat (5 : Nat)).toArray = s.push r /\ Membership.mem [MapEntry.mk (.string ⟨#[115, 101, 116, 32, 114, 49]⟩) (.int .i64 151) 0, ⟨.string ⟨#[115, 101, 116, 32, 114, 56, 32, 49]⟩, .int .i64 152, 1⟩, ⟨.string ⟨#[115, 101, 116, 32, 114, 49, 32, 48, 49]⟩, .int .i64 152, 2⟩, ⟨.string ⟨#[102, 111, 111]⟩, .int .i64 150, 3⟩, ⟨.string ⟨#[106, 117, 109, 112, 32, 110, 111, 119, 104, 101, 114, 101]⟩, .int .i64 155, 4⟩, ⟨.string ⟨#[106, 117, 109, 112, 32, 49, 120]⟩, .int .i64 153, 5⟩, ⟨.string ⟨#[97, 58]⟩, .int .i64 156, 6⟩, ⟨.string ⟨#[109, 111, 118, 101, 32, 114, 49, 32, 114, 50]⟩, .int .i64 143, 7⟩] (MapEntry.mk (.string ⟨#[106, 117, 109, 112, 32, 49, 120]⟩) (.int .i64 153) r)) /\ Ct Tryd.prog (fnv 17) #[.string ⟨#[106, 117, 109, 112, 32, 49, 120]⟩] p fun (r : Value) (s : Mem) => ∃ (t : Option Addr) (u w : Nat) (y z : Int), r = .tuple #[.slice t u w, .int .i64 y, .int .i64 z] /\ Br (y != 1) (Value.bool false = .bool true) (Br (z != 153) (Value.bool false = .bool true) (Rf (Ent.mk (.raw (.map #[⟨.string ⟨#[115, 101, 116, 32, 114, 49]⟩, .int .i64 151, 0⟩, ⟨.string ⟨#[115, 101, 116, 32, 114, 56, 32, 49]⟩, .int .i64 152, 1⟩, ⟨.string ⟨#[115, 101, 116, 32, 114, 49, 32, 48, 49]⟩, .int .i64 152, 2⟩, ⟨.string ⟨#[102, 111, 111]⟩, .int .i64 150, 3⟩, ⟨.string ⟨#[106, 117, 109, 112, 32, 110, 111, 119, 104, 101, 114, 101]⟩, .int .i64 155, 4⟩, ⟨.string ⟨#[106, 117, 109, 112, 32, 49, 120]⟩, .int .i64 153, 5⟩, ⟨.string ⟨#[97, 58]⟩, .int .i64 156, 6⟩, ⟨.string ⟨#[109, 111, 118, 101, 32, 114, 49, 32, 114, 50]⟩, .int .i64 143, 7⟩] 8)) (some o)) /\ (Rf (some o) /\ (8 : Nat) = 8 /\ (8 : Nat) = 8 /\ Rf (none : Option Nat)) /\ Rf (SV.ptr 2 0) /\ True /\ (leftOf #[⟨.string ⟨#[115, 101, 116, 32, 114, 49]⟩, .int .i64 151, 0⟩, ⟨.string ⟨#[115, 101, 116, 32, 114, 56, 32, 49]⟩, .int .i64 152, 1⟩, ⟨.string ⟨#[115, 101, 116, 32, 114, 49, 32, 48, 49]⟩, .int .i64 152, 2⟩, ⟨.string ⟨#[102, 111, 111]⟩, .int .i64 150, 3⟩, ⟨.string ⟨#[106, 117, 109, 112, 32, 110, 111, 119, 104, 101, 114, 101]⟩, .int .i64 155, 4⟩, ⟨.string ⟨#[106, 117, 109, 112, 32, 49, 120]⟩, .int .i64 153, 5⟩, ⟨.string ⟨#[97, 58]⟩, .int .i64 156, 6⟩, ⟨.string ⟨#[109, 111, 118, 101, 32, 114, 49, 32, 114, 50]⟩, .int .i64 143, 7⟩] (decI (encI ((decI x).toList.concat (5 : Nat)).toArray))).size < (leftOf #[⟨.string ⟨#[115, 101, 116, 32, 114, 49]⟩, .int .i64 151, 0⟩, ⟨.string ⟨#[115, 101, 116, 32, 114, 56, 32, 49]⟩, .int .i64 152, 1⟩, ⟨.string ⟨#[115, 101, 116, 32, 114, 49, 32, 48, 49]⟩, .int .i64 152, 2⟩, ⟨.string ⟨#[102, 111, 111]⟩, .int .i64 150, 3⟩, ⟨.string ⟨#[106, 117, 109, 112, 32, 110, 111, 119, 104, 101, 114, 101]⟩, .int .i64 155, 4⟩, ⟨.string ⟨#[106, 117, 109, 112, 32, 49, 120]⟩, .int .i64 153, 5⟩, ⟨.string ⟨#[97, 58]⟩, .int .i64 156, 6⟩, ⟨.string ⟨#[109, 111, 118, 101, 32, 114, 49, 32, 114, 50]⟩, .int .i64 143, 7⟩] (decI x)).size))) /\ ((decI x).contains (6 : Nat) = false -> o = o /\ (8 : Nat) = 8 /\ List.Nodup [(0 : Nat), 1, 2, 3, 4, 5, 6, 7] /\ (∃ (s : Array Nat) (r : Nat), ((decI x).toList.concat (6 : Nat)).toArray = s.push r /\ Membership.mem [MapEntry.mk (.string ⟨#[115, 101, 116, 32, 114, 49]⟩) (.int .i64 151) 0, ⟨.string ⟨#[115, 101, 116, 32, 114, 56, 32, 49]⟩, .int .i64 152, 1⟩, ⟨.string ⟨#[115, 101, 116, 32, 114, 49, 32, 48, 49]⟩, .int .i64 152, 2⟩, ⟨.string ⟨#[102, 111, 111]⟩, .int .i64 150, 3⟩, ⟨.string ⟨#[106, 117, 109, 112, 32, 110, 111, 119, 104, 101, 114, 101]⟩, .int .i64 155, 4⟩, ⟨.string ⟨#[106, 117, 109, 112, 32, 49, 120]⟩, .int .i64 153, 5⟩, ⟨.string ⟨#[97, 58]⟩, .int .i64 156, 6⟩, ⟨.string ⟨#[109, 111, 118, 101, 32, 114, 49, 32, 114, 50]⟩, .int .i64 143, 7⟩] (MapEntry.mk (.string ⟨#[97, 58]⟩) (.int .i64 156) r)) /\ Ct Tryd.prog (fnv 17) #[.string ⟨#[97, 58]⟩] p fun (r : Value) (s : Mem) => ∃ (t : Option Addr) (u w : Nat) (y z : Int), r = .tuple #[.slice t u w, .int .i64 y, .int .i64 z] /\ Br (y != 1) (Value.bool false = .bool true) (Br (z != 156) (Value.bool false = .bool true) (Rf (Ent.mk (.raw (.map #[⟨.string ⟨#[115, 101, 116, 32, 114, 49]⟩, .int .i64 151, 0⟩, ⟨.string ⟨#[115, 101, 116, 32, 114, 56, 32, 49]⟩, .int .i64 152, 1⟩, ⟨.string ⟨#[115, 101, 116, 32, 114, 49, 32, 48, 49]⟩, .int .i64 152, 2⟩, ⟨.string ⟨#[102, 111, 111]⟩, .int .i64 150, 3⟩, ⟨.string ⟨#[106, 117, 109, 112, 32, 110, 111, 119, 104, 101, 114, 101]⟩, .int .i64 155, 4⟩, ⟨.string ⟨#[106, 117, 109, 112, 32, 49, 120]⟩, .int .i64 153, 5⟩, ⟨.string ⟨#[97, 58]⟩, .int .i64 156, 6⟩, ⟨.string ⟨#[109, 111, 118, 101, 32, 114, 49, 32, 114, 50]⟩, .int .i64 143, 7⟩] 8)) (some o)) /\ (Rf (some o) /\ (8 : Nat) = 8 /\ (8 : Nat) = 8 /\ Rf (none : Option Nat)) /\ Rf (SV.ptr 2 0) /\ True /\ (leftOf #[⟨.string ⟨#[115, 101, 116, 32, 114, 49]⟩, .int .i64 151, 0⟩, ⟨.string ⟨#[115, 101, 116, 32, 114, 56, 32, 49]⟩, .int .i64 152, 1⟩, ⟨.string ⟨#[115, 101, 116, 32, 114, 49, 32, 48, 49]⟩, .int .i64 152, 2⟩, ⟨.string ⟨#[102, 111, 111]⟩, .int .i64 150, 3⟩, ⟨.string ⟨#[106, 117, 109, 112, 32, 110, 111, 119, 104, 101, 114, 101]⟩, .int .i64 155, 4⟩, ⟨.string ⟨#[106, 117, 109, 112, 32, 49, 120]⟩, .int .i64 153, 5⟩, ⟨.string ⟨#[97, 58]⟩, .int .i64 156, 6⟩, ⟨.string ⟨#[109, 111, 118, 101, 32, 114, 49, 32, 114, 50]⟩, .int .i64 143, 7⟩] (decI (encI ((decI x).toList.concat (6 : Nat)).toArray))).size < (leftOf #[⟨.string ⟨#[115, 101, 116, 32, 114, 49]⟩, .int .i64 151, 0⟩, ⟨.string ⟨#[115, 101, 116, 32, 114, 56, 32, 49]⟩, .int .i64 152, 1⟩, ⟨.string ⟨#[115, 101, 116, 32, 114, 49, 32, 48, 49]⟩, .int .i64 152, 2⟩, ⟨.string ⟨#[102, 111, 111]⟩, .int .i64 150, 3⟩, ⟨.string ⟨#[106, 117, 109, 112, 32, 110, 111, 119, 104, 101, 114, 101]⟩, .int .i64 155, 4⟩, ⟨.string ⟨#[106, 117, 109, 112, 32, 49, 120]⟩, .int .i64 153, 5⟩, ⟨.string ⟨#[97, 58]⟩, .int .i64 156, 6⟩, ⟨.string ⟨#[109, 111, 118, 101, 32, 114, 49, 32, 114, 50]⟩, .int .i64 143, 7⟩] (decI x)).size))) /\ ((decI x).contains (7 : Nat) = false -> o = o /\ (8 : Nat) = 8 /\ List.Nodup [(0 : Nat), 1, 2, 3, 4, 5, 6, 7] /\ (∃ (s : Array Nat) (r : Nat), ((decI x).toList.concat (7 : Nat)).toArray = s.push r /\ Membership.mem [MapEntry.mk (.string ⟨#[115, 101, 116, 32, 114, 49]⟩) (.int .i64 151) 0, ⟨.string ⟨#[115, 101, 116, 32, 114, 56, 32, 49]⟩, .int .i64 152, 1⟩, ⟨.string ⟨#[115, 101, 116, 32, 114, 49, 32, 48, 49]⟩, .int .i64 152, 2⟩, ⟨.string ⟨#[102, 111, 111]⟩, .int .i64 150, 3⟩, ⟨.string ⟨#[106, 117, 109, 112, 32, 110, 111, 119, 104, 101, 114, 101]⟩, .int .i64 155, 4⟩, ⟨.string ⟨#[106, 117, 109, 112, 32, 49, 120]⟩, .int .i64 153, 5⟩, ⟨.string ⟨#[97, 58]⟩, .int .i64 156, 6⟩, ⟨.string ⟨#[109, 111, 118, 101, 32, 114, 49, 32, 114, 50]⟩, .int .i64 143, 7⟩] (MapEntry.mk (.string ⟨#[109, 111, 118, 101, 32, 114, 49, 32, 114, 50]⟩) (.int .i64 143) r)) /\ Ct Tryd.prog (fnv 17) #[.string ⟨#[109, 111, 118, 101, 32, 114, 49, 32, 114, 50]⟩] p fun (r : Value) (s : Mem) => ∃ (t : Option Addr) (u w : Nat) (y z : Int), r = .tuple #[.slice t u w, .int .i64 y, .int .i64 z] /\ Br (y != 1) (Value.bool false = .bool true) (Br (z != 143) (Value.bool false = .bool true) (Rf (Ent.mk (.raw (.map #[⟨.string ⟨#[115, 101, 116, 32, 114, 49]⟩, .int .i64 151, 0⟩, ⟨.string ⟨#[115, 101, 116, 32, 114, 56, 32, 49]⟩, .int .i64 152, 1⟩, ⟨.string ⟨#[115, 101, 116, 32, 114, 49, 32, 48, 49]⟩, .int .i64 152, 2⟩, ⟨.string ⟨#[102, 111, 111]⟩, .int .i64 150, 3⟩, ⟨.string ⟨#[106, 117, 109, 112, 32, 110, 111, 119, 104, 101, 114, 101]⟩, .int .i64 155, 4⟩, ⟨.string ⟨#[106, 117, 109, 112, 32, 49, 120]⟩, .int .i64 153, 5⟩, ⟨.string ⟨#[97, 58]⟩, .int .i64 156, 6⟩, ⟨.string ⟨#[109, 111, 118, 101, 32, 114, 49, 32, 114, 50]⟩, .int .i64 143, 7⟩] 8)) (some o)) /\ (Rf (some o) /\ (8 : Nat) = 8 /\ (8 : Nat) = 8 /\ Rf (none : Option Nat)) /\ Rf (SV.ptr 2 0) /\ True /\ (leftOf #[⟨.string ⟨#[115, 101, 116, 32, 114, 49]⟩, .int .i64 151, 0⟩, ⟨.string ⟨#[115, 101, 116, 32, 114, 56, 32, 49]⟩, .int .i64 152, 1⟩, ⟨.string ⟨#[115, 101, 116, 32, 114, 49, 32, 48, 49]⟩, .int .i64 152, 2⟩, ⟨.string ⟨#[102, 111, 111]⟩, .int .i64 150, 3⟩, ⟨.string ⟨#[106, 117, 109, 112, 32, 110, 111, 119, 104, 101, 114, 101]⟩, .int .i64 155, 4⟩, ⟨.string ⟨#[106, 117, 109, 112, 32, 49, 120]⟩, .int .i64 153, 5⟩, ⟨.string ⟨#[97, 58]⟩, .int .i64 156, 6⟩, ⟨.string ⟨#[109, 111, 118, 101, 32, 114, 49, 32, 114, 50]⟩, .int .i64 143, 7⟩] (decI (encI ((decI x).toList.concat (7 : Nat)).toArray))).size < (leftOf #[⟨.string ⟨#[115, 101, 116, 32, 114, 49]⟩, .int .i64 151, 0⟩, ⟨.string ⟨#[115, 101, 116, 32, 114, 56, 32, 49]⟩, .int .i64 152, 1⟩, ⟨.string ⟨#[115, 101, 116, 32, 114, 49, 32, 48, 49]⟩, .int .i64 152, 2⟩, ⟨.string ⟨#[102, 111, 111]⟩, .int .i64 150, 3⟩, ⟨.string ⟨#[106, 117, 109, 112, 32, 110, 111, 119, 104, 101, 114, 101]⟩, .int .i64 155, 4⟩, ⟨.string ⟨#[106, 117, 109, 112, 32, 49, 120]⟩, .int .i64 153, 5⟩, ⟨.string ⟨#[97, 58]⟩, .int .i64 156, 6⟩, ⟨.string ⟨#[109, 111, 118, 101, 32, 114, 49, 32, 114, 50]⟩, .int .i64 143, 7⟩] (decI x)).size)))))))))) (by kernel_rfl) ?_
 have hok : ∀ i ∈ awP, okI i := fun i hi => by
  simp only [awP, List.mem_cons, List.not_mem_nil, or_false] at hi
  rcases hi with rfl | rfl | rfl | rfl <;> exact ⟨by decide, by decide, by decide, by decide, by decide⟩
 refine (ct17 (strT awT1) (by rw [strT_size]; decide) I hG).mono fun v a la h => ?_
 rw [show tx (strT awT1) = awT1 from rfl, aw1] at h
 obtain ⟨b, n, c, hv, hp, h3, h4⟩ := h;refine ⟨b, n, c, 0, 0, hv, Br.f rfl (Br.f rfl fun f g lg hf => ?_)⟩
 have hins : InsM g (some ⟨f, 0, none⟩) 4 awP := ⟨insVs awP, sl_cells (n := 4) (sz := 5) hf rfl (by decide), rowR_ins g hok⟩
 refine (ct19 awP awP b (some ⟨f, 0, none⟩) n 4 c 4 g (hp.mono lg) hins).mono fun h i li hh => ⟨_, hh, Br.f (by simp) ?_⟩
 refine (ct16 awP b n c i (hG.mono (Mem.le_trans la (Mem.le_trans lg li))) (hp.mono (Mem.le_trans lg li))).mono fun k l lk hk => ?_;rw [aw2] at hk
 refine ⟨_, _, hk, Br.f rfl (Br.f (by show (!(strT awT2).toList == (strT awT2).toList) = false; rw [str_eq, decide_eq_true rfl]; rfl) fun o => ?_)⟩
 have hG : Globs l := hG.mono (Mem.le_trans la (Mem.le_trans lg (Mem.le_trans li lk)));simp only [Rf, eq_self, true_and, and_true, true_implies, decI_encI];intro I1 G1 hI1 xs
 refine ⟨by omega, fun hend => ?_, fun hs => ?_, fun hs => ?_, fun hs => ?_, fun hs => ?_, fun hs => ?_, fun hs => ?_, fun hs => ?_, fun hs => ?_⟩
 · refine (ct17 (strT []) (by rw [strT_size]; decide) I1 (hG.mono hI1)).mono fun v I2 hI2 ⟨b2, n2, c2, hv, _⟩ => ?_
   rw [show tx (strT []) = [] from rfl, aw4] at hv
   exact ⟨_, _, _, _, _, hv, Br.t rfl rfl⟩
 · refine ⟨by decide, ⟨decI xs, 0, rfl, by simp⟩, (ct17 (strT [115, 101, 116, 32, 114, 49]) (by rw [strT_size]; decide) I1 (hG.mono hI1)).mono fun v I2 hI2 ⟨b2, n2, c2, hv, _⟩ => ?_⟩
   rw [show tx (strT [115, 101, 116, 32, 114, 49]) = [115, 101, 116, 32, 114, 49] from rfl, aw3_0] at hv
   exact ⟨_, _, _, _, _, hv, Br.f rfl (Br.f rfl (left_lt (es := awL) (y := ⟨.string ⟨#[115, 101, 116, 32, 114, 49]⟩, .int .i64 151, 0⟩) (by simp [awL]) hs))⟩
 · refine ⟨by decide, ⟨decI xs, 1, rfl, by simp⟩, (ct17 (strT [115, 101, 116, 32, 114, 56, 32, 49]) (by rw [strT_size]; decide) I1 (hG.mono hI1)).mono fun v I2 hI2 ⟨b2, n2, c2, hv, _⟩ => ?_⟩
   rw [show tx (strT [115, 101, 116, 32, 114, 56, 32, 49]) = [115, 101, 116, 32, 114, 56, 32, 49] from rfl, aw3_1] at hv
   exact ⟨_, _, _, _, _, hv, Br.f rfl (Br.f rfl (left_lt (es := awL) (y := ⟨.string ⟨#[115, 101, 116, 32, 114, 56, 32, 49]⟩, .int .i64 152, 1⟩) (by simp [awL]) hs))⟩
 · refine ⟨by decide, ⟨decI xs, 2, rfl, by simp⟩, (ct17 (strT [115, 101, 116, 32, 114, 49, 32, 48, 49]) (by rw [strT_size]; decide) I1 (hG.mono hI1)).mono fun v I2 hI2 ⟨b2, n2, c2, hv, _⟩ => ?_⟩
   rw [show tx (strT [115, 101, 116, 32, 114, 49, 32, 48, 49]) = [115, 101, 116, 32, 114, 49, 32, 48, 49] from rfl, aw3_2] at hv
   exact ⟨_, _, _, _, _, hv, Br.f rfl (Br.f rfl (left_lt (es := awL) (y := ⟨.string ⟨#[115, 101, 116, 32, 114, 49, 32, 48, 49]⟩, .int .i64 152, 2⟩) (by simp [awL]) hs))⟩
 · refine ⟨by decide, ⟨decI xs, 3, rfl, by simp⟩, (ct17 (strT [102, 111, 111]) (by rw [strT_size]; decide) I1 (hG.mono hI1)).mono fun v I2 hI2 ⟨b2, n2, c2, hv, _⟩ => ?_⟩
   rw [show tx (strT [102, 111, 111]) = [102, 111, 111] from rfl, aw3_3] at hv
   exact ⟨_, _, _, _, _, hv, Br.f rfl (Br.f rfl (left_lt (es := awL) (y := ⟨.string ⟨#[102, 111, 111]⟩, .int .i64 150, 3⟩) (by simp [awL]) hs))⟩
 · refine ⟨by decide, ⟨decI xs, 4, rfl, by simp⟩, (ct17 (strT [106, 117, 109, 112, 32, 110, 111, 119, 104, 101, 114, 101]) (by rw [strT_size]; decide) I1 (hG.mono hI1)).mono fun v I2 hI2 ⟨b2, n2, c2, hv, _⟩ => ?_⟩
   rw [show tx (strT [106, 117, 109, 112, 32, 110, 111, 119, 104, 101, 114, 101]) = [106, 117, 109, 112, 32, 110, 111, 119, 104, 101, 114, 101] from rfl, aw3_4] at hv
   exact ⟨_, _, _, _, _, hv, Br.f rfl (Br.f rfl (left_lt (es := awL) (y := ⟨.string ⟨#[106, 117, 109, 112, 32, 110, 111, 119, 104, 101, 114, 101]⟩, .int .i64 155, 4⟩) (by simp [awL]) hs))⟩
 · refine ⟨by decide, ⟨decI xs, 5, rfl, by simp⟩, (ct17 (strT [106, 117, 109, 112, 32, 49, 120]) (by rw [strT_size]; decide) I1 (hG.mono hI1)).mono fun v I2 hI2 ⟨b2, n2, c2, hv, _⟩ => ?_⟩
   rw [show tx (strT [106, 117, 109, 112, 32, 49, 120]) = [106, 117, 109, 112, 32, 49, 120] from rfl, aw3_5] at hv
   exact ⟨_, _, _, _, _, hv, Br.f rfl (Br.f rfl (left_lt (es := awL) (y := ⟨.string ⟨#[106, 117, 109, 112, 32, 49, 120]⟩, .int .i64 153, 5⟩) (by simp [awL]) hs))⟩
 · refine ⟨by decide, ⟨decI xs, 6, rfl, by simp⟩, (ct17 (strT [97, 58]) (by rw [strT_size]; decide) I1 (hG.mono hI1)).mono fun v I2 hI2 ⟨b2, n2, c2, hv, _⟩ => ?_⟩
   rw [show tx (strT [97, 58]) = [97, 58] from rfl, aw3_6] at hv
   exact ⟨_, _, _, _, _, hv, Br.f rfl (Br.f rfl (left_lt (es := awL) (y := ⟨.string ⟨#[97, 58]⟩, .int .i64 156, 6⟩) (by simp [awL]) hs))⟩
 · refine ⟨by decide, ⟨decI xs, 7, rfl, by simp⟩, (ct17 (strT [109, 111, 118, 101, 32, 114, 49, 32, 114, 50]) (by rw [strT_size]; decide) I1 (hG.mono hI1)).mono fun v I2 hI2 ⟨b2, n2, c2, hv, _⟩ => ?_⟩
   rw [show tx (strT [109, 111, 118, 101, 32, 114, 49, 32, 114, 50]) = [109, 111, 118, 101, 32, 114, 49, 32, 114, 50] from rfl, aw3_7] at hv
   exact ⟨_, _, _, _, _, hv, Br.f rfl (Br.f rfl (left_lt (es := awL) (y := ⟨.string ⟨#[109, 111, 118, 101, 32, 114, 49, 32, 114, 50]⟩, .int .i64 143, 7⟩) (by simp [awL]) hs))⟩
def laidL : List (String × DataW Unit) := [("math/bits.deBruijn32tab", YtjjjbafnplmjoaaDoor.Rows.laid_math_bits_deBruijn32tab), ("math/bits.deBruijn64tab", YtjjjbafnplmjoaaDoor.Rows.laid_math_bits_deBruijn64tab), ("internal/strconv.uint64pow10", YtjjjbafnplmjoaaDoor.Rows.laid_internal_strconv_uint64pow10), ("strconv.ErrRange", YtjjjbafnplmjoaaDoor.Rows.laid_strconv_ErrRange), ("strconv.ErrSyntax", YtjjjbafnplmjoaaDoor.Rows.laid_strconv_ErrSyntax)]
theorem gPow : Tryd.prog.globalNamed "internal/strconv.uint64pow10" = some 1 := by kernel_rfl
theorem gSyn : Tryd.prog.globalNamed "strconv.ErrSyntax" = some 4 := by kernel_rfl
theorem gRng : Tryd.prog.globalNamed "strconv.ErrRange" = some 5 := by kernel_rfl
theorem cell_to {W w : World} (hw : (memW W).inW w) {a : Addr} {v : Value} (h : W.cell? a = some v) (hs : a.spot = none) : w.cell? a = some v := by
 refine cellM_world hw ?_;unfold World.cell? at h;unfold cellM memW;rw [hs] at h ⊢
 cases hb : W.heap[a.block]? with
 | none => rw [hb] at h; simp at h
 | some o =>
   rw [hb] at h
   cases o <;> simp_all
theorem var_to {W w : World} (hw : (memW W).inW w) {n : String} {cs : Array Value} (h : W.var? Tryd.prog n = some cs) : w.var? Tryd.prog n = some cs := by
 unfold World.var? at h ⊢
 cases hg : Tryd.prog.globalNamed n with
 | none => rw [hg] at h; cases h
 | some g =>
   rw [hg] at h;simp only [Option.bind_some] at h ⊢
   cases hb : W.heap[g]? with
   | none => rw [hb] at h; cases h
   | some o =>
     have := hw g o hb;rw [hb] at h
     rw [this]; exact h
theorem starS : "*errors.errorString" = "*" ++ "errors.errorString" := by decide +kernel
theorem rowS : ∀ u, Tryd.prog.typeName? 3 u = some "*errors.errorString" -> u = 190 := fun u h =>
 typeName_ptr_named (nm := "errors.errorString") (by rw [<- starS]; kernel_rfl) (by kernel_rfl) (by decide) u (by rw [<- starS]; exact h)
theorem sent {W : World} {n : String} {text : List UInt8} {r : List (String × DataW Unit)} {g : Nat} (hg : Tryd.prog.globalNamed n = some g) (ht : (Tryd.prog.globals[g]?).map (·.type) = some 84)
 (h : laidMet Tryd.prog ((n, .iface "*errors.errorString" (.ptr (.agg [.lit (.string text)]))) :: r) W) : ∃ tp p, W.cell? ⟨g, 0, none⟩ = some (.iface tp p) := by
 obtain ⟨a, s, hv, _⟩ := laid_sentinel h hg ht Tryd.underlying84 rowS Tryd.underlying190 Tryd.underlying192 rfl rfl Tryd.underlying9 (by kernel_rfl) (by kernel_rfl)
 have := World.var?_cell hg hv 0;exact ⟨_, _, this⟩
theorem globs_of {W : World} (hsh : W.ShapedOpen Tryd.prog) (hL : laidMetH Tryd.prog laidL W) : Globs (memW W) := by
 rw [MakeChecks.laidMetH_plain _ _ _ (by kernel_rfl)] at hL
 obtain ⟨m, hm⟩ := cell_of_shapedOpen_int (P := Tryd.prog) (g := 0) (t := 3) (zero := #[.int .i64 0]) (k := .i64) hsh (of_decide_eq_true (by kernel_rfl)) (by kernel_rfl) rfl (by kernel_rfl) (by kernel_rfl) Tryd.underlying3
 have h1 : laidMet Tryd.prog (laidL.drop 2) W := hL.tail.tail
 have hT : Lib.TabIs Tryd.prog W "internal/strconv.uint64pow10" .u64 Lib.pow10Tab := Lib.tabIs_of_head (t := 164) (e := 126) (n := 20) gPow (by kernel_rfl) (by kernel_rfl) (by kernel_rfl) (by kernel_rfl) (by kernel_rfl) h1
 have h2 : laidMet Tryd.prog (laidL.drop 3) W := hL.tail.tail.tail
 obtain ⟨t1, p1, hr⟩ := sent gRng (by kernel_rfl) h2
 obtain ⟨t2, p2, hs⟩ := sent gSyn (by kernel_rfl) h2.tail
 intro w hw;exact ⟨⟨m, cell_to hw hm rfl⟩, var_to hw hT, ⟨t2, p2, cell_to hw hs rfl⟩, ⟨t1, p1, cell_to hw hr rfl⟩⟩
theorem cells5 : Tryd.prog.cellsOf 5 = 1 := by kernel_rfl
section
variable {H : Type} {enc : TypeId × Value -> H} {W : World} {r : Reach} {b0 : Nat} {v : Value} {d : DataW H} {ps : List MemPlace}
end
def wordsB (op : Int) : Bool :=
 ((formT op).isSome == decide (wordT op ≠ [])) && (((findT (wordT op)).2 == (formT op).isSome) && ((!(formT op).isSome || (decide ((findT (wordT op)).1 = op) && nameB (wordT op))) && ((formT op).isSome || decide ((findT (wordT op)).1 = 0))))
theorem words_all : ∀ k : Fin 256, wordsB (k.val : Int) = true := by decide +kernel
theorem words_of {op : Int} (h : 0 <= op /\ op <= 255) : wordsB op = true := by
 have := words_all ⟨op.toNat, by omega⟩
 rwa [show ((op.toNat : Nat) : Int) = op by omega] at this
def shapeI (i : Ins) (l : Tx) : Prop :=
 (l = [] /\ i.a = 0 /\ i.b = 0 /\ i.c = 0 /\ i.n = 0) \/ (l = [114, 110] /\ i.a < 8 /\ i.b = 0 /\ i.c = 0) \/ (l = [114, 114] /\ i.a < 8 /\ i.b < 8 /\ i.c = 0 /\ i.n = 0) \/
 (l = [114, 114, 112] /\ i.a < 8 /\ i.b < 8 /\ i.c = 0 /\ 0 <= i.n /\ i.n < 16) \/ (l = [116] /\ i.a = 0 /\ i.b = 0 /\ i.c = 0 /\ 0 <= i.n /\ i.n < 256) \/
 (l = [114, 116] /\ i.a < 8 /\ i.b = 0 /\ i.c = 0 /\ 0 <= i.n /\ i.n < 256) \/ (l = [114, 114, 114] /\ i.a < 8 /\ i.b < 8 /\ i.c < 8 /\ i.n = 0)
set_option maxHeartbeats 8000000 in
theorem one_shape {i : Ins} (ho : okI i) (h : oneE i = 0) : ∃ l, formT i.op = some l /\ shapeI i l := by
 rw [oneE] at h
 have ha := ho.a; have hb := ho.b; have hc := ho.c
 rcases formT_cases i.op with hf | hf | hf | hf | hf | hf | hf | hf <;> rw [hf] at h <;> simp only at h
 · cases h
 · refine ⟨_, hf, .inl ⟨rfl, ?_⟩⟩
   rw [oneGo] at h
   split at h
   · rename_i hz; exact hz
   · cases h
 · refine ⟨_, hf, .inr (.inl ⟨rfl, ?_⟩)⟩
   simp only [oneGo, regAt, true_and] at h
   repeat' split at h
   all_goals simp_all
   all_goals omega
 · refine ⟨_, hf, .inr (.inr (.inl ⟨rfl, ?_⟩))⟩
   simp only [oneGo, regAt, true_and] at h
   repeat' split at h
   all_goals simp_all
   all_goals omega
 · refine ⟨_, hf, .inr (.inr (.inr (.inl ⟨rfl, ?_⟩)))⟩
   simp only [oneGo, regAt, true_and] at h
   repeat' split at h
   all_goals simp_all
   all_goals omega
 · refine ⟨_, hf, .inr (.inr (.inr (.inr (.inl ⟨rfl, ?_⟩))))⟩
   simp only [oneGo, regAt, true_and] at h
   repeat' split at h
   all_goals simp_all
   all_goals omega
 · refine ⟨_, hf, .inr (.inr (.inr (.inr (.inr (.inl ⟨rfl, ?_⟩)))))⟩
   simp only [oneGo, regAt, true_and] at h
   repeat' split at h
   all_goals simp_all
   all_goals omega
 · refine ⟨_, hf, .inr (.inr (.inr (.inr (.inr (.inr ⟨rfl, ?_⟩)))))⟩
   simp only [oneGo, regAt, true_and] at h
   repeat' split at h
   all_goals simp_all
   all_goals omega
theorem shape_one {i : Ins} {l : Tx} (hf : formT i.op = some l) (h : shapeI i l) : oneE i = 0 := by
 rw [oneE, hf]
 simp only
 unfold shapeI at h
 rcases h with ⟨rfl, h⟩ | ⟨rfl, h⟩ | ⟨rfl, h⟩ | ⟨rfl, h⟩ | ⟨rfl, h⟩ | ⟨rfl, h⟩ | ⟨rfl, h⟩ <;> simp_all [oneGo, regAt]
theorem reg_itoa {r : Int} (h0 : 0 <= r) (h1 : r < 8) : regT (114 :: Lib.itoa r) = some r := by
 have : ∀ k : Fin 8, regT (114 :: Lib.itoa (k.val : Int)) = some (k.val : Int) := by decide +kernel
 have h := this ⟨r.toNat, by omega⟩
 rwa [show ((r.toNat : Nat) : Int) = r by omega] at h
theorem lab_name {n : Int} (h0 : 0 <= n) (h1 : n < 256) : nameB (lab n) = true := by
 have : ∀ k : Fin 256, nameB (lab (k.val : Int)) = true := by decide +kernel
 have h := this ⟨n.toNat, by omega⟩
 rwa [show ((n.toNat : Nat) : Int) = n by omega] at h
theorem num_itoa {n : Int} (h : i64N n) : numT (Lib.itoa n) = some n := by
 rw [numT, itoa_parse h]; simp
def srcI (i : Ins) (line : Int) : Src := if 116 ∈ formL i.op then ⟨{ i with n := 0 }, line, lab i.n⟩ else ⟨i, line, []⟩
theorem find_form {op : Int} (ho : 0 <= op /\ op <= 255) {l : Tx} (h : formT op = some l) : findT (wordT op) = (op, true) := by
 have hw := words_of ho;simp only [wordsB, Bool.and_eq_true, beq_iff_eq, Bool.or_eq_true, Bool.not_eq_true', decide_eq_true_eq] at hw;obtain ⟨w1, w2, w3, w4⟩ := hw;rw [h] at w2 w3
 have w3 := w3.resolve_left (by simp)
 exact Prod.ext w3.1 w2
theorem instr_back {i : Ins} (ho : okI i) (h : oneE i = 0) (line : Int) : instrA (wordT i.op :: operands i) line = (0, srcI i line) := by
 obtain ⟨l, hf, hs⟩ := one_shape ho h
 have hfl : formL i.op = l := by rw [formL, hf]; rfl
 have hfd := find_form ho.op hf
 have ha := ho.a; have hb := ho.b; have hc := ho.c
 have hoper : operands i = operA l i 0 := by rw [operands, hfl]
 obtain ⟨op, a, b, c, n⟩ := i
 simp only at hf hs hfl hfd ha hb hc hoper ho
 have hol := (oper_len ho l 0).1
 rw [instrA, hfd, if_neg (by simp), if_neg (by rw [hoper, hol, hfl]; simp), hoper]
 simp only [hfl, srcI];unfold shapeI at hs
 simp only at hs
 rcases hs with ⟨rfl, rfl, rfl, rfl, rfl⟩ | ⟨rfl, h1, rfl, rfl⟩ | ⟨rfl, h1, h2, rfl, rfl⟩ | ⟨rfl, h1, h2, rfl, h3, h4⟩ | ⟨rfl, rfl, rfl, rfl, h3, h4⟩ | ⟨rfl, h1, rfl, rfl, h3, h4⟩ | ⟨rfl, h1, h2, h3, rfl⟩
 · rw [putGo_nil]; rfl
 · simp [operA, putGo, regAt, reg_itoa ha.1 h1, num_itoa ho.n, putR]
 · simp [operA, putGo, regAt, reg_itoa ha.1 h1, reg_itoa hb.1 h2, putR]
 · simp [operA, putGo, regAt, reg_itoa ha.1 h1, reg_itoa hb.1 h2, num_itoa ho.n, putR, h3, h4]
 · simp [operA, putGo, lab_name h3 h4]
 · simp [operA, putGo, regAt, reg_itoa ha.1 h1, lab_name h3 h4, putR]
 · simp [operA, putGo, regAt, reg_itoa ha.1 h1, reg_itoa hb.1 h2, reg_itoa hc.1 h3, putR]
def wdC (c : UInt8) : Prop := c ≠ 32 /\ c ≠ 9 /\ c ≠ 59 /\ c ≠ 10 /\ c ≠ 58
theorem itoa_wd (n : Int) : (∀ c ∈ Lib.itoa n, wdC c) /\ Lib.itoa n ≠ [] := by
 have key : ∀ u, (∀ c ∈ Lib.decDigits u, wdC c) /\ Lib.decDigits u ≠ [] := fun u => ⟨fun c hc => by
  have := (dec_digits u).2 c hc
  refine ⟨?_, ?_, ?_, ?_, ?_⟩ <;> (rintro rfl; revert this; decide), (dec_digits u).1⟩
 unfold Lib.itoa;split
 · refine ⟨fun c hc => ?_, by simp⟩
   rcases List.mem_cons.1 hc with rfl | hc
   · exact ⟨by decide, by decide, by decide, by decide, by decide⟩
   · exact (key _).1 c hc
 · exact key _
theorem cons_wd {a : UInt8} {t : Tx} (ha : wdC a) (h : ∀ c ∈ t, wdC c) : ∀ c ∈ a :: t, wdC c := fun c hc => by
 rcases List.mem_cons.1 hc with rfl | hc
 · exact ha
 · exact h c hc
theorem oper_wd (i : Ins) : ∀ (fs : Tx) (u : Nat), ∀ w ∈ operA fs i u, (∀ c ∈ w, wdC c) /\ w ≠ []
 | [], u, w, hw => by cases hw
 | f :: fs, u, w, hw => by
   rw [operA] at hw
   split at hw
   · rcases List.mem_cons.1 hw with rfl | hw
     · exact ⟨cons_wd ⟨by decide, by decide, by decide, by decide, by decide⟩ (itoa_wd _).1, by simp⟩
     · exact oper_wd i fs _ w hw
   · split at hw
     · rcases List.mem_cons.1 hw with rfl | hw
       · exact ⟨cons_wd ⟨by decide, by decide, by decide, by decide, by decide⟩ (itoa_wd _).1, by simp [lab]⟩
       · exact oper_wd i fs _ w hw
     · rcases List.mem_cons.1 hw with rfl | hw
       · exact itoa_wd _
       · exact oper_wd i fs _ w hw
theorem word_wd {op : Int} (ho : 0 <= op /\ op <= 255) : ∀ c ∈ wordT op, wdC c := by
 have : ∀ k : Fin 256, ((wordT (k.val : Int)).all fun c => c != 32 && (c != 9 && (c != 59 && (c != 10 && c != 58)))) = true := by decide +kernel
 have h := this ⟨op.toNat, by omega⟩
 rw [show ((op.toNat : Nat) : Int) = op by omega] at h
 intro c hc;have := List.all_eq_true.1 h c hc;simpa [wdC, bne, Bool.and_eq_true] using this
theorem fields_join : ∀ (ws : List Tx) (acc : Tx), (∀ w ∈ ws, (∀ c ∈ w, wdC c) /\ w ≠ []) -> (∀ c ∈ acc, wdC c) -> fieldsGo acc (joinC 32 ws) = (match ws with | [] => (if acc = [] then [] else [acc]) | w :: r => (acc ++ w) :: r)
 | [], acc, _, _ => by rw [joinC, fieldsGo]
 | [w], acc, h, ha => by
   have hw := h w (by simp)
   have e : w = w ++ [] := by simp
   rw [joinC]
   conv => lhs; rw [e]
   rw [fields_skip w acc [] (fun c hc => by have := hw.1 c hc; simp [blankB, this.1, this.2.1]), fieldsGo, if_neg (by simp [hw.2])]
 | w :: y :: r, acc, h, ha => by
   have hw := h w (by simp)
   have ih := fields_join (y :: r) [] (fun z hz => h z (List.mem_cons_of_mem _ hz)) (fun c hc => by cases hc)
   rw [joinC, fields_skip w acc _ (fun c hc => by have := hw.1 c hc; simp [blankB, this.1, this.2.1]), fieldsGo, if_pos (by decide), if_neg (by simp [hw.2]), ih]
   rfl
theorem join_wd59 : ∀ (ws : List Tx), (∀ w ∈ ws, (∀ c ∈ w, wdC c) /\ w ≠ []) -> ∀ c ∈ joinC 32 ws, c ≠ 59 /\ c ≠ 10
 | [], _, c, hc => by cases hc
 | [w], h, c, hc => by
   rw [joinC] at hc
   have := (h w (by simp)).1 c hc
   exact ⟨this.2.2.1, this.2.2.2.1⟩
 | w :: y :: r, h, c, hc => by
   rw [joinC] at hc
   rcases List.mem_append.1 hc with hc | hc
   · have := (h w (by simp)).1 c hc
     exact ⟨this.2.2.1, this.2.2.2.1⟩
   · rcases List.mem_cons.1 hc with rfl | hc
     · exact ⟨by decide, by decide⟩
     · exact join_wd59 (y :: r) (fun z hz => h z (List.mem_cons_of_mem _ hz)) c hc
theorem word_ne {i : Ins} (ho : okI i) (h : oneE i = 0) : wordT i.op ≠ [] := fun e => by
 obtain ⟨l, hf, _⟩ := one_shape ho h;have hw := words_of ho.op;simp only [wordsB, Bool.and_eq_true, beq_iff_eq] at hw;rw [hf, e] at hw;cases hw.1
theorem words_wd {i : Ins} (ho : okI i) (h : oneE i = 0) : ∀ w ∈ wordT i.op :: operands i, (∀ c ∈ w, wdC c) /\ w ≠ [] := fun w hw => by
 rcases List.mem_cons.1 hw with rfl | hw
 · exact ⟨word_wd ho.op, word_ne ho h⟩
 · exact oper_wd i _ _ w hw
def insL (i : Ins) : Tx := [32, 32] ++ joinC 32 (wordT i.op :: operands i)
theorem insT_eq (i : Ins) : insT i = insL i ++ [10] := rfl
theorem tw_self (c : UInt8) (t : Tx) (h : ∀ x ∈ t, x ≠ c) : t.takeWhile (· ≠ c) = t := (tw_all _ t fun x hx => decide_eq_true (h x hx)).1
theorem pieces_ins {i : Ins} (ho : okI i) (h : oneE i = 0) : piecesT (insL i) = wordT i.op :: operands i := by
 have hw := words_wd ho h;rw [piecesT, tw_self]
 · rw [insL, List.cons_append, List.cons_append, List.nil_append, fieldsGo, if_pos (by decide), if_pos rfl, fieldsGo, if_pos (by decide), if_pos rfl, fields_join _ _ hw (fun c hc => by cases hc)]
   rfl
 · intro x hx
   rw [insL] at hx
   rcases List.mem_append.1 hx with hx | hx
   · simp only [List.mem_cons, List.not_mem_nil, or_false] at hx
     rcases hx with rfl | rfl <;> decide
   · exact (join_wd59 _ hw x hx).1
theorem ins_no10 {i : Ins} (ho : okI i) (h : oneE i = 0) : (10 : UInt8) ∉ insL i := fun hx => by
 rw [insL] at hx
 rcases List.mem_append.1 hx with hx | hx
 · simp at hx
 · exact (join_wd59 _ (words_wd ho h) 10 hx).2 rfl
theorem lab_wd (n : Int) : (∀ c ∈ lab n, wdC c) /\ lab n ≠ [] := ⟨cons_wd ⟨by decide, by decide, by decide, by decide, by decide⟩ (itoa_wd _).1, by simp [lab]⟩
theorem fields_one {t : Tx} (h : ∀ c ∈ t, blankB c = false) (hne : t ≠ []) : fieldsGo [] t = [t] := by
 have e := fields_skip t [] [] h;rw [List.append_nil, List.nil_append] at e;rw [e, fieldsGo, if_neg hne]
theorem pieces_lab (n : Int) : piecesT (lab n ++ [58]) = [lab n ++ [58]] := by
 have hw := (lab_wd n).1
 have hall : ∀ c ∈ lab n ++ [58], c ≠ 32 /\ c ≠ 9 /\ c ≠ 59 := fun c hc => by
  rcases List.mem_append.1 hc with hc | hc
  · have := hw c hc; exact ⟨this.1, this.2.1, this.2.2.1⟩
  · simp only [List.mem_cons, List.not_mem_nil, or_false] at hc
    subst hc; decide
 rw [piecesT, tw_self _ _ fun x hx => (hall x hx).2.2]
 exact fields_one (fun c hc => by have := hall c hc; simp [blankB, this.1, this.2.1]) (by simp)
theorem lab_no10 (n : Int) : (10 : UInt8) ∉ lab n ++ [58] := fun hx => by
 rcases List.mem_append.1 hx with hx | hx
 · exact ((lab_wd n).1 10 hx).2.2.2.1 rfl
 · simp at hx
theorem line_ins {i : Ins} (ho : okI i) (h : oneE i = 0) (r : Rd) (line : Int) : lineA r (insL i) line = (0, ⟨r.ms, r.ss ++ [srcI i line]⟩) := by
 have hlab : labT (wordT i.op) = none := by
  rw [labT, if_neg];intro hl;have hm : (58 : UInt8) ∈ wordT i.op := List.mem_of_getLast? hl;exact ((words_wd ho h _ (List.mem_cons_self ..)).1 58 hm).2.2.2.2 rfl
 rw [lineA, pieces_ins ho h];simp only [hlab];rw [putI, instr_back ho h]
 · rfl
 · intro hh; cases hh
theorem line_lab {n : Int} (h0 : 0 <= n) (h1 : n < 256) (r : Rd) (line : Int) (hno : hasMk r.ms (lab n) = false) : lineA r (lab n ++ [58]) line = (0, ⟨r.ms ++ [⟨lab n, (r.ss.length : Int), line⟩], r.ss⟩) := by
 have hlab : labT (lab n ++ [58]) = some (lab n) := by rw [labT, if_pos (by simp)]; simp
 rw [lineA, pieces_lab];simp only [hlab]
 have hl : labelA r (lab n) line = (0, ⟨r.ms ++ [⟨lab n, (r.ss.length : Int), line⟩], r.ss⟩) := by rw [labelA, lab_name h0 h1, if_neg (by simp), if_neg (by rw [hno]; simp)]
 rw [hl]; rfl
theorem line_nil (r : Rd) (line : Int) : lineA r [] line = (0, r) := rfl
def outLines (p : List Ins) : List Ins -> Nat -> List Tx
 | [], _ => []
 | i :: r, k => (if isTo p k then [lab k ++ [58]] else []) ++ insL i :: outLines p r (k + 1)
theorem split_out (p : List Ins) : ∀ (l : List Ins) (k : Nat), (∀ i ∈ l, okI i /\ oneE i = 0) -> splitC 10 (outGo p l k) = outLines p l k ++ [[]]
 | [], k, _ => rfl
 | i :: r, k, h => by
   have hi := h i (by simp)
   have ih := split_out p r (k + 1) fun j hj => h j (List.mem_cons_of_mem _ hj);rw [outGo, outLines, insT_eq]
   have e : splitC 10 (insL i ++ [10] ++ outGo p r (k + 1)) = insL i :: (outLines p r (k + 1) ++ [[]]) := by
    rw [List.append_assoc, List.singleton_append, split_app (ins_no10 hi.1 hi.2), ih]
   split
   · rw [show lab (k : Int) ++ [58, 10] = (lab k ++ [58]) ++ [10] by simp, List.append_assoc, List.append_assoc, List.singleton_append, split_app (lab_no10 _), e]
     rfl
   · rw [List.nil_append, e]; rfl
def MsR (p : List Ins) (k : Nat) (ms : List Mk) : Prop := ms.map (fun m => (m.name, m.at_)) = ((List.range k).filter (isTo p)).map fun (j : Nat) => (lab j, (j : Int))
theorem lab_inj {a b : Nat} (ha : a < 100000) (hb : b < 100000) (h : lab a = lab b) : a = b := by
 simp only [lab, List.cons.injEq, true_and] at h
 have := itoa_inj (by omega) (by omega) h
 omega
theorem MsR.has {p : List Ins} {k : Nat} {ms : List Mk} (h : MsR p k ms) (hk : k <= 1000) {j : Nat} (hj : j < 1000) : hasMk ms (lab j) = (decide (j < k) && isTo p j) := by
 have e : hasMk ms (lab j) = (ms.map (fun m => (m.name, m.at_))).any fun x => decide (x.1 = lab j) := by
  rw [hasMk, List.any_map]; rfl
 rw [e, h, List.any_map]
 by_cases hh : j < k /\ isTo p j = true
 · rw [decide_eq_true hh.1, hh.2, List.any_eq_true.2]
   · rfl
   · exact ⟨j, List.mem_filter.2 ⟨List.mem_range.2 hh.1, hh.2⟩, by simp⟩
 · have : (decide (j < k) && isTo p j) = false := by
    rw [Bool.eq_false_iff];intro hb;simp only [Bool.and_eq_true, decide_eq_true_eq] at hb;exact hh hb
   rw [this, Bool.eq_false_iff];intro hb;obtain ⟨x, hx, he⟩ := List.any_eq_true.1 hb;obtain ⟨h1, h2⟩ := List.mem_filter.1 hx;have h1 := List.mem_range.1 h1;simp only [Function.comp, decide_eq_true_eq] at he
   have := lab_inj (by omega) (by omega) he
   subst this;exact hh ⟨h1, h2⟩
theorem lines_back (p : List Ins) : ∀ (l : List Ins) (k : Nat) (n : Int) (r : Rd), (∀ i ∈ l, okI i /\ oneE i = 0) -> r.ss.length = k -> MsR p k r.ms -> k + l.length <= 256 ->
 ∃ r', linesA (outLines p l k ++ [[]]) n r = (0, 0, r') /\ MsR p (k + l.length) r'.ms /\ ∃ ss', r'.ss = r.ss ++ ss' /\ ss'.map (fun x => (x.ins, x.target)) = l.map fun i => ((srcI i 0).ins, (srcI i 0).target)
 | [], k, n, r, _, h1, h2, _ => ⟨r, by rw [outLines, List.nil_append, linesA, line_nil]; rfl, h2, [], by simp, rfl⟩
 | i :: l, k, n, r, h, h1, h2, h3 => by
   have hi := h i (by simp)
   simp only [List.length_cons] at h3
   have hsrc : ∀ line, ((srcI i line).ins, (srcI i line).target) = ((srcI i 0).ins, (srcI i 0).target) := fun line => by
    unfold srcI; split <;> rfl
   have step : ∀ (ms : List Mk) (line : Int), MsR p (k + 1) ms -> ∃ r', linesA (insL i :: (outLines p l (k + 1) ++ [[]])) line ⟨ms, r.ss⟩ = (0, 0, r') /\ MsR p (k + (l.length + 1)) r'.ms /\ ∃ ss', r'.ss = r.ss ++ ss' /\ ss'.map (fun x => (x.ins, x.target)) = (i :: l).map fun i => ((srcI i 0).ins, (srcI i 0).target) := by
    intro ms line hms
    obtain ⟨r', g1, g2, ss', g3, g4⟩ := lines_back p l (k + 1) (line + 1) ⟨ms, r.ss ++ [srcI i line]⟩ (fun j hj => h j (List.mem_cons_of_mem _ hj)) (by simp [h1]) hms (by omega)
    refine ⟨r', ?_, by rw [show k + (l.length + 1) = k + 1 + l.length by omega]; exact g2, srcI i line :: ss', by rw [g3]; simp, ?_⟩
    · rw [linesA, line_ins hi.1 hi.2, if_neg (by simp)]
      exact g1
    · rw [List.map_cons, List.map_cons, g4, hsrc]
   have hfilt : ∀ b, isTo p k = b -> (List.range (k + 1)).filter (isTo p) = (List.range k).filter (isTo p) ++ if b then [k] else [] := fun b hb => by
    rw [List.range_succ, List.filter_append]
    congr 1
    rw [List.filter_cons, hb]
    cases b <;> rfl
   rw [outLines]
   cases ht : isTo p k with
   | true =>
     rw [if_pos rfl]
     have hno : hasMk r.ms (lab (k : Int)) = false := by
      rw [h2.has (by omega) (by omega), decide_eq_false (by omega)]; rfl
     obtain ⟨r', g1, g2, g3⟩ := step (r.ms ++ [⟨lab k, (r.ss.length : Int), n⟩]) (n + 1) (by
      rw [MsR, hfilt true ht, List.map_append, List.map_append, h2, if_pos rfl, h1]; rfl)
     refine ⟨r', ?_, g2, g3⟩
     rw [List.append_assoc, List.singleton_append, linesA, line_lab (by omega) (by omega) r n hno, if_neg (by simp)]
     exact g1
   | false =>
     rw [if_neg (by simp), List.nil_append]
     exact step r.ms n (by rw [MsR, hfilt false ht, List.map_append, h2]; simp)
theorem out_len (p : List Ins) : ∀ (l : List Ins) (k : Nat), (∀ i ∈ l, okI i) -> k + l.length <= 256 -> (outGo p l k).length <= 130 * l.length
 | [], _, _, _ => Nat.zero_le _
 | i :: l, k, h, hk => by
   have ih := out_len p l (k + 1) (fun j hj => h j (List.mem_cons_of_mem _ hj)) (by simp only [List.length_cons] at hk; omega)
   have h1 := insT_len (h i (by simp))
   have h2 : (lab (k : Int)).length <= 22 := by
    simp only [List.length_cons] at hk
    have := itoa_len (n := (k : Int)) ⟨by omega, by omega⟩
    simp only [lab, List.length_cons]; omega
   rw [outGo];simp only [List.length_append, List.length_cons];split
   · simp only [List.length_append, List.length_cons, List.length_nil]; omega
   · simp only [List.length_nil]; omega
theorem to_there {p : List Ins} {i : Ins} (hi : i ∈ p) (ht : (targetE i).2 = true) (hn : 0 <= (targetE i).1) : isTo p (targetE i).1.toNat = true := by
 rw [isTo, List.any_eq_true]
 exact ⟨i, hi, by rw [ht, Bool.true_and, decide_eq_true_eq]; omega⟩
theorem tgt_form {i : Ins} (ho : okI i) (h : oneE i = 0) : (116 ∈ formL i.op ↔ (targetE i).2 = true) /\ ((targetE i).2 = true -> (targetE i).1 = i.n) := by
 obtain ⟨l, hf, hs⟩ := one_shape ho h
 have hk : ∀ k : Fin 256, (decide (116 ∈ formL (k.val : Int))) = decide ((k.val : Int) = 9 \/ (k.val : Int) = 10 \/ (k.val : Int) = 11) := by decide +kernel
 have h2 := ho.op
 have h1 := hk ⟨i.op.toNat, by omega⟩
 rw [show ((i.op.toNat : Nat) : Int) = i.op by omega] at h1
 have h1 := decide_eq_decide.1 h1;unfold targetE;constructor
 · rw [h1]
   constructor
   · intro hh; rw [if_pos ⟨h, hh⟩]
   · intro hh
     split at hh
     · rename_i hc; exact hc.2
     · cases hh
 · intro hh
   split at hh
   · rename_i hc; rw [if_pos hc]
   · cases hh
theorem MsR.at_ {p : List Ins} {k : Nat} {ms : List Mk} (h : MsR p k ms) (hk : k <= 1000) {j : Nat} (hj : j < k) (ht : isTo p j = true) : atMk ms (lab j) = (j : Int) := by
 have hh := h.has hk (j := j) (by omega)
 rw [decide_eq_true hj, ht] at hh
 have hmem : ∀ m ∈ ms, ∃ j' : Nat, j' < k /\ m.name = lab j' /\ m.at_ = (j' : Int) := fun m hm => by
  have : (m.name, m.at_) ∈ ms.map (fun m => (m.name, m.at_)) := List.mem_map_of_mem hm;rw [h] at this;obtain ⟨j', hj', he⟩ := List.mem_map.1 this;have he := Prod.mk.inj he;exact ⟨j', List.mem_range.1 (List.mem_filter.1 hj').1, he.1.symm, he.2.symm⟩
 rw [atMk]
 cases hq : ms.find? fun m => decide (m.name = lab j) with
 | none =>
   have := List.find?_eq_none.1 hq;obtain ⟨m, hm, he⟩ := List.any_eq_true.1 hh;exact absurd he (this m hm)
 | some m =>
   have h1 := List.find?_some hq;have h1 := of_decide_eq_true h1;obtain ⟨j', g1, g2, g3⟩ := hmem m (List.mem_of_find?_eq_some hq)
   have := lab_inj (by omega) (by omega) (g2.symm.trans h1)
   simp only
   rw [g3, this]
theorem read_back {p : List Ins} (ho : ∀ i ∈ p, okI i) (h : (checkL p).2 = 0) :
 ∃ ms, readA (outGo p p 0) = (0, 0, ⟨ms, (readA (outGo p p 0)).2.2.ss⟩) /\ MsR p p.length ms /\ (readA (outGo p p 0)).2.2.ss.map (·.ins) = p := by
 obtain ⟨c1, c2, c3, c4⟩ := check_len h;have hck := checkGo_ok _ _ _ c3;have hall : ∀ i ∈ p, okI i /\ oneE i = 0 := fun i hi => ⟨ho i hi, (hck i hi).1⟩
 obtain ⟨r, g1, g2, ss, g3, g4⟩ := lines_back p p 0 1 ⟨[], []⟩ hall rfl rfl (by omega)
 simp only [List.nil_append] at g3;rw [Nat.zero_add] at g2
 have hlen := out_len p p 0 ho (by omega)
 have hss : r.ss.length = p.length := by
  have := congrArg List.length g4
  rw [g3]; simpa using this
 have hgo : ∀ x ∈ r.ss, ∃ i ∈ p, x.ins = (srcI i 0).ins /\ x.target = (srcI i 0).target := fun x hx => by
  have : (x.ins, x.target) ∈ ss.map (fun x => (x.ins, x.target)) := List.mem_map_of_mem (by rw [<- g3]; exact hx)
  rw [g4] at this;obtain ⟨i, hi, he⟩ := List.mem_map.1 this;have he := Prod.mk.inj he;exact ⟨i, hi, he.1.symm, he.2.symm⟩
 have hset : ∀ (x : Src) (i : Ins), i ∈ p -> x.ins = (srcI i 0).ins -> x.target = (srcI i 0).target -> (setTo r.ms x).ins = i /\ lostB r.ms x = false := by
  intro x i hi h1 h2;have hif := hall i hi;obtain ⟨t1, t2⟩ := tgt_form hif.1 hif.2;unfold srcI at h1 h2
  by_cases hm : 116 ∈ formL i.op
  · rw [if_pos hm] at h1 h2
    simp only at h1 h2
    have ht := t1.1 hm;have hn := t2 ht;have hrng := target_rng ht;have hlt := (hck i hi).2 ht;have hto := to_there hi ht hrng.1;rw [hn] at hrng hlt hto
    have e : lab i.n = lab ((i.n.toNat : Nat) : Int) := by rw [show ((i.n.toNat : Nat) : Int) = i.n by omega]
    have hat := g2.at_ (by omega) (j := i.n.toNat) (by omega) hto
    have hhas := g2.has (by omega) (j := i.n.toNat) (by omega)
    rw [decide_eq_true (by omega), hto] at hhas
    have hne : x.target ≠ [] := by rw [h2]; exact (lab_wd _).2
    refine ⟨?_, ?_⟩
    · rw [setTo, if_neg hne, h1, h2, e, hat]
      obtain ⟨o, a, b, c, n⟩ := i;simp only [Ins.mk.injEq, true_and] at *;omega
    · rw [lostB, h2, e, hhas]; simp
  · rw [if_neg hm] at h1 h2
    simp only at h1 h2
    refine ⟨by rw [setTo, if_pos h2, h1], by rw [lostB, h2]; rfl⟩
 have hmap : r.ss.map (fun x => (setTo r.ms x).ins) = p := by
  apply List.ext_getElem?;intro k;rw [List.getElem?_map]
  cases hq : r.ss[k]? with
  | none =>
    rw [Option.map_none];have := List.getElem?_eq_none_iff.1 hq
    rw [List.getElem?_eq_none (by omega)]
  | some x =>
    have hlt := (List.getElem?_eq_some_iff.1 hq).1
    have hx : (ss.map (fun x => (x.ins, x.target)))[k]? = some (x.ins, x.target) := by rw [List.getElem?_map, <- g3, hq]; rfl
    rw [g4, List.getElem?_map, Option.map_eq_some_iff] at hx;obtain ⟨i, hi, he⟩ := hx;have he := Prod.mk.inj he;rw [Option.map_some, (hset x i (List.mem_of_getElem? hi) he.1.symm he.2.symm).1, hi]
 have hend : endA r = (0, 0) := by
  rw [endA, if_neg (by omega)]
  have h1 : r.ss.find? (lostB r.ms) = none := List.find?_eq_none.2 fun x hx => by
   obtain ⟨i, hi, e1, e2⟩ := hgo x hx
   rw [(hset x i hi e1 e2).2]; simp
  have h2 : (r.ms.find? fun m => decide (m.at_ = (r.ss.length : Int))) = none := List.find?_eq_none.2 fun m hm => by
   have : (m.name, m.at_) ∈ r.ms.map (fun m => (m.name, m.at_)) := List.mem_map_of_mem hm;rw [g2] at this;obtain ⟨j', hj', he⟩ := List.mem_map.1 this;have he := (Prod.mk.inj he).2;have := List.mem_range.1 (List.mem_filter.1 hj').1;simp only [decide_eq_true_eq];omega
  rw [h1, h2]
  simp only
  have hlast : ((r.ss.map (setTo r.ms)).map (·.ins)).getLast? = p.getLast? := by rw [List.map_map]; exact congrArg List.getLast? hmap
  rw [List.getLast?_map] at hlast
  cases hq : (r.ss.map (setTo r.ms)).getLast? with
  | none =>
    have := List.getLast?_eq_none_iff.1 hq;have := congrArg List.length this
    simp at this; rw [this] at hss; simp at hss; omega
  | some x =>
    rw [hq, Option.map_some] at hlast
    simp only
    rw [lastGoes, <- hlast] at c4
    simp only at c4
    rw [c4]; rfl
 have hread : readA (outGo p p 0) = (0, 0, ⟨r.ms, r.ss.map (setTo r.ms)⟩) := by
  rw [readA, if_neg (by omega), split_out p p 0 hall, g1]
  simp only [ne_eq, not_true_eq_false, if_false, hend]
 refine ⟨r.ms, by rw [hread], g2, ?_⟩
 rw [hread];simp only [List.map_map];exact hmap
theorem parse_back {p : List Ins} (ho : ∀ i ∈ p, okI i) (h : (checkL p).2 = 0) : parseA (writeA p).1 = (p, 0, 0) /\ labelsA (writeA p).1 = (((List.range p.length).filter (isTo p)).map (fun (j : Nat) => (lab j, (j : Int))), 0, 0) := by
 obtain ⟨ms, h1, h2, h3⟩ := read_back ho h
 have e : (writeA p).1 = outGo p p 0 := by rw [writeA, if_neg (fun hh => hh h)]
 rw [e];refine ⟨?_, ?_⟩
 · rw [parseA, if_pos (by rw [h1]), h3]
 · rw [labelsA, if_pos (by rw [h1]), h1]
   exact congrArg (fun z => (z, (0 : Int), (0 : Int))) h2
def labsV (L : List (Tx × Int)) : List Value := L.flatMap fun x => [.string (strT x.1), .int .i64 x.2]
theorem labs_len (L : List (Tx × Int)) : (labsV L).length = L.length * 2 := by
 induction L with
 | nil => rfl
 | cons m r ih => simp only [labsV, List.flatMap_cons, List.length_append, List.length_cons, List.length_nil] at ih ⊢; omega
theorem labs_at {l : List (Tx × Int)} {k : Nat} {x : Tx × Int} (h : l[k]? = some x) (i : Nat) (hi : i < 2) : (labsV l)[k * 2 + i]? = ([.string (strT x.1), .int .i64 x.2] : List Value)[i]? := flat_at (n := 2) (f := fun x : Tx × Int => ([.string (strT x.1), .int .i64 x.2] : List Value)) (fun _ => rfl) h i hi
structure Sm where
 op : Int
 a : Int
 b : Int
 c : Int
 n : Int
def smV (x : Sm) : List Value := [.int .u8 x.op, .int .u8 x.a, .int .u8 x.b, .int .u8 x.c, .int .i64 x.n]
structure okSm (x : Sm) : Prop where
 op : 0 <= x.op /\ x.op <= 255
 a : 0 <= x.a /\ x.a <= 255
 b : 0 <= x.b /\ x.b <= 255
 c : 0 <= x.c /\ x.c <= 255
 n : i64N x.n
def opTab : List Int := [3, 3, 3, 3, 3, 4, 5, 5, 5, 6, 6, 6, 7, 8, 8, 9, 10, 10, 10, 11, 11, 1, 2]
def opSm (x : Sm) : Int := if x.op % 40 < 17 then 33 + x.op % 40 else (opTab[(x.op % 40 - 17).toNat]?).getD 0
theorem ct61 (x : Sm) (h : okSm x) (I : Mem) : Ct Tryd.prog (fnv 61) #[.agg (smV x).toArray] I (fun v _ => v = .int .u8 (opSm x)) := by
 obtain ⟨Q, hQ⟩ : ∃ q : Int, q = opSm x := ⟨_, rfl⟩;rw [<- hQ]
 refine viaR (ct_via (A := { }) Tryd.func61 rfl Tryd.call61 rfl rfl) ((40 : Int) ≠ 0 /\ Br (decide (x.op.tmod 40 < 17)) (Wr .u8 (33 + x.op.tmod 40) (fun c => Value.int .u8 c = .int .u8 Q)) (Wr .u8 (x.op.tmod 40 - 17) (fun c => 0 <= c /\ c < 23 /\ ∃ n, [SV.v (.int .u8 3), .v (.int .u8 3), .v (.int .u8 3), .v (.int .u8 3), .v (.int .u8 3), .v (.int .u8 4), .v (.int .u8 5), .v (.int .u8 5), .v (.int .u8 5), .v (.int .u8 6), .v (.int .u8 6), .v (.int .u8 6), .v (.int .u8 7), .v (.int .u8 8), .v (.int .u8 8), .v (.int .u8 9), .v (.int .u8 10), .v (.int .u8 10), .v (.int .u8 10), .v (.int .u8 11), .v (.int .u8 11), .v (.int .u8 1), .v (.int .u8 2)][0 + c.toNat * 1 + 0]?.bind (fun (a : SV) => (match a with
  | SV.v x => some x
  | x => none)) = some (.int .u8 n) /\ Value.int .u8 n = .int .u8 Q))) (by kernel_rfl) ?_
 have ho := h.op;have e : x.op.tmod 40 = x.op % 40 := Int.tmod_eq_emod_of_nonneg ho.1;rw [e]
 refine ⟨by decide, Br.mk (fun h1 => ?_) (fun h1 => ?_)⟩
 · have h1 := of_decide_eq_true h1
   refine wr_u8 (by omega) (by omega) ?_
   rw [hQ, opSm, if_pos h1]
 · have h1 := of_decide_eq_false h1
   refine wr_u8 (by omega) (by omega) ⟨by omega, by omega, ?_⟩
   rw [hQ, opSm, if_neg h1];obtain ⟨c, hc⟩ : ∃ c, c = x.op % 40 - 17 := ⟨_, rfl⟩;rw [<- hc]
   have hcs : c = 0 \/ c = 1 \/ c = 2 \/ c = 3 \/ c = 4 \/ c = 5 \/ c = 6 \/ c = 7 \/ c = 8 \/ c = 9 \/ c = 10 \/ c = 11 \/ c = 12 \/ c = 13 \/ c = 14 \/ c = 15 \/ c = 16 \/ c = 17 \/ c = 18 \/ c = 19 \/ c = 20 \/ c = 21 \/ c = 22 := by omega
   clear hc h1 e
   rcases hcs with rfl | rfl | rfl | rfl | rfl | rfl | rfl | rfl | rfl | rfl | rfl | rfl | rfl | rfl | rfl | rfl | rfl | rfl | rfl | rfl | rfl | rfl | rfl <;> exact ⟨_, rfl, rfl⟩
theorem opSm_rng {x : Sm} (h : okSm x) : 0 <= opSm x /\ opSm x <= 49 := by
 have ho := h.op;unfold opSm;split
 · omega
 · have : ∀ t ∈ opTab, 0 <= t /\ t <= 49 := by decide
   cases hq : opTab[(x.op % 40 - 17).toNat]? with
   | none => decide
   | some t => exact this t (List.mem_of_getElem? hq)
def umod (n : Int) (m : Int) : Int := (n % 18446744073709551616) % m
def goS : Tx -> Sm -> Int -> Ins -> Nat -> Ins
 | [], _, _, i, _ => i
 | f :: r, x, m, i, u => if f = 114 then goS r x m (if u < 3 then putR i u (regAt x.a x.b x.c u % 8) else i) (u + 1)
   else if f = 110 then goS r x m { i with n := x.n } u
   else if f = 112 then goS r x m { i with n := umod x.n 16 } u
   else goS r x m { i with n := umod x.n (max m 1) } u
def oneS (x : Sm) (m : Int) : Ins := goS (formL (opSm x)) x m ⟨opSm x, 0, 0, 0, 0⟩ 0
def SmN (x : Sm) (m : Int) (p : Nat) (u : Int) (cs : List Value) : Prop := ∃ i : Ins, cs = insV i /\ okI i /\ oneS x m = goS ((formL (opSm x)).drop p) x m i u.toNat /\ 0 <= u /\ u <= p /\ p <= (formL (opSm x)).length
set_option maxHeartbeats 4000000 in
theorem ct38 (x : Sm) (h : okSm x) (m : Int) (hm : 1 <= m /\ m <= 1000) (I : Mem) : Ct Tryd.prog (fnv 38) #[.agg (smV x).toArray, .int .i64 m] I (fun v _ => v = .agg (insV (oneS x m)).toArray /\ okI (oneS x m)) := by
 obtain ⟨Q, hQ⟩ : ∃ q : Value -> Prop, q = fun v => v = .agg (insV (oneS x m)).toArray /\ okI (oneS x m) := ⟨_, rfl⟩
 rw [show (fun (v : Value) (_ : Mem) => v = .agg (insV (oneS x m)).toArray /\ okI (oneS x m)) = fun v _ => Q v from by rw [hQ]]
 obtain ⟨N, hN⟩ : ∃ f, f = SmN x m := ⟨_, rfl⟩;obtain ⟨F, hF⟩ : ∃ q : Nat, q = (formL (opSm x)).length := ⟨_, rfl⟩
 refine viaR (ct_via (A := { calls := [(46, .cs [0, 1, 2])], loops := [(6, ⟨[(1, .keep), (2, .keep), (4, .keep), (8, .keep), (9, .keep), (10, .sh (.int .i64)), (27, .keep)], [(0, .keep), (1, .keep), (2, .cells [.sh (.int .u8), .sh (.int .u8), .sh (.int .u8), .sh (.int .u8), .sh (.int .i64)]), (3, .keep), (4, .iter)], [], fun vals xss _ _ => match vals, xss with | .int .i64 u :: cs, [it] => N (posL it) u cs | _, _ => False, fun _ xss => match xss with | [it] => F - posL it | _ => 0⟩)] }) Tryd.func38 rfl Tryd.call38 rfl rfl) (let E2 := Ent.mk (.cells [.v (.int .u8 0), .v (.int .u8 0), .v (.int .u8 0), .v (.int .u8 0), .v (.int .i64 0)] 44) none
  let E3 := Ent.mk (.cells [.ptr 2 1, .ptr 2 2, .ptr 2 3] 124) none
  let E4 := Ent.mk (.cells [.v (.int .u8 x.op), .v (.int .u8 x.a), .v (.int .u8 x.b), .v (.int .u8 x.c), .v (.int .i64 x.n)] 76) none
  let E1 := fun (a : ByteArray) (b : List Value) (c : Int) (d : Int) (e : Int) (f : Int) (g : Int) (i : Int) => Rf E4 /\ Rf E2 /\ Rf E3 /\ (a = a /\ Rf (none : Option Nat)) /\ Rf (SV.v (.int .i64 m)) /\ Rf (SV.ptr 0 0) /\ Rf (SV.ptr 1 0) /\ Rf (SV.ptr 2 0) /\ Rf (SV.xsl 3 0 3 3) /\ Rf (SV.ptr 4 0) /\ Rf (none : Option Nat) /\ N (posL [.int .i64 ((posL b + (Utf8.decode a (posL b)).2 : Nat) : Int)]) c [.int .u8 d, .int .u8 e, .int .u8 f, .int .u8 g, .int .i64 i] /\ F - posL [.int .i64 ((posL b + (Utf8.decode a (posL b)).2 : Nat) : Int)] < F - posL b
  Ct Tryd.prog (fnv 61) #[.agg #[.int .u8 x.op, .int .u8 x.a, .int .u8 x.b, .int .u8 x.c, .int .i64 x.n]] I fun v a => ∃ n, v = .int .u8 n /\ Ct Tryd.prog (fnv 9) #[.int .u8 n] a fun b c => ∃ q d, b = .tuple #[.string q, .bool d] /\ (Rf E4 /\ Rf E2 /\ Rf E3 /\ (q = q /\ Rf (none : Option Nat)) /\ Rf (SV.v (.int .i64 m)) /\ Rf (SV.ptr 0 0) /\ Rf (SV.ptr 1 0) /\ Rf (SV.ptr 2 0) /\ Rf (SV.xsl 3 0 3 3) /\ Rf (SV.ptr 4 0) /\ Rf (none : Option Nat) /\ N 0 0 [.int .u8 n, .int .u8 0, .int .u8 0, .int .u8 0, .int .i64 0]) /\ ∀ (e : Mem), Mem -> c.le e -> ∀ (f : List Value) (g i j k l o : Int), N (posL f) g [.int .u8 i, .int .u8 j, .int .u8 k, .int .u8 l, .int .i64 o] -> Br ((posL f).blt q.size) (Br (((Utf8.decode q (posL f)).1 : Int) == 114) (Br (decide (g < 3)) ((g = 0 \/ g = 1 \/ g = 2) /\ (g = 0 -> (0 : Int) <= 0 /\ (0 : Int) < 3 /\ 0 <= g /\ g < 3 /\ ∃ p, [SV.v (.int .u8 x.a), .v (.int .u8 x.b), .v (.int .u8 x.c)][0 + g.toNat * 1 + 0]?.bind (fun (r : SV) => (match r with
  | SV.v x => some x
  | x => none)) = some (.int .u8 p) /\ (8 : Int) ≠ 0 /\ Wr .i64 (g + 1) fun r => Rf E4 /\ Rf E2 /\ Rf E3 /\ (q = q /\ Rf (none : Option Nat)) /\ Rf (SV.v (.int .i64 m)) /\ Rf (SV.ptr 0 0) /\ Rf (SV.ptr 1 0) /\ Rf (SV.ptr 2 0) /\ Rf (SV.xsl 3 0 3 3) /\ Rf (SV.ptr 4 0) /\ Rf (none : Option Nat) /\ N (posL [.int .i64 ((posL f + (Utf8.decode q (posL f)).2 : Nat) : Int)]) r [.int .u8 i, .int .u8 (p.tmod 8), .int .u8 k, .int .u8 l, .int .i64 o] /\ F - posL [.int .i64 ((posL f + (Utf8.decode q (posL f)).2 : Nat) : Int)] < F - posL f) /\ (g = 1 -> (0 : Int) <= 1 /\ (1 : Int) < 3 /\ 0 <= g /\ g < 3 /\ ∃ p, [SV.v (.int .u8 x.a), .v (.int .u8 x.b), .v (.int .u8 x.c)][0 + g.toNat * 1 + 0]?.bind (fun (r : SV) => (match r with
  | SV.v x => some x
  | x => none)) = some (.int .u8 p) /\ (8 : Int) ≠ 0 /\ Wr .i64 (g + 1) fun r => Rf E4 /\ Rf E2 /\ Rf E3 /\ (q = q /\ Rf (none : Option Nat)) /\ Rf (SV.v (.int .i64 m)) /\ Rf (SV.ptr 0 0) /\ Rf (SV.ptr 1 0) /\ Rf (SV.ptr 2 0) /\ Rf (SV.xsl 3 0 3 3) /\ Rf (SV.ptr 4 0) /\ Rf (none : Option Nat) /\ N (posL [.int .i64 ((posL f + (Utf8.decode q (posL f)).2 : Nat) : Int)]) r [.int .u8 i, .int .u8 j, .int .u8 (p.tmod 8), .int .u8 l, .int .i64 o] /\ F - posL [.int .i64 ((posL f + (Utf8.decode q (posL f)).2 : Nat) : Int)] < F - posL f) /\ (g = 2 -> (0 : Int) <= 2 /\ (2 : Int) < 3 /\ 0 <= g /\ g < 3 /\ ∃ p, [SV.v (.int .u8 x.a), .v (.int .u8 x.b), .v (.int .u8 x.c)][0 + g.toNat * 1 + 0]?.bind (fun (r : SV) => (match r with
  | SV.v x => some x
  | x => none)) = some (.int .u8 p) /\ (8 : Int) ≠ 0 /\ Wr .i64 (g + 1) fun r => Rf E4 /\ Rf E2 /\ Rf E3 /\ (q = q /\ Rf (none : Option Nat)) /\ Rf (SV.v (.int .i64 m)) /\ Rf (SV.ptr 0 0) /\ Rf (SV.ptr 1 0) /\ Rf (SV.ptr 2 0) /\ Rf (SV.xsl 3 0 3 3) /\ Rf (SV.ptr 4 0) /\ Rf (none : Option Nat) /\ N (posL [.int .i64 ((posL f + (Utf8.decode q (posL f)).2 : Nat) : Int)]) r [.int .u8 i, .int .u8 j, .int .u8 k, .int .u8 (p.tmod 8), .int .i64 o] /\ F - posL [.int .i64 ((posL f + (Utf8.decode q (posL f)).2 : Nat) : Int)] < F - posL f)) (Wr .i64 (g + 1) (fun p => E1 q f p i j k l o))) (Br (((Utf8.decode q (posL f)).1 : Int) == 110) (Rf E4 /\ Rf E2 /\ Rf E3 /\ (q = q /\ Rf (none : Option Nat)) /\ Rf (SV.v (.int .i64 m)) /\ Rf (SV.ptr 0 0) /\ Rf (SV.ptr 1 0) /\ Rf (SV.ptr 2 0) /\ Rf (SV.xsl 3 0 3 3) /\ Rf (SV.ptr 4 0) /\ Rf (none : Option Nat) /\ N (posL [.int .i64 ((posL f + (Utf8.decode q (posL f)).2 : Nat) : Int)]) g [.int .u8 i, .int .u8 j, .int .u8 k, .int .u8 l, .int .i64 x.n] /\ F - posL [.int .i64 ((posL f + (Utf8.decode q (posL f)).2 : Nat) : Int)] < F - posL f) (Br (((Utf8.decode q (posL f)).1 : Int) == 112) (Wr .u64 x.n (fun p => (16 : Int) ≠ 0 /\ Wr .i64 (p.tmod 16) fun r => E1 q f g i j k l r)) (Wr .u64 x.n (fun p => Wr .u64 (bif true then imax m 1 else imin m 1) fun r => r ≠ 0 /\ Wr .i64 (p.tmod r) fun s => E1 q f g i j k l s))))) (Q (.agg #[.int .u8 i, .int .u8 j, .int .u8 k, .int .u8 l, .int .i64 o]))) (by kernel_rfl) ?_
 intro E2 E3 E4 E1;have hop := opSm_rng h;obtain ⟨hmem, hlen, hcnt⟩ := formL_mem (opSm x)
 have hreg : ∀ u, 0 <= regAt x.a x.b x.c u /\ regAt x.a x.b x.c u <= 255 := fun u => by
  unfold regAt;split
  · exact h.a
  · exact h.b
  · exact h.c
 refine (ct61 x h I).mono fun v a la hv => ⟨_, hv, (ct9 _ (by omega) a).mono fun b c lc hb => ⟨_, _, hb, ⟨rfl, rfl, rfl, ⟨rfl, rfl⟩, rfl, rfl, rfl, rfl, rfl, rfl, rfl, ?_⟩, fun e G le f g i j k l o hn => ?_⟩⟩
 · rw [hN]
   exact ⟨⟨opSm x, 0, 0, 0, 0⟩, rfl, ⟨by simp only; omega, (by decide : 0 <= (0 : Int) /\ (0 : Int) <= 255), (by decide : 0 <= (0 : Int) /\ (0 : Int) <= 255), (by decide : 0 <= (0 : Int) /\ (0 : Int) <= 255), (by decide : -9223372036854775808 <= (0 : Int) /\ (0 : Int) <= 9223372036854775807)⟩, rfl, Int.le_refl _, Int.le_refl _, Nat.zero_le _⟩
 rw [hN] at hn;obtain ⟨y, hy, ho, h2, h3, h4, h5⟩ := hn;simp only [insV, List.cons.injEq, Value.int.injEq, true_and, and_true] at hy;obtain ⟨rfl, rfl, rfl, rfl, rfl⟩ := hy;refine Br.mk (fun h7 => ?_) (fun h7 => ?_)
 · have hlt : posL f < (formL (opSm x)).length := by
    have : posL f < (strT (formL (opSm x))).size := by simpa using h7
    rwa [strT_size] at this
   obtain ⟨L, hL⟩ : ∃ L, (formL (opSm x))[posL f]? = some L := ⟨_, List.getElem?_eq_getElem hlt⟩;have hLm := hmem L (List.mem_of_getElem? hL)
   have hd : (formL (opSm x)).drop (posL f) = L :: (formL (opSm x)).drop (posL f + 1) := by
    rw [List.drop_eq_getElem_cons hlt]
    congr 1
    rw [List.getElem?_eq_getElem hlt] at hL;exact Option.some.inj hL
   have hdec : Utf8.decode (strT (formL (opSm x))) (posL f) = (L.toNat, 1) := dec_ascii hL (by rcases hLm with rfl | rfl | rfl | rfl <;> decide)
   have hpos : posL [Value.int .i64 ((posL f + 1 : Nat) : Int)] = posL f + 1 := by simp [posL, natV]
   have hF2 : F - (posL f + 1) < F - posL f := by omega
   rw [hd] at h2;simp only [E1, hdec, hpos, Rf, eq_self, true_and, and_true, hF2]
   have next : ∀ (y' : Ins) (u' : Int), okI y' -> 0 <= u' -> u' <= ((posL f + 1 : Nat) : Int) -> goS (L :: (formL (opSm x)).drop (posL f + 1)) x m y g.toNat = goS ((formL (opSm x)).drop (posL f + 1)) x m y' u'.toNat -> N (posL f + 1) u' [.int .u8 y'.op, .int .u8 y'.a, .int .u8 y'.b, .int .u8 y'.c, .int .i64 y'.n] := fun y' u' g1 g2 g3 g4 => by
    rw [hN]
    exact ⟨y', rfl, g1, by rw [h2, g4], g2, g3, by omega⟩
   by_cases hr : L = 114
   · subst hr
     refine Br.t rfl (Br.mk (fun h8 => ?_) (fun h8 => ?_))
     · have h8 := of_decide_eq_true h8
       have hcs : g = 0 \/ g = 1 \/ g = 2 := by omega
       have hrem : (regAt x.a x.b x.c g.toNat).tmod 8 = regAt x.a x.b x.c g.toNat % 8 := Int.tmod_eq_emod_of_nonneg (hreg _).1
       have hrg : 0 <= regAt x.a x.b x.c g.toNat % 8 /\ regAt x.a x.b x.c g.toNat % 8 <= 255 := by omega
       have hgo : goS (114 :: (formL (opSm x)).drop (posL f + 1)) x m y g.toNat = goS ((formL (opSm x)).drop (posL f + 1)) x m (putR y g.toNat (regAt x.a x.b x.c g.toNat % 8)) (g.toNat + 1) := by
        rw [goS, if_pos rfl, if_pos (by omega)]
       refine ⟨hcs, fun hg => ?_, fun hg => ?_, fun hg => ?_⟩
       all_goals subst hg
       · refine ⟨by omega, by omega, by omega, by omega, regAt x.a x.b x.c 0, rfl, by decide, wr_i64 (by omega) (by omega) ?_⟩
         have e0 : (regAt x.a x.b x.c 0).tmod 8 = regAt x.a x.b x.c 0 % 8 := hrem;rw [e0]
         exact next (putR y 0 (regAt x.a x.b x.c 0 % 8)) (0 + 1) ⟨ho.op, hrg, ho.b, ho.c, ho.n⟩ (by omega) (by omega) hgo
       · refine ⟨by omega, by omega, by omega, by omega, regAt x.a x.b x.c 1, rfl, by decide, wr_i64 (by omega) (by omega) ?_⟩
         have e0 : (regAt x.a x.b x.c 1).tmod 8 = regAt x.a x.b x.c 1 % 8 := hrem;rw [e0]
         exact next (putR y 1 (regAt x.a x.b x.c 1 % 8)) (1 + 1) ⟨ho.op, ho.a, hrg, ho.c, ho.n⟩ (by omega) (by omega) hgo
       · refine ⟨by omega, by omega, by omega, by omega, regAt x.a x.b x.c 2, rfl, by decide, wr_i64 (by omega) (by omega) ?_⟩
         have e0 : (regAt x.a x.b x.c 2).tmod 8 = regAt x.a x.b x.c 2 % 8 := hrem;rw [e0]
         exact next (putR y 2 (regAt x.a x.b x.c 2 % 8)) (2 + 1) ⟨ho.op, ho.a, ho.b, hrg, ho.n⟩ (by omega) (by omega) hgo
     · have h8 := of_decide_eq_false h8
       refine wr_i64 (by omega) (by omega) (next y (g + 1) ho (by omega) (by omega) ?_)
       rw [goS, if_pos rfl, if_neg (by omega), show (g + 1).toNat = g.toNat + 1 by omega]
   · refine Br.f (by simpa using fun e : (L.toNat : Int) = 114 => hr (UInt8.toNat_inj.1 (by rw [show (114 : UInt8).toNat = 114 by decide]; omega))) ?_
     have w64 : IntKind.u64.wrap x.n = x.n % 18446744073709551616 := by rw [IntKind.wrap_u64]
     have hnn : 0 <= x.n % 18446744073709551616 := Int.emod_nonneg _ (by decide)
     by_cases hnl : L = 110
     · subst hnl
       refine Br.t rfl (next { y with n := x.n } g ⟨ho.op, ho.a, ho.b, ho.c, h.n⟩ h3 (by omega) ?_)
       rw [goS, if_neg (by decide), if_pos rfl]
     · refine Br.f (by simpa using fun e : (L.toNat : Int) = 110 => hnl (UInt8.toNat_inj.1 (by rw [show (110 : UInt8).toNat = 110 by decide]; omega))) ?_
       by_cases hp : L = 112
       · subst hp
         refine Br.t rfl ⟨_, w64, by decide, ?_⟩
         rw [Int.tmod_eq_emod_of_nonneg hnn]
         have hu : 0 <= umod x.n 16 /\ umod x.n 16 < 16 := by unfold umod; omega
         refine wr_i64 (by unfold umod at hu; omega) (by unfold umod at hu; omega) (next { y with n := umod x.n 16 } g ⟨ho.op, ho.a, ho.b, ho.c, ⟨by simp only; omega, by simp only; omega⟩⟩ h3 (by omega) ?_)
         rw [goS, if_neg (by decide), if_neg (by decide), if_pos rfl]
       · refine Br.f (by simpa using fun e : (L.toNat : Int) = 112 => hp (UInt8.toNat_inj.1 (by rw [show (112 : UInt8).toNat = 112 by decide]; omega))) ⟨_, w64, ?_⟩
         have him : (bif true then imax m 1 else imin m 1) = m := by
          show imax m 1 = m
          unfold imax; split <;> omega
         rw [him]
         refine ⟨m, by rw [IntKind.wrap_u64]; omega, by omega, ?_⟩
         rw [Int.tmod_eq_emod_of_nonneg hnn]
         have hu : 0 <= umod x.n m /\ umod x.n m < m := ⟨Int.emod_nonneg _ (by omega), Int.emod_lt_of_pos _ (by omega)⟩
         have hmx : max m 1 = m := by omega
         refine wr_i64 (by unfold umod at hu; omega) (by unfold umod at hu; omega) (next { y with n := umod x.n m } g ⟨ho.op, ho.a, ho.b, ho.c, ⟨by simp only; omega, by simp only; omega⟩⟩ h3 (by omega) ?_)
         rw [goS, if_neg hr, if_neg hnl, if_neg hp, hmx]
 · have hge : (formL (opSm x)).length <= posL f := by
    have h7 : ¬ posL f < (strT (formL (opSm x))).size := fun hh => by
     have : (posL f).blt (strT (formL (opSm x))).size = true := by simpa using hh
     rw [this] at h7; cases h7
    rw [strT_size] at h7; omega
   rw [List.drop_eq_nil_of_le hge, goS] at h2;rw [hQ, h2];exact ⟨rfl, ho⟩
def SmC (I : Mem) (c : List Value) (x : Sm) : Prop := c = smV x /\ okSm x
theorem smC_mono (I J : Mem) (c : List Value) (e : Sm) (_ : I.le J) (h : SmC I c e) : SmC J c e := h
def SmM (I : Mem) (a : Option Addr) (n : Nat) (l : List Sm) : Prop := SlR 5 SmC I a n l
def madeS (l : List Sm) : List Ins := (l.take 40).map (fun x => oneS x ((l.take 40).length + 1)) ++ [⟨1, 0, 0, 0, 0⟩]
set_option maxHeartbeats 2000000 in
theorem ct15 (l : List Sm) (a : Option Addr) (n c : Nat) (hc : n <= c) (I : Mem) (h : SmM I a n l) : Ct Tryd.prog (fnv 15) #[.slice a n c] I (fun v I' => ∃ b m d, v = .slice b m d /\ InsM I' b m (madeS l) /\ m <= d /\ d <= maxLen) := by
 obtain ⟨Q, hQ⟩ : ∃ q : Value -> Mem -> Prop, q = fun v I' => ∃ b m d, v = .slice b m d /\ InsM I' b m (madeS l) /\ m <= d /\ d <= maxLen := ⟨_, rfl⟩;obtain ⟨N, hN⟩ : ∃ f : Int -> List Value -> Prop, f = fun (j : Int) xs => 0 <= j /\ j <= (l.take 40).length /\ xs = insVs (((l.take 40).take j.toNat).map fun x => oneS x ((l.take 40).length + 1)) /\ ∀ x ∈ (l.take 40).take j.toNat, okI (oneS x ((l.take 40).length + 1)) := ⟨_, rfl⟩;obtain ⟨M, hM⟩ : ∃ q : Nat, q = (l.take 40).length := ⟨_, rfl⟩;rw [<- hQ]
 refine viaR (ct_via (A := { loops := [(4, ⟨[(0, .keep), (3, .row 0), (11, .keep), (12, .keep), (13, .sh (.int .i64))], [(0, .row)], [(3, 5, 44)], fun vals xss _ _ => match vals, xss with | [.int .i64 j], [xs] => N j xs | _, _ => False, fun vals _ => match vals with | [.int .i64 j] => (M - j).toNat | _ => 0⟩)] }) Tryd.func15 rfl Tryd.call15 rfl rfl) (0 <= (bif false then imax (n : Int) 40 else imin (n : Int) 40) /\ (bif false then imax (n : Int) 40 else imin (n : Int) 40) <= (c : Int) /\ (Rf (SV.v (.slice a (bif false then imax (n : Int) 40 else imin (n : Int) 40).toNat c)) /\ (0 : Nat) = 0 /\ Rf (SV.v (.slice a (bif false then imax (n : Int) 40 else imin (n : Int) 40).toNat c)) /\ Rf (SV.v (.int .i64 ((bif false then imax (n : Int) 40 else imin (n : Int) 40).toNat : Int))) /\ N 0 []) /\ ∀ (b : Mem), Mem -> I.le b -> ∀ (x : List Value) (d : Int), N d x -> Br (decide (d < ((bif false then imax (n : Int) 40 else imin (n : Int) 40).toNat : Int))) (0 <= d /\ d < ((bif false then imax (n : Int) 40 else imin (n : Int) 40).toNat : Int) /\ a.isSome = true /\ (5 : Nat) = 5 /\ ∃ e, atI b a (d.toNat * 5 + 0) = some (.int .u8 e) /\ ∃ f, atI b a (d.toNat * 5 + 1) = some (.int .u8 f) /\ ∃ g, atI b a (d.toNat * 5 + 2) = some (.int .u8 g) /\ ∃ i, atI b a (d.toNat * 5 + 3) = some (.int .u8 i) /\ ∃ j, atI b a (d.toNat * 5 + 4) = some (.int .i64 j) /\ Wr .i64 (((bif false then imax (n : Int) 40 else imin (n : Int) 40).toNat : Int) + 1) fun k => Ct Tryd.prog (fnv 38) #[.agg #[.int .u8 e, .int .u8 f, .int .u8 g, .int .u8 i, .int .i64 j], .int .i64 k] b fun v m => ∃ o p q r s, v = .agg #[.int .u8 o, .int .u8 p, .int .u8 q, .int .u8 r, .int .i64 s] /\ x.length = x.length / 5 * 5 /\ x.length / 5 + 1 <= 9223372036854775807 /\ (x.length / 5 + 1) * 16 <= 140737488355328 /\ Wr .i64 (d + 1) fun t => Rf (SV.v (.slice a (bif false then imax (n : Int) 40 else imin (n : Int) 40).toNat c)) /\ x.length / 5 + 1 = List.length (x ++ [.int .u8 o, .int .u8 p, .int .u8 q, .int .u8 r, .int .i64 s]) / 5 /\ Rf (SV.v (.slice a (bif false then imax (n : Int) 40 else imin (n : Int) 40).toNat c)) /\ Rf (SV.v (.int .i64 ((bif false then imax (n : Int) 40 else imin (n : Int) 40).toNat : Int))) /\ N t (x ++ [.int .u8 o, .int .u8 p, .int .u8 q, .int .u8 r, .int .i64 s]) /\ Int.toNat ((M : Int) - t) < Int.toNat ((M : Int) - d)) (x.length = x.length / 5 * 5 /\ x.length / 5 + 1 <= 9223372036854775807 /\ (x.length / 5 + 1) * 16 <= 140737488355328 /\ ∀ (e : Option Addr) (f : Nat) (g : Mem), b.le g -> RowM g e f 5 (x ++ [.int .u8 1, .int .u8 0, .int .u8 0, .int .u8 0, .int .i64 0]) -> Q (.slice e (x.length / 5 + 1) f) g)) (by kernel_rfl) ?_
 have hl : l.length = n := SlR.len (by decide) h
 have hmx : n <= maxLen := SlR.max h
 have hmx2 : maxLen <= 9223372036854775807 := by decide
 have hM2 : M = min n 40 := by rw [hM, List.length_take, hl]; omega
 have him : (bif false then imax (n : Int) 40 else imin (n : Int) 40) = (M : Int) := by
  show imin (n : Int) 40 = _
  unfold imin; split <;> omega
 rw [him, Int.toNat_natCast]
 have ht := SlR.take (m := M) (by decide) h (by omega)
 have hlt : l.take M = l.take 40 := by
  rw [hM2]
  rcases Nat.le_total n 40 with hh | hh
  · rw [Nat.min_eq_left hh, List.take_of_length_le (by omega), List.take_of_length_le (by omega)]
  · rw [Nat.min_eq_right hh]
 rw [hlt] at ht;obtain ⟨T, hT⟩ : ∃ T, T = l.take 40 := ⟨_, rfl⟩;rw [<- hT] at ht hM hN;rw [<- hM] at hN
 refine ⟨by omega, by omega, ⟨rfl, rfl, rfl, rfl, ?_⟩, fun b G lb x d hd => ?_⟩
 · rw [hN]; exact ⟨Int.le_refl _, Int.natCast_nonneg _, rfl, fun x hx => by cases hx⟩
 rw [hN] at hd;obtain ⟨h1, h2, h3, h4⟩ := hd
 have hxl : x.length = d.toNat * 5 := by rw [h3, insVs_len, List.length_map, List.length_take]; omega
 have hx5 : x.length / 5 = d.toNat := by omega
 refine Br.mk (fun h5 => ?_) (fun h5 => ?_)
 · have h5 := of_decide_eq_true h5
   have htb := SlR.mono smC_mono ht lb
   obtain ⟨y, cs, g1, g2, ⟨rfl, g3⟩, g4⟩ := SlR.at_ (by decide) htb h1 h5
   have htk : T.take (d + 1).toNat = T.take d.toNat ++ [y] := by rw [show (d + 1).toNat = d.toNat + 1 by omega, List.take_add_one, g1]; rfl
   refine ⟨h1, h5, SlR.isSome htb (by omega), rfl, _, g4 0 _ rfl, _, g4 1 _ rfl, _, g4 2 _ rfl, _, g4 3 _ rfl, _, g4 4 _ rfl, wr_i64 (by omega) (by omega) ((ct38 y g3 ((M : Int) + 1) (by omega) b).mono fun v m lm ⟨hv, hok⟩ => ⟨_, _, _, _, _, hv, by omega, by omega, by omega, wr_i64 (by omega) (by omega) ⟨rfl, ?_, rfl, rfl, ?_, by omega⟩⟩)⟩
   · rw [List.length_append]; simp only [List.length_cons, List.length_nil]; omega
   · rw [hN]
     refine ⟨by omega, by omega, ?_, fun z hz => ?_⟩
     · rw [h3, htk]
       simp [insVs, insV]
     · rw [htk] at hz
       rcases List.mem_append.1 hz with hz | hz
       · exact h4 z hz
       · simp only [List.mem_cons, List.not_mem_nil, or_false] at hz
         rw [hz]; exact hok
 · have h5 := of_decide_eq_false h5
   refine ⟨by omega, by omega, by omega, fun e f g lg hrow => ?_⟩
   rw [List.take_of_length_le (by omega)] at h3 h4
   have hmade : madeS l = T.map (fun x => oneS x ((M : Int) + 1)) ++ [⟨1, 0, 0, 0, 0⟩] := by rw [madeS, <- hT, <- hM]
   have hx : x ++ [.int .u8 1, .int .u8 0, .int .u8 0, .int .u8 0, .int .i64 0] = insVs (madeS l) := by rw [hmade, h3]; simp [insVs, insV]
   have hokm : ∀ i ∈ madeS l, okI i := fun i hi => by
    rw [hmade] at hi
    rcases List.mem_append.1 hi with hi | hi
    · obtain ⟨z, hz, rfl⟩ := List.mem_map.1 hi
      exact h4 z hz
    · simp only [List.mem_cons, List.not_mem_nil, or_false] at hi
      subst hi
      exact ⟨by decide, by decide, by decide, by decide, by decide⟩
   rw [hx] at hrow
   have hsl := SlR.row (by decide) hrow (rowR_ins g hokm)
   have hln : (madeS l).length = x.length / 5 + 1 := by rw [hmade, List.length_append, List.length_map]; simp only [List.length_cons, List.length_nil]; omega
   obtain ⟨r1, r2, _⟩ := hrow;rw [insVs_len, hln] at r1;rw [hQ]
   refine ⟨e, _, f, rfl, ?_, by omega, r2⟩
   rw [<- hln]; exact hsl
theorem ct22 (L K : List (Tx × Int)) (a b : Option Addr) (n m c d : Nat) (I : Mem) (h : SlM I a n 2 (labsV L)) (h' : SlM I b m 2 (labsV K)) : Ct Tryd.prog (fnv 22) #[.slice a n c, .slice b m d] I (fun v _ => v = .bool (decide (L = K))) := by
 obtain ⟨Q, hQ⟩ : ∃ w : Bool, w = decide (L = K) := ⟨_, rfl⟩;obtain ⟨N, hN⟩ : ∃ f : Int -> Prop, f = fun j : Int => 0 <= j /\ j <= n /\ n = m /\ L.take j.toNat = K.take j.toNat := ⟨_, rfl⟩;rw [<- hQ]
 refine viaR (ct_via (A := { loops := [(4, ⟨[(0, .keep), (1, .keep), (12, .keep), (13, .sh (.int .i64))], [], [], fun vals _ _ _ => match vals with | [.int .i64 j] => N j | _ => False, fun vals _ => match vals with | [.int .i64 j] => (n - j).toNat | _ => 0⟩)] }) Tryd.func22 rfl Tryd.call22 rfl rfl) (Br ((n : Int) != (m : Int)) (Value.bool false = .bool Q) ((Rf (SV.v (.slice a n c)) /\ Rf (SV.v (.slice b m d)) /\ Rf (SV.v (.int .i64 (n : Int))) /\ N 0) /\ ∀ (e : Mem), Mem -> I.le e -> ∀ (f : Int), N f -> Br (decide (f < (n : Int))) (0 <= f /\ f < (n : Int) /\ a.isSome = true /\ (2 : Nat) = 2 /\ ∃ q, atI e a (f.toNat * 2 + 0) = some (.string q) /\ ∃ g, atI e a (f.toNat * 2 + 1) = some (.int .i64 g) /\ 0 <= f /\ f < (m : Int) /\ b.isSome = true /\ (2 : Nat) = 2 /\ ∃ i, atI e b (f.toNat * 2 + 0) = some (.string i) /\ ∃ j, atI e b (f.toNat * 2 + 1) = some (.int .i64 j) /\ Br (!(q.toList == i.toList && (g == j && true))) (Value.bool false = .bool Q) (Wr .i64 (f + 1) (fun k => Rf (SV.v (.slice a n c)) /\ Rf (SV.v (.slice b m d)) /\ Rf (SV.v (.int .i64 (n : Int))) /\ N k /\ Int.toNat ((n : Int) - k) < Int.toNat ((n : Int) - f)))) (Value.bool true = .bool Q))) (by kernel_rfl) ?_
 have hl : L.length = n := by have h1 := h.len; have h2 := labs_len L; omega
 have hl' : K.length = m := by have h1 := h'.len; have h2 := labs_len K; omega
 have hmx : n <= maxLen := h.max
 have hmx2 : maxLen <= 9223372036854775807 := by decide
 refine Br.mk (fun h1 => ?_) (fun h1 => ⟨⟨rfl, rfl, rfl, by rw [hN]; exact ⟨by omega, by omega, Int.natCast_inj.1 (by simpa using h1), rfl⟩⟩, fun e G le f hf => ?_⟩)
 · rw [hQ, decide_eq_false]
   rintro rfl;have : n = m := hl.symm.trans hl';subst this;simp at h1
 rw [hN] at hf ⊢;obtain ⟨h2, h3, h4, h5⟩ := hf;refine Br.mk (fun h6 => ?_) (fun h6 => ?_)
 · have h6 := of_decide_eq_true h6
   obtain ⟨x, hx⟩ : ∃ x, L[f.toNat]? = some x := ⟨_, List.getElem?_eq_getElem (by omega)⟩
   obtain ⟨y, hy⟩ : ∃ y, K[f.toNat]? = some y := ⟨_, List.getElem?_eq_getElem (by omega)⟩
   have hs := h.mono le;have hs' := h'.mono le
   have t1 : L.take (f + 1).toNat = L.take f.toNat ++ [x] := by rw [show (f + 1).toNat = f.toNat + 1 by omega, List.take_add_one, hx]; rfl
   have t2 : K.take (f + 1).toNat = K.take f.toNat ++ [y] := by rw [show (f + 1).toNat = f.toNat + 1 by omega, List.take_add_one, hy]; rfl
   refine ⟨h2, h6, hs.isSome (by omega), rfl, _, hs.at_ _ _ (labs_at hx 0 (by omega)), _, hs.at_ _ _ (labs_at hx 1 (by omega)), h2, by omega, hs'.isSome (by omega), rfl, _, hs'.at_ _ _ (labs_at hy 0 (by omega)), _, hs'.at_ _ _ (labs_at hy 1 (by omega)), ?_⟩
   rw [str_eq];refine Br.mk (fun h7 => ?_) (fun h7 => ?_)
   · rw [hQ, decide_eq_false]
     rintro rfl;rw [hx] at hy;cases hy;simp at h7
   · simp only [Bool.not_eq_false', Bool.and_eq_true, beq_iff_eq, and_true, decide_eq_true_eq] at h7
     have hxy : x = y := Prod.ext (strT_inj h7.1) h7.2
     exact wr_i64 (by omega) (by omega) ⟨rfl, rfl, rfl, ⟨by omega, by omega, h4, by rw [t1, t2, h5, hxy]⟩, by omega⟩
 · have h6 := of_decide_eq_false h6
   rw [List.take_of_length_le (by omega), List.take_of_length_le (by omega)] at h5
   rw [hQ, decide_eq_true h5]
theorem opSm_form {x : Sm} (h : okSm x) : ∃ l, formT (opSm x) = some l := by
 have ho := h.op;unfold opSm;split
 · refine ⟨[114, 114, 114], ?_⟩
   rw [formT, if_pos ⟨by omega, by omega⟩]
 · have : ∀ t ∈ opTab, (formT t).isSome = true := by decide
   have hl : opTab.length = 23 := rfl
   have hlt : (x.op % 40 - 17).toNat < opTab.length := by omega
   rw [List.getElem?_eq_getElem hlt];have := this _ (List.getElem_mem hlt);exact Option.isSome_iff_exists.1 this
theorem oneS_shape {x : Sm} (h : okSm x) {m : Int} (hm : 1 <= m /\ m <= 256) : ∃ l, formT (oneS x m).op = some l /\ shapeI (oneS x m) l /\ (116 ∈ l -> (oneS x m).n < m) := by
 obtain ⟨l, hl⟩ := opSm_form h
 have hop : ∀ (fs : Tx) (i : Ins) (u : Nat), (goS fs x m i u).op = i.op := by
  intro fs
  induction fs with
  | nil => intro i u; rfl
  | cons f r ih =>
    intro i u;rw [goS];split
    · rw [ih]
      split
      · unfold putR; split <;> rfl
      · rfl
    · split
      · rw [ih]
      · split <;> rw [ih]
 have hopx : (oneS x m).op = opSm x := by rw [oneS, hop]
 have hfl : formL (opSm x) = l := by rw [formL, hl]; rfl
 have ha := h.a; have hb := h.b; have hc := h.c
 have u1 : 0 <= umod x.n 16 /\ umod x.n 16 < 16 := by unfold umod; omega
 have u2 : 0 <= umod x.n (max m 1) /\ umod x.n (max m 1) < m := by
  have : max m 1 = m := by omega
  rw [this]
  exact ⟨Int.emod_nonneg _ (by omega), Int.emod_lt_of_pos _ (by omega)⟩
 refine ⟨l, by rw [hopx]; exact hl, ?_⟩
 rw [oneS, hfl]
 rcases formT_cases (opSm x) with hh | hh | hh | hh | hh | hh | hh | hh <;> rw [hh] at hl <;> cases hl
 · exact ⟨.inl ⟨rfl, rfl, rfl, rfl, rfl⟩, fun hh => by cases hh⟩
 · exact ⟨.inr (.inl ⟨rfl, by show x.a % 8 < 8; omega, rfl, rfl⟩), fun hh => by simp at hh⟩
 · exact ⟨.inr (.inr (.inl ⟨rfl, by show x.a % 8 < 8; omega, by show x.b % 8 < 8; omega, rfl, rfl⟩)), fun hh => by simp at hh⟩
 · exact ⟨.inr (.inr (.inr (.inl ⟨rfl, by show x.a % 8 < 8; omega, by show x.b % 8 < 8; omega, rfl, u1.1, u1.2⟩))), fun hh => by simp at hh⟩
 · exact ⟨.inr (.inr (.inr (.inr (.inl ⟨rfl, rfl, rfl, rfl, u2.1, by show umod x.n (max m 1) < 256; omega⟩)))), fun _ => u2.2⟩
 · exact ⟨.inr (.inr (.inr (.inr (.inr (.inl ⟨rfl, by show x.a % 8 < 8; omega, rfl, rfl, u2.1, by show umod x.n (max m 1) < 256; omega⟩))))), fun _ => u2.2⟩
 · exact ⟨.inr (.inr (.inr (.inr (.inr (.inr ⟨rfl, by show x.a % 8 < 8; omega, by show x.b % 8 < 8; omega, by show x.c % 8 < 8; omega, rfl⟩))))), fun hh => by simp at hh⟩
theorem check_of {p : List Ins} (hok : ∀ i ∈ p, okI i) (h : ∀ i ∈ p, oneE i = 0 /\ ((targetE i).2 = true -> (targetE i).1 < p.length)) (h0 : 0 < p.length) (h1 : p.length <= 256) (h2 : lastGoes p = false) : checkL p = (-1, 0) := by
 have hgo : ∀ (q : List Ins) (k : Int), (∀ i ∈ q, oneE i = 0 /\ ((targetE i).2 = true -> (targetE i).1 < p.length)) -> checkGo p.length q k = (-1, 0) := by
  intro q
  induction q with
  | nil => intro k _; rfl
  | cons i r ih =>
    intro k h
    obtain ⟨h1, h2⟩ := h i (by simp)
    rw [checkGo, if_neg (fun hh => hh h1), if_neg (fun hh => by have := h2 hh.1; omega)]
    exact ih _ fun j hj => h j (List.mem_cons_of_mem _ hj)
 rw [checkL, if_neg (by omega), if_neg (by omega), hgo p 0 h, if_neg (fun hh => hh rfl), h2]; rfl
theorem made_right {l : List Sm} (h : ∀ x ∈ l, okSm x) (hok : ∀ i ∈ madeS l, okI i) : checkL (madeS l) = (-1, 0) := by
 have hlen : (madeS l).length = (l.take 40).length + 1 := by rw [madeS, List.length_append, List.length_map]; rfl
 have h40 : (l.take 40).length <= 40 := by rw [List.length_take]; omega
 refine check_of hok (fun i hi => ?_) (by omega) (by omega) ?_
 · rw [madeS] at hi
   rcases List.mem_append.1 hi with hi | hi
   · obtain ⟨x, hx, rfl⟩ := List.mem_map.1 hi
     have hsx := h x (List.mem_of_mem_take hx)
     obtain ⟨f, h1, h2, h3⟩ := oneS_shape hsx (m := ((l.take 40).length : Int) + 1) ⟨by omega, by omega⟩
     have ho := hok _ (by rw [madeS]; exact List.mem_append_left _ (List.mem_map_of_mem hx))
     have h0 := shape_one h1 h2;refine ⟨h0, fun ht => ?_⟩;obtain ⟨t1, t2⟩ := tgt_form ho h0;have hm := t1.2 ht;rw [formL, h1] at hm;rw [t2 ht, hlen];have := h3 hm;omega
   · simp only [List.mem_cons, List.not_mem_nil, or_false] at hi
     subst hi
     exact ⟨by decide, fun hh => by cases hh⟩
 · rw [lastGoes, madeS, List.getLast?_concat]; rfl
theorem cells76 : Tryd.prog.cellsOf 76 = 5 := by kernel_rfl
theorem cells2 : Tryd.prog.cellsOf 2 = 1 := by kernel_rfl
def Q32 (I : Mem) (v : Value) : Prop := ∃ a n c l, v = .slice a n c /\ SmM I a n l /\ n <= c /\ c <= maxLen
theorem opc76 (W : World) : OpC Tryd.prog W 76 fun cs => ∃ x, SmC (memW W) cs x := by
 refine (opc_struct (P := Tryd.prog) (W := W) Tryd.underlying76 cells76 (.cons rfl cells5 (opc_int Tryd.underlying5) (.cons rfl cells5 (opc_int Tryd.underlying5) (.cons rfl cells5 (opc_int Tryd.underlying5) (.cons rfl cells5 (opc_int Tryd.underlying5) (.cons rfl cells2 (opc_int Tryd.underlying2) .nil)))))).mono ?_;rintro cs ⟨hl, ⟨k, h1, k1, k2⟩, ⟨a, h2, k3, k4⟩, ⟨b, h3, k5, k6⟩, ⟨c, h4, k7, k8⟩, ⟨n, h5, k9, k10⟩, _⟩
 match cs, hl with
 | [y0, y1, y2, y3, y4], _ =>
   simp only [List.drop_succ_cons, List.drop_zero, List.take_succ_cons, List.take_zero, List.cons.injEq, and_true] at h1 h2 h3 h4 h5
   subst h1; subst h2; subst h3; subst h4; subst h5
   exact ⟨⟨k, a, b, c, n⟩, rfl, ⟨k1, k2⟩, ⟨k3, k4⟩, ⟨k5, k6⟩, ⟨k7, k8⟩, ⟨k9, k10⟩⟩
section
variable {H : Type} {enc : TypeId × Value -> H} {W : World} {r : Reach} {b0 : Nat} {v : Value} {d : DataW H} {ps : List MemPlace}
theorem op32 (hval : Value.okWide Tryd.prog W r b0 32 v) (hd : DataW.Trod enc Tryd.prog W 0 (fun _ => true) true 32 v d ps) (hw : ∀ n ∈ d.weights Tryd.prog 32, n <= reachBytes) : Q32 (memW W) v := by
 obtain ⟨a, n, c, xs, h1, h2, h3, h4, _, h5⟩ := opc_top_slice (opc_slice (by decide) Tryd.underlying32 cells76 (opc76 W)) Tryd.underlying32 hval hd hw
 simp only [List.cons.injEq, and_true] at h1;obtain ⟨l, hl, hr⟩ := RowR.of (E := SmC) n xs h4.len h5;exact ⟨a, n, c, l, h1, ⟨xs, h4, hr⟩, h2, h3⟩
end
theorem SmM.ok {I : Mem} {a : Option Addr} {n : Nat} {l : List Sm} (h : SmM I a n l) : ∀ x ∈ l, okSm x := by
 obtain ⟨xs, _, h2⟩ := h;exact RowR.all (P := okSm) (fun h => h.2) h2
theorem InsM.ok {I : Mem} {a : Option Addr} {n : Nat} {p : List Ins} (h : InsM I a n p) : ∀ x ∈ p, okI x := by
 obtain ⟨xs, _, h2⟩ := h;exact RowR.all (P := okI) (fun h => h.2) h2
def wantL (p : List Ins) (i : Nat) : List (Tx × Int) := ((List.range i).filter (isTo p)).map fun (j : Nat) => (lab j, (j : Int))
theorem out_count (p : List Ins) : ∀ (l : List Ins) (k : Nat), (outLines p l k).length = l.length + ((List.range' k l.length).filter (isTo p)).length
 | [], k => rfl
 | i :: r, k => by
   rw [outLines, List.length_append, List.length_cons, out_count p r (k + 1), List.length_cons, List.range'_succ, List.filter_cons]
   cases isTo p k <;> simp <;> omega
theorem text_count {p : List Ins} (h : ∀ i ∈ p, okI i /\ oneE i = 0) : (outGo p p 0).count 10 = p.length + (wantL p p.length).length := by
 have h1 := count_splitC 10 (outGo p p 0);rw [split_out p p 0 h, List.length_append, out_count] at h1;simp only [List.length_cons, List.length_nil] at h1;rw [wantL, List.length_map, List.range_eq_range'];omega
theorem want_succ (p : List Ins) (i : Nat) : wantL p (i + 1) = wantL p i ++ if isTo p i then [(lab i, (i : Int))] else [] := by
 rw [wantL, List.range_succ, List.filter_append, List.map_append, List.filter_cons]
 cases isTo p i <;> rfl
theorem text_inj {p q : List Ins} (hp : ∀ i ∈ p, okI i) (hq : ∀ i ∈ q, okI i) (h1 : (checkL p).2 = 0) (h2 : (checkL q).2 = 0) (h : (writeA p).1 = (writeA q).1) : p = q := by
 have a := (parse_back hp h1).1;have b := (parse_back hq h2).1;rw [h, b] at a;exact (Prod.mk.inj a).1.symm
set_option maxHeartbeats 4000000 in
theorem ct6 (k l : List Sm) (a b : Option Addr) (n m c d : Nat) (hc : n <= c) (hd : m <= d) (I : Mem) (hG : Globs I) (hk : SmM I a n k) (hl : SmM I b m l) : Ct Tryd.prog (fnv 6) #[.slice a n c, .slice b m d] I (fun v _ => v = .bool true) := by
 obtain ⟨p, hp⟩ : ∃ p, p = madeS k := ⟨_, rfl⟩;obtain ⟨N, hN⟩ : ∃ f : Int -> List Value -> Prop, f = fun (j : Int) xs => 0 <= j /\ j <= p.length /\ xs = labsV (wantL p j.toNat) := ⟨_, rfl⟩;obtain ⟨M, hM⟩ : ∃ f : Int -> Int -> Prop, f = fun (i j : Int) => 0 <= j /\ j <= p.length /\ isTo (p.take j.toNat) i.toNat = false := ⟨_, rfl⟩
 refine viaR (ct_via (A := { loops := [(12, ⟨[(5, .keep), (7, .keep), (14, .keep), (17, .row 0), (82, .keep), (83, .keep), (84, .sh (.int .i64))], [(0, .row)], [(17, 2, 49)], fun vals xss _ _ => match vals, xss with | [.int .i64 i], [xs] => N i xs | _, _ => False, fun vals _ => match vals with | [.int .i64 i] => (p.length - i).toNat | _ => 0⟩),
  (15, ⟨[(5, .keep), (7, .keep), (14, .keep), (17, .keep), (18, .kv), (82, .keep), (83, .keep), (84, .keep), (87, .keep), (88, .keep), (89, .sh (.int .i64))], [(0, .keep)], [], fun vals _ _ _ => match vals with | [.int .i64 i, .int .i64 j] => M i j | _ => False, fun vals _ => match vals with | [_, .int .i64 j] => (p.length - j).toNat | _ => 0⟩)] }) Tryd.func6 rfl Tryd.call6 rfl rfl) (let E1 := fun (x : Int) (e : List Value) (f : Option Addr) (g : Nat) (h : Nat) (i : ByteArray) (j : Option Addr) (o : Nat) (q : Nat) (r : Int) => Wr .i64 (x + 1) fun s => Rf (Ent.mk (.row e 2 49) none) /\ Rf (SV.v (.slice f g h)) /\ Rf (SV.v (.string i)) /\ Rf (SV.v (.slice j o q)) /\ Rf (SV.rsl 0 (e.length / 2)) /\ Rf (SV.v (.int .i64 r)) /\ Rf (SV.v (.slice f g h)) /\ Rf (SV.v (.int .i64 (g : Int))) /\ Rf (SV.v (.int .i64 r)) /\ Rf (SV.v (.slice f g h)) /\ Rf (SV.v (.int .i64 (g : Int))) /\ M r s /\ Int.toNat ((p.length : Int) - s) < Int.toNat ((p.length : Int) - x)
    Ct Tryd.prog (fnv 8) #[] I fun v e => ∃ f, v = .bool f /\ Br (!f) (Value.bool false = .bool true) (Ct Tryd.prog (fnv 15) #[.slice a n c] e (fun g h => ∃ i j o, g = .slice i j o /\ Ct Tryd.prog (fnv 15) #[.slice b m d] h fun q r => ∃ s t u, q = .slice s t u /\ Ct Tryd.prog (fnv 16) #[.slice i j o] r fun w x => ∃ y z, w = .tuple #[.string y, .int .i64 z] /\ Ct Tryd.prog (fnv 16) #[.slice s t u] x fun v1 I1 => ∃ q1 n1, v1 = .tuple #[.string q1, .int .i64 n1] /\ Ct Tryd.prog (fnv 17) #[.string y] I1 fun v2 I2 => ∃ a1 n2 c1 n3 n4, v2 = .tuple #[.slice a1 n2 c1, .int .i64 n3, .int .i64 n4] /\ Ct Tryd.prog (fnv 18) #[.string y] I2 fun v3 I3 => ∃ a2 n5 c2 n6 n7, v3 = .tuple #[.slice a2 n5 c2, .int .i64 n6, .int .i64 n7] /\ Wr .i64 (z + n1) fun c3 => Wr .i64 (c3 + n4) fun c4 => Wr .i64 (c4 + n7) fun c5 => Br (c5 != 0) (Value.bool false = .bool true) (Br (n3 != 0) (Value.bool false = .bool true) (Br (n6 != 0) (Value.bool false = .bool true) (Ct Tryd.prog (fnv 19) #[.slice a1 n2 c1, .slice i j o] I3 (fun v4 I4 => ∃ b1, v4 = .bool b1 /\ Br (!b1) (Value.bool false = .bool true) (Ct Tryd.prog (fnv 19) #[.slice i j o, .slice s t u] I4 (fun v5 I5 => ∃ b2, v5 = .bool b2 /\ Br (!((y.toList == q1.toList) == b2)) (Value.bool false = .bool true) ((Rf (SV.v (.slice i j o)) /\ Rf (SV.v (.string y)) /\ Rf (SV.v (.slice a2 n5 c2)) /\ (0 : Nat) = 0 /\ Rf (SV.v (.slice i j o)) /\ Rf (SV.v (.int .i64 (j : Int))) /\ N 0 []) /\ ∀ (I6 : Mem), Mem -> I5.le I6 -> ∀ (x1 : List Value) (n8 : Int), N n8 x1 -> Br (decide (n8 < (j : Int))) ((Rf (Ent.mk (.row x1 2 49) none) /\ Rf (SV.v (.slice i j o)) /\ Rf (SV.v (.string y)) /\ Rf (SV.v (.slice a2 n5 c2)) /\ Rf (SV.rsl 0 (x1.length / 2)) /\ Rf (SV.v (.int .i64 n8)) /\ Rf (SV.v (.slice i j o)) /\ Rf (SV.v (.int .i64 (j : Int))) /\ Rf (SV.v (.int .i64 n8)) /\ Rf (SV.v (.slice i j o)) /\ Rf (SV.v (.int .i64 (j : Int))) /\ M n8 0) /\ ∀ (I7 : Mem), Mem -> I6.le I7 -> ∀ (n9 : Int), M n8 n9 -> Br (decide (n9 < (j : Int))) (0 <= n9 /\ n9 < (j : Int) /\ i.isSome = true /\ (5 : Nat) = 5 /\ ∃ n10, atI I7 i (n9.toNat * 5 + 0) = some (.int .u8 n10) /\ ∃ n11, atI I7 i (n9.toNat * 5 + 1) = some (.int .u8 n11) /\ ∃ n12, atI I7 i (n9.toNat * 5 + 2) = some (.int .u8 n12) /\ ∃ n13, atI I7 i (n9.toNat * 5 + 3) = some (.int .u8 n13) /\ ∃ n14, atI I7 i (n9.toNat * 5 + 4) = some (.int .i64 n14) /\ Ct Tryd.prog (fnv 20) #[.agg #[.int .u8 n10, .int .u8 n11, .int .u8 n12, .int .u8 n13, .int .i64 n14]] I7 fun v6 I8 => ∃ n15 b3, v6 = .tuple #[.int .i64 n15, .bool b3] /\ Br b3 (Br (n15 == n8) (Ct Tryd.prog (fnv 21) #[.int .i64 n8] I8 (fun v7 I9 => ∃ q2, v7 = .string q2 /\ 1 + q2.size <= 4611686018427387904 /\ x1.length = x1.length / 2 * 2 /\ x1.length / 2 + 1 <= 9223372036854775807 /\ (x1.length / 2 + 1) * 24 <= 140737488355328 /\ Wr .i64 (n8 + 1) fun c6 => Rf (SV.v (.slice i j o)) /\ Rf (SV.v (.string y)) /\ Rf (SV.v (.slice a2 n5 c2)) /\ x1.length / 2 + 1 = List.length (x1 ++ [.string (⟨#[108]⟩ ++ q2), .int .i64 n8]) / 2 /\ Rf (SV.v (.slice i j o)) /\ Rf (SV.v (.int .i64 (j : Int))) /\ N c6 (x1 ++ [.string (⟨#[108]⟩ ++ q2), .int .i64 n8]) /\ Int.toNat ((p.length : Int) - c6) < Int.toNat ((p.length : Int) - n8))) (E1 n9 x1 i j o y a2 n5 c2 n8)) (E1 n9 x1 i j o y a2 n5 c2 n8)) (Wr .i64 (n8 + 1) (fun c6 => Rf (SV.v (.slice i j o)) /\ Rf (SV.v (.string y)) /\ Rf (SV.v (.slice a2 n5 c2)) /\ Rf (x1.length / 2) /\ Rf (SV.v (.slice i j o)) /\ Rf (SV.v (.int .i64 (j : Int))) /\ N c6 x1 /\ Int.toNat ((p.length : Int) - c6) < Int.toNat ((p.length : Int) - n8)))) (∀ (a3 : Option Addr) (c6 : Nat) (I7 : Mem), I6.le I7 -> RowM I7 a3 c6 2 x1 -> Ct Tryd.prog (fnv 22) #[.slice a2 n5 c2, .slice a3 (x1.length / 2) c6] I7 fun v6 I8 => ∃ b3, v6 = .bool b3 /\ Br b3 (Ct Tryd.prog (fnv 23) #[.string y, .string ⟨#[10]⟩] I8 (fun v7 I9 => ∃ n9, v7 = .int .i64 n9 /\ Wr .i64 ((j : Int) + ((x1.length / 2 : Nat) : Int)) fun c7 => Value.bool (n9 == c7) = .bool true)) (Value.bool false = .bool true)))))))))))) (by kernel_rfl) ?_
 intro E1;refine (ct8 I hG).mono fun v e le hv => ⟨_, hv, Br.f rfl ?_⟩;refine (ct15 k a n c hc e (SlR.mono smC_mono hk le)).mono fun g h lh ⟨i, j, o, hg, hip, hio, _⟩ => ⟨_, _, _, hg, ?_⟩;refine (ct15 l b m d hd h (SlR.mono smC_mono hl (Mem.le_trans le lh))).mono fun q r lr ⟨s, t, u, hq, hiq, hsu, _⟩ => ⟨_, _, _, hq, ?_⟩;have okp := hip.ok;have okq := hiq.ok;have cp := made_right hk.ok okp;have cq := made_right hl.ok okq;rw [<- hp] at okp cp hip;obtain ⟨w, hw⟩ : ∃ w, w = madeS l := ⟨_, rfl⟩;rw [<- hw] at okq cq hiq
 have cp2 : (checkL p).2 = 0 := by rw [cp]
 have cq2 : (checkL w).2 = 0 := by rw [cq]
 have wp : writeA p = (outGo p p 0, 0) := by rw [writeA, if_neg (fun hh => hh cp2)]
 have wq : writeA w = (outGo w w 0, 0) := by rw [writeA, if_neg (fun hh => hh cq2)]
 obtain ⟨k1, k2, k3, _⟩ := check_len cp2;have hck := checkGo_ok _ _ _ k3;have hall : ∀ i ∈ p, okI i /\ oneE i = 0 := fun i hi => ⟨okp i hi, (hck i hi).1⟩
 have hol := out_len p p 0 okp (by omega)
 obtain ⟨pb, lb⟩ := parse_back okp cp2;rw [wp] at pb lb;have hGr : Globs r := hG.mono (Mem.le_trans le (Mem.le_trans lh lr));refine (ct16 p i j o r hGr (hip.mono lr)).mono fun x1 x lx hx1 => ⟨_, _, hx1, ?_⟩;refine (ct16 w s t u x (hGr.mono lx) (hiq.mono lx)).mono fun v1 I1 l1 hv1 => ⟨_, _, hv1, ?_⟩;rw [wp, wq]
 refine (ct17 (strT (outGo p p 0)) (by rw [strT_size]; omega) I1 (hGr.mono (Mem.le_trans lx l1))).mono fun v2 I2 l2 ⟨a1, n2, c1, hv2, hi1, _, _⟩ => ⟨_, _, _, _, _, hv2, ?_⟩
 refine (ct18 (strT (outGo p p 0)) (by rw [strT_size]; omega) I2 (hGr.mono (Mem.le_trans lx (Mem.le_trans l1 l2)))).mono fun v3 I3 l3 ⟨a2, n5, c2, hv3, hs2, hn5, _, _⟩ => ⟨_, _, _, _, _, hv3, ?_⟩
 rw [tx_strT] at hi1 hs2 hn5 ⊢;rw [pb] at hi1 ⊢;rw [lb] at hs2 hn5 ⊢;have hjl := hip.len;have hmxl : wantL p p.length = ((List.range p.length).filter (isTo p)).map fun (j : Nat) => (lab j, (j : Int)) := rfl
 simp only at hs2 hn5
 rw [<- hmxl] at hs2 hn5;have hI3 : InsM I3 i j p := hip.mono (Mem.le_trans lr (Mem.le_trans lx (Mem.le_trans l1 (Mem.le_trans l2 l3))));have hI3q : InsM I3 s t w := hiq.mono (Mem.le_trans lx (Mem.le_trans l1 (Mem.le_trans l2 l3)))
 refine wr_i64 (by simp) (by simp) (wr_i64 (by simp) (by simp) (wr_i64 (by simp) (by simp) (Br.f rfl (Br.f rfl (Br.f rfl ((ct19 p p a1 i n2 j c1 o I3 (hi1.mono l3) hI3).mono fun v4 I4 l4 hv4 => ⟨_, hv4, Br.f (by simp) ((ct19 p w i s j t o u I4 (hI3.mono l4) (hI3q.mono l4)).mono fun v5 I5 l5 hv5 => ⟨_, hv5, Br.f ?_ ⟨⟨rfl, rfl, rfl, rfl, rfl, rfl, ?_⟩, fun I6 G6 l6 x1 n8 hn => ?_⟩⟩)⟩))))))
 · rw [str_eq]
   have : decide (strT (outGo p p 0) = strT (outGo w w 0)) = decide (p = w) := decide_eq_decide.2 ⟨fun hh => text_inj okp okq cp2 cq2 (by rw [wp, wq]; exact strT_inj hh), fun hh => by rw [hh]⟩
   rw [this]; simp
 · rw [hN]; exact ⟨Int.le_refl _, Int.natCast_nonneg _, rfl⟩
 rw [hN] at hn;obtain ⟨n1, n2', n3⟩ := hn
 have hx1 : x1.length = (wantL p n8.toNat).length * 2 := by rw [n3, labs_len]
 have hwl : (wantL p n8.toNat).length <= n8.toNat := by rw [wantL, List.length_map]; have := List.length_filter_le (isTo p) (List.range n8.toNat); rw [List.length_range] at this; exact this
 have hG6 : Globs I6 := hGr.mono (Mem.le_trans lx (Mem.le_trans l1 (Mem.le_trans l2 (Mem.le_trans l3 (Mem.le_trans l4 (Mem.le_trans l5 l6))))));have hI6 : InsM I6 i j p := hI3.mono (Mem.le_trans l4 (Mem.le_trans l5 l6));refine Br.mk (fun h1 => ?_) (fun h1 => ?_)
 · have h1 := of_decide_eq_true h1
   refine ⟨⟨rfl, rfl, rfl, rfl, rfl, rfl, rfl, rfl, rfl, rfl, rfl, by rw [hM]; exact ⟨Int.le_refl _, Int.natCast_nonneg _, rfl⟩⟩, fun I7 G7 l7 n9 hm => ?_⟩
   rw [hM] at hm;obtain ⟨m1, m2, m3⟩ := hm
   have hnx : (n8 + 1).toNat = n8.toNat + 1 := by omega
   refine Br.mk (fun h2 => ?_) (fun h2 => ?_)
   · have h2 := of_decide_eq_true h2
     obtain ⟨ins, q1, q2, e0, e1, e2, e3, e4⟩ := (hI6.mono l7).get m1 h2
     have htk : p.take (n9 + 1).toNat = p.take n9.toNat ++ [ins] := by rw [show (n9 + 1).toNat = n9.toNat + 1 by omega, List.take_add_one, q1]; rfl
     have cont : ¬ ((targetE ins).2 = true /\ (targetE ins).1 = n8) -> E1 n9 x1 i j o (strT (outGo p p 0)) a2 n5 c2 n8 := fun hno =>
      wr_i64 (by omega) (by omega) ⟨rfl, rfl, rfl, rfl, rfl, rfl, rfl, rfl, rfl, rfl, rfl, by
       rw [hM]
       refine ⟨by omega, by omega, ?_⟩
       rw [htk, isTo, List.any_append, List.any_cons, List.any_nil, Bool.or_false];rw [isTo] at m3;rw [m3, Bool.false_or, Bool.eq_false_iff];intro hh;simp only [Bool.and_eq_true, decide_eq_true_eq] at hh
       exact hno ⟨hh.1, by omega⟩, by omega⟩
     refine ⟨m1, h2, SlR.isSome (hI6.mono l7) (by omega), rfl, _, e0, _, e1, _, e2, _, e3, _, e4, (ct20 ins q2 I7).mono fun v6 I8 l8 hv6 => ⟨_, _, hv6, Br.mk (fun h3 => Br.mk (fun h4 => ?_) (fun h4 => cont fun hh => by rw [hh.2] at h4; simp at h4)) (fun h3 => cont fun hh => by rw [hh.1] at h3; cases h3)⟩⟩
     have h4 : (targetE ins).1 = n8 := by simpa using h4
     have hto : isTo p n8.toNat = true := by
      rw [isTo, List.any_eq_true]
      exact ⟨ins, List.mem_of_getElem? q1, by rw [h3, Bool.true_and, decide_eq_true_eq]; omega⟩
     have h8n : i64N n8 := ⟨by omega, by omega⟩
     have hil := itoa_len h8n
     refine (ct21 n8 h8n I8 (hG6.mono (Mem.le_trans l7 l8))).mono fun v7 I9 l9 hv7 => ⟨_, hv7, by rw [strT_size]; omega, by omega, by omega, by omega, wr_i64 (by omega) (by omega) ⟨rfl, rfl, rfl, ?_, rfl, rfl, ?_, by omega⟩⟩
     · rw [List.length_append]; simp only [List.length_cons, List.length_nil]; omega
     · rw [hN]
       refine ⟨by omega, by omega, ?_⟩
       rw [hnx, want_succ, hto, if_pos rfl, n3];have e10 : (⟨#[108]⟩ : ByteArray) = strT [108] := rfl;rw [e10, str_add]
       have en : ((n8.toNat : Nat) : Int) = n8 := by omega
       rw [en];simp [labsV, lab]
   · have h2 := of_decide_eq_false h2
     rw [List.take_of_length_le (by omega)] at m3
     refine wr_i64 (by omega) (by omega) ⟨rfl, rfl, rfl, rfl, rfl, rfl, ?_, by omega⟩
     rw [hN]
     refine ⟨by omega, by omega, ?_⟩
     rw [hnx, want_succ, m3, n3]; simp
 · have h1 := of_decide_eq_false h1
   have hn8 : n8.toNat = p.length := by omega
   rw [hn8] at n3 hx1 hwl;intro a3 c6 I7 l7 hrow;rw [n3] at hrow
   have hsl := hrow.sl (n := (wantL p p.length).length) (by decide) (labs_len _)
   have hx2 : x1.length / 2 = (wantL p p.length).length := by omega
   rw [hx2]
   refine (ct22 (wantL p p.length) (wantL p p.length) a2 a3 n5 (wantL p p.length).length c2 c6 I7 (hs2.mono (Mem.le_trans l4 (Mem.le_trans l5 (Mem.le_trans l6 l7)))) hsl).mono fun v6 I8 l8 hv6 => ⟨_, hv6, Br.t (by simp) ((ct23 (strT (outGo p p 0)) 10 I8).mono fun v7 I9 l9 hv7 => ⟨_, hv7, wr_i64 (by omega) (by omega) ?_⟩)⟩
   rw [tx_strT, text_count hall, hjl.symm]
   simp
theorem ct6Q (I : Mem) (hG : Globs I) (v0 v1 : Value) (h0 : Q32 I v0) (h1 : Q32 I v1) : Ct Tryd.prog (fnv 6) #[v0, v1] I (fun v _ => v = .bool true) := by
 obtain ⟨a, n, c, l, rfl, h2, h3, _⟩ := h0;obtain ⟨b, m, d, k, rfl, h5, h6, _⟩ := h1;exact ct6 l k a b n m c d h3 h6 I hG h2 h5
