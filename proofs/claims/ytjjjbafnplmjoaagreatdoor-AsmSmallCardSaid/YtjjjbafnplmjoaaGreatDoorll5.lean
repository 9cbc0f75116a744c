/- Part of a proof by the rules of the symbolic walk (see the law's own text): contracts of functions of the program. -/
import Derived.Test.YtjjjbafnplmjoaaGreatDoorll4
import Derived.Test.YtjjjbafnplmjoaaGreatDoorRows
import Derived.Lib.LaidTab
import Derived.Lib.LaidU8
import Derived.Stop.LaidErr
import Derived.Stop.Joined
import Derived.Shelf.Vars
import Derived.Lay
import Derived.MakeChecks
import Derived.ProofKit
import Derived.Test.YtjjjbafnplmjoaaGreatDoorll3
set_option linter.unusedVariables false
set_option linter.unusedSimpArgs false
open Go Go.Proofs Go.SE Go.RowKit
set_option linter.unusedVariables false
set_option maxRecDepth 100000
theorem ct27 (p q : List Ins) (a b : Option Addr) (n m c d : Nat) (I : Mem) (h : InsM I a n p) (h' : InsM I b m q) : Ct Tryz.prog (fnv 27) #[.slice a n c, .slice b m d] I (fun v _ => v = .bool (decide (p = q))) := by
 obtain ⟨Q, hQ⟩ : ∃ w : Bool, w = decide (p = q) := ⟨_, rfl⟩;obtain ⟨N, hN⟩ : ∃ f : Int -> Prop, f = fun j : Int => 0 <= j /\ j <= n /\ n = m /\ p.take j.toNat = q.take j.toNat := ⟨_, rfl⟩;rw [<- hQ]
 refine viaR (ct_via (A := { loops := [(4, ⟨[(0, .keep), (1, .keep), (12, .keep), (13, .sh (.int .i64))], [], [], fun vals _ _ _ => match vals with | [.int .i64 j] => N j | _ => False, fun vals _ => match vals with | [.int .i64 j] => (n - j).toNat | _ => 0⟩)] }) Tryz.func27 rfl Tryz.call27 rfl rfl) (Br ((n : Int) != (m : Int)) (Value.bool false = .bool Q) ((Rf (SV.v (.slice a n c)) /\ Rf (SV.v (.slice b m d)) /\ Rf (SV.v (.int .i64 (n : Int))) /\ N 0) /\ ∀ (e : Mem), Mem -> I.le e -> ∀ (f : Int), N f -> Br (decide (f < (n : Int))) (0 <= f /\ f < (n : Int) /\ a.isSome = true /\ (5 : Nat) = 5 /\ ∃ g, atI e a (f.toNat * 5 + 0) = some (.int .u8 g) /\ ∃ i, atI e a (f.toNat * 5 + 1) = some (.int .u8 i) /\ ∃ j, atI e a (f.toNat * 5 + 2) = some (.int .u8 j) /\ ∃ k, atI e a (f.toNat * 5 + 3) = some (.int .u8 k) /\ ∃ l, atI e a (f.toNat * 5 + 4) = some (.int .i64 l) /\ 0 <= f /\ f < (m : Int) /\ b.isSome = true /\ (5 : Nat) = 5 /\ ∃ o, atI e b (f.toNat * 5 + 0) = some (.int .u8 o) /\ ∃ r, atI e b (f.toNat * 5 + 1) = some (.int .u8 r) /\ ∃ s, atI e b (f.toNat * 5 + 2) = some (.int .u8 s) /\ ∃ t, atI e b (f.toNat * 5 + 3) = some (.int .u8 t) /\ ∃ u, atI e b (f.toNat * 5 + 4) = some (.int .i64 u) /\ Br (!(g == o && (i == r && (j == s && (k == t && (l == u && true)))))) (Value.bool false = .bool Q) (Wr .i64 (f + 1) (fun v => Rf (SV.v (.slice a n c)) /\ Rf (SV.v (.slice b m d)) /\ Rf (SV.v (.int .i64 (n : Int))) /\ N v /\ Int.toNat ((n : Int) - v) < Int.toNat ((n : Int) - f)))) (Value.bool true = .bool Q))) (by kernel_rfl) ?_
 have hl := h.len;have hl' := h'.len;have hmx : n <= maxLen := SlR.max h
 have hmx2 : maxLen <= 9223372036854775807 := by decide
 refine Br.mk (fun h1 => ?_) (fun h1 => ⟨⟨rfl, rfl, rfl, by rw [hN]; exact ⟨by omega, by omega, Int.natCast_inj.1 (by simpa using h1), rfl⟩⟩, fun e G le f hf => ?_⟩)
 · rw [hQ, decide_eq_false]
   rintro rfl;have : n = m := hl.symm.trans hl';subst this;simp at h1
 rw [hN] at hf ⊢;obtain ⟨h2, h3, h4, h5⟩ := hf;refine Br.mk (fun h6 => ?_) (fun h6 => ?_)
 · have h6 := of_decide_eq_true h6
   obtain ⟨i, g1, g2, e0, e1, e2, e3, e4⟩ := (h.mono le).get h2 h6
   obtain ⟨j, k1, k2, d0, d1, d2, d3, d4⟩ := (h'.mono le).get h2 (by omega)
   have t1 : p.take (f + 1).toNat = p.take f.toNat ++ [i] := by rw [show (f + 1).toNat = f.toNat + 1 by omega, List.take_add_one, g1]; rfl
   have t2 : q.take (f + 1).toNat = q.take f.toNat ++ [j] := by rw [show (f + 1).toNat = f.toNat + 1 by omega, List.take_add_one, k1]; rfl
   refine ⟨h2, h6, SlR.isSome (h.mono le) (by omega), rfl, _, e0, _, e1, _, e2, _, e3, _, e4, h2, by omega, SlR.isSome (h'.mono le) (by omega), rfl, _, d0, _, d1, _, d2, _, d3, _, d4, Br.mk (fun h7 => ?_) (fun h7 => ?_)⟩
   · rw [hQ, decide_eq_false]
     rintro rfl;rw [g1] at k1;cases k1;simp at h7
   · have hij : i = j := by
      obtain ⟨o, a1, b1, c1, n1⟩ := i;obtain ⟨o2, a2, b2, c2, n2⟩ := j;simp only [Bool.not_eq_false', Bool.and_eq_true, beq_iff_eq, and_true] at h7;obtain ⟨rfl, rfl, rfl, rfl, rfl⟩ := h7;rfl
     exact wr_i64 (by omega) (by omega) ⟨rfl, rfl, rfl, ⟨by omega, by omega, h4, by rw [t1, t2, h5, hij]⟩, by omega⟩
 · have h6 := of_decide_eq_false h6
   rw [List.take_of_length_le (by omega), List.take_of_length_le (by omega)] at h5
   rw [hQ, decide_eq_true h5]
def awT1 : Tx := [108, 111, 111, 112, 58, 32, 115, 117, 98, 32, 114, 49, 32, 114, 49, 32, 114, 50, 32, 59, 32, 100, 111, 119, 110, 10, 32, 32, 106, 122, 32, 114, 49, 32, 101, 110, 100, 10, 32, 32, 106, 117, 109, 112, 32, 108, 111, 111, 112, 10, 101, 110, 100, 58, 10, 32, 32, 104, 97, 108, 116, 10]
def awT2 : Tx := [108, 48, 58, 10, 32, 32, 115, 117, 98, 32, 114, 49, 32, 114, 49, 32, 114, 50, 10, 32, 32, 106, 122, 32, 114, 49, 32, 108, 51, 10, 32, 32, 106, 117, 109, 112, 32, 108, 48, 10, 108, 51, 58, 10, 32, 32, 104, 97, 108, 116, 10]
def awP : List Ins := [⟨34, 1, 1, 2, 0⟩, ⟨10, 1, 0, 0, 3⟩, ⟨9, 0, 0, 0, 0⟩, ⟨1, 0, 0, 0, 0⟩]
def awL : Array MapEntry := #[⟨.string ⟨#[115, 101, 116, 32, 114, 49]⟩, .int .i64 151, 0⟩, ⟨.string ⟨#[115, 101, 116, 32, 114, 56, 32, 49]⟩, .int .i64 152, 1⟩, ⟨.string ⟨#[115, 101, 116, 32, 114, 49, 32, 48, 49]⟩, .int .i64 152, 2⟩, ⟨.string ⟨#[102, 111, 111]⟩, .int .i64 150, 3⟩, ⟨.string ⟨#[106, 117, 109, 112, 32, 110, 111, 119, 104, 101, 114, 101]⟩, .int .i64 155, 4⟩, ⟨.string ⟨#[106, 117, 109, 112, 32, 49, 120]⟩, .int .i64 153, 5⟩, ⟨.string ⟨#[97, 58]⟩, .int .i64 156, 6⟩, ⟨.string ⟨#[109, 111, 118, 101, 32, 114, 49, 32, 114, 50]⟩, .int .i64 143, 7⟩]
theorem aw1 : parseA awT1 = (awP, 0, 0) := by decide +kernel
theorem aw2 : writeA awP = (awT2, 0) := by decide +kernel
theorem aw3_0 : parseA [115, 101, 116, 32, 114, 49] = ([], 1, 151) := by decide +kernel
theorem aw3_1 : parseA [115, 101, 116, 32, 114, 56, 32, 49] = ([], 1, 152) := by decide +kernel
theorem aw3_2 : parseA [115, 101, 116, 32, 114, 49, 32, 48, 49] = ([], 1, 152) := by decide +kernel
theorem aw3_3 : parseA [102, 111, 111] = ([], 1, 150) := by decide +kernel
theorem aw3_4 : parseA [106, 117, 109, 112, 32, 110, 111, 119, 104, 101, 114, 101] = ([], 1, 155) := by decide +kernel
theorem aw3_5 : parseA [106, 117, 109, 112, 32, 49, 120] = ([], 1, 153) := by decide +kernel
theorem aw3_6 : parseA [97, 58] = ([], 1, 156) := by decide +kernel
theorem aw3_7 : parseA [109, 111, 118, 101, 32, 114, 49, 32, 114, 50] = ([], 1, 143) := by decide +kernel
theorem aw4 : parseA [] = ([], 0, 6) := by decide +kernel
set_option maxHeartbeats 2000000 in
theorem ct11 (I : Mem) (hG : Globs I) : Ct Tryz.prog (fnv 11) #[] I (fun v _ => v = .bool true) := by
 refine viaR (ct_via (A := { loops := [(8, ⟨[(45, .keep)], [(1, .keep), (2, .iter)], [], fun vals xss _ _ => match vals, xss with | [], [_] => True | _, _ => False, fun vals xss => match xss with | [x] => (leftOf awL (decI x)).size | _ => 0⟩)] }) Tryz.func11 rfl Tryz.call11 rfl rfl) (Ct Tryz.prog (fnv 16) #[.string ⟨#[108, 111, 111, 112, 58, 32, 115, 117, 98, 32, 114, 49, 32, 114, 49, 32, 114, 50, 32, 59, 32, 100, 111, 119, 110, 10, 32, 32, 106, 122, 32, 114, 49, 32, 101, 110, 100, 10, 32, 32, 106, 117, 109, 112, 32, 108, 111, 111, 112, 10, 101, 110, 100, 58, 10, 32, 32, 104, 97, 108, 116, 10]⟩] I fun (v : Value) (a : Mem) => ∃ (b : Option Addr) (n c : Nat) (d e : Int), v = .tuple #[.slice b n c, .int .i64 d, .int .i64 e] /\ Br (e != 0) (Value.bool false = .bool true) (Br (d != 0) (Value.bool false = .bool true) (∀ (f : Nat) (g : Mem), a.le g -> g f = some (.cells #[.int .u8 34, .int .u8 1, .int .u8 1, .int .u8 2, .int .i64 0, .int .u8 10, .int .u8 1, .int .u8 0, .int .u8 0, .int .i64 3, .int .u8 9, .int .u8 0, .int .u8 0, .int .u8 0, .int .i64 0, .int .u8 1, .int .u8 0, .int .u8 0, .int .u8 0, .int .i64 0] 27 (0, 0)) -> Ct Tryz.prog (fnv 27) #[.slice b n c, .slice (some ⟨f, 0, none⟩) 4 4] g fun (h : Value) (i : Mem) => ∃ (j : Bool), h = .bool j /\ Br (!j) (Value.bool false = .bool true) (Ct Tryz.prog (fnv 12) #[.slice b n c] i (fun (k : Value) (l : Mem) => ∃ (q : ByteArray) (m : Int), k = .tuple #[.string q, .int .i64 m] /\ Br (m != 0) (Value.bool false = .bool true) (Br (!(q.toList == (ByteArray.mk #[108, 48, 58, 10, 32, 32, 115, 117, 98, 32, 114, 49, 32, 114, 49, 32, 114, 50, 10, 32, 32, 106, 122, 32, 114, 49, 32, 108, 51, 10, 32, 32, 106, 117, 109, 112, 32, 108, 48, 10, 108, 51, 58, 10, 32, 32, 104, 97, 108, 116, 10]).toList)) (Value.bool false = .bool true) (∀ (o : Nat), o = o /\ true = true /\ Rf (some (none : Option (Prod Nat Value))) /\ o = o /\ true = true /\ Rf (some (none : Option (Prod Nat Value))) /\ o = o /\ true = true /\ Rf (some (none : Option (Prod Nat Value))) /\ o = o /\ true = true /\ Rf (some (none : Option (Prod Nat Value))) /\ o = o /\ true = true /\ Rf (some (none : Option (Prod Nat Value))) /\ o = o /\ true = true /\ Rf (some (none : Option (Prod Nat Value))) /\ o = o /\ true = true /\ Rf (some (none : Option (Prod Nat Value))) /\ o = o /\ true = true /\ Rf (some (none : Option (Prod Nat Value))) /\ o = o /\ (Rf (Ent.mk (.raw (.map #[⟨.string ⟨#[115, 101, 116, 32, 114, 49]⟩, .int .i64 151, 0⟩, ⟨.string ⟨#[115, 101, 116, 32, 114, 56, 32, 49]⟩, .int .i64 152, 1⟩, ⟨.string ⟨#[115, 101, 116, 32, 114, 49, 32, 48, 49]⟩, .int .i64 152, 2⟩, ⟨.string ⟨#[102, 111, 111]⟩, .int .i64 150, 3⟩, ⟨.string ⟨#[106, 117, 109, 112, 32, 110, 111, 119, 104, 101, 114, 101]⟩, .int .i64 155, 4⟩, ⟨.string ⟨#[106, 117, 109, 112, 32, 49, 120]⟩, .int .i64 153, 5⟩, ⟨.string ⟨#[97, 58]⟩, .int .i64 156, 6⟩, ⟨.string ⟨#[109, 111, 118, 101, 32, 114, 49, 32, 114, 50]⟩, .int .i64 143, 7⟩] 8)) (some o)) /\ (Rf (some o) /\ (8 : Nat) = 8 /\ (8 : Nat) = 8 /\ Rf (none : Option Nat)) /\ Rf (SV.ptr 2 0) /\ True) /\ ∀ (p : Mem), Mem -> l.le p -> ∀ (x : List Value), True -> o = o /\ true = true /\ (8 : Nat) <= 8 /\ ((leftOf #[⟨.string ⟨#[115, 101, 116, 32, 114, 49]⟩, .int .i64 151, 0⟩, ⟨.string ⟨#[115, 101, 116, 32, 114, 56, 32, 49]⟩, .int .i64 152, 1⟩, ⟨.string ⟨#[115, 101, 116, 32, 114, 49, 32, 48, 49]⟩, .int .i64 152, 2⟩, ⟨.string ⟨#[102, 111, 111]⟩, .int .i64 150, 3⟩, ⟨.string ⟨#[106, 117, 109, 112, 32, 110, 111, 119, 104, 101, 114, 101]⟩, .int .i64 155, 4⟩, ⟨.string ⟨#[106, 117, 109, 112, 32, 49, 120]⟩, .int .i64 153, 5⟩, ⟨.string ⟨#[97, 58]⟩, .int .i64 156, 6⟩, ⟨.string ⟨#[109, 111, 118, 101, 32, 114, 49, 32, 114, 50]⟩, .int .i64 143, 7⟩] (decI x)).size = 0 -> Ct Tryz.prog (fnv 16) #[.string ⟨#[]⟩] p fun (r : Value) (s : Mem) => ∃ (t : Option Addr) (u w : Nat) (y z : Int), r = .tuple #[.slice t u w, .int .i64 y, .int .i64 z] /\ Br (y == 0) (Value.bool (z == 6) = .bool true) (Value.bool false = .bool true)) /\ ((decI x).contains (0 : Nat) = false -> o = o /\ (8 : Nat) = 8 /\ List.Nodup [(0 : Nat), 1, 2, 3, 4, 5, 6, 7] /\ (∃ (s : Array Nat) (r : Nat), ((decI x).toList.concat (0 : Nat)).toArray = s.push r /\ Membership.mem [MapEntry.mk (.string ⟨#[115, 101, 116, 32, 114, 49]⟩) (.int .i64 151) 0, ⟨.string ⟨#[115, 101, 116, 32, 114, 56, 32, 49]⟩, .int .i64 152, 1⟩, ⟨.string ⟨#[115, 101, 116, 32, 114, 49, 32, 48, 49]⟩, .int .i64 152, 2⟩, ⟨.string ⟨#[102, 111, 111]⟩, .int .i64 150, 3⟩, ⟨.string ⟨#[106, 117, 109, 112, 32, 110, 111, 119, 104, 101, 114, 101]⟩, .int .i64 155, 4⟩, ⟨.string ⟨#[106, 117, 109, 112, 32, 49, 120]⟩, .int .i64 153, 5⟩, ⟨.string ⟨#[97, 58]⟩, .int .i64 156, 6⟩, ⟨.string ⟨#[109, 111, 118, 101, 32, 114, 49, 32, 114, 50]⟩, .int .i64 143, 7⟩] (MapEntry.mk (.string ⟨#[115, 101, 116, 32, 114, 49]⟩) (.int .i64 151) r)) /\ Ct Tryz.prog (fnv 16) #[.string ⟨#[115, 101, 116, 32, 114, 49]⟩] p fun (r : Value) (s : Mem) => ∃ (t : Option Addr) (u w : Nat) (y z : Int), r = .tuple #[.slice t u w, .int .i64 y, .int .i64 z] /\ Br (y != 1) (Value.bool false = .bool true) (Br (z != 151) (Value.bool false = .bool true) (Rf (Ent.mk (.raw (.map #[⟨.string ⟨#[115, 101, 116, 32, 114, 49]⟩, .int .i64 151, 0⟩, ⟨.string ⟨#[115, 101, 116, 32, 114, 56, 32, 49]⟩, .int .i64 152, 1⟩, ⟨.string ⟨#[115, 101, 116, 32, 114, 49, 32, 48, 49]⟩, .int .i64 152, 2⟩, ⟨.string ⟨#[102, 111, 111]⟩, .int .i64 150, 3⟩, ⟨.string ⟨#[106, 117, 109, 112, 32, 110, 111, 119, 104, 101, 114, 101]⟩, .int .i64 155, 4⟩, ⟨.string ⟨#[106, 117, 109, 112, 32, 49, 120]⟩, .int .i64 153, 5⟩, ⟨.string ⟨#[97, 58]⟩, .int .i64 156, 6⟩, ⟨.string ⟨#[109, 111, 118, 101, 32, 114, 49, 32, 114, 50]⟩, .int .i64 143, 7⟩] 8)) (some o)) /\ (Rf (some o) /\ (8 : Nat) = 8 /\ (8 : Nat) = 8 /\ Rf (none : Option Nat)) /\ Rf (SV.ptr 2 0) /\ True /\ (leftOf #[⟨.string ⟨#[115, 101, 116, 32, 114, 49]⟩, .int .i64 151, 0⟩, ⟨.string ⟨#[115, 101, 116, 32, 114, 56, 32, 49]⟩, .int .i64 152, 1⟩, ⟨.string ⟨#[115, 101, 116, 32, 114, 49, 32, 48, 49]⟩, .int .i64 152, 2⟩, ⟨.string ⟨#[102, 111, 111]⟩, .int .i64 150, 3⟩, ⟨.string ⟨#[106, 117, 109, 112, 32, 110, 111, 119, 104, 101, 114, 101]⟩, .int .i64 155, 4⟩, ⟨.string ⟨#[106, 117, 109, 112, 32, 49, 120]⟩, .int .i64 153, 5⟩, ⟨.string ⟨#[97, 58]⟩, .int .i64 156, 6⟩, ⟨.string ⟨#[109, 111, 118, 101, 32, 114, 49, 32, 114, 50]⟩, .int .i64 143, 7⟩] (decI (encI ((decI x).toList.concat (0 : Nat)).toArray))).size < (leftOf #[⟨.string ⟨#[115, 101, 116, 32, 114, 49]⟩, .int .i64 151, 0⟩, ⟨.string ⟨#[115, 101, 116, 32, 114, 56, 32, 49]⟩, .int .i64 152, 1⟩, ⟨.string ⟨#[115, 101, 116, 32, 114, 49, 32, 48, 49]⟩, .int .i64 152, 2⟩, ⟨.string ⟨#[102, 111, 111]⟩, .int .i64 150, 3⟩, ⟨.string ⟨#[106, 117, 109, 112, 32, 110, 111, 119, 104, 101, 114, 101]⟩, .int .i64 155, 4⟩, ⟨.string ⟨#[106, 117, 109, 112, 32, 49, 120]⟩, .int .i64 153, 5⟩, ⟨.string ⟨#[97, 58]⟩, .int .i64 156, 6⟩, ⟨.string ⟨#[109, 111, 118, 101, 32, 114, 49, 32, 114, 50]⟩, .int .i64 143, 7⟩] (decI x)).size))) /\ ((decI x).contains (1 : Nat) = false -> o = o /\ (8 : Nat) = 8 /\ List.Nodup [(0 : Nat), 1, 2, 3, 4, 5, 6, 7] /\ (∃ (s : Array Nat) (r : Nat), ((decI x).toList.concat (1 : Nat)).toArray = s.push r /\ Membership.mem [MapEntry.mk (.string ⟨#[115, 101, 116, 32, 114, 49]⟩) (.int .i64 151) 0, ⟨.string ⟨#[115, 101, 116, 32, 114, 56, 32, 49]⟩, .int .i64 152, 1⟩, ⟨.string ⟨#[115, 101, 116, 32, 114, 49, 32, 48, 49]⟩, .int .i64 152, 2⟩, ⟨.string ⟨#[102, 111, 111]⟩, .int .i64 150, 3⟩, ⟨.string ⟨#[106, 117, 109, 112, 32, 110, 111, 119, 104, 101, 114, 101]⟩, .int .i64 155, 4⟩, ⟨.string ⟨#[106, 117, 109, 112, 32, 49, 120]⟩, .int .i64 153, 5⟩, ⟨.string ⟨#[97, 58]⟩, .int .i64 156, 6⟩, ⟨.string ⟨#[109, 111, 118, 101, 32, 114, 49, 32, 114, 50]⟩, .int .i64 143, 7⟩] (MapEntry.mk (.string ⟨#[115, 101, 116, 32, 114, 56, 32, 49]⟩) (.int .i64 152) r)) /\ Ct Tryz.prog (fnv 16) #[.string ⟨#[115, 101, 116, 32, 114, 56, 32, 49]⟩] p fun (r : Value) (s : Mem) => ∃ (t : Option Addr) (u w : Nat) (y z : Int), r = .tuple #[.slice t u w, .int .i64 y, .int .i64 z] /\ Br (y != 1) (Value.bool false = .bool true) (Br (z != 152) (Value.bool false = .bool true) (Rf (Ent.mk (.raw (.map #[⟨.string ⟨#[115, 101, 116, 32, 114, 49]⟩, .int .i64 151, 0⟩, ⟨.string ⟨#[115, 101, 116, 32, 114, 56, 32, 49]⟩, .int .i64 152, 1⟩, ⟨.string ⟨#[115, 101, 116, 32, 114, 49, 32, 48, 49]⟩, .int .i64 152, 2⟩, ⟨.string ⟨#[102, 111, 111]⟩, .int .i64 150, 3⟩, ⟨.string ⟨#[106, 117, 109, 112, 32, 110, 111, 119, 104, 101, 114, 101]⟩, .int .i64 155, 4⟩, ⟨.string ⟨#[106, 117, 109, 112, 32, 49, 120]⟩, .int .i64 153, 5⟩, ⟨.string ⟨#[97, 58]⟩, .int .i64 156, 6⟩, ⟨.string ⟨#[109, 111, 118, 101, 32, 114, 49, 32, 114, 50]⟩, .int .i64 143, 7⟩] 8)) (some o)) /\ (Rf (some o) /\ (8 : Nat) = 8 /\ (8 : Nat) = 8 /\ Rf (none : Option Nat)) /\ Rf (SV.ptr 2 0) /\ True /\ (leftOf #[⟨.string ⟨#[115, 101, 116, 32, 114, 49]⟩, .int .i64 151, 0⟩, ⟨.string ⟨#[115, 101, 116, 32, 114, 56, 32, 49]⟩, .int .i64 152, 1⟩, ⟨.string ⟨#[115, 101, 116, 32, 114, 49, 32, 48, 49]⟩, .int .i64 152, 2⟩, ⟨.string ⟨#[102, 111, 111]⟩, .int .i64 150, 3⟩, ⟨.string ⟨#[106, 117, 109, 112, 32, 110, 111, 119, 104, 101, 114, 101]⟩, .int .i64 155, 4⟩, ⟨.string ⟨#[106, 117, 109, 112, 32, 49, 120]⟩, .int .i64 153, 5⟩, ⟨.string ⟨#[97, 58]⟩, .int .i64 156, 6⟩, ⟨.string ⟨#[109, 111, 118, 101, 32, 114, 49, 32, 114, 50]⟩, .int .i64 143, 7⟩] (decI (encI ((decI x).toList.concat (1 : Nat)).toArray))).size < (leftOf #[⟨.string ⟨#[115, 101, 116, 32, 114, 49]⟩, .int .i64 151, 0⟩, ⟨.string ⟨#[115, 101, 116, 32, 114, 56, 32, 49]⟩, .int .i64 152, 1⟩, ⟨.string ⟨#[115, 101, 116, 32, 114, 49, 32, 48, 49]⟩, .int .i64 152, 2⟩, ⟨.string ⟨#[102, 111, 111]⟩, .int .i64 150, 3⟩, ⟨.string ⟨#[106, 117, 109, 112, 32, 110, 111, 119, 104, 101, 114, 101]⟩, .int .i64 155, 4⟩, ⟨.string ⟨#[106, 117, 109, 112, 32, 49, 120]⟩, .int .i64 153, 5⟩, ⟨.string ⟨#[97, 58]⟩, .int .i64 156, 6⟩, ⟨.string ⟨#[109, 111, 118, 101, 32, 114, 49, 32, 114, 50]⟩, .int .i64 143, 7⟩] (decI x)).size))) /\ ((decI x).contains (2 : Nat) = false -> o = o /\ (8 : Nat) = 8 /\ List.Nodup [(0 : Nat), 1, 2, 3, 4, 5, 6, 7] /\ (∃ (s : Array Nat) (r : Nat), ((decI x).toList.concat (2 : Nat)).toArray = s.push r /\ Membership.mem [MapEntry.mk (.string ⟨#[115, 101, 116, 32, 114, 49]⟩) (.int .i64 151) 0, ⟨.string ⟨#[115, 101, 116, 32, 114, 56, 32, 49]⟩, .int .i64 152, 1⟩, ⟨.string ⟨#[115, 101, 116, 32, 114, 49, 32, 48, 49]⟩, .int .i64 152, 2⟩, ⟨.string ⟨#[102, 111, 111]⟩, .int .i64 150, 3⟩, ⟨.string ⟨#[106, 117, 109, 112, 32, 110, 111, 119, 104, 101, 114, 101]⟩, .int .i64 155, 4⟩, ⟨.string ⟨#[106, 117, 109, 112, 32, 49, 120]⟩, .int .i64 153, 5⟩, ⟨.string ⟨#[97, 58]⟩, .int .i64 156, 6⟩, ⟨.string ⟨#[109, 111, 118, 101, 32, 114, 49, 32, 114, 50]⟩, .int .i64 143, 7⟩] (MapEntry.mk (.string ⟨#[115, 101, 116, 32, 114, 49, 32, 48, 49]⟩) (.int .i64 152) r)) /\ Ct Tryz.prog (fnv 16) #[.string ⟨#[115, 101, 116, 32, 114, 49, 32, 48, 49]⟩] p fun (r : Value) (s : Mem) => ∃ (t : Option Addr) (u w : Nat) (y z : Int), r = .tuple #[.slice t u w, .int .i64 y, .int .i64 z] /\ Br (y != 1) (Value.bool false = .bool true) (Br (z != 152) (Value.bool false = .bool true) (Rf (Ent.mk (.raw (.map #[⟨.string ⟨#[115, 101, 116, 32, 114, 49]⟩, .int .i64 151, 0⟩, ⟨.string ⟨#[115, 101, 116, 32, 114, 56, 32, 49]⟩, .int .i64 152, 1⟩, ⟨.string ⟨#[115, 101, 116, 32, 114, 49, 32, 48, 49]⟩, .int .i64 152, 2⟩, ⟨.string ⟨#[102, 111, 111]⟩, .int .i64 150, 3⟩, ⟨.string ⟨#[106, 117, 109, 112, 32, 110, 111, 119, 104, 101, 114, 101]⟩, .int .i64 155, 4⟩, ⟨.string ⟨#[106, 117, 109, 112, 32, 49, 120]⟩, .int .i64 153, 5⟩, ⟨.string ⟨#[97, 58]⟩, .int .i64 156, 6⟩, ⟨.string ⟨#[109, 111, 118, 101, 32, 114, 49, 32, 114, 50]⟩, .int .i64 143, 7⟩] 8)) (some o)) /\ (Rf (some o) /\ (8 : Nat) = 8 /\ (8 : Nat) = 8 /\ Rf (none : Option Nat)) /\ Rf (SV.ptr 2 0) /\ True /\ (leftOf #[⟨.string ⟨#[115, 101, 116, 32, 114, 49]⟩, .int .i64 151, 0⟩, ⟨.string ⟨#[115, 101, 116, 32, 114, 56, 32, 49]⟩, .int .i64 152, 1⟩, ⟨.string ⟨#[115, 101, 116, 32, 114, 49, 32, 48, 49]⟩, .int .i64 152, 2⟩, ⟨.string ⟨#[102, 111, 111]⟩, .int .i64 150, 3⟩, ⟨.string ⟨#[106, 117, 109, 112, 32, 110, 111, 119, 104, 101, 114, 101]⟩, .int .i64 155, 4⟩, ⟨.string ⟨#[106, 117, 109, 112, 32, 49, 120]⟩, .int .i64 153, 5⟩, ⟨.string ⟨#[97, 58]⟩, .int .i64 156, 6⟩, ⟨.string ⟨#[109, 111, 118, 101, 32, 114, 49, 32, 114, 50]⟩, .int .i64 143, 7⟩] (decI (encI ((decI x).toList.concat (2 : Nat)).toArray))).size < (leftOf #[⟨.string ⟨#[115, 101, 116, 32, 114, 49]⟩, .int .i64 151, 0⟩, ⟨.string ⟨#[115, 101, 116, 32, 114, 56, 32, 49]⟩, .int .i64 152, 1⟩, ⟨.string ⟨#[115, 101, 116, 32, 114, 49, 32, 48, 49]⟩, .int .i64 152, 2⟩, ⟨.string ⟨#[102, 111, 111]⟩, .int .i64 150, 3⟩, ⟨.string ⟨#[106, 117, 109, 112, 32, 110, 111, 119, 104, 101, 114, 101]⟩, .int .i64 155, 4⟩, ⟨.string ⟨#[106, 117, 109, 112, 32, 49, 120]⟩, .int .i64 153, 5⟩, ⟨.string ⟨#[97, 58]⟩, .int .i64 156, 6⟩, ⟨.string ⟨#[109, 111, 118, 101, 32, 114, 49, 32, 114, 50]⟩, .int .i64 143, 7⟩] (decI x)).size))) /\ ((decI x).contains (3 : Nat) = false -> o = o /\ (8 : Nat) = 8 /\ List.Nodup [(0 : Nat), 1, 2, 3, 4, 5, 6, 7] /\ (∃ (s : Array Nat) (r : Nat), ((decI x).toList.concat (3 : Nat)).toArray = s.push r /\ Membership.mem [MapEntry.mk (.string ⟨#[115, 101, 116, 32, 114, 49]⟩) (.int .i64 151) 0, ⟨.string ⟨#[115, 101, 116, 32, 114, 56, 32, 49]⟩, .int .i64 152, 1⟩, ⟨.string ⟨#[115, 101, 116, 32, 114, 49, 32, 48, 49]⟩, .int .i64 152, 2⟩, ⟨.string ⟨#[102, 111, 111]⟩, .int .i64 150, 3⟩, ⟨.string ⟨#[106, 117, 109, 112, 32, 110, 111, 119, 104, 101, 114, 101]⟩, .int .i64 155, 4⟩, ⟨.string ⟨#[106, 117, 109, 112, 32, 49, 120]⟩, .int .i64 153, 5⟩, ⟨.string ⟨#[97, 58]⟩, .int .i64 156, 6⟩, ⟨.string ⟨#[109, 111, 118, 101, 32, 114, 49, 32, 114, 50]⟩, .int .i64 143, 7⟩] (MapEntry.mk (.string ⟨#[102, 111, 111]⟩) (.int .i64 150) r)) /\ Ct Tryz.prog (fnv 16) #[.string ⟨#[102, 111, 111]⟩] p fun (r : Value) (s : Mem) => ∃ (t : Option Addr) (u w : Nat) (y z : Int), r = .tuple #[.slice t u w, .int .i64 y, .int .i64 z] /\ Br (y != 1) (Value.bool false = .bool true) (Br (z != 150) (Value.bool false = .bool true) (Rf (Ent.mk (.raw (.map #[⟨.string ⟨#[115, 101, 116, 32, 114, 49]⟩, .int .i64 151, 0⟩, ⟨.string ⟨#[115, 101, 116, 32, 114, 56, 32, 49]⟩, .int .i64 152, 1⟩, ⟨.string ⟨#[115, 101, 116, 32, 114, 49, 32, 48, 49]⟩, .int .i64 152, 2⟩, ⟨.string ⟨#[102, 111, 111]⟩, .int .i64 150, 3⟩, ⟨.string ⟨#[106, 117, 109, 112, 32, 110, 111, 119, 104, 101, 114, 101]⟩, .int .i64 155, 4⟩, ⟨.string ⟨#[106, 117, 109, 112, 32, 49, 120]⟩, .int .i64 153, 5⟩, ⟨.string ⟨#[97, 58]⟩, .int .i64 156, 6⟩, ⟨.string ⟨#[109, 111, 118, 101, 32, 114, 49, 32, 114, 50]⟩, .int .i64 143, 7⟩] 8)) (some o)) /\ (Rf (some o) /\ (8 : Nat) = 8 /\ (8 : Nat) = 8 /\ Rf (none : Option Nat)) /\ Rf (SV.ptr 2 0) /\ True /\ (leftOf #[⟨.string ⟨#[115, 101, 116, 32, 114, 49]⟩, .int .i64 151, 0⟩, ⟨.string ⟨#[115, 101, 116, 32, 114, 56, 32, 49]⟩, .int .i64 152, 1⟩, ⟨.string ⟨#[115, 101, 116, 32, 114, 49, 32, 48, 49]⟩, .int .i64 152, 2⟩, ⟨.string ⟨#[102, 111, 111]⟩, .int .i64 150, 3⟩, ⟨.string ⟨#[106, 117, 109, 112, 32, 110, 111, 119, 104, 101, 114, 101]⟩, .int .i64 155, 4⟩, ⟨.string ⟨#[106, 117, 109, 112, 32, 49, 120]⟩, .int .i64 153, 5⟩, ⟨.string ⟨#[97, 58]⟩, .int .i64 156, 6⟩, ⟨.string ⟨#[109, 111, 118, 101, 32, 114, 49, 32, 114, 50]⟩, .int .i64 143, 7⟩] (decI (encI ((decI x).toList.concat (3 : Nat)).toArray))).size < (leftOf #[⟨.string ⟨#[115, 101, 116, 32, 114, 49]⟩, .int .i64 151, 0⟩, ⟨.string ⟨#[115, 101, 116, 32, 114, 56, 32, 49]⟩, .int .i64 152, 1⟩, ⟨.string ⟨#[115, 101, 116, 32, 114, 49, 32, 48, 49]⟩, .int .i64 152, 2⟩, ⟨.string ⟨#[102, 111, 111]⟩, .int .i64 150, 3⟩, ⟨.string ⟨#[106, 117, 109, 112, 32, 110, 111, 119, 104, 101, 114, 101]⟩, .int .i64 155, 4⟩, ⟨.string ⟨#[106, 117, 109, 112, 32, 49, 120]⟩, .int .i64 153, 5⟩, ⟨.string ⟨#[97, 58]⟩, .int .i64 156, 6⟩, ⟨.string ⟨#[109, 111, 118, 101, 32, 114, 49, 32, 114, 50]⟩, .int .i64 143, 7⟩] (decI x)).size))) /\ ((decI x).contains (4 : Nat) = false -> o = o /\ (8 : Nat) = 8 /\ List.Nodup [(0 : Nat), 1, 2, 3, 4, 5, 6, 7] /\ (∃ (s : Array Nat) (r : Nat), ((decI x).toList.concat (4 : Nat)).toArray = s.push r /\ Membership.mem [MapEntry.mk (.string ⟨#[115, 101, 116, 32, 114, 49]⟩) (.int .i64 151) 0, ⟨.string ⟨#[115, 101, 116, 32, 114, 56, 32, 49]⟩, .int .i64 152, 1⟩, ⟨.string ⟨#[115, 101, 116, 32, 114, 49, 32, 48, 49]⟩, .int .i64 152, 2⟩, ⟨.string ⟨#[102, 111, 111]⟩, .int .i64 150, 3⟩, ⟨.string ⟨#[106, 117, 109, 112, 32, 110, 111, 119, 104, 101, 114, 101]⟩, .int .i64 155, 4⟩, ⟨.string ⟨#[106, 117, 109, 112, 32, 49, 120]⟩, .int .i64 153, 5⟩, ⟨.string ⟨#[97, 58]⟩, .int .i64 156, 6⟩, ⟨.string ⟨#[109, 111, 118, 101, 32, 114, 49, 32, 114, 50]⟩, .int .i64 143, 7⟩] (MapEntry.mk (.string ⟨#[106, 117, 109, 112, 32, 110, 111, 119, 104, 101, 114, 101]⟩) (.int .i64 155) r)) /\ Ct Tryz.prog (fnv 16) #[.string ⟨#[106, 117, 109, 112, 32, 110, 111, 119, 104, 101, 114, 101]⟩] p fun (r : Value) (s : Mem) => ∃ (t : Option Addr) (u w : Nat) (y z : Int), r = .tuple #[.slice t u w, .int .i64 y, .int .i64 z] /\ Br (y != 1) (Value.bool false = .bool true) (Br (z != 155) (Value.bool false = .bool true) (Rf (Ent.mk (.raw (.map #[⟨.string ⟨#[115, 101, 116, 32, 114, 49]⟩, .int .i64 151, 0⟩, ⟨.string ⟨#[115, 101, 116, 32, 114, 56, 32, 49]⟩, .int .i64 152, 1⟩, ⟨.string ⟨#[115, 101, 116, 32, 114, 49, 32, 48, 49]⟩, .int .i64 152, 2⟩, ⟨.string ⟨#[102, 111, 111]⟩, .int .i64 150, 3⟩, ⟨.string ⟨#[106, 117, 109, 112, 32, 110, 111, 119, 104, 101, 114, 101]⟩, .int .i64 155, 4⟩, ⟨.string ⟨#[106, 117, 109, 112, 32, 49, 120]⟩, .int .i64 153, 5⟩, ⟨.string ⟨#[97, 58]⟩, .int .i64 156, 6⟩, ⟨.string ⟨#[109, 111, 118, 101, 32, 114, 49, 32, 114, 50]⟩, .int .i64 143, 7⟩] 8)) (some o)) /\ (Rf (some o) /\ (8 : Nat) = 8 /\ (8 : Nat) = 8 /\ Rf (none : Option Nat)) /\ Rf (SV.ptr 2 0) /\ True /\ (leftOf #[⟨.string ⟨#[115, 101, 116, 32, 114, 49]⟩, .int .i64 151, 0⟩, ⟨.string ⟨#[115, 101, 116, 32, 114, 56, 32, 49]⟩, .int .i64 152, 1⟩, ⟨.string ⟨#[115, 101, 116, 32, 114, 49, 32, 48, 49]⟩, .int .i64 152, 2⟩, ⟨.string ⟨#[102, 111, 111]⟩, .int .i64 150, 3⟩, ⟨.string ⟨#[106, 117, 109, 112, 32, 110, 111, 119, 104, 101, 114, 101]⟩, .int .i64 155, 4⟩, ⟨.string ⟨#[106, 117, 109, 112, 32, 49, 120]⟩, .int .i64 153, 5⟩, ⟨.string ⟨#[97, 58]⟩, .int .i64 156, 6⟩, ⟨.string ⟨#[109, 111, 118, 101, 32, 114, 49, 32, 114, 50]⟩, .int .i64 143, 7⟩] (decI (encI ((decI x).toList.concat (4 : Nat)).toArray))).size < (leftOf #[⟨.string ⟨#[115, 101, 116, 32, 114, 49]⟩, .int .i64 151, 0⟩, ⟨.string ⟨#[115, 101, 116, 32, 114, 56, 32, 49]⟩, .int .i64 152, 1⟩, ⟨.string ⟨#[115, 101, 116, 32, 114, 49, 32, 48, 49]⟩, .int .i64 152, 2⟩, ⟨.string ⟨#[102, 111, 111]⟩, .int .i64 150, 3⟩, ⟨.string ⟨#[106, 117, 109, 112, 32, 110, 111, 119, 104, 101, 114, 101]⟩, .int .i64 155, 4⟩, ⟨.string ⟨#[106, 117, 109, 112, 32, 49, 120]⟩, .int .i64 153, 5⟩, ⟨.string ⟨#[97, 58]⟩, .int .i64 156, 6⟩, ⟨.string ⟨#[109, 111, 118, 101, 32, 114, 49, 32, 114, 50]⟩, .int .i64 143, 7⟩] (decI x)).size))) /\ ((decI x).contains (5 : Nat) = false -> o = o /\ (8 : Nat) = 8 /\ List.Nodup [(0 : Nat), 1, 2, 3, 4, 5, 6, 7] /\ (∃ (s : Array Nat) (r : Nat), ((decI x).toList.concat (5 : Nat)).toArray = s.push r /\ Membership.mem [MapEntry.mk (.string ⟨#[115, 101, 116, 32, 114, 49]⟩) (.int .i64 151) 0, ⟨.string ⟨#[115, 101, 116, 32, 114, 56, 32, 49]⟩, .int .i64 152, 1⟩, ⟨.string ⟨#[115, 101, 116, 32, 114, 49, 32, 48, 49]⟩, .int .i64 152, 2⟩, ⟨.string ⟨#[102, 111, 111]⟩, .int .i64 150, 3⟩, ⟨.string ⟨#[106, 117, 109, 112, 32, 110, 111, 119, 104, 101, 114, 101]⟩, .int .i64 155, 4⟩, ⟨.string ⟨#[106, 117, 109, 112, 32, 49, 120]⟩, .int .i64 153, 5⟩, ⟨.string ⟨#[97, 58]⟩, .int .i64 156, 6⟩, ⟨.string ⟨#[109, 111, 118, 101, 32, 114, 49, 32, 114, 50]⟩, .int .i64 143, 7⟩] (MapEntry.mk (.string ⟨#[106, 117, 109, 112, 32, 49, 120]⟩) (.int .i64 153) r)) /\ Ct Tryz.prog (fnv 16) #[.string ⟨#[106, 117, 109, 112, 32, 49, 120]⟩] p fun (r : Value) (s : Mem) => ∃ (t : Option Addr) (u w : Nat) (y z : Int), r = .tuple #[.slice t u w, .int .i64 y, .int .i64 z] /\ Br (y != 1) (Value.bool false = .bool true) (Br (z != 153) (Value.bool false = .bool true) (Rf (Ent.mk (.raw (.map #[⟨.string ⟨#[115, 101, 116, 32, 114, 49]⟩, .int .i64 151, 0⟩, ⟨.string ⟨#[115, 101, 116, 32, 114, 56, 32, 49]⟩, .int .i64 152, 1⟩, ⟨.string ⟨#[115, 101, 116, 32, 114, 49, 32, 48, 49]⟩, .int .i64 152, 2⟩, ⟨.string ⟨#[102, 111, 111]⟩, .int .i64 150, 3⟩, ⟨.string ⟨#[106, 117, 109, 112, 32, 110, 111, 119, 104, 101, 114, 101]⟩, .int .i64 155, 4⟩, ⟨.string ⟨#[106, 117, 109, 112, 32, 49, 120]⟩, .int .i64 153, 5⟩, ⟨.string ⟨#[97, 58]⟩, .int .i64 156, 6⟩, ⟨.string ⟨#[109, 111, 118, 101, 32, 114, 49, 32, 114, 50]⟩, .int .i64 143, 7⟩] 8)) (some o)) /\ (Rf (some o) /\ (8 : Nat) = 8 /\ (8 : Nat) = 8 /\ Rf (none : Option Nat)) /\ Rf (SV.ptr 2 0) /\ True /\ (leftOf #[⟨.string ⟨#[115, 101, 116, 32, 114, 49]⟩, .int .i64 151, 0⟩, ⟨.string ⟨#[115, 101, 116, 32, 114, 56, 32, 49]⟩, .int .i64 152, 1⟩, ⟨.string ⟨#[115, 101, 116, 32, 114, 49, 32, 48, 49]⟩, .int .i64 152, 2⟩, ⟨.string ⟨#[102, 111, 111]⟩, .int .i64 150, 3⟩, ⟨.string ⟨#[106, 117, 109, 112, 32, 110, 111, 119, 104, 101, 114, 101]⟩, .int .i64 155, 4⟩, ⟨.string ⟨#[106, 117, 109, 112, 32, 49, 120]⟩, .int .i64 153, 5⟩, ⟨.string ⟨#[97, 58]⟩, .int .i64 156, 6⟩, ⟨.string ⟨#[109, 111, 118, 101, 32, 114, 49, 32, 114, 50]⟩, .int .i64 143, 7⟩] (decI (encI ((decI x).toList.concat (5 : Nat)).toArray))).size < (leftOf #[⟨.string ⟨#[115, 101, 116, 32, 114, 49]⟩, .int .i64 151, 0⟩, ⟨.string ⟨#[115, 101, 116, 32, 114, 56, 32, 49]⟩, .int .i64 152, 1⟩, ⟨.string ⟨#[115, 101, 116, 32, 114, 49, 32, 48, 49]⟩, .int .i64 152, 2⟩, ⟨.string ⟨#[102, 111, 111]⟩, .int .i64 150, 3⟩, ⟨.string ⟨#[106, 117, 109, 112, 32, 110, 111, 119, 104, 101, 114, 101]⟩, .int .i64 155, 4⟩, ⟨.string ⟨#[106, 117, 109, 112, 32, 49, 120]⟩, .int .i64 153, 5⟩, ⟨.string ⟨#[97, 58]⟩, .int .i64 156, 6⟩, ⟨.string ⟨#[109, 111, 118, 101, 32, 114, 49, 32, 114, 50]⟩, .int .i64 143, 7⟩] (decI x)).size))) /\ ((decI x).contains (6 : Nat) = false -> o = o /\ (8 : Nat) = 8 /\ List.Nodup [(0 : Nat), 1, 2, 3, 4, 5, 6, 7] /\ (∃ (s : Array Nat) (r : Nat), ((decI x).toList.concat (6 : Nat)).toArray = s.push r /\ Membership.mem [MapEntry.mk (.string ⟨#[115, 101, 116, 32, 114, 49]⟩) (.int .i64 151) 0, ⟨.string ⟨#[115, 101, 116, 32, 114, 56, 32, 49]⟩, .int .i64 152, 1⟩, ⟨.string ⟨#[115, 101, 116, 32, 114, 49, 32, 48, 49]⟩, .int .i64 152, 2⟩, ⟨.string ⟨#[102, 111, 111]⟩, .int .i64 150, 3⟩, ⟨.string ⟨#[106, 117, 109, 112, 32, 110, 111, 119, 104, 101, 114, 101]⟩, .int .i64 155, 4⟩, ⟨.string ⟨#[106, 117, 109, 112, 32, 49, 120]⟩, .int .i64 153, 5⟩, ⟨.string ⟨#[97, 58]⟩, .int .i64 156, 6⟩, ⟨.string ⟨#[109, 111, 118, 101, 32, 114, 49, 32, 114, 50]⟩, .int .i64 143, 7⟩] (MapEntry.mk (.string ⟨#[97, 58]⟩) (.int .i64 156) r)) /\ Ct Tryz.prog (fnv 16) #[.string ⟨#[97, 58]⟩] p fun (r : Value) (s : Mem) => ∃ (t : Option Addr) (u w : Nat) (y z : Int), r = .tuple #[.slice t u w, .int .i64 y, .int .i64 z] /\ Br (y != 1) (Value.bool false = .bool true) (Br (z != 156) (Value.bool false = .bool true) (Rf (Ent.mk (.raw (.map #[⟨.string ⟨#[115, 101, 116, 32, 114, 49]⟩, .int .i64 151, 0⟩, ⟨.string ⟨#[115, 101, 116, 32, 114, 56, 32, 49]⟩, .int .i64 152, 1⟩, ⟨.string ⟨#[115, 101, 116, 32, 114, 49, 32, 48, 49]⟩, .int .i64 152, 2⟩, ⟨.string ⟨#[102, 111, 111]⟩, .int .i64 150, 3⟩, ⟨.string ⟨#[106, 117, 109, 112, 32, 110, 111, 119, 104, 101, 114, 101]⟩, .int .i64 155, 4⟩, ⟨.string ⟨#[106, 117, 109, 112, 32, 49, 120]⟩, .int .i64 153, 5⟩, ⟨.string ⟨#[97, 58]⟩, .int .i64 156, 6⟩, ⟨.string ⟨#[109, 111, 118, 101, 32, 114, 49, 32, 114, 50]⟩, .int .i64 143, 7⟩] 8)) (some o)) /\ (Rf (some o) /\ (8 : Nat) = 8 /\ (8 : Nat) = 8 /\ Rf (none : Option Nat)) /\ Rf (SV.ptr 2 0) /\ True /\ (leftOf #[⟨.string ⟨#[115, 101, 116, 32, 114, 49]⟩, .int .i64 151, 0⟩, ⟨.string ⟨#[115, 101, 116, 32, 114, 56, 32, 49]⟩, .int .i64 152, 1⟩, ⟨.string ⟨#[115, 101, 116, 32, 114, 49, 32, 48, 49]⟩, .int .i64 152, 2⟩, ⟨.string ⟨#[102, 111, 111]⟩, .int .i64 150, 3⟩, ⟨.string ⟨#[106, 117, 109, 112, 32, 110, 111, 119, 104, 101, 114, 101]⟩, .int .i64 155, 4⟩, ⟨.string ⟨#[106, 117, 109, 112, 32, 49, 120]⟩, .int .i64 153, 5⟩, ⟨.string ⟨#[97, 58]⟩, .int .i64 156, 6⟩, ⟨.string ⟨#[109, 111, 118, 101, 32, 114, 49, 32, 114, 50]⟩, .int .i64 143, 7⟩] (decI (encI ((decI x).toList.concat (6 : Nat)).toArray))).size < (leftOf #[⟨.string ⟨#[115, 101, 116, 32, 114, 49]⟩, .int .i64 151, 0⟩, ⟨.string ⟨#[115, 101, 116, 32, 114, 56, 32, 49]⟩, .int .i64 152, 1⟩, ⟨.string ⟨#[115, 101, 116, 32, 114, 49, 32, 48, 49]⟩, .int .i64 152, 2⟩, ⟨.string ⟨#[102, 111, 111]⟩, .int .i64 150, 3⟩, ⟨.string ⟨#[106, 117, 109, 112, 32, 110, 111, 119, 104, 101, 114, 101]⟩, .int .i64 155, 4⟩, ⟨.string ⟨#[106, 117, 109, 112, 32, 49, 120]⟩, .int .i64 153, 5⟩, ⟨.string ⟨#[97, 58]⟩, .int .i64 156, 6⟩, ⟨.string ⟨#[109, 111, 118, 101, 32, 114, 49, 32, 114, 50]⟩, .int .i64 143, 7⟩] (decI x)).size))) /\ ((decI x).contains (7 : Nat) = false -> o = o /\ (8 : Nat) = 8 /\ List.Nodup [(0 : Nat), 1, 2, 3, 4, 5, 6, 7] /\ (∃ (s : Array Nat) (r : Nat), ((decI x).toList.concat (7 : Nat)).toArray = s.push r /\ Membership.mem [MapEntry.mk (.string ⟨#[115, 101, 116, 32, 114, 49]⟩) (.int .i64 151) 0, ⟨.string ⟨#[115, 101, 116, 32, 114, 56, 32, 49]⟩, .int .i64 152, 1⟩, ⟨.string ⟨#[115, 101, 116, 32, 114, 49, 32, 48, 49]⟩, .int .i64 152, 2⟩, ⟨.string ⟨#[102, 111, 111]⟩, .int .i64 150, 3⟩, ⟨.string ⟨#[106, 117, 109, 112, 32, 110, 111, 119, 104, 101, 114, 101]⟩, .int .i64 155, 4⟩, ⟨.string ⟨#[106, 117, 109, 112, 32, 49, 120]⟩, .int .i64 153, 5⟩, ⟨.string ⟨#[97, 58]⟩, .int .i64 156, 6⟩, ⟨.string ⟨#[109, 111, 118, 101, 32, 114, 49, 32, 114, 50]⟩, .int .i64 143, 7⟩] (MapEntry.mk (.string ⟨#[109, 111, 118, 101, 32, 114, 49, 32, 114, 50]⟩) (.int .i64 143) r)) /\ Ct Tryz.prog (fnv 16) #[.string ⟨#[109, 111, 118, 101, 32, 114, 49, 32, 114, 50]⟩] p fun (r : Value) (s : Mem) => ∃ (t : Option Addr) (u w : Nat) (y z : Int), r = .tuple #[.slice t u w, .int .i64 y, .int .i64 z] /\ Br (y != 1) (Value.bool false = .bool true) (Br (z != 143) (Value.bool false = .bool true) (Rf (Ent.mk (.raw (.map #[⟨.string ⟨#[115, 101, 116, 32, 114, 49]⟩, .int .i64 151, 0⟩, ⟨.string ⟨#[115, 101, 116, 32, 114, 56, 32, 49]⟩, .int .i64 152, 1⟩, ⟨.string ⟨#[115, 101, 116, 32, 114, 49, 32, 48, 49]⟩, .int .i64 152, 2⟩, ⟨.string ⟨#[102, 111, 111]⟩, .int .i64 150, 3⟩, ⟨.string ⟨#[106, 117, 109, 112, 32, 110, 111, 119, 104, 101, 114, 101]⟩, .int .i64 155, 4⟩, ⟨.string ⟨#[106, 117, 109, 112, 32, 49, 120]⟩, .int .i64 153, 5⟩, ⟨.string ⟨#[97, 58]⟩, .int .i64 156, 6⟩, ⟨.string ⟨#[109, 111, 118, 101, 32, 114, 49, 32, 114, 50]⟩, .int .i64 143, 7⟩] 8)) (some o)) /\ (Rf (some o) /\ (8 : Nat) = 8 /\ (8 : Nat) = 8 /\ Rf (none : Option Nat)) /\ Rf (SV.ptr 2 0) /\ True /\ (leftOf #[⟨.string ⟨#[115, 101, 116, 32, 114, 49]⟩, .int .i64 151, 0⟩, ⟨.string ⟨#[115, 101, 116, 32, 114, 56, 32, 49]⟩, .int .i64 152, 1⟩, ⟨.string ⟨#[115, 101, 116, 32, 114, 49, 32, 48, 49]⟩, .int .i64 152, 2⟩, ⟨.string ⟨#[102, 111, 111]⟩, .int .i64 150, 3⟩, ⟨.string ⟨#[106, 117, 109, 112, 32, 110, 111, 119, 104, 101, 114, 101]⟩, .int .i64 155, 4⟩, ⟨.string ⟨#[106, 117, 109, 112, 32, 49, 120]⟩, .int .i64 153, 5⟩, ⟨.string ⟨#[97, 58]⟩, .int .i64 156, 6⟩, ⟨.string ⟨#[109, 111, 118, 101, 32, 114, 49, 32, 114, 50]⟩, .int .i64 143, 7⟩] (decI (encI ((decI x).toList.concat (7 : Nat)).toArray))).size < (leftOf #[⟨.string ⟨#[115, 101, 116, 32, 114, 49]⟩, .int .i64 151, 0⟩, ⟨.string ⟨#[115, 101, 116, 32, 114, 56, 32, 49]⟩, .int .i64 152, 1⟩, ⟨.string ⟨#[115, 101, 116, 32, 114, 49, 32, 48, 49]⟩, .int .i64 152, 2⟩, ⟨.string ⟨#[102, 111, 111]⟩, .int .i64 150, 3⟩, ⟨.string ⟨#[106, 117, 109, 112, 32, 110, 111, 119, 104, 101, 114, 101]⟩, .int .i64 155, 4⟩, ⟨.string ⟨#[106, 117, 109, 112, 32, 49, 120]⟩, .int .i64 153, 5⟩, ⟨.string ⟨#[97, 58]⟩, .int .i64 156, 6⟩, ⟨.string ⟨#[109, 111, 118, 101, 32, 114, 49, 32, 114, 50]⟩, .int .i64 143, 7⟩] (decI x)).size)))))))))) (by kernel_rfl) ?_
 have hok : ∀ i ∈ awP, okI i := fun i hi => by
  simp only [awP, List.mem_cons, List.not_mem_nil, or_false] at hi
  rcases hi with rfl | rfl | rfl | rfl <;> exact ⟨by decide, by decide, by decide, by decide, by decide⟩
 refine (ct16 (strT awT1) (by rw [strT_size]; decide) I hG).mono fun v a la h => ?_
 rw [show tx (strT awT1) = awT1 from rfl, aw1] at h
 obtain ⟨b, n, c, hv, hp, h3, h4⟩ := h;refine ⟨b, n, c, 0, 0, hv, Br.f rfl (Br.f rfl fun f g lg hf => ?_)⟩
 have hins : InsM g (some ⟨f, 0, none⟩) 4 awP := ⟨insVs awP, sl_cells (n := 4) (sz := 5) hf rfl (by decide), rowR_ins g hok⟩
 refine (ct27 awP awP b (some ⟨f, 0, none⟩) n 4 c 4 g (hp.mono lg) hins).mono fun h i li hh => ⟨_, hh, Br.f (by simp) ?_⟩
 refine (ct12 awP b n c i (hG.mono (Mem.le_trans la (Mem.le_trans lg li))) (hp.mono (Mem.le_trans lg li))).mono fun k l lk hk => ?_;rw [aw2] at hk
 refine ⟨_, _, hk, Br.f rfl (Br.f (by show (!(strT awT2).toList == (strT awT2).toList) = false; rw [str_eq, decide_eq_true rfl]; rfl) fun o => ?_)⟩
 have hG : Globs l := hG.mono (Mem.le_trans la (Mem.le_trans lg (Mem.le_trans li lk)));simp only [Rf, eq_self, true_and, and_true, true_implies, decI_encI];intro I1 G1 hI1 xs
 refine ⟨by omega, fun hend => ?_, fun hs => ?_, fun hs => ?_, fun hs => ?_, fun hs => ?_, fun hs => ?_, fun hs => ?_, fun hs => ?_, fun hs => ?_⟩
 · refine (ct16 (strT []) (by rw [strT_size]; decide) I1 (hG.mono hI1)).mono fun v I2 hI2 ⟨b2, n2, c2, hv, _⟩ => ?_
   rw [show tx (strT []) = [] from rfl, aw4] at hv
   exact ⟨_, _, _, _, _, hv, Br.t rfl rfl⟩
 · refine ⟨by decide, ⟨decI xs, 0, rfl, by simp⟩, (ct16 (strT [115, 101, 116, 32, 114, 49]) (by rw [strT_size]; decide) I1 (hG.mono hI1)).mono fun v I2 hI2 ⟨b2, n2, c2, hv, _⟩ => ?_⟩
   rw [show tx (strT [115, 101, 116, 32, 114, 49]) = [115, 101, 116, 32, 114, 49] from rfl, aw3_0] at hv
   exact ⟨_, _, _, _, _, hv, Br.f rfl (Br.f rfl (left_lt (es := awL) (y := ⟨.string ⟨#[115, 101, 116, 32, 114, 49]⟩, .int .i64 151, 0⟩) (by simp [awL]) hs))⟩
 · refine ⟨by decide, ⟨decI xs, 1, rfl, by simp⟩, (ct16 (strT [115, 101, 116, 32, 114, 56, 32, 49]) (by rw [strT_size]; decide) I1 (hG.mono hI1)).mono fun v I2 hI2 ⟨b2, n2, c2, hv, _⟩ => ?_⟩
   rw [show tx (strT [115, 101, 116, 32, 114, 56, 32, 49]) = [115, 101, 116, 32, 114, 56, 32, 49] from rfl, aw3_1] at hv
   exact ⟨_, _, _, _, _, hv, Br.f rfl (Br.f rfl (left_lt (es := awL) (y := ⟨.string ⟨#[115, 101, 116, 32, 114, 56, 32, 49]⟩, .int .i64 152, 1⟩) (by simp [awL]) hs))⟩
 · refine ⟨by decide, ⟨decI xs, 2, rfl, by simp⟩, (ct16 (strT [115, 101, 116, 32, 114, 49, 32, 48, 49]) (by rw [strT_size]; decide) I1 (hG.mono hI1)).mono fun v I2 hI2 ⟨b2, n2, c2, hv, _⟩ => ?_⟩
   rw [show tx (strT [115, 101, 116, 32, 114, 49, 32, 48, 49]) = [115, 101, 116, 32, 114, 49, 32, 48, 49] from rfl, aw3_2] at hv
   exact ⟨_, _, _, _, _, hv, Br.f rfl (Br.f rfl (left_lt (es := awL) (y := ⟨.string ⟨#[115, 101, 116, 32, 114, 49, 32, 48, 49]⟩, .int .i64 152, 2⟩) (by simp [awL]) hs))⟩
 · refine ⟨by decide, ⟨decI xs, 3, rfl, by simp⟩, (ct16 (strT [102, 111, 111]) (by rw [strT_size]; decide) I1 (hG.mono hI1)).mono fun v I2 hI2 ⟨b2, n2, c2, hv, _⟩ => ?_⟩
   rw [show tx (strT [102, 111, 111]) = [102, 111, 111] from rfl, aw3_3] at hv
   exact ⟨_, _, _, _, _, hv, Br.f rfl (Br.f rfl (left_lt (es := awL) (y := ⟨.string ⟨#[102, 111, 111]⟩, .int .i64 150, 3⟩) (by simp [awL]) hs))⟩
 · refine ⟨by decide, ⟨decI xs, 4, rfl, by simp⟩, (ct16 (strT [106, 117, 109, 112, 32, 110, 111, 119, 104, 101, 114, 101]) (by rw [strT_size]; decide) I1 (hG.mono hI1)).mono fun v I2 hI2 ⟨b2, n2, c2, hv, _⟩ => ?_⟩
   rw [show tx (strT [106, 117, 109, 112, 32, 110, 111, 119, 104, 101, 114, 101]) = [106, 117, 109, 112, 32, 110, 111, 119, 104, 101, 114, 101] from rfl, aw3_4] at hv
   exact ⟨_, _, _, _, _, hv, Br.f rfl (Br.f rfl (left_lt (es := awL) (y := ⟨.string ⟨#[106, 117, 109, 112, 32, 110, 111, 119, 104, 101, 114, 101]⟩, .int .i64 155, 4⟩) (by simp [awL]) hs))⟩
 · refine ⟨by decide, ⟨decI xs, 5, rfl, by simp⟩, (ct16 (strT [106, 117, 109, 112, 32, 49, 120]) (by rw [strT_size]; decide) I1 (hG.mono hI1)).mono fun v I2 hI2 ⟨b2, n2, c2, hv, _⟩ => ?_⟩
   rw [show tx (strT [106, 117, 109, 112, 32, 49, 120]) = [106, 117, 109, 112, 32, 49, 120] from rfl, aw3_5] at hv
   exact ⟨_, _, _, _, _, hv, Br.f rfl (Br.f rfl (left_lt (es := awL) (y := ⟨.string ⟨#[106, 117, 109, 112, 32, 49, 120]⟩, .int .i64 153, 5⟩) (by simp [awL]) hs))⟩
 · refine ⟨by decide, ⟨decI xs, 6, rfl, by simp⟩, (ct16 (strT [97, 58]) (by rw [strT_size]; decide) I1 (hG.mono hI1)).mono fun v I2 hI2 ⟨b2, n2, c2, hv, _⟩ => ?_⟩
   rw [show tx (strT [97, 58]) = [97, 58] from rfl, aw3_6] at hv
   exact ⟨_, _, _, _, _, hv, Br.f rfl (Br.f rfl (left_lt (es := awL) (y := ⟨.string ⟨#[97, 58]⟩, .int .i64 156, 6⟩) (by simp [awL]) hs))⟩
 · refine ⟨by decide, ⟨decI xs, 7, rfl, by simp⟩, (ct16 (strT [109, 111, 118, 101, 32, 114, 49, 32, 114, 50]) (by rw [strT_size]; decide) I1 (hG.mono hI1)).mono fun v I2 hI2 ⟨b2, n2, c2, hv, _⟩ => ?_⟩
   rw [show tx (strT [109, 111, 118, 101, 32, 114, 49, 32, 114, 50]) = [109, 111, 118, 101, 32, 114, 49, 32, 114, 50] from rfl, aw3_7] at hv
   exact ⟨_, _, _, _, _, hv, Br.f rfl (Br.f rfl (left_lt (es := awL) (y := ⟨.string ⟨#[109, 111, 118, 101, 32, 114, 49, 32, 114, 50]⟩, .int .i64 143, 7⟩) (by simp [awL]) hs))⟩
def laidL : List (String × DataW Unit) := [("math/bits.deBruijn32tab", YtjjjbafnplmjoaaGreatDoor.Rows.laid_math_bits_deBruijn32tab), ("math/bits.deBruijn64tab", YtjjjbafnplmjoaaGreatDoor.Rows.laid_math_bits_deBruijn64tab), ("internal/strconv.uint64pow10", YtjjjbafnplmjoaaGreatDoor.Rows.laid_internal_strconv_uint64pow10), ("strconv.ErrRange", YtjjjbafnplmjoaaGreatDoor.Rows.laid_strconv_ErrRange), ("strconv.ErrSyntax", YtjjjbafnplmjoaaGreatDoor.Rows.laid_strconv_ErrSyntax)]
theorem gPow : Tryz.prog.globalNamed "internal/strconv.uint64pow10" = some 3 := by kernel_rfl
theorem gSyn : Tryz.prog.globalNamed "strconv.ErrSyntax" = some 8 := by kernel_rfl
theorem gRng : Tryz.prog.globalNamed "strconv.ErrRange" = some 9 := by kernel_rfl
theorem cell_to {W w : World} (hw : (memW W).inW w) {a : Addr} {v : Value} (h : W.cell? a = some v) (hs : a.spot = none) : w.cell? a = some v := by
 refine cellM_world hw ?_;unfold World.cell? at h;unfold cellM memW;rw [hs] at h ⊢
 cases hb : W.heap[a.block]? with
 | none => rw [hb] at h; simp at h
 | some o =>
   rw [hb] at h
   cases o <;> simp_all
theorem var_to {W w : World} (hw : (memW W).inW w) {n : String} {cs : Array Value} (h : W.var? Tryz.prog n = some cs) : w.var? Tryz.prog n = some cs := by
 unfold World.var? at h ⊢
 cases hg : Tryz.prog.globalNamed n with
 | none => rw [hg] at h; cases h
 | some g =>
   rw [hg] at h;simp only [Option.bind_some] at h ⊢
   cases hb : W.heap[g]? with
   | none => rw [hb] at h; cases h
   | some o =>
     have := hw g o hb;rw [hb] at h
     rw [this]; exact h
theorem starS : "*errors.errorString" = "*" ++ "errors.errorString" := by decide +kernel
theorem rowS : ∀ u, Tryz.prog.typeName? 3 u = some "*errors.errorString" -> u = 224 := fun u h =>
 typeName_ptr_named (nm := "errors.errorString") (by rw [<- starS]; kernel_rfl) (by kernel_rfl) (by decide) u (by rw [<- starS]; exact h)
theorem sent {W : World} {n : String} {text : List UInt8} {r : List (String × DataW Unit)} {g : Nat} (hg : Tryz.prog.globalNamed n = some g) (ht : (Tryz.prog.globals[g]?).map (·.type) = some 53)
 (h : laidMet Tryz.prog ((n, .iface "*errors.errorString" (.ptr (.agg [.lit (.string text)]))) :: r) W) : ∃ tp p, W.cell? ⟨g, 0, none⟩ = some (.iface tp p) := by
 obtain ⟨a, s, hv, _⟩ := laid_sentinel h hg ht Tryz.underlying53 rowS Tryz.underlying224 Tryz.underlying226 rfl rfl Tryz.underlying9 (by kernel_rfl) (by kernel_rfl)
 have := World.var?_cell hg hv 0;exact ⟨_, _, this⟩
theorem globs_mk {W : World} {r r2 : List (String × DataW Unit)} (hsh : W.ShapedOpen Tryz.prog)
 (h1 : laidMet Tryz.prog (("internal/strconv.uint64pow10", YtjjjbafnplmjoaaGreatDoor.Rows.laid_internal_strconv_uint64pow10) :: r) W)
 (h2 : laidMet Tryz.prog (("strconv.ErrRange", YtjjjbafnplmjoaaGreatDoor.Rows.laid_strconv_ErrRange) :: ("strconv.ErrSyntax", YtjjjbafnplmjoaaGreatDoor.Rows.laid_strconv_ErrSyntax) :: r2) W) : Globs (memW W) := by
 obtain ⟨m, hm⟩ := cell_of_shapedOpen_int (P := Tryz.prog) (g := 2) (t := 3) (zero := #[.int .i64 0]) (k := .i64) hsh (of_decide_eq_true (by kernel_rfl)) (by kernel_rfl) rfl (by kernel_rfl) (by kernel_rfl) Tryz.underlying3
 have hT : Lib.TabIs Tryz.prog W "internal/strconv.uint64pow10" .u64 Lib.pow10Tab := Lib.tabIs_of_head (t := 201) (e := 129) (n := 20) gPow (by kernel_rfl) (by kernel_rfl) (by kernel_rfl) (by kernel_rfl) (by kernel_rfl) h1
 obtain ⟨t1, p1, hr⟩ := sent gRng (by kernel_rfl) h2
 obtain ⟨t2, p2, hs⟩ := sent gSyn (by kernel_rfl) h2.tail
 intro w hw;exact ⟨⟨m, cell_to hw hm rfl⟩, var_to hw hT, ⟨t2, p2, cell_to hw hs rfl⟩, ⟨t1, p1, cell_to hw hr rfl⟩⟩
theorem globs_of {W : World} (hsh : W.ShapedOpen Tryz.prog) (hL : laidMetH Tryz.prog laidL W) : Globs (memW W) := by
 rw [MakeChecks.laidMetH_plain _ _ _ (by kernel_rfl)] at hL
 exact globs_mk hsh hL.tail.tail hL.tail.tail.tail
section
variable {H : Type} {enc : TypeId × Value -> H} {W : World} {r : Reach} {b0 : Nat} {v : Value} {d : DataW H} {ps : List MemPlace}
end
def wordsB (op : Int) : Bool :=
 ((formT op).isSome == decide (wordT op ≠ [])) && (((findT (wordT op)).2 == (formT op).isSome) && ((!(formT op).isSome || (decide ((findT (wordT op)).1 = op) && nameB (wordT op))) && ((formT op).isSome || decide ((findT (wordT op)).1 = 0))))
theorem words_all : ∀ k : Fin 256, wordsB (k.val : Int) = true := by decide +kernel
theorem words_of {op : Int} (h : 0 <= op /\ op <= 255) : wordsB op = true := by
 have := words_all ⟨op.toNat, by omega⟩
 rwa [show ((op.toNat : Nat) : Int) = op by omega] at this
theorem find_word {s : Tx} (h : (findT s).2 = true) : wordT (findT s).1 = s := by
 unfold findT at h ⊢;split
 · rename_i h1
   unfold opFind at h1 ⊢
   split at h1
   · rename_i k hk
     obtain ⟨hlt, he, _⟩ := List.findIdx?_eq_some_iff_getElem.1 hk;have he := of_decide_eq_true he;simp only [hk]
     rw [wordT, if_pos (by omega), opName, if_neg (by omega), show (32 + ((k : Int) + 1) - 32 - 1).toNat = k by omega, List.getElem?_eq_getElem hlt]
     exact he
   · cases h1
 · rename_i h1
   rw [if_neg h1] at h;unfold baseFind at h ⊢
   split at h
   · rename_i k hk
     obtain ⟨hlt, he, _⟩ := List.findIdx?_eq_some_iff_getElem.1 hk;have he := of_decide_eq_true he;have hl : baseNames.length = 11 := rfl;simp only [hk]
     rw [wordT, if_neg (by omega), if_neg (by omega), show (((k : Int) + 1) - 1).toNat = k by omega, List.getElem?_eq_getElem hlt]
     exact he
   · cases h
theorem find_not {s : Tx} (h : (findT s).2 = false) : (findT s).1 = 0 := by
 unfold findT at h ⊢
 split at h
 · cases h
 · rename_i h1
   rw [if_neg h1];unfold baseFind at h ⊢
   split at h
   · cases h
   · rfl
def shapeI (i : Ins) (l : Tx) : Prop :=
 (l = [] /\ i.a = 0 /\ i.b = 0 /\ i.c = 0 /\ i.n = 0) \/ (l = [114, 110] /\ i.a < 8 /\ i.b = 0 /\ i.c = 0) \/ (l = [114, 114] /\ i.a < 8 /\ i.b < 8 /\ i.c = 0 /\ i.n = 0) \/
 (l = [114, 114, 112] /\ i.a < 8 /\ i.b < 8 /\ i.c = 0 /\ 0 <= i.n /\ i.n < 16) \/ (l = [116] /\ i.a = 0 /\ i.b = 0 /\ i.c = 0 /\ 0 <= i.n /\ i.n < 256) \/
 (l = [114, 116] /\ i.a < 8 /\ i.b = 0 /\ i.c = 0 /\ 0 <= i.n /\ i.n < 256) \/ (l = [114, 114, 114] /\ i.a < 8 /\ i.b < 8 /\ i.c < 8 /\ i.n = 0)
set_option maxHeartbeats 8000000 in
theorem one_shape {i : Ins} (ho : okI i) (h : oneE i = 0) : ∃ l, formT i.op = some l /\ shapeI i l := by
 rw [oneE] at h
 have ha := ho.a; have hb := ho.b; have hc := ho.c
 rcases formT_cases i.op with hf | hf | hf | hf | hf | hf | hf | hf <;> rw [hf] at h <;> simp only at h
 · cases h
 · refine ⟨_, hf, .inl ⟨rfl, ?_⟩⟩
   rw [oneGo] at h
   split at h
   · rename_i hz; exact hz
   · cases h
 · refine ⟨_, hf, .inr (.inl ⟨rfl, ?_⟩)⟩
   simp only [oneGo, regAt, true_and] at h
   repeat' split at h
   all_goals simp_all
   all_goals omega
 · refine ⟨_, hf, .inr (.inr (.inl ⟨rfl, ?_⟩))⟩
   simp only [oneGo, regAt, true_and] at h
   repeat' split at h
   all_goals simp_all
   all_goals omega
 · refine ⟨_, hf, .inr (.inr (.inr (.inl ⟨rfl, ?_⟩)))⟩
   simp only [oneGo, regAt, true_and] at h
   repeat' split at h
   all_goals simp_all
   all_goals omega
 · refine ⟨_, hf, .inr (.inr (.inr (.inr (.inl ⟨rfl, ?_⟩))))⟩
   simp only [oneGo, regAt, true_and] at h
   repeat' split at h
   all_goals simp_all
   all_goals omega
 · refine ⟨_, hf, .inr (.inr (.inr (.inr (.inr (.inl ⟨rfl, ?_⟩)))))⟩
   simp only [oneGo, regAt, true_and] at h
   repeat' split at h
   all_goals simp_all
   all_goals omega
 · refine ⟨_, hf, .inr (.inr (.inr (.inr (.inr (.inr ⟨rfl, ?_⟩)))))⟩
   simp only [oneGo, regAt, true_and] at h
   repeat' split at h
   all_goals simp_all
   all_goals omega
theorem shape_one {i : Ins} {l : Tx} (hf : formT i.op = some l) (h : shapeI i l) : oneE i = 0 := by
 rw [oneE, hf]
 simp only
 unfold shapeI at h
 rcases h with ⟨rfl, h⟩ | ⟨rfl, h⟩ | ⟨rfl, h⟩ | ⟨rfl, h⟩ | ⟨rfl, h⟩ | ⟨rfl, h⟩ | ⟨rfl, h⟩ <;> simp_all [oneGo, regAt]
theorem num_itoa {n : Int} (h : i64N n) : numT (Lib.itoa n) = some n := by
 rw [numT, itoa_parse h]; simp
theorem out_len (p : List Ins) : ∀ (l : List Ins) (k : Nat), (∀ i ∈ l, okI i) -> k + l.length <= 256 -> (outGo p l k).length <= 130 * l.length
 | [], _, _, _ => Nat.zero_le _
 | i :: l, k, h, hk => by
   have ih := out_len p l (k + 1) (fun j hj => h j (List.mem_cons_of_mem _ hj)) (by simp only [List.length_cons] at hk; omega)
   have h1 := insT_len (h i (by simp))
   have h2 : (lab (k : Int)).length <= 22 := by
    simp only [List.length_cons] at hk
    have := itoa_len (n := (k : Int)) ⟨by omega, by omega⟩
    simp only [lab, List.length_cons]; omega
   rw [outGo];simp only [List.length_append, List.length_cons];split
   · simp only [List.length_append, List.length_cons, List.length_nil]; omega
   · simp only [List.length_nil]; omega
theorem tgt_form {i : Ins} (ho : okI i) (h : oneE i = 0) : (116 ∈ formL i.op ↔ (targetE i).2 = true) /\ ((targetE i).2 = true -> (targetE i).1 = i.n) := by
 obtain ⟨l, hf, hs⟩ := one_shape ho h
 have hk : ∀ k : Fin 256, (decide (116 ∈ formL (k.val : Int))) = decide ((k.val : Int) = 9 \/ (k.val : Int) = 10 \/ (k.val : Int) = 11) := by decide +kernel
 have h2 := ho.op
 have h1 := hk ⟨i.op.toNat, by omega⟩
 rw [show ((i.op.toNat : Nat) : Int) = i.op by omega] at h1
 have h1 := decide_eq_decide.1 h1;unfold targetE;constructor
 · rw [h1]
   constructor
   · intro hh; rw [if_pos ⟨h, hh⟩]
   · intro hh
     split at hh
     · rename_i hc; exact hc.2
     · cases hh
 · intro hh
   split at hh
   · rename_i hc; rw [if_pos hc]
   · cases hh
def SrcOk (x : Src) : Prop := okI x.ins /\ ∃ l, formT x.ins.op = some l /\ ((x.target = [] /\ 116 ∉ l /\ shapeI x.ins l) \/ (x.target ≠ [] /\ ∀ n : Int, 0 <= n -> n < 256 -> shapeI { x.ins with n := n } l))
theorem nameB_ne {t : Tx} (h : nameB t = true) : t ≠ [] := fun e => by subst e; cases h
theorem put_shape {op : Int} {l : Tx} (hf : formT op = some l) {ts : List Tx} (hlen : ts.length = l.length) {line : Int} {x : Src} (h : putGo l ts ⟨⟨op, 0, 0, 0, 0⟩, line, []⟩ 0 = (0, x)) :
 x.ins.op = op /\ ((x.target = [] /\ 116 ∉ l /\ shapeI x.ins l) \/ (x.target ≠ [] /\ ∀ n : Int, 0 <= n -> n < 256 -> shapeI { x.ins with n := n } l)) := by
 have key : ∀ (f : UInt8) (fs : Tx) (s : Tx) (ss : List Tx) (y : Src) (u : Nat), putGo (f :: fs) (s :: ss) y u = (0, x) ->
  (f = 114 /\ ∃ r, regT s = some r /\ 0 <= r /\ r < 8 /\ putGo fs ss { y with ins := putR y.ins u r } (u + 1) = (0, x)) \/ (f = 116 /\ nameB s = true /\ putGo fs ss { y with target := s } u = (0, x)) \/
  (f ≠ 114 /\ f ≠ 116 /\ ∃ n, numT s = some n /\ (f = 112 -> 0 <= n /\ n < 16) /\ putGo fs ss { y with ins := { y.ins with n := n } } u = (0, x)) := by
  intro f fs s ss y u h;rw [putGo] at h
  split at h
  · rename_i hr
    split at h
    · rename_i r hq
      have := regT_rng hq
      exact .inl ⟨hr, r, hq, this.1, by omega, h⟩
    · cases h
  · rename_i hr
    split at h
    · rename_i ht
      split at h
      · rename_i hn; exact .inr (.inl ⟨ht, hn, h⟩)
      · cases h
    · rename_i ht
      split at h
      · cases h
      · rename_i n hn
        split at h
        · cases h
        · rename_i hp
          exact .inr (.inr ⟨hr, ht, n, hn, fun e => Decidable.not_not.1 fun hh => hp ⟨e, hh⟩, h⟩)
 have e1 : ¬ (114 : UInt8) = 116 := by decide
 have e2 : ¬ (110 : UInt8) = 114 := by decide
 have e3 : ¬ (110 : UInt8) = 116 := by decide
 have e4 : ¬ (112 : UInt8) = 114 := by decide
 have e5 : ¬ (112 : UInt8) = 116 := by decide
 have e6 : ¬ (116 : UInt8) = 114 := by decide
 have reg : ∀ {fs : Tx} {s : Tx} {ss : List Tx} {y : Src} {u : Nat}, putGo (114 :: fs) (s :: ss) y u = (0, x) -> ∃ r, 0 <= r /\ r < 8 /\ putGo fs ss { y with ins := putR y.ins u r } (u + 1) = (0, x) := fun h => by
  rcases key _ _ _ _ _ _ h with ⟨_, r, _, h1, h2, h3⟩ | ⟨h1, _⟩ | ⟨h1, _⟩
  · exact ⟨r, h1, h2, h3⟩
  · exact absurd h1 e1
  · exact absurd rfl h1
 have tgt : ∀ {fs : Tx} {s : Tx} {ss : List Tx} {y : Src} {u : Nat}, putGo (116 :: fs) (s :: ss) y u = (0, x) -> s ≠ [] /\ putGo fs ss { y with target := s } u = (0, x) := fun h => by
  rcases key _ _ _ _ _ _ h with ⟨h1, _⟩ | ⟨_, h1, h2⟩ | ⟨_, h1, _⟩
  · exact absurd h1 e6
  · exact ⟨nameB_ne h1, h2⟩
  · exact absurd rfl h1
 have fin : ∀ {ss : List Tx} {y : Src} {u : Nat}, putGo [] ss y u = (0, x) -> y = x := fun h => by
  rw [putGo_nil] at h; exact (Prod.mk.inj h).2
 rcases formT_cases op with hh | hh | hh | hh | hh | hh | hh | hh <;> rw [hh] at hf <;> cases hf
 · have := fin h; subst this
   exact ⟨rfl, .inl ⟨rfl, by decide, .inl ⟨rfl, rfl, rfl, rfl, rfl⟩⟩⟩
 · match ts, hlen with
   | [s1, s2], _ =>
     obtain ⟨r, r0, r1, h⟩ := reg h
     rcases key _ _ _ _ _ _ h with ⟨h1, _⟩ | ⟨h1, _⟩ | ⟨_, _, n, _, _, h⟩
     · exact absurd h1 e2
     · exact absurd h1 e3
     · have := fin h; subst this
       exact ⟨rfl, .inl ⟨rfl, by decide, .inr (.inl ⟨rfl, r1, rfl, rfl⟩)⟩⟩
 · match ts, hlen with
   | [s1, s2], _ =>
     obtain ⟨r, r0, r1, h⟩ := reg h;obtain ⟨q, q0, q1, h⟩ := reg h
     have := fin h; subst this
     exact ⟨rfl, .inl ⟨rfl, by decide, .inr (.inr (.inl ⟨rfl, r1, q1, rfl, rfl⟩))⟩⟩
 · match ts, hlen with
   | [s1, s2, s3], _ =>
     obtain ⟨r, r0, r1, h⟩ := reg h;obtain ⟨q, q0, q1, h⟩ := reg h
     rcases key _ _ _ _ _ _ h with ⟨h1, _⟩ | ⟨h1, _⟩ | ⟨_, _, n, _, hp, h⟩
     · exact absurd h1 e4
     · exact absurd h1 e5
     · have := fin h; subst this
       exact ⟨rfl, .inl ⟨rfl, by decide, .inr (.inr (.inr (.inl ⟨rfl, r1, q1, rfl, hp rfl⟩)))⟩⟩
 · match ts, hlen with
   | [s1], _ =>
     obtain ⟨hne, h⟩ := tgt h
     have := fin h; subst this
     exact ⟨rfl, .inr ⟨hne, fun n n0 n1 => .inr (.inr (.inr (.inr (.inl ⟨rfl, rfl, rfl, rfl, n0, n1⟩))))⟩⟩
 · match ts, hlen with
   | [s1, s2], _ =>
     obtain ⟨r, r0, r1, h⟩ := reg h;obtain ⟨hne, h⟩ := tgt h
     have := fin h; subst this
     exact ⟨rfl, .inr ⟨hne, fun n n0 n1 => .inr (.inr (.inr (.inr (.inr (.inl ⟨rfl, r1, rfl, rfl, n0, n1⟩)))))⟩⟩
 · match ts, hlen with
   | [s1, s2, s3], _ =>
     obtain ⟨r, r0, r1, h⟩ := reg h;obtain ⟨q, q0, q1, h⟩ := reg h;obtain ⟨w, w0, w1, h⟩ := reg h
     have := fin h; subst this
     exact ⟨rfl, .inl ⟨rfl, by decide, .inr (.inr (.inr (.inr (.inr (.inr ⟨rfl, r1, q1, w1, rfl⟩)))))⟩⟩
theorem findT_form {t : Tx} (h : (findT t).2 = true) : ∃ l, formT (findT t).1 = some l := by
 have hw := find_word h;have hrg := findT_rng t
 have hwd := words_of (op := (findT t).1) (by omega)
 simp only [wordsB, Bool.and_eq_true, beq_iff_eq] at hwd;have h2 := hwd.2.1;rw [hw, h] at h2
 cases hq : formT (findT t).1 with
 | none => rw [hq] at h2; cases h2
 | some l => exact ⟨l, rfl⟩
theorem instr_src {l : List Tx} {line : Int} (h : (instrA l line).1 = 0) : SrcOk (instrA l line).2 /\ (instrA l line).2.line = line := by
 have hok := instrA_ok l line;refine ⟨⟨hok.1, ?_⟩, hok.2⟩
 cases l with
 | nil => cases h
 | cons w r =>
   rw [instrA] at h ⊢
   split at h
   · cases h
   · rename_i h1
     rw [if_neg h1]
     split at h
     · cases h
     · rename_i h2
       rw [if_neg h2]
       have h1 : (findT w).2 = true := by simpa using h1
       obtain ⟨f, hf⟩ := findT_form h1
       have hfl : formL (findT w).1 = f := by rw [formL, hf]; rfl
       rw [hfl] at h h2 ⊢;obtain ⟨x, hx⟩ : ∃ x, putGo f r ⟨⟨(findT w).1, 0, 0, 0, 0⟩, line, []⟩ 0 = (0, x) := ⟨_, Prod.ext h rfl⟩;obtain ⟨g1, g2⟩ := put_shape hf (Decidable.not_not.1 h2) hx;rw [hx]
       exact ⟨f, by rw [g1]; exact hf, g2⟩
structure Rd2 (r : Rd) (k : Nat) : Prop where
 sok : ∀ x ∈ r.ss, SrcOk x /\ 1 <= x.line /\ x.line <= k
 mok : ∀ m ∈ r.ms, nameB m.name = true /\ 0 <= m.at_ /\ m.at_ <= r.ss.length /\ 1 <= m.line /\ m.line <= k
 srt : r.ms.Pairwise fun a b => a.at_ <= b.at_ /\ a.name ≠ b.name
theorem Rd2.mono {r : Rd} {k : Nat} (h : Rd2 r k) : Rd2 r (k + 1) := ⟨fun x hx => ⟨(h.sok x hx).1, (h.sok x hx).2.1, by have := (h.sok x hx).2.2; omega⟩,
 fun m hm => by obtain ⟨h1, h2, h3, h4, h5⟩ := h.mok m hm; exact ⟨h1, h2, h3, h4, by omega⟩, h.srt⟩
theorem label2 {r : Rd} {k : Nat} (h : Rd2 r k) (name : Tx) : Rd2 (labelA r name ((k : Int) + 1)).2 (k + 1) := by
 unfold labelA;split
 · exact h.mono
 · rename_i h1
   split
   · exact h.mono
   · rename_i h2
     refine ⟨h.mono.sok, fun m hm => ?_, ?_⟩
     · rcases List.mem_append.1 hm with hm | hm
       · exact h.mono.mok m hm
       · simp only [List.mem_cons, List.not_mem_nil, or_false] at hm
         subst hm
         exact ⟨by simpa using h1, Int.natCast_nonneg _, Int.le_refl _, by simp only; omega, by simp only; omega⟩
     · simp only
       rw [List.pairwise_append];refine ⟨h.srt, List.pairwise_singleton _ _, fun a ha b hb => ?_⟩;simp only [List.mem_cons, List.not_mem_nil, or_false] at hb;subst hb;refine ⟨(h.mok a ha).2.2.1, fun e => h2 ?_⟩;rw [hasMk, List.any_eq_true];exact ⟨a, ha, decide_eq_true e⟩
theorem puti2 {r : Rd} {k : Nat} (h : Rd2 r (k + 1)) (l : List Tx) : Rd2 (putI r l ((k : Int) + 1)).2 (k + 1) := by
 unfold putI;split
 · exact h
 · split
   · rename_i hq
     obtain ⟨h1, h2⟩ := instr_src hq;refine ⟨fun x hx => ?_, fun m hm => ?_, h.srt⟩
     · rcases List.mem_append.1 hx with hx | hx
       · exact h.sok x hx
       · simp only [List.mem_cons, List.not_mem_nil, or_false] at hx
         subst hx
         exact ⟨h1, by omega, by omega⟩
     · obtain ⟨h1, h2, h3, h4, h5⟩ := h.mok m hm
       exact ⟨h1, h2, by simp only [List.length_append, List.length_cons, List.length_nil]; omega, h4, h5⟩
   · exact h
theorem line2 {r : Rd} {k : Nat} (h : Rd2 r k) (s : Tx) : Rd2 (lineA r s ((k : Int) + 1)).2 (k + 1) := by
 unfold lineA;split
 · exact h.mono
 · split
   · split
     · exact label2 h _
     · exact puti2 (label2 h _) _
   · exact puti2 h.mono _
theorem lines2 : ∀ (L : List Tx) (k : Nat) (r : Rd), Rd2 r k -> Rd2 (linesA L ((k : Int) + 1) r).2.2 (k + L.length) /\ ((linesA L ((k : Int) + 1) r).1 ≠ 0 -> 1 <= (linesA L ((k : Int) + 1) r).2.1 /\ (linesA L ((k : Int) + 1) r).2.1 <= ((k + L.length : Nat) : Int))
 | [], k, r, h => ⟨h, fun hh => absurd rfl hh⟩
 | s :: L, k, r, h => by
   have h1 := line2 h s;rw [linesA];split
   · rename_i hq
     have up : ∀ n, Rd2 (lineA r s ((k : Int) + 1)).2 (k + 1 + n) := fun n => by
      induction n with
      | zero => exact h1
      | succ n ih => exact ih.mono
     refine ⟨by rw [List.length_cons, show k + (L.length + 1) = k + 1 + L.length by omega]; exact up _, fun _ => ⟨by simp only; omega, by simp only [List.length_cons]; omega⟩⟩
   · have := lines2 L (k + 1) _ h1
     rw [List.length_cons, show k + (L.length + 1) = k + 1 + L.length by omega]
     rw [show ((k : Int) + 1 + 1) = ((k + 1 : Nat) : Int) + 1 by omega]
     exact this
theorem rd2_zero : Rd2 ⟨[], []⟩ 0 := ⟨fun x hx => (by cases hx), fun x hx => (by cases hx), List.Pairwise.nil⟩
theorem read_right (t : Tx) : 0 <= (readA t).1 /\ (readA t).1 <= 1 + (t.count 10 : Nat) /\ ((readA t).2.1 = 0 -> (readA t).1 = 0 /\
 (∀ i ∈ (readA t).2.2.ss.map (·.ins), okI i) /\ checkL ((readA t).2.2.ss.map (·.ins)) = (-1, 0) /\ (∀ m ∈ (readA t).2.2.ms, nameB m.name = true /\ 0 <= m.at_ /\ m.at_ < (readA t).2.2.ss.length) /\ (readA t).2.2.ms.Pairwise fun a b => a.at_ <= b.at_ /\ a.name ≠ b.name) := by
 have hlen : ((splitC 10 t).length : Int) = 1 + (t.count 10 : Nat) := by rw [<- count_splitC]; omega
 obtain ⟨L2, L3⟩ := lines2 (splitC 10 t) 0 ⟨[], []⟩ rd2_zero
 rw [show ((0 : Nat) : Int) + 1 = 1 from rfl, Nat.zero_add] at L2 L3
 obtain ⟨R, hR⟩ : ∃ R, R = linesA (splitC 10 t) 1 ⟨[], []⟩ := ⟨_, rfl⟩
 have hread : readA t = if 65536 < t.length then (0, 3, ⟨[], []⟩) else if R.1 ≠ 0 then (R.2.1, R.1, ⟨[], []⟩) else if (endA R.2.2).2 ≠ 0 then ((endA R.2.2).1, (endA R.2.2).2, ⟨[], []⟩) else (0, 0, ⟨R.2.2.ms, R.2.2.ss.map (setTo R.2.2.ms)⟩) := by rw [readA, hR]
 rw [<- hR] at L2 L3;rw [hread];split
 · exact ⟨Int.le_refl _, by simp only; omega, fun h => by cases h⟩
 split
 · rename_i h1
   have := L3 h1
   exact ⟨by simp only; omega, by simp only; omega, fun h => absurd h h1⟩
 rename_i h1
 have hline : 0 <= (endA R.2.2).1 /\ (endA R.2.2).1 <= 1 + (t.count 10 : Nat) := by
  unfold endA;split
  · exact ⟨Int.le_refl _, by simp only; omega⟩
  · split
    · rename_i x hx
      have := L2.sok x (List.mem_of_find?_eq_some hx)
      exact ⟨by simp only; omega, by simp only; omega⟩
    · split
      · rename_i m hm
        have := L2.mok m (List.mem_of_find?_eq_some hm)
        exact ⟨by simp only; omega, by simp only; omega⟩
      · split
        · exact ⟨Int.le_refl _, by simp only; omega⟩
        · rename_i x hx
          obtain ⟨z, hz, rfl⟩ := List.mem_map.1 (List.mem_of_getLast? hx);have := L2.sok z hz
          have e : (setTo R.2.2.ms z).line = z.line := by unfold setTo; split <;> rfl
          split
          · simp only [e]; omega
          · exact ⟨Int.le_refl _, by simp only; omega⟩
 split
 · rename_i h2
   exact ⟨hline.1, hline.2, fun h => absurd h h2⟩
 rename_i h2
 refine ⟨Int.le_refl _, by simp only; omega, fun _ => ⟨rfl, ?_⟩⟩
 simp only [List.map_map];have h2 : (endA R.2.2).2 = 0 := Decidable.not_not.1 h2;unfold endA at h2
 split at h2
 · cases h2
 rename_i hbig
 split at h2
 · cases h2
 rename_i hlost
 split at h2
 · cases h2
 rename_i hafter
 split at h2
 · cases h2
 rename_i last hlast
 split at h2
 · cases h2
 rename_i hgoes
 have hat : ∀ m ∈ R.2.2.ms, 0 <= m.at_ /\ m.at_ < R.2.2.ss.length := fun m hm => by
  have h3 := L2.mok m hm;have h4 := List.find?_eq_none.1 hafter m hm;simp only [decide_eq_true_eq] at h4;omega
 have hins : ∀ x ∈ R.2.2.ss, okI (setTo R.2.2.ms x).ins /\ oneE (setTo R.2.2.ms x).ins = 0 /\ ((targetE (setTo R.2.2.ms x).ins).2 = true -> (targetE (setTo R.2.2.ms x).ins).1 < R.2.2.ss.length) := by
  intro x hx;obtain ⟨⟨ho, l, hf, hs⟩, _, _⟩ := L2.sok x hx;have hl := List.find?_eq_none.1 hlost x hx
  rcases hs with ⟨ht, hno, hs⟩ | ⟨ht, hs⟩
  · have e : setTo R.2.2.ms x = x := by rw [setTo, if_pos ht]
    rw [e];have h1 := shape_one hf hs;refine ⟨ho, h1, fun hh => ?_⟩;exfalso;obtain ⟨t1, _⟩ := tgt_form ho h1;have hm := t1.2 hh
    have hfl : formL x.ins.op = l := by rw [formL, hf]; rfl
    rw [hfl] at hm;exact hno hm
  · have hhas : hasMk R.2.2.ms x.target = true := by
     rw [lostB, decide_eq_true ht] at hl;simpa using hl
    obtain ⟨m, hm, he⟩ := List.any_eq_true.1 hhas
    have hatm : ∃ m ∈ R.2.2.ms, atMk R.2.2.ms x.target = m.at_ := by
     rw [atMk]
     cases hq : R.2.2.ms.find? fun m => decide (m.name = x.target) with
     | none => exact absurd he (List.find?_eq_none.1 hq m hm)
     | some m' => exact ⟨m', List.mem_of_find?_eq_some hq, rfl⟩
    obtain ⟨m', hm', ha⟩ := hatm;have hr := hat m' hm'
    have e : setTo R.2.2.ms x = { x with ins := { x.ins with n := atMk R.2.2.ms x.target } } := by rw [setTo, if_neg ht]
    have hn : 0 <= atMk R.2.2.ms x.target /\ atMk R.2.2.ms x.target < 256 := by rw [ha]; omega
    have h1 : oneE { x.ins with n := atMk R.2.2.ms x.target } = 0 := shape_one (l := l) hf (hs _ hn.1 hn.2)
    have ho' : okI { x.ins with n := atMk R.2.2.ms x.target } := ⟨ho.op, ho.a, ho.b, ho.c, by simp only; omega⟩
    rw [e];refine ⟨ho', h1, fun hh => ?_⟩;obtain ⟨_, t2⟩ := tgt_form ho' h1;rw [t2 hh]
    show atMk R.2.2.ms x.target < _
    rw [ha]; exact hr.2
 have hmap : (R.2.2.ss.map ((fun x => x.ins) ∘ setTo R.2.2.ms)).length = R.2.2.ss.length := List.length_map _
 have hall : ∀ i ∈ R.2.2.ss.map ((fun x => x.ins) ∘ setTo R.2.2.ms), okI i /\ oneE i = 0 /\ ((targetE i).2 = true -> (targetE i).1 < R.2.2.ss.length) := fun i hi => by
  obtain ⟨x, hx, rfl⟩ := List.mem_map.1 hi;exact hins x hx
 have hgo : ∀ (p : List Ins) (k : Int), (∀ i ∈ p, okI i /\ oneE i = 0 /\ ((targetE i).2 = true -> (targetE i).1 < R.2.2.ss.length)) -> checkGo R.2.2.ss.length p k = (-1, 0) := by
  intro p
  induction p with
  | nil => intro k _; rfl
  | cons i r ih =>
    intro k h
    obtain ⟨_, h1, h2⟩ := h i (by simp)
    rw [checkGo, if_neg (fun hh => hh h1), if_neg (fun hh => by have := h2 hh.1; omega)]
    exact ih _ fun j hj => h j (List.mem_cons_of_mem _ hj)
 refine ⟨fun i hi => (hall i hi).1, ?_, fun m hm => ⟨(L2.mok m hm).1, by rw [List.length_map]; exact hat m hm⟩, L2.srt⟩
 have hne : R.2.2.ss.length ≠ 0 := fun e => by
  have : R.2.2.ss = [] := List.eq_nil_of_length_eq_zero e;rw [this] at hlast;cases hlast
 have hlg : lastGoes (R.2.2.ss.map ((fun x => x.ins) ∘ setTo R.2.2.ms)) = false := by
  rw [lastGoes, <- List.map_map, List.getLast?_map, hlast];simpa using hgoes
 rw [checkL, hmap, if_neg hne, if_neg hbig, hgo _ _ hall, if_neg (fun hh => hh rfl), hlg];rfl
section
variable {H : Type} {enc : TypeId × Value -> H} {W : World} {r : Reach} {b0 : Nat} {v : Value} {d : DataW H} {ps : List MemPlace}
end
theorem InsM.ok {I : Mem} {a : Option Addr} {n : Nat} {p : List Ins} (h : InsM I a n p) : ∀ x ∈ p, okI x := by
 obtain ⟨xs, _, h2⟩ := h;exact RowR.all (P := okI) (fun h => h.2) h2
theorem ct112 (s : ByteArray) (hs : s.size <= 1000) (L : UInt8) (c : Int) (hc : c = L.toNat) (I : Mem) : Ct Tryz.prog (fnv 112) #[.string s, .int .u8 c] I (fun v _ => v = .int .i64 ((tx s).count L : Nat)) := by
 obtain ⟨N, hN⟩ : ∃ f : Int -> Int -> Prop, f = fun (j n : Int) => 0 <= j /\ j <= s.size /\ n = (((tx s).take j.toNat).count L : Nat) := ⟨_, rfl⟩;obtain ⟨Q, hQ⟩ : ∃ q : Value, q = .int .i64 ((tx s).count L : Nat) := ⟨_, rfl⟩;rw [<- hQ]
 refine viaR (ct_via (A := { loops := [(3, ⟨[(0, .keep), (1, .keep), (5, .sh (.int .i64)), (6, .sh (.int .i64))], [], [], fun vals _ _ _ => match vals with | [.int .i64 n, .int .i64 j] => N j n | _ => False, fun vals _ => match vals with | [_, .int .i64 j] => (s.size - j).toNat | _ => 0⟩)] }) Tryz.func112 rfl Tryz.call112 rfl rfl) ((Rf (SV.v (.string s)) /\ Rf (SV.v (.int .u8 c)) /\ N 0 0) /\ ∀ (a : Mem), Mem -> I.le a -> ∀ (n b : Int), N b n -> Br (decide (b < (s.size : Int))) (∃ d, s.data.toList[b.toNat]? = some d /\ 0 <= b /\ Br ((d.toNat : Int) == c) (Wr .i64 (n + 1) (fun e => Wr .i64 (b + 1) fun f => Rf (SV.v (.string s)) /\ Rf (SV.v (.int .u8 c)) /\ N f e /\ Int.toNat ((s.size : Int) - f) < Int.toNat ((s.size : Int) - b))) (Wr .i64 (b + 1) (fun e => Rf (SV.v (.string s)) /\ Rf (SV.v (.int .u8 c)) /\ N e n /\ Int.toNat ((s.size : Int) - e) < Int.toNat ((s.size : Int) - b)))) (Value.int .i64 n = Q)) (by kernel_rfl) ?_
 refine ⟨⟨rfl, rfl, by rw [hN]; exact ⟨Int.le_refl _, by omega, rfl⟩⟩, fun J _ l n b hn => ?_⟩
 rw [hN] at hn;obtain ⟨h1, h2, h3⟩ := hn;have htl : (tx s).length = s.size := Array.length_toList;refine Br.mk (fun h4 => ?_) (fun h4 => ?_)
 · have h4 := of_decide_eq_true h4
   obtain ⟨d, hd⟩ : ∃ d, (tx s)[b.toNat]? = some d := ⟨_, List.getElem?_eq_getElem (by omega)⟩
   have htk : (tx s).take (b + 1).toNat = (tx s).take b.toNat ++ [d] := by rw [show (b + 1).toNat = b.toNat + 1 by omega, List.take_add_one, hd]; rfl
   have hle : ((tx s).take b.toNat).count L <= s.size := Nat.le_trans List.count_le_length (by rw [List.length_take]; omega)
   refine ⟨d, hd, h1, Br.mk (fun h5 => ?_) (fun h5 => ?_)⟩
   · have h5 : (d.toNat : Int) = c := by simpa using h5
     have hdL : d = L := UInt8.toNat_inj.1 (by omega)
     refine wr_i64 (by omega) (by omega) (wr_i64 (by omega) (by omega) ⟨rfl, rfl, ?_, by omega⟩)
     rw [hN]
     refine ⟨by omega, by omega, ?_⟩
     rw [htk, List.count_append, hdL, List.count_singleton_self]; omega
   · have h5 : ¬ (d.toNat : Int) = c := by simpa using h5
     refine wr_i64 (by omega) (by omega) ⟨rfl, rfl, ?_, by omega⟩
     rw [hN]
     refine ⟨by omega, by omega, ?_⟩
     rw [htk, List.count_append, List.count_singleton, if_neg (by simp only [beq_iff_eq]; rintro rfl; exact h5 hc.symm)]; exact h3
 · have h4 := of_decide_eq_false h4
   rw [List.take_of_length_le (by omega)] at h3
   rw [hQ, h3]
theorem ct66 (op : Int) (h : 0 <= op /\ op <= 255) (I : Mem) : Ct Tryz.prog (fnv 66) #[.int .u8 op] I (fun v _ => v = .tuple #[.string (strT (formL op)), .bool (formT op).isSome]) := by
 obtain ⟨Q, hQ⟩ : ∃ q : Value, q = .tuple #[.string (strT (formL op)), .bool (formT op).isSome] := ⟨_, rfl⟩;rw [<- hQ]
 refine viaR (ct_via (A := { }) Tryz.func66 rfl Tryz.call66 rfl rfl) (Br (op == 1) (Br (op == 1) (Value.tuple #[.string ⟨#[]⟩, .bool true] = Q) (Br (op == 3) (Value.tuple #[.string ⟨#[114, 110]⟩, .bool true] = Q) (Br (op == 4) (Br (op == 4) (Value.tuple #[.string ⟨#[114, 114]⟩, .bool true] = Q) (Br (op == 8) (Value.tuple #[.string ⟨#[114, 114, 112]⟩, .bool true] = Q) (Br (op == 9) (Value.tuple #[.string ⟨#[116]⟩, .bool true] = Q) (Br (op == 10) (Br (op == 10) (Value.tuple #[.string ⟨#[114, 116]⟩, .bool true] = Q) (Br (decide (33 <= op)) (Br (decide (op <= 49)) (Value.tuple #[.string ⟨#[114, 114, 114]⟩, .bool true] = Q) (Value.tuple #[.string ⟨#[]⟩, .bool false] = Q)) (Value.tuple #[.string ⟨#[]⟩, .bool false] = Q))) (Br (op == 11) (Value.tuple #[.string ⟨#[114, 116]⟩, .bool true] = Q) (Br (decide (33 <= op)) (Br (decide (op <= 49)) (Value.tuple #[.string ⟨#[114, 114, 114]⟩, .bool true] = Q) (Value.tuple #[.string ⟨#[]⟩, .bool false] = Q)) (Value.tuple #[.string ⟨#[]⟩, .bool false] = Q))))))) (Br (op == 5) (Br (op == 5) (Value.tuple #[.string ⟨#[114, 114]⟩, .bool true] = Q) (Br (op == 8) (Value.tuple #[.string ⟨#[114, 114, 112]⟩, .bool true] = Q) (Br (op == 9) (Value.tuple #[.string ⟨#[116]⟩, .bool true] = Q) (Br (op == 10) (Br (op == 10) (Value.tuple #[.string ⟨#[114, 116]⟩, .bool true] = Q) (Br (decide (33 <= op)) (Br (decide (op <= 49)) (Value.tuple #[.string ⟨#[114, 114, 114]⟩, .bool true] = Q) (Value.tuple #[.string ⟨#[]⟩, .bool false] = Q)) (Value.tuple #[.string ⟨#[]⟩, .bool false] = Q))) (Br (op == 11) (Value.tuple #[.string ⟨#[114, 116]⟩, .bool true] = Q) (Br (decide (33 <= op)) (Br (decide (op <= 49)) (Value.tuple #[.string ⟨#[114, 114, 114]⟩, .bool true] = Q) (Value.tuple #[.string ⟨#[]⟩, .bool false] = Q)) (Value.tuple #[.string ⟨#[]⟩, .bool false] = Q))))))) (Br (op == 6) (Br (op == 6) (Value.tuple #[.string ⟨#[114, 114]⟩, .bool true] = Q) (Br (op == 8) (Value.tuple #[.string ⟨#[114, 114, 112]⟩, .bool true] = Q) (Br (op == 9) (Value.tuple #[.string ⟨#[116]⟩, .bool true] = Q) (Br (op == 10) (Br (op == 10) (Value.tuple #[.string ⟨#[114, 116]⟩, .bool true] = Q) (Br (decide (33 <= op)) (Br (decide (op <= 49)) (Value.tuple #[.string ⟨#[114, 114, 114]⟩, .bool true] = Q) (Value.tuple #[.string ⟨#[]⟩, .bool false] = Q)) (Value.tuple #[.string ⟨#[]⟩, .bool false] = Q))) (Br (op == 11) (Value.tuple #[.string ⟨#[114, 116]⟩, .bool true] = Q) (Br (decide (33 <= op)) (Br (decide (op <= 49)) (Value.tuple #[.string ⟨#[114, 114, 114]⟩, .bool true] = Q) (Value.tuple #[.string ⟨#[]⟩, .bool false] = Q)) (Value.tuple #[.string ⟨#[]⟩, .bool false] = Q))))))) (Br (op == 7) (Value.tuple #[.string ⟨#[114, 114]⟩, .bool true] = Q) (Br (op == 8) (Value.tuple #[.string ⟨#[114, 114, 112]⟩, .bool true] = Q) (Br (op == 9) (Value.tuple #[.string ⟨#[116]⟩, .bool true] = Q) (Br (op == 10) (Br (op == 10) (Value.tuple #[.string ⟨#[114, 116]⟩, .bool true] = Q) (Br (decide (33 <= op)) (Br (decide (op <= 49)) (Value.tuple #[.string ⟨#[114, 114, 114]⟩, .bool true] = Q) (Value.tuple #[.string ⟨#[]⟩, .bool false] = Q)) (Value.tuple #[.string ⟨#[]⟩, .bool false] = Q))) (Br (op == 11) (Value.tuple #[.string ⟨#[114, 116]⟩, .bool true] = Q) (Br (decide (33 <= op)) (Br (decide (op <= 49)) (Value.tuple #[.string ⟨#[114, 114, 114]⟩, .bool true] = Q) (Value.tuple #[.string ⟨#[]⟩, .bool false] = Q)) (Value.tuple #[.string ⟨#[]⟩, .bool false] = Q)))))))))))) (Br (op == 2) (Value.tuple #[.string ⟨#[]⟩, .bool true] = Q) (Br (op == 3) (Value.tuple #[.string ⟨#[114, 110]⟩, .bool true] = Q) (Br (op == 4) (Br (op == 4) (Value.tuple #[.string ⟨#[114, 114]⟩, .bool true] = Q) (Br (op == 8) (Value.tuple #[.string ⟨#[114, 114, 112]⟩, .bool true] = Q) (Br (op == 9) (Value.tuple #[.string ⟨#[116]⟩, .bool true] = Q) (Br (op == 10) (Br (op == 10) (Value.tuple #[.string ⟨#[114, 116]⟩, .bool true] = Q) (Br (decide (33 <= op)) (Br (decide (op <= 49)) (Value.tuple #[.string ⟨#[114, 114, 114]⟩, .bool true] = Q) (Value.tuple #[.string ⟨#[]⟩, .bool false] = Q)) (Value.tuple #[.string ⟨#[]⟩, .bool false] = Q))) (Br (op == 11) (Value.tuple #[.string ⟨#[114, 116]⟩, .bool true] = Q) (Br (decide (33 <= op)) (Br (decide (op <= 49)) (Value.tuple #[.string ⟨#[114, 114, 114]⟩, .bool true] = Q) (Value.tuple #[.string ⟨#[]⟩, .bool false] = Q)) (Value.tuple #[.string ⟨#[]⟩, .bool false] = Q))))))) (Br (op == 5) (Br (op == 5) (Value.tuple #[.string ⟨#[114, 114]⟩, .bool true] = Q) (Br (op == 8) (Value.tuple #[.string ⟨#[114, 114, 112]⟩, .bool true] = Q) (Br (op == 9) (Value.tuple #[.string ⟨#[116]⟩, .bool true] = Q) (Br (op == 10) (Br (op == 10) (Value.tuple #[.string ⟨#[114, 116]⟩, .bool true] = Q) (Br (decide (33 <= op)) (Br (decide (op <= 49)) (Value.tuple #[.string ⟨#[114, 114, 114]⟩, .bool true] = Q) (Value.tuple #[.string ⟨#[]⟩, .bool false] = Q)) (Value.tuple #[.string ⟨#[]⟩, .bool false] = Q))) (Br (op == 11) (Value.tuple #[.string ⟨#[114, 116]⟩, .bool true] = Q) (Br (decide (33 <= op)) (Br (decide (op <= 49)) (Value.tuple #[.string ⟨#[114, 114, 114]⟩, .bool true] = Q) (Value.tuple #[.string ⟨#[]⟩, .bool false] = Q)) (Value.tuple #[.string ⟨#[]⟩, .bool false] = Q))))))) (Br (op == 6) (Br (op == 6) (Value.tuple #[.string ⟨#[114, 114]⟩, .bool true] = Q) (Br (op == 8) (Value.tuple #[.string ⟨#[114, 114, 112]⟩, .bool true] = Q) (Br (op == 9) (Value.tuple #[.string ⟨#[116]⟩, .bool true] = Q) (Br (op == 10) (Br (op == 10) (Value.tuple #[.string ⟨#[114, 116]⟩, .bool true] = Q) (Br (decide (33 <= op)) (Br (decide (op <= 49)) (Value.tuple #[.string ⟨#[114, 114, 114]⟩, .bool true] = Q) (Value.tuple #[.string ⟨#[]⟩, .bool false] = Q)) (Value.tuple #[.string ⟨#[]⟩, .bool false] = Q))) (Br (op == 11) (Value.tuple #[.string ⟨#[114, 116]⟩, .bool true] = Q) (Br (decide (33 <= op)) (Br (decide (op <= 49)) (Value.tuple #[.string ⟨#[114, 114, 114]⟩, .bool true] = Q) (Value.tuple #[.string ⟨#[]⟩, .bool false] = Q)) (Value.tuple #[.string ⟨#[]⟩, .bool false] = Q))))))) (Br (op == 7) (Value.tuple #[.string ⟨#[114, 114]⟩, .bool true] = Q) (Br (op == 8) (Value.tuple #[.string ⟨#[114, 114, 112]⟩, .bool true] = Q) (Br (op == 9) (Value.tuple #[.string ⟨#[116]⟩, .bool true] = Q) (Br (op == 10) (Br (op == 10) (Value.tuple #[.string ⟨#[114, 116]⟩, .bool true] = Q) (Br (decide (33 <= op)) (Br (decide (op <= 49)) (Value.tuple #[.string ⟨#[114, 114, 114]⟩, .bool true] = Q) (Value.tuple #[.string ⟨#[]⟩, .bool false] = Q)) (Value.tuple #[.string ⟨#[]⟩, .bool false] = Q))) (Br (op == 11) (Value.tuple #[.string ⟨#[114, 116]⟩, .bool true] = Q) (Br (decide (33 <= op)) (Br (decide (op <= 49)) (Value.tuple #[.string ⟨#[114, 114, 114]⟩, .bool true] = Q) (Value.tuple #[.string ⟨#[]⟩, .bool false] = Q)) (Value.tuple #[.string ⟨#[]⟩, .bool false] = Q))))))))))))) (by kernel_rfl) ?_
 have hs : op = 1 \/ op = 2 \/ op = 3 \/ op = 4 \/ op = 5 \/ op = 6 \/ op = 7 \/ op = 8 \/ op = 9 \/ op = 10 \/ op = 11 \/ (33 <= op /\ op <= 49) \/ (op ≠ 1 /\ op ≠ 2 /\ op ≠ 3 /\ op ≠ 4 /\ op ≠ 5 /\ op ≠ 6 /\ op ≠ 7 /\ op ≠ 8 /\ op ≠ 9 /\ op ≠ 10 /\ op ≠ 11 /\ ¬ (33 <= op /\ op <= 49)) := by omega
 rcases hs with rfl | rfl | rfl | rfl | rfl | rfl | rfl | rfl | rfl | rfl | rfl | hs | ⟨n1, n2, n3, n4, n5, n6, n7, n8, n9, n10, n11, n12⟩
 all_goals repeat (first | refine Br.t rfl ?_ | refine Br.f rfl ?_ | refine Br.f (beq_false_of_ne (by omega)) ?_)
 all_goals try (rw [hQ]; rfl)
 · refine Br.t (decide_eq_true hs.1) (Br.t (decide_eq_true hs.2) ?_)
   rw [hQ, formL, formT, if_pos hs]; rfl
 · have e : formT op = none := by rw [formT, if_neg n12, if_neg n1, if_neg n2, if_neg n3, if_neg n4, if_neg n5, if_neg n6, if_neg n7, if_neg n8, if_neg n9, if_neg n10, if_neg n11]
   have q : Value.tuple #[.string ⟨#[]⟩, .bool false] = Q := by rw [hQ, formL, e]; rfl
   exact Br.mk (fun h1 => Br.mk (fun h2 => absurd ⟨of_decide_eq_true h1, of_decide_eq_true h2⟩ n12) (fun h2 => q)) (fun h1 => q)
theorem ct7 (op : Int) (h : 0 <= op /\ op <= 255) (I : Mem) : Ct Tryz.prog (fnv 7) #[.int .u8 op] I (fun v _ => v = .string (strT (wordT op))) := by
 obtain ⟨Q, hQ⟩ : ∃ q : Value, q = .string (strT (wordT op)) := ⟨_, rfl⟩;rw [<- hQ]
 refine viaR (ct_via (A := { }) Tryz.func7 rfl Tryz.call7 rfl rfl) (Br (op == 1) (Value.string ⟨#[104, 97, 108, 116]⟩ = Q) (Br (op == 2) (Value.string ⟨#[102, 97, 105, 108]⟩ = Q) (Br (op == 3) (Value.string ⟨#[115, 101, 116]⟩ = Q) (Br (op == 4) (Value.string ⟨#[109, 111, 118, 101]⟩ = Q) (Br (op == 5) (Value.string ⟨#[108, 111, 97, 100]⟩ = Q) (Br (op == 6) (Value.string ⟨#[115, 116, 111, 114, 101]⟩ = Q) (Br (op == 7) (Value.string ⟨#[100, 114, 97, 119]⟩ = Q) (Br (op == 8) (Value.string ⟨#[115, 101, 110, 100]⟩ = Q) (Br (op == 9) (Value.string ⟨#[106, 117, 109, 112]⟩ = Q) (Br (op == 10) (Value.string ⟨#[106, 122]⟩ = Q) (Br (op == 11) (Value.string ⟨#[106, 110]⟩ = Q) (Br (decide (33 <= op)) (Br (decide (op <= 49)) (Wr .u8 (op - 33) (fun c => 0 <= c /\ c < 17 /\ ∃ q, [SV.v (.string ⟨#[97, 100, 100]⟩), .v (.string ⟨#[115, 117, 98]⟩), .v (.string ⟨#[109, 117, 108]⟩), .v (.string ⟨#[100, 105, 118]⟩), .v (.string ⟨#[114, 101, 109]⟩), .v (.string ⟨#[109, 111, 100]⟩), .v (.string ⟨#[97, 110, 100]⟩), .v (.string ⟨#[111, 114]⟩), .v (.string ⟨#[120, 111, 114]⟩), .v (.string ⟨#[115, 104, 108]⟩), .v (.string ⟨#[115, 104, 114]⟩), .v (.string ⟨#[115, 97, 114]⟩), .v (.string ⟨#[108, 101, 115, 115]⟩), .v (.string ⟨#[98, 101, 108, 111, 119]⟩), .v (.string ⟨#[101, 113, 117, 97, 108]⟩), .v (.string ⟨#[109, 105, 110]⟩), .v (.string ⟨#[109, 97, 120]⟩)][0 + c.toNat * 1 + 0]?.bind (fun (x : SV) => (match x with
  | SV.v x => some x
  | x => none)) = some (.string q) /\ Value.string q = Q)) (Value.string ⟨#[]⟩ = Q)) (Value.string ⟨#[]⟩ = Q))))))))))))) (by kernel_rfl) ?_
 have hs : op = 0 \/ op = 1 \/ op = 2 \/ op = 3 \/ op = 4 \/ op = 5 \/ op = 6 \/ op = 7 \/ op = 8 \/ op = 9 \/ op = 10 \/ op = 11 \/ op = 33 \/ op = 34 \/ op = 35 \/ op = 36 \/ op = 37 \/ op = 38 \/ op = 39 \/ op = 40 \/ op = 41 \/ op = 42 \/ op = 43 \/ op = 44 \/ op = 45 \/ op = 46 \/ op = 47 \/ op = 48 \/ op = 49 \/ (11 < op /\ op <= 32) \/ 49 < op := by omega
 rcases hs with rfl | rfl | rfl | rfl | rfl | rfl | rfl | rfl | rfl | rfl | rfl | rfl | rfl | rfl | rfl | rfl | rfl | rfl | rfl | rfl | rfl | rfl | rfl | rfl | rfl | rfl | rfl | rfl | rfl | hs | hs
 all_goals repeat (first | refine Br.t rfl ?_ | refine Br.f rfl ?_ | refine Br.f (beq_false_of_ne (by omega)) ?_)
 all_goals try (rw [hQ]; rfl)
 all_goals try exact wr_u8 (by decide) (by decide) ⟨by decide, by decide, _, rfl, by rw [hQ]; rfl⟩
 · refine Br.f (decide_eq_false (by omega)) ?_
   rw [hQ, wordT, if_neg (by omega), if_neg (by omega), List.getElem?_eq_none (by show 11 <= _; omega)]; rfl
 · refine Br.t (decide_eq_true (by omega)) (Br.f (decide_eq_false (by omega)) ?_)
   rw [hQ, wordT, if_pos (by omega), opName, if_neg (by omega), List.getElem?_eq_none (by show 17 <= _; omega)]; rfl
def abcOk (l : Tx) (i : Ins) : Prop := i.a <= 7 /\ i.b <= 7 /\ i.c <= 7 /\ (l.count 114 < 1 -> i.a = 0) /\ (l.count 114 < 2 -> i.b = 0) /\ (l.count 114 < 3 -> i.c = 0)
def mostN (l : Tx) : Int := if l.count 116 = 1 then 255 else if l.count 112 = 1 then 15 else 0
theorem one_laws {i : Ins} (h : okI i) {l : Tx} (hl : formT i.op = some l) : (¬ abcOk l i -> oneE i = 141) /\ (abcOk l i -> l.count 110 = 1 -> oneE i = 0) /\ (abcOk l i -> l.count 110 ≠ 1 -> (i.n < 0 \/ mostN l < i.n -> oneE i = 141) /\ (0 <= i.n /\ i.n <= mostN l -> oneE i = 0)) := by
 obtain ⟨_, ha, hb, hc, _⟩ := h
 have e : oneE i = oneGo l i.a i.b i.c i.n 0 := by rw [oneE, hl]
 rw [e];generalize i.n = n at *;have hcs := formT_cases i.op;rw [hl] at hcs;simp only [reduceCtorEq, Option.some.injEq, false_or] at hcs;unfold abcOk mostN;generalize i.a = a at *;generalize i.b = b at *;generalize i.c = c at *
 rcases hcs with rfl | rfl | rfl | rfl | rfl | rfl | rfl
 all_goals simp [oneGo, regAt]
 all_goals repeat' (first | split | apply And.intro | intro _)
 all_goals omega
theorem ct90 (i : Ins) (h : okI i) (I : Mem) : Ct Tryz.prog (fnv 90) #[.agg (insV i).toArray] I (fun v _ => v = .int .i64 (oneE i)) := by
 obtain ⟨Q, hQ⟩ : ∃ q : Value, q = .int .i64 (oneE i) := ⟨_, rfl⟩;rw [<- hQ]
 refine viaR (ct_via (A := { }) Tryz.func90 rfl Tryz.call90 rfl rfl) (let E1 := fun (x : ByteArray) (a : Mem) => Ct Tryz.prog (fnv 112) #[.string x, .int .u8 110] a fun v b => ∃ n, v = .int .i64 n /\ Br (n == 1) (Value.int .i64 0 = Q) (Ct Tryz.prog (fnv 112) #[.string x, .int .u8 112] b (fun c d => ∃ e, c = .int .i64 e /\ Br (e == 1) (Ct Tryz.prog (fnv 112) #[.string x, .int .u8 116] d (fun f g => ∃ j, f = .int .i64 j /\ Br (j == 1) (Br (decide (i.n < 0)) (Value.int .i64 141 = Q) (Br (decide (255 < i.n)) (Value.int .i64 141 = Q) (Value.int .i64 0 = Q))) (Br (decide (i.n < 0)) (Value.int .i64 141 = Q) (Br (decide (15 < i.n)) (Value.int .i64 141 = Q) (Value.int .i64 0 = Q))))) (Ct Tryz.prog (fnv 112) #[.string x, .int .u8 116] d (fun f g => ∃ j, f = .int .i64 j /\ Br (j == 1) (Br (decide (i.n < 0)) (Value.int .i64 141 = Q) (Br (decide (255 < i.n)) (Value.int .i64 141 = Q) (Value.int .i64 0 = Q))) (Br (decide (i.n < 0)) (Value.int .i64 141 = Q) (Br (decide (0 < i.n)) (Value.int .i64 141 = Q) (Value.int .i64 0 = Q)))))))
  let E2 := fun (x : Int) (a : ByteArray) (b : Mem) => Br (decide (x < 3)) (Br (i.c != 0) (Value.int .i64 141 = Q) (E1 a b)) (E1 a b)
  Ct Tryz.prog (fnv 66) #[.int .u8 i.op] I fun v a => ∃ q b, v = .tuple #[.string q, .bool b] /\ Br (!b) (Value.int .i64 140 = Q) (Ct Tryz.prog (fnv 112) #[.string q, .int .u8 114] a (fun c d => ∃ n, c = .int .i64 n /\ Br (decide (7 < i.a)) (Value.int .i64 141 = Q) (Br (decide (7 < i.b)) (Value.int .i64 141 = Q) (Br (decide (7 < i.c)) (Value.int .i64 141 = Q) (Br (decide (n < 1)) (Br (i.a != 0) (Value.int .i64 141 = Q) (Br (decide (n < 2)) (Br (i.b != 0) (Value.int .i64 141 = Q) (E2 n q d)) (E2 n q d))) (Br (decide (n < 2)) (Br (i.b != 0) (Value.int .i64 141 = Q) (E2 n q d)) (E2 n q d)))))))) (by kernel_rfl) ?_
 intro E1 E2;refine (ct66 i.op h.op I).mono fun v a l hv => ⟨_, _, hv, ?_⟩;have hlen := (formL_mem i.op).2.1
 have hsz : (strT (formL i.op)).size <= 1000 := by rw [strT_size]; omega
 cases hq : formT i.op with
 | none =>
   refine Br.t rfl ?_;rw [hQ, oneE, hq]
 | some q =>
   refine Br.f rfl ?_
   have hf : formL i.op = q := by rw [formL, hq]; rfl
   obtain ⟨f1, f2, f3⟩ := one_laws h hq
   have main : abcOk q i -> ∀ b, E1 (strT (formL i.op)) b := fun hok b => by
    refine (ct112 _ hsz 110 _ rfl b).mono fun v c l hv => ⟨_, hv, ?_⟩;rw [tx_strT, hf];refine Br.mk (fun h1 => ?_) (fun h1 => ?_)
    · have h1 : ((q.count 110 : Nat) : Int) = 1 := by simpa using h1
      rw [hQ, f2 hok (by omega)]
    have h1 : q.count 110 ≠ 1 := fun hh => by rw [hh] at h1; cases h1
    obtain ⟨g1, g2⟩ := f3 hok h1
    have fin : ∀ m : Int, m = mostN q -> Br (decide (i.n < 0)) (.int .i64 141 = Q) (Br (decide (m < i.n)) (.int .i64 141 = Q) (.int .i64 0 = Q)) := fun m hm => Br.mk (fun h3 => by rw [hQ, g1 (.inl (of_decide_eq_true h3))]) (fun h3 => Br.mk (fun h4 => by rw [hQ, g1 (.inr (by rw [<- hm]; exact of_decide_eq_true h4))]) (fun h4 => by rw [hQ, g2 ⟨by have := of_decide_eq_false h3; omega, by rw [<- hm]; have := of_decide_eq_false h4; omega⟩]))
    rw [<- hf];refine (ct112 _ hsz 112 _ rfl _).mono fun v d l hv => ⟨_, hv, ?_⟩;rw [tx_strT, hf];refine Br.mk (fun h2 => ?_) (fun h2 => ?_)
    all_goals rw [<- hf]
    all_goals refine (ct112 _ hsz 116 _ rfl _).mono fun v d l hv => ⟨_, hv, ?_⟩
    all_goals rw [tx_strT, hf]
    all_goals refine Br.mk (fun h3 => fin _ ?_) (fun h3 => fin _ ?_)
    · have h3 : ((q.count 116 : Nat) : Int) = 1 := by simpa using h3
      have h3 : q.count 116 = 1 := by omega
      rw [mostN, if_pos h3]
    · have h3 : q.count 116 ≠ 1 := fun hh => by rw [hh] at h3; cases h3
      have h2 : ((q.count 112 : Nat) : Int) = 1 := by simpa using h2
      have h2 : q.count 112 = 1 := by omega
      rw [mostN, if_neg h3, if_pos h2]
    · have h3 : ((q.count 116 : Nat) : Int) = 1 := by simpa using h3
      have h3 : q.count 116 = 1 := by omega
      rw [mostN, if_pos h3]
    · have h3 : q.count 116 ≠ 1 := fun hh => by rw [hh] at h3; cases h3
      have h2 : q.count 112 ≠ 1 := fun hh => by rw [hh] at h2; cases h2
      rw [mostN, if_neg h3, if_neg h2]
   refine (ct112 _ hsz 114 _ rfl a).mono fun v d l hv => ⟨_, hv, ?_⟩;rw [tx_strT, hf];rw [<- hf]
   have bad : ¬ abcOk q i -> Value.int .i64 141 = Q := fun hh => by rw [hQ, f1 hh]
   have m2 : (formL i.op).count 114 = q.count 114 := by rw [hf]
   have t1 : i.a <= 7 -> i.b <= 7 -> i.c <= 7 -> (q.count 114 < 1 -> i.a = 0) -> (q.count 114 < 2 -> i.b = 0) -> E2 ((formL i.op).count 114 : Nat) (strT (formL i.op)) d := fun k1 k2 k3 k4 k5 => by
    refine Br.mk (fun h1 => Br.mk (fun h2 => bad fun hh => ?_) (fun h2 => main ⟨k1, k2, k3, k4, k5, fun _ => by simpa using h2⟩ d)) (fun h1 => main ⟨k1, k2, k3, k4, k5, fun hh => absurd hh ?_⟩ d)
    · have h1 := of_decide_eq_true h1
      have h2 : i.c ≠ 0 := by simpa using h2
      exact h2 (hh.2.2.2.2.2 (by omega))
    · have h1 := of_decide_eq_false h1
      omega
   have t2 : i.a <= 7 -> i.b <= 7 -> i.c <= 7 -> (q.count 114 < 1 -> i.a = 0) -> Br (decide (((formL i.op).count 114 : Nat) < (2 : Int))) (Br (i.b != 0) (.int .i64 141 = Q) (E2 ((formL i.op).count 114 : Nat) (strT (formL i.op)) d)) (E2 ((formL i.op).count 114 : Nat) (strT (formL i.op)) d) := fun k1 k2 k3 k4 => by
    refine Br.mk (fun h1 => Br.mk (fun h2 => bad fun hh => ?_) (fun h2 => t1 k1 k2 k3 k4 fun _ => by simpa using h2)) (fun h1 => t1 k1 k2 k3 k4 fun hh => absurd hh ?_)
    · have h1 := of_decide_eq_true h1
      have h2 : i.b ≠ 0 := by simpa using h2
      exact h2 (hh.2.2.2.2.1 (by omega))
    · have h1 := of_decide_eq_false h1
      omega
   refine Br.mk (fun h1 => bad fun hh => absurd hh.1 (by have := of_decide_eq_true h1; omega)) (fun h1 => Br.mk (fun h2 => bad fun hh => absurd hh.2.1 (by have := of_decide_eq_true h2; omega)) (fun h2 => Br.mk (fun h3 => bad fun hh => absurd hh.2.2.1 (by have := of_decide_eq_true h3; omega)) (fun h3 => ?_)))
   have k1 : i.a <= 7 := by have := of_decide_eq_false h1; omega
   have k2 : i.b <= 7 := by have := of_decide_eq_false h2; omega
   have k3 : i.c <= 7 := by have := of_decide_eq_false h3; omega
   refine Br.mk (fun h4 => Br.mk (fun h5 => bad fun hh => ?_) (fun h5 => t2 k1 k2 k3 fun _ => by simpa using h5)) (fun h4 => t2 k1 k2 k3 fun hh => absurd hh ?_)
   · have h4 := of_decide_eq_true h4
     have h5 : i.a ≠ 0 := by simpa using h5
     exact h5 (hh.2.2.2.1 (by omega))
   · have h4 := of_decide_eq_false h4
     omega
theorem ct91 (i : Ins) (h : okI i) (I : Mem) : Ct Tryz.prog (fnv 91) #[.agg (insV i).toArray] I (fun v _ => v = .bool (goesB i)) := by
 obtain ⟨Q, hQ⟩ : ∃ q : Value, q = .bool (goesB i) := ⟨_, rfl⟩;rw [<- hQ]
 refine viaR (ct_via (A := { }) Tryz.func91 rfl Tryz.call91 rfl rfl) (Ct Tryz.prog (fnv 90) #[.agg #[.int .u8 i.op, .int .u8 i.a, .int .u8 i.b, .int .u8 i.c, .int .i64 i.n]] I fun v a => ∃ n, v = .int .i64 n /\ Br (n == 0) (Br (i.op != 1) (Br (i.op != 2) (Value.bool (i.op != 9) = Q) (Value.bool false = Q)) (Value.bool false = Q)) (Value.bool false = Q)) (by kernel_rfl) ?_
 refine (ct90 i h I).mono fun v J l hv => ⟨_, hv, ?_⟩;rw [hQ, goesB];refine Br.mk (fun h1 => Br.mk (fun h2 => Br.mk (fun h3 => ?_) (fun h3 => ?_)) (fun h2 => ?_)) (fun h1 => ?_)
 · have h1 : oneE i = 0 := by simpa using h1
   have h2 : i.op ≠ 1 := by simpa using h2
   have h3 : i.op ≠ 2 := by simpa using h3
   rw [decide_eq_true h1, decide_eq_true h2, decide_eq_true h3];simp only [bne, Bool.true_and, decide_not];rfl
 · have h3 : i.op = 2 := by simpa using h3
   rw [h3]; simp
 · have h2 : i.op = 1 := by simpa using h2
   rw [h2]; simp
 · have h1 : oneE i ≠ 0 := by simpa using h1
   rw [decide_eq_false h1]; rfl
theorem ct64 (i : Ins) (h : okI i) (I : Mem) : Ct Tryz.prog (fnv 64) #[.agg (insV i).toArray] I (fun v _ => v = .tuple #[.int .i64 (targetE i).1, .bool (targetE i).2]) := by
 obtain ⟨Q, hQ⟩ : ∃ q : Value, q = .tuple #[.int .i64 (targetE i).1, .bool (targetE i).2] := ⟨_, rfl⟩;rw [<- hQ]
 refine viaR (ct_via (A := { }) Tryz.func64 rfl Tryz.call64 rfl rfl) (Ct Tryz.prog (fnv 90) #[.agg #[.int .u8 i.op, .int .u8 i.a, .int .u8 i.b, .int .u8 i.c, .int .i64 i.n]] I fun v a => ∃ n, v = .int .i64 n /\ Br (n != 0) (Value.tuple #[.int .i64 0, .bool false] = Q) (Br (decide (i.op < 9)) (Value.tuple #[.int .i64 0, .bool false] = Q) (Br (decide (11 < i.op)) (Value.tuple #[.int .i64 0, .bool false] = Q) (Value.tuple #[.int .i64 i.n, .bool true] = Q)))) (by kernel_rfl) ?_
 refine (ct90 i h I).mono fun v J l hv => ⟨_, hv, ?_⟩;rw [hQ, targetE];refine Br.mk (fun h1 => ?_) (fun h1 => Br.mk (fun h2 => ?_) (fun h2 => Br.mk (fun h3 => ?_) (fun h3 => ?_)))
 · have h1 : oneE i ≠ 0 := by simpa using h1
   rw [if_neg (fun hh => h1 hh.1)]
 all_goals have h1 : oneE i = 0 := by simpa using h1
 · have h2 := of_decide_eq_true h2
   rw [if_neg (fun hh => by omega)]
 · have h3 := of_decide_eq_true h3
   rw [if_neg (fun hh => by omega)]
 · have h2 := of_decide_eq_false h2
   have h3 := of_decide_eq_false h3
   rw [if_pos ⟨h1, by omega⟩]
theorem ct63 (p : List Ins) (a : Option Addr) (n c : Nat) (I : Mem) (h : InsM I a n p) : Ct Tryz.prog (fnv 63) #[.slice a n c] I (fun v _ => v = .tuple #[.int .i64 (checkL p).1, .int .i64 (checkL p).2]) := by
 obtain ⟨Q, hQ⟩ : ∃ q : Value, q = .tuple #[.int .i64 (checkL p).1, .int .i64 (checkL p).2] := ⟨_, rfl⟩;obtain ⟨N, hN⟩ : ∃ f : Int -> Prop, f = fun j : Int => 0 <= j /\ j <= n /\ checkGo p.length p 0 = checkGo p.length (p.drop j.toNat) j := ⟨_, rfl⟩;rw [<- hQ]
 refine viaR (ct_via (A := { loops := [(6, ⟨[(0, .keep), (4, .sh (.int .i64))], [], [], fun vals _ _ _ => match vals with | [.int .i64 j] => N j | _ => False, fun vals _ => match vals with | [.int .i64 j] => (n - j).toNat | _ => 0⟩)] }) Tryz.func63 rfl Tryz.call63 rfl rfl) (Br ((n : Int) == 0) (Value.tuple #[.int .i64 (-1), .int .i64 6] = Q) (Br (decide (256 < (n : Int))) (Value.tuple #[.int .i64 (-1), .int .i64 5] = Q) ((Rf (SV.v (.slice a n c)) /\ N 0) /\ ∀ (b : Mem), Mem -> I.le b -> ∀ (d : Int), N d -> Br (decide (d < (n : Int))) (0 <= d /\ d < (n : Int) /\ a.isSome = true /\ (5 : Nat) = 5 /\ ∃ e, atI b a (d.toNat * 5 + 0) = some (.int .u8 e) /\ ∃ f, atI b a (d.toNat * 5 + 1) = some (.int .u8 f) /\ ∃ g, atI b a (d.toNat * 5 + 2) = some (.int .u8 g) /\ ∃ i, atI b a (d.toNat * 5 + 3) = some (.int .u8 i) /\ ∃ j, atI b a (d.toNat * 5 + 4) = some (.int .i64 j) /\ Ct Tryz.prog (fnv 90) #[.agg #[.int .u8 e, .int .u8 f, .int .u8 g, .int .u8 i, .int .i64 j]] b fun v k => ∃ l, v = .int .i64 l /\ Br (l != 0) (Value.tuple #[.int .i64 d, .int .i64 l] = Q) (0 <= d /\ d < (n : Int) /\ a.isSome = true /\ (5 : Nat) = 5 /\ ∃ m, atI k a (d.toNat * 5 + 0) = some (.int .u8 m) /\ ∃ o, atI k a (d.toNat * 5 + 1) = some (.int .u8 o) /\ ∃ q, atI k a (d.toNat * 5 + 2) = some (.int .u8 q) /\ ∃ r, atI k a (d.toNat * 5 + 3) = some (.int .u8 r) /\ ∃ s, atI k a (d.toNat * 5 + 4) = some (.int .i64 s) /\ Ct Tryz.prog (fnv 64) #[.agg #[.int .u8 m, .int .u8 o, .int .u8 q, .int .u8 r, .int .i64 s]] k fun t u => ∃ w x, t = .tuple #[.int .i64 w, .bool x] /\ Br x (Br (decide ((n : Int) <= w)) (Value.tuple #[.int .i64 d, .int .i64 142] = Q) (Wr .i64 (d + 1) (fun y => Rf (SV.v (.slice a n c)) /\ N y /\ Int.toNat ((n : Int) - y) < Int.toNat ((n : Int) - d)))) (Wr .i64 (d + 1) (fun y => Rf (SV.v (.slice a n c)) /\ N y /\ Int.toNat ((n : Int) - y) < Int.toNat ((n : Int) - d))))) (Wr .i64 ((n : Int) - 1) (fun e => 0 <= e /\ e < (n : Int) /\ a.isSome = true /\ (5 : Nat) = 5 /\ ∃ f, atI b a (e.toNat * 5 + 0) = some (.int .u8 f) /\ ∃ g, atI b a (e.toNat * 5 + 1) = some (.int .u8 g) /\ ∃ i, atI b a (e.toNat * 5 + 2) = some (.int .u8 i) /\ ∃ j, atI b a (e.toNat * 5 + 3) = some (.int .u8 j) /\ ∃ k, atI b a (e.toNat * 5 + 4) = some (.int .i64 k) /\ Ct Tryz.prog (fnv 91) #[.agg #[.int .u8 f, .int .u8 g, .int .u8 i, .int .u8 j, .int .i64 k]] b fun v l => ∃ m, v = .bool m /\ Br m (Wr .i64 ((n : Int) - 1) (fun o => Value.tuple #[.int .i64 o, .int .i64 143] = Q)) (Value.tuple #[.int .i64 (-1), .int .i64 0] = Q)))))) (by kernel_rfl) ?_
 have hl := h.len;have hmx : n <= maxLen := SlR.max h
 have hmx2 : maxLen <= 9223372036854775807 := by decide
 refine Br.mk (fun h1 => ?_) (fun h1 => Br.mk (fun h2 => ?_) (fun h2 => ⟨⟨rfl, by rw [hN]; exact ⟨by omega, by omega, rfl⟩⟩, fun b G lb d hd => ?_⟩))
 · have h1 : n = 0 := by have := eq_of_beq h1; omega
   rw [hQ, checkL, if_pos (by omega)]
 · have h1 : n ≠ 0 := fun e => by subst e; simp at h1
   have h2 := of_decide_eq_true h2
   rw [hQ, checkL, if_neg (by omega), if_pos (by omega)]
 have h1 : n ≠ 0 := fun e => by subst e; simp at h1
 have h2 := of_decide_eq_false h2
 have hck : checkL p = if (checkGo p.length p 0).2 ≠ 0 then checkGo p.length p 0 else if lastGoes p then ((p.length : Int) - 1, 143) else (-1, 0) := by
  rw [checkL, if_neg (by omega), if_neg (by omega)]
 rw [hN] at hd ⊢;obtain ⟨h3, h4, h5⟩ := hd;have hb := h.mono lb;refine Br.mk (fun h6 => ?_) (fun h6 => ?_)
 · have h6 := of_decide_eq_true h6
   obtain ⟨i, g1, g2, e0, e1, e2, e3, e4⟩ := hb.get h3 h6
   have hdr : p.drop d.toNat = i :: p.drop (d + 1).toNat := by
    have hlt : d.toNat < p.length := by omega
    rw [show (d + 1).toNat = d.toNat + 1 by omega, List.drop_eq_getElem_cons hlt]
    congr 1
    rw [List.getElem?_eq_getElem hlt] at g1;exact Option.some.inj g1
   rw [hdr, checkGo] at h5
   refine ⟨h3, h6, SlR.isSome hb (by omega), rfl, _, e0, _, e1, _, e2, _, e3, _, e4, (ct90 i g2 b).mono fun v k lk hv => ⟨_, hv, Br.mk (fun h7 => ?_) (fun h7 => ?_)⟩⟩
   · have h7 : oneE i ≠ 0 := by simpa using h7
     rw [if_pos h7] at h5;rw [hQ, hck, h5, if_pos h7]
   · have h7 : ¬ (oneE i ≠ 0) := by simpa using h7
     rw [if_neg h7] at h5
     have next : (¬ ((targetE i).2 = true /\ (p.length : Int) <= (targetE i).1)) -> (0 <= d + 1 /\ d + 1 <= n /\ checkGo p.length p 0 = checkGo p.length (p.drop (d + 1).toNat) (d + 1)) := fun hh => by
      rw [if_neg hh] at h5
      exact ⟨by omega, by omega, h5⟩
     refine ⟨h3, h6, SlR.isSome hb (by omega), rfl, _, atI_le lk e0, _, atI_le lk e1, _, atI_le lk e2, _, atI_le lk e3, _, atI_le lk e4, (ct64 i g2 k).mono fun v m lm hv => ⟨_, _, hv, Br.mk (fun h8 => Br.mk (fun h9 => ?_) (fun h9 => ?_)) (fun h8 => ?_)⟩⟩
     · have h9 := of_decide_eq_true h9
       rw [if_pos ⟨h8, by omega⟩] at h5
       rw [hQ, hck, h5, if_pos (by show (142 : Int) ≠ 0; decide)]
     · have h9 := of_decide_eq_false h9
       exact wr_i64 (by omega) (by omega) ⟨rfl, next (fun hh => by omega), by omega⟩
     · exact wr_i64 (by omega) (by omega) ⟨rfl, next (fun hh => by rw [h8] at hh; cases hh.1), by omega⟩
 · have h6 := of_decide_eq_false h6
   rw [List.drop_eq_nil_of_le (by omega), checkGo] at h5
   obtain ⟨i, g1, g2, e0, e1, e2, e3, e4⟩ := hb.get (j := (n : Int) - 1) (by omega) (by omega)
   refine wr_i64 (by omega) (by omega) ⟨by omega, by omega, SlR.isSome hb (by omega), rfl, _, e0, _, e1, _, e2, _, e3, _, e4, (ct91 i g2 b).mono fun v k lk hv => ⟨_, hv, ?_⟩⟩
   have hlast : lastGoes p = goesB i := by
    rw [lastGoes, List.getLast?_eq_getElem?, show p.length - 1 = ((n : Int) - 1).toNat by omega, g1]
   rw [hQ, hck, h5, if_neg (by simp), hlast]
   refine Br.mk (fun h7 => ?_) (fun h7 => ?_)
   · rw [h7, if_pos rfl, hl]
     exact wr_i64 (by omega) (by omega) rfl
   · rw [h7, if_neg (by simp)]
theorem nil_toList (h : (!(strT []).toList == (⟨#[]⟩ : ByteArray).toList) = true) : False := by
 have e : (strT []).toList = (⟨#[]⟩ : ByteArray).toList := rfl;rw [e] at h;simp at h
theorem word_all : ∀ k : Fin 50, wordT (k.val : Int) ≠ [] -> findT (wordT (k.val : Int)) = ((k.val : Int), true) := by decide +kernel
theorem ct33 (s : ByteArray) (I : Mem) : Ct Tryz.prog (fnv 33) #[.string s] I (fun v _ => v = .tuple #[.int .u8 (findT (tx s)).1, .bool (findT (tx s)).2]) := by
 obtain ⟨N, hN⟩ : ∃ f : Int -> Prop, f = fun j => 1 <= j /\ j <= 50 /\ (∀ k : Int, 1 <= k -> k < j -> wordT k ≠ [] -> wordT k ≠ tx s) := ⟨_, rfl⟩;obtain ⟨Q, hQ⟩ : ∃ q : Value, q = .tuple #[.int .u8 (findT (tx s)).1, .bool (findT (tx s)).2] := ⟨_, rfl⟩;rw [<- hQ]
 refine viaR (ct_via (A := { loops := [(2, ⟨[(0, .keep), (4, .sh (.int .i64))], [], [], fun vals _ _ _ => match vals with | [.int .i64 j] => N j | _ => False, fun vals _ => match vals with | [.int .i64 j] => (50 - j).toNat | _ => 0⟩)] }) Tryz.func33 rfl Tryz.call33 rfl rfl) ((Rf (SV.v (.string s)) /\ N 1) /\ ∀ (a : Mem), Mem -> I.le a -> ∀ (n : Int), N n -> Br (decide (n < 50)) (Wr .u8 n (fun c => Ct Tryz.prog (fnv 7) #[.int .u8 c] a fun v b => ∃ q, v = .string q /\ Br (!(q.toList == (ByteArray.mk #[]).toList)) (Wr .u8 n (fun d => Ct Tryz.prog (fnv 7) #[.int .u8 d] b fun e f => ∃ g, e = .string g /\ Br (g.toList == s.toList) (Wr .u8 n (fun h => Value.tuple #[.int .u8 h, .bool true] = Q)) (Wr .i64 (n + 1) (fun h => Rf (SV.v (.string s)) /\ N h /\ Int.toNat (50 - h) < Int.toNat (50 - n))))) (Wr .i64 (n + 1) (fun d => Rf (SV.v (.string s)) /\ N d /\ Int.toNat (50 - d) < Int.toNat (50 - n))))) (Value.tuple #[.int .u8 0, .bool false] = Q)) (by kernel_rfl) ?_
 refine ⟨⟨rfl, by rw [hN]; exact ⟨by omega, by omega, fun k h1 h2 => by omega⟩⟩, fun J _ l n hn => ?_⟩
 rw [hN] at hn ⊢;obtain ⟨h1, h2, h3⟩ := hn
 have nxt : (wordT n ≠ [] -> wordT n ≠ tx s) -> n < 50 -> Wr .i64 (n + 1) fun d => Rf (SV.v (.string s)) /\ (1 <= d /\ d <= 50 /\ ∀ k : Int, 1 <= k -> k < d -> wordT k ≠ [] -> wordT k ≠ tx s) /\ (50 - d).toNat < (50 - n).toNat := fun hh hlt =>
  wr_i64 (by omega) (by omega) ⟨rfl, ⟨by omega, by omega, fun k k1 k2 => if hk : k < n then h3 k k1 hk else by
   have : k = n := by omega
   subst this; exact hh⟩, by omega⟩
 refine Br.mk (fun h4 => ?_) (fun h4 => ?_)
 · have h4 := of_decide_eq_true h4
   refine wr_u8 (by omega) (by omega) ((ct7 n (by omega) J).mono fun v K lk hv => ⟨_, hv, ?_⟩)
   refine Br.mk (fun h5 => ?_) (fun h5 => ?_)
   · have h5 : wordT n ≠ [] := fun hh => by rw [hh] at h5; exact nil_toList h5
     refine wr_u8 (by omega) (by omega) ((ct7 n (by omega) K).mono fun v K lk hv => ⟨_, hv, ?_⟩)
     rw [str_eq]
     refine Br.mk (fun h6 => wr_u8 (by omega) (by omega) ?_) (fun h6 => nxt (fun _ hh => of_decide_eq_false h6 (by rw [hh, strT_tx])) h4)
     have h6 : wordT n = tx s := by have := congrArg tx (of_decide_eq_true h6); rwa [tx_strT] at this
     have := word_all ⟨n.toNat, by omega⟩
     simp only [Int.toNat_of_nonneg (show 0 <= n by omega)] at this
     rw [hQ, <- h6, this h5]
   · refine nxt (fun hh => absurd ?_ hh) h4
     rw [show (⟨#[]⟩ : ByteArray) = strT [] from rfl, str_eq] at h5
     simp only [Bool.not_eq_false'] at h5;exact strT_inj (of_decide_eq_true h5)
 · have h4 := of_decide_eq_false h4
   have hf : (findT (tx s)).2 = false := by
    cases hq : (findT (tx s)).2 with
    | false => rfl
    | true =>
      have h5 := find_word hq;have h6 := findT_rng (tx s)
      have h7 : tx s ≠ [] := fun hh => by rw [hh] at hq; cases hq
      have h8 : (findT (tx s)).1 ≠ 0 := fun hh => by rw [hh] at h5; exact h7 h5.symm
      exact absurd h5 (h3 _ (by omega) (by omega) (by rw [h5]; exact h7))
   rw [hQ, hf, find_not hf]
theorem ct38 (s : ByteArray) (hs : s.size <= 10000000) (I : Mem) : Ct Tryz.prog (fnv 38) #[.string s] I (fun v _ => v = .bool (nameB (tx s))) := by
 obtain ⟨N, hN⟩ : ∃ f : Int -> Prop, f = fun (j : Int) => 0 <= j /\ j <= s.size /\ nameGo false (tx s) = nameGo false ((tx s).drop j.toNat) := ⟨_, rfl⟩;obtain ⟨Q, hQ⟩ : ∃ q : Value, q = .bool (nameB (tx s)) := ⟨_, rfl⟩;rw [<- hQ]
 refine viaR (ct_via (A := { loops := [(4, ⟨[(0, .keep), (3, .sh (.int .i64))], [], [], fun vals _ _ _ => match vals with | [.int .i64 j] => N j | _ => False, fun vals _ => match vals with | [.int .i64 j] => (s.size - j).toNat | _ => 0⟩)] }) Tryz.func38 rfl Tryz.call38 rfl rfl) (let E2 := fun (x : Int) => Wr .i64 (x + 1) fun c => Rf (SV.v (.string s)) /\ N c /\ Int.toNat ((s.size : Int) - c) < Int.toNat ((s.size : Int) - x)
  let E1 := fun (x : Int) => ∃ c, s.data.toList[x.toNat]? = some c /\ 0 <= x /\ Br (decide ((c.toNat : Int) < 48)) (∃ a, s.data.toList[x.toNat]? = some a /\ 0 <= x /\ Br ((a.toNat : Int) != 95) (Value.bool false = Q) (E2 x)) (∃ a, s.data.toList[x.toNat]? = some a /\ 0 <= x /\ Br (decide (57 < (a.toNat : Int))) (∃ b, s.data.toList[x.toNat]? = some b /\ 0 <= x /\ Br ((b.toNat : Int) != 95) (Value.bool false = Q) (E2 x)) (E2 x))
  Br (decide ((s.size : Int) < 1)) (Value.bool false = Q) (Br (decide (32 < (s.size : Int))) (Value.bool false = Q) (∃ c, s.data.toList[0]? = some c /\ (0 : Int) <= 0 /\ Br (decide ((c.toNat : Int) < 97)) (Value.bool false = Q) (∃ a, s.data.toList[0]? = some a /\ (0 : Int) <= 0 /\ Br (decide (122 < (a.toNat : Int))) (Value.bool false = Q) ((Rf (SV.v (.string s)) /\ N 0) /\ ∀ (b : Mem), Mem -> I.le b -> ∀ (n : Int), N n -> Br (decide (n < (s.size : Int))) (∃ d, s.data.toList[n.toNat]? = some d /\ 0 <= n /\ Br (decide ((d.toNat : Int) < 97)) (E1 n) (∃ e, s.data.toList[n.toNat]? = some e /\ 0 <= n /\ Br (decide (122 < (e.toNat : Int))) (E1 n) (E2 n))) (Value.bool true = Q)))))) (by kernel_rfl) ?_
 intro E2 E1;have htl : (tx s).length = s.size := Array.length_toList;refine Br.mk (fun h1 => ?_) (fun h1 => Br.mk (fun h2 => ?_) (fun h2 => ?_))
 · have h1 := of_decide_eq_true h1
   rw [hQ, nameB, decide_eq_false (p := 1 <= (tx s).length /\ _) (by omega), Bool.and_false]
 · have h2 := of_decide_eq_true h2
   rw [hQ, nameB, decide_eq_false (p := 1 <= (tx s).length /\ _) (by omega), Bool.and_false]
 have h1 := of_decide_eq_false h1;have h2 := of_decide_eq_false h2
 have hB : nameB (tx s) = nameGo true (tx s) := by rw [nameB, decide_eq_true (p := 1 <= (tx s).length /\ _) (by omega), Bool.and_true]
 rw [hB] at hQ
 obtain ⟨c, r, hc⟩ : ∃ c r, tx s = c :: r := by
  cases hq : tx s with
  | nil => rw [hq] at htl; simp at htl; omega
  | cons c r => exact ⟨c, r, rfl⟩
 have h0 : s.data.toList[0]? = some c := by show (tx s)[0]? = _; rw [hc]; rfl
 have bad : lowB c = false -> Value.bool false = Q := fun hh => by rw [hQ, hc, nameGo, chrB, hh]; rfl
 refine ⟨c, h0, Int.le_refl _, Br.mk (fun h3 => bad ?_) (fun h3 => ⟨c, h0, Int.le_refl _, Br.mk (fun h4 => bad ?_) (fun h4 => ?_)⟩)⟩
 · have h3 := of_decide_eq_true h3
   exact decide_eq_false (by omega)
 · have h4 := of_decide_eq_true h4
   exact decide_eq_false (by omega)
 have h3 := of_decide_eq_false h3;have h4 := of_decide_eq_false h4
 have hlow : lowB c = true := decide_eq_true (by omega)
 have hG : nameGo true (tx s) = nameGo false (tx s) := by rw [hc, nameGo, nameGo, chrB, chrB, hlow]; rfl
 rw [hG] at hQ
 refine ⟨⟨rfl, by rw [hN]; exact ⟨by omega, by omega, rfl⟩⟩, fun J _ l n hn => ?_⟩
 rw [hN] at hn;obtain ⟨g1, g2, g3⟩ := hn;refine Br.mk (fun h5 => ?_) (fun h5 => ?_)
 · have h5 := of_decide_eq_true h5
   have hlt : n.toNat < (tx s).length := by omega
   obtain ⟨d, hd⟩ : ∃ d, (tx s)[n.toNat]? = some d := ⟨_, List.getElem?_eq_getElem hlt⟩
   have hdr : (tx s).drop n.toNat = d :: (tx s).drop (n + 1).toNat := by
    rw [show (n + 1).toNat = n.toNat + 1 by omega, List.drop_eq_getElem_cons hlt]
    congr 1
    rw [List.getElem?_eq_getElem hlt] at hd;exact Option.some.inj hd
   rw [hdr, nameGo] at g3
   have go : chrB false d = true -> E2 n := fun hh => by
    rw [hh, Bool.true_and] at g3
    refine wr_i64 (by omega) (by omega) ⟨rfl, ?_, by omega⟩
    rw [hN]; exact ⟨by omega, by omega, g3⟩
   have no : chrB false d = false -> Value.bool false = Q := fun hh => by rw [hQ, g3, hh]; rfl
   have eB : chrB false d = (lowB d || (decide (d = 95) || decide (48 <= d.toNat /\ d.toNat <= 57))) := by rw [chrB]; rfl
   have e95 : ((d.toNat : Int) != 95) = !decide (d = 95) := by
    by_cases hh : d = 95
    · subst hh; rfl
    · have : (d.toNat : Int) ≠ 95 := fun e => hh (UInt8.toNat_inj.1 (by show d.toNat = 95; omega))
      rw [decide_eq_false hh]; simpa using this
   have und : lowB d = false -> ¬ (48 <= d.toNat /\ d.toNat <= 57) -> Br ((d.toNat : Int) != 95) (Value.bool false = Q) (E2 n) := fun hl hd => by
    rw [hl, decide_eq_false hd, Bool.false_or, Bool.or_false] at eB;rw [e95]
    exact Br.mk (fun h6 => no (by rw [eB]; simpa using h6)) (fun h6 => go (by rw [eB]; simpa using h6))
   have key : lowB d = false -> E1 n := fun hl => by
    refine ⟨d, hd, g1, Br.mk (fun h6 => ⟨d, hd, g1, und hl (by have := of_decide_eq_true h6; omega)⟩) (fun h6 => ⟨d, hd, g1, Br.mk (fun h7 => ⟨d, hd, g1, und hl (by have := of_decide_eq_true h7; omega)⟩) (fun h7 => go ?_)⟩)⟩
    rw [eB, decide_eq_true (p := 48 <= d.toNat /\ d.toNat <= 57) (by have := of_decide_eq_false h6; have := of_decide_eq_false h7; omega)]; simp
   refine ⟨d, hd, g1, Br.mk (fun h6 => key (decide_eq_false (by have := of_decide_eq_true h6; omega))) (fun h6 => ⟨d, hd, g1, Br.mk (fun h7 => key (decide_eq_false (by have := of_decide_eq_true h7; omega))) (fun h7 => go ?_)⟩)⟩
   rw [eB, show lowB d = true from decide_eq_true (by have := of_decide_eq_false h6; have := of_decide_eq_false h7; omega)]; rfl
 · have h5 := of_decide_eq_false h5
   rw [List.drop_eq_nil_of_le (by omega), nameGo] at g3
   rw [hQ, g3]
theorem insR_one {I : Mem} : ∀ {p : List Ins} {xs : List Value}, RowR 5 InsC I xs p -> ∀ v ∈ xs, v.oneCell' = true
 | [], _, h => by rw [show _ = [] from h]; intro v hv; cases hv
 | _ :: _, _, ⟨c, r, h1, h2, ⟨h3, _⟩, h4⟩ => fun v hv => by
   rw [h1] at hv
   rcases List.mem_append.1 hv with hv | hv
   · rw [h3, insV] at hv
     simp only [List.mem_cons, List.not_mem_nil, or_false] at hv
     rcases hv with rfl | rfl | rfl | rfl | rfl <;> rfl
   · exact insR_one h4 v hv
theorem ct34 (p : List Ins) (a : Option Addr) (n c : Nat) (I : Mem) (h : InsM I a n p) (hn : n <= 1000000) : Ct Tryz.prog (fnv 34) #[.slice a n c] I (fun v I' => ∃ b d, v = .slice b n d /\ InsM I' b n p) := by
 obtain ⟨Q, hQ⟩ : ∃ q : Value -> Mem -> Prop, q = fun v I' => ∃ b d, v = .slice b n d /\ InsM I' b n p := ⟨_, rfl⟩;rw [<- hQ]
 refine viaR (ct_via (A := { }) Tryz.func34 rfl Tryz.call34 rfl rfl) (Br a.isNone (Q (.slice none 0 0) I) (∃ y, y.length = n * 5 /\ (a = none -> n = 0) /\ (∀ (j : Nat) (v : Value), y[j]? = some v -> atI I a j = some v) /\ (∀ (v : Value), Membership.mem y v -> v.oneCell' = true) /\ (0 : Nat) = 0 /\ 0 + n <= 9223372036854775807 /\ (0 + n) * 16 <= 140737488355328 /\ ∀ (b : Option Addr) (d : Nat) (e : Mem), I.le e -> RowM e b d 5 y -> Q (.slice b (0 + n) d) e)) (by kernel_rfl) ?_
 refine Br.mk (fun h0 => ?_) (fun h0 => ?_)
 · have h0 : a = none := by simpa using h0
   obtain ⟨xs, h1, h2⟩ := h;have hz := h1.nil h0
   subst hz; subst h0
   rw [hQ]; exact ⟨none, 0, rfl, xs, h1, h2⟩
 · obtain ⟨xs, h1, h2⟩ := h
   have hpl : p.length = n := SlR.len (by decide) ⟨xs, h1, h2⟩
   refine ⟨xs, h1.len, h1.nil, h1.at_, insR_one h2, rfl, by omega, by omega, fun b d e le hrow => ?_⟩
   rw [hQ, Nat.zero_add];refine ⟨b, d, rfl, ?_⟩
   have := SlR.row (by decide) hrow (RowR.mono insC_mono le h2)
   rwa [hpl] at this
theorem ct31 (p : List Ins) (a : Option Addr) (n c : Nat) (I : Mem) (h : InsM I a n p) (hn : n <= 1000000) : Ct Tryz.prog (fnv 31) #[.slice a n c] I (fun v I' => ∃ b d, v = .slice b n d /\ InsM I' b n p) := by
 obtain ⟨Q, hQ⟩ : ∃ q : Value -> Mem -> Prop, q = fun v I' => ∃ b d, v = .slice b n d /\ InsM I' b n p := ⟨_, rfl⟩;obtain ⟨N, hN⟩ : ∃ f : Int -> List Value -> Prop, f = fun (j : Int) xs => 0 <= j /\ j <= n /\ xs = insVs (p.take j.toNat) := ⟨_, rfl⟩;rw [<- hQ]
 refine viaR (ct_via (A := { loops := [(3, ⟨[(0, .keep), (3, .row 0), (6, .keep), (7, .keep), (8, .sh (.int .i64))], [(0, .row)], [(3, 5, 113)], fun vals xss _ _ => match vals, xss with | [.int .i64 j], [xs] => N j xs | _, _ => False, fun vals _ => match vals with | [.int .i64 j] => (n - j).toNat | _ => 0⟩)] }) Tryz.func31 rfl Tryz.call31 rfl rfl) ((Rf (SV.v (.slice a n c)) /\ (0 : Nat) = 0 /\ Rf (SV.v (.slice a n c)) /\ Rf (SV.v (.int .i64 (n : Int))) /\ N 0 []) /\ ∀ (b : Mem), Mem -> I.le b -> ∀ (x : List Value) (d : Int), N d x -> Br (decide (d < (n : Int))) (0 <= d /\ d < (n : Int) /\ a.isSome = true /\ (5 : Nat) = 5 /\ ∃ e, atI b a (d.toNat * 5 + 0) = some (.int .u8 e) /\ ∃ f, atI b a (d.toNat * 5 + 1) = some (.int .u8 f) /\ ∃ g, atI b a (d.toNat * 5 + 2) = some (.int .u8 g) /\ ∃ i, atI b a (d.toNat * 5 + 3) = some (.int .u8 i) /\ ∃ j, atI b a (d.toNat * 5 + 4) = some (.int .i64 j) /\ x.length = x.length / 5 * 5 /\ x.length / 5 + 1 <= 9223372036854775807 /\ (x.length / 5 + 1) * 16 <= 140737488355328 /\ Wr .i64 (d + 1) fun k => Rf (SV.v (.slice a n c)) /\ x.length / 5 + 1 = List.length (x ++ [.int .u8 e, .int .u8 f, .int .u8 g, .int .u8 i, .int .i64 j]) / 5 /\ Rf (SV.v (.slice a n c)) /\ Rf (SV.v (.int .i64 (n : Int))) /\ N k (x ++ [.int .u8 e, .int .u8 f, .int .u8 g, .int .u8 i, .int .i64 j]) /\ Int.toNat ((n : Int) - k) < Int.toNat ((n : Int) - d)) (∀ (e : Option Addr) (f : Nat) (g : Mem), b.le g -> RowM g e f 5 x -> Q (.slice e (x.length / 5) f) g)) (by kernel_rfl) ?_
 have hpl := h.len;have hok := h.ok
 refine ⟨⟨rfl, rfl, rfl, rfl, by rw [hN]; exact ⟨Int.le_refl _, by omega, rfl⟩⟩, fun b G lb x d hd => ?_⟩
 rw [hN] at hd;obtain ⟨h1, h2, h3⟩ := hd
 have hxl : x.length = d.toNat * 5 := by rw [h3, insVs_len, List.length_take]; omega
 refine Br.mk (fun h5 => ?_) (fun h5 => ?_)
 · have h5 := of_decide_eq_true h5
   obtain ⟨i, q1, q2, e0, e1, e2, e3, e4⟩ := (h.mono lb).get h1 h5
   have htk : p.take (d + 1).toNat = p.take d.toNat ++ [i] := by rw [show (d + 1).toNat = d.toNat + 1 by omega, List.take_add_one, q1]; rfl
   refine ⟨h1, h5, SlR.isSome (h.mono lb) (by omega), rfl, _, e0, _, e1, _, e2, _, e3, _, e4, ?_⟩
   refine ⟨by omega, by omega, by omega, wr_i64 (by omega) (by omega) ⟨rfl, ?_, rfl, rfl, ?_, by omega⟩⟩
   · rw [List.length_append]; simp only [List.length_cons, List.length_nil]; omega
   · rw [hN]
     refine ⟨by omega, by omega, ?_⟩
     rw [h3, htk];simp [insVs, insV]
 · have h5 := of_decide_eq_false h5
   intro e f g lg hrow
   rw [List.take_of_length_le (by omega)] at h3
   rw [h3] at hrow
   have hsl := SlR.row (by decide) hrow (rowR_ins g hok)
   rw [hpl] at hsl
   rw [hQ, show x.length / 5 = n by omega]
   exact ⟨e, f, rfl, hsl⟩
theorem nDigits_lt : ∀ (k u : Nat), 1 <= k -> u < 10 ^ k -> Lib.nDigits u <= k
 | 0, _, h, _ => absurd h (by decide)
 | k + 1, u, _, h => by
   by_cases hu : u < 10
   · rw [Lib.nDigits_small hu]; omega
   · rw [Lib.nDigits_big hu]
     have hk : 1 <= k := by
      rcases Nat.eq_zero_or_pos k with rfl | hk
      · exact absurd (by simpa using h) hu
      · exact hk
     rw [Nat.pow_succ] at h
     have := nDigits_lt k (u / 10) hk (by omega)
     omega
theorem nDigits_le {u : Nat} (h : u <= 9223372036854775808) : Lib.nDigits u <= 19 := nDigits_lt 19 u (by decide) (by
 have : (10 : Nat) ^ 19 = 10000000000000000000 := by decide
 omega)
theorem dec_step {k : Int} (h0 : k <= 0) (t : Tx) : (0 < (-k.tdiv 10) /\ Lib.decDigits (-k).toNat ++ t = Lib.decDigits (-k.tdiv 10).toNat ++ (UInt8.ofNat (48 - k.tmod 10).toNat :: t)) \/ (k.tdiv 10 = 0 /\ Lib.decDigits (-k).toNat ++ t = UInt8.ofNat (48 - k.tmod 10).toNat :: t) := by
 obtain ⟨u, rfl⟩ : ∃ u : Nat, k = -(u : Int) := ⟨(-k).toNat, by omega⟩
 have e1 : (-(u : Int)).tdiv 10 = -((u / 10 : Nat) : Int) := by
  rw [Int.neg_tdiv, Int.tdiv_eq_ediv_of_nonneg (by omega)]; omega
 have e2 : (-(u : Int)).tmod 10 = -((u % 10 : Nat) : Int) := by
  rw [Int.neg_tmod, Int.tmod_eq_emod_of_nonneg (by omega)]; omega
 rw [e1, e2, Lib.decDigits]
 have e3 : (-(-(u : Int))).toNat = u := by omega
 have e4 : (48 - -((u % 10 : Nat) : Int)).toNat = 48 + u % 10 := by omega
 have e5 : (-(-((u / 10 : Nat) : Int))).toNat = u / 10 := by omega
 rw [e4, e5]
 by_cases h : u < 10
 · refine .inr ⟨by omega, ?_⟩
   rw [dif_pos (by omega), e3, Nat.mod_eq_of_lt h]; rfl
 · refine .inl ⟨by omega, ?_⟩
   rw [dif_neg (by omega), e3, List.append_assoc]; rfl
theorem tx_one (b : UInt8) (s : ByteArray) : tx ((⟨#[b]⟩ : ByteArray) ++ s) = b :: tx s := by simp [tx]
theorem ct55n (n : Int) (hn : i64N n) (h0 : n <= 0) (I : Mem) : Ct Tryz.prog (fnv 65) #[.int .i64 n] I (fun v _ => v = .string (strT (if n = 0 then [48] else 45 :: Lib.decDigits n.natAbs))) := by
 obtain ⟨Q, hQ⟩ : ∃ D : Value, D = .string (strT (if n = 0 then [48] else 45 :: Lib.decDigits n.natAbs)) := ⟨_, rfl⟩
 rw [<- hQ];obtain ⟨WI, hWI⟩ : ∃ f : Int -> ByteArray -> Prop, f = fun k s => -9223372036854775808 <= k /\ k <= 0 /\ ((k = 0 /\ tx s = Lib.decDigits n.natAbs) \/ (k < 0 /\ Lib.decDigits n.natAbs = Lib.decDigits (-k).toNat ++ tx s)) := ⟨_, rfl⟩
 refine viaR (ct_via (A := { loops := [(6, ⟨[(0, .sh (.int .i64)), (3, .sh .str)], [], [], fun vals _ _ _ => match vals with | [.int .i64 k, .string s] => WI k s | _ => False, fun vals _ => match vals with | [.int .i64 k, .string s] => (-k).toNat | _ => 0⟩)] }) Tryz.func65 rfl Tryz.call65 rfl rfl) (Br (decide (0 < n)) (Wr .i64 (0 - n) (fun (c : Int) => Ct Tryz.prog (fnv 65) #[.int .i64 c] I fun (v : Value) (a : Mem) => ∃ (q : ByteArray), v = .string q /\ (0 : Int) <= 1 /\ 1 <= (q.size : Int) /\ Value.string (q.extract (Int.toNat 1) q.size) = Q)) (Br (n == 0) (Value.string ⟨#[48]⟩ = Q) (WI n ⟨#[]⟩ /\ ∀ (a : Mem), Mem -> I.le a -> ∀ (b : Int) (q : ByteArray), WI b q -> Br (decide (b < 0)) ((10 : Int) ≠ 0 /\ Wr .i64 (48 - b.tmod 10) fun (c : Int) => Wr .u8 c fun (d : Int) => ∃ (e : List UInt8), e.length = 1 /\ (∀ (j : Nat) (f : UInt8), e[j]? = some f -> [SV.v (.int .u8 d)][0 + j]? = some (.v (.int .u8 (f.toNat : Int)))) /\ (ByteArray.mk e.toArray).size + q.size <= 4611686018427387904 /\ (10 : Int) ≠ 0 /\ Wr .i64 (b.tdiv 10) fun (f : Int) => WI f (⟨e.toArray⟩ ++ q) /\ (-f).toNat < (-b).toNat) (1 + q.size <= 4611686018427387904 /\ Value.string (⟨#[45]⟩ ++ q) = Q)))) (by kernel_rfl) ?_
 have hrem : ∀ {k : Int}, -9223372036854775808 <= k -> k <= 0 -> k.tmod 10 <= 0 /\ -9 <= k.tmod 10 /\ k <= k.tdiv 10 /\ k.tdiv 10 <= 0 /\ (k < 0 -> k < k.tdiv 10) := fun {k} h0 h1 => by
  obtain ⟨u, rfl⟩ : ∃ u : Nat, k = -(u : Int) := ⟨(-k).toNat, by omega⟩
  rw [Int.neg_tdiv, Int.tdiv_eq_ediv_of_nonneg (by omega), Int.neg_tmod, Int.tmod_eq_emod_of_nonneg (by omega)]
  omega
 have hdl : (Lib.decDigits n.natAbs).length <= 19 := by
  rw [Lib.decDigits_length]
  exact nDigits_le (by have := hn.1; have := hn.2; omega)
 have hts : ∀ s : ByteArray, (tx s).length = s.size := fun s => Array.length_toList
 refine Br.f (decide_eq_false (by omega)) (Br.mk (fun h1 => ?_) (fun h1 => ?_))
 · have h1 : n = 0 := by simpa using h1
   rw [hQ, if_pos h1]; rfl
 have h1 : n ≠ 0 := by simpa using h1
 refine ⟨?_, fun J _ l k s hs => ?_⟩
 · rw [hWI]
   refine ⟨hn.1, h0, .inr ⟨by omega, ?_⟩⟩
   rw [show (-n).toNat = n.natAbs by omega]
   exact (List.append_nil _).symm
 rw [hWI] at hs;obtain ⟨k1, k2, k3⟩ := hs;refine Br.mk (fun h2 => ?_) (fun h2 => ?_)
 · have h2 := of_decide_eq_true h2
   have he := (k3.resolve_left (fun hh => by omega)).2
   obtain ⟨r1, r2, r3, r4, r5⟩ := hrem k1 k2
   have hsz : s.size <= 19 := by
    have := congrArg List.length he;rw [List.length_append, hts] at this;omega
   refine ⟨by decide, wr_i64 (by omega) (by omega) (wr_u8 (by omega) (by omega) ⟨[UInt8.ofNat (48 - k.tmod 10).toNat], rfl, fun j b hb => ?_, ?_⟩)⟩
   · match j, hb with
     | 0, hb =>
       simp only [List.getElem?_cons_zero, Option.some.injEq] at hb;subst hb;simp only [Nat.add_zero, List.getElem?_cons_zero, Option.some.injEq, SV.v.injEq, Value.int.injEq, true_and]
       rw [UInt8.toNat_ofNat']; omega
   refine ⟨by show 1 + s.size <= _; omega, by decide, wr_i64 (by omega) (by omega) ⟨?_, by omega⟩⟩
   rw [hWI]
   refine ⟨by omega, r4, ?_⟩
   have e : tx ((⟨[UInt8.ofNat (48 - k.tmod 10).toNat].toArray⟩ : ByteArray) ++ s) = UInt8.ofNat (48 - k.tmod 10).toNat :: tx s := tx_one _ s;rw [e, he]
   rcases dec_step k2 (tx s) with ⟨d1, d2⟩ | ⟨d1, d2⟩
   · exact .inr ⟨by omega, d2⟩
   · exact .inl ⟨d1, d2.symm⟩
 · have h2 := of_decide_eq_false h2
   have he := (k3.resolve_right (fun hh => by omega)).2
   have hsz : s.size <= 19 := by rw [<- hts, he]; exact hdl
   refine ⟨by omega, ?_⟩
   rw [hQ, if_neg h1, <- he];refine congrArg Value.string ?_;apply ByteArray.ext;simp [strT, tx]
theorem ct65 (n : Int) (hn : i64N n) (I : Mem) : Ct Tryz.prog (fnv 65) #[.int .i64 n] I (fun v _ => v = .string (strT (Lib.itoa n))) := by
 by_cases h0 : n <= 0
 · refine (ct55n n hn h0 I).mono fun v J l hv => hv.trans ?_
   by_cases h1 : n = 0
   · subst h1
     rw [if_pos rfl, Lib.itoa, if_neg (by decide), Lib.decDigits, dif_pos (by decide)]; rfl
   · rw [if_neg h1, Lib.itoa, if_pos (by omega)]
 · obtain ⟨Q, hQ⟩ : ∃ D : Value, D = .string (strT (Lib.itoa n)) := ⟨_, rfl⟩
   rw [<- hQ]
   refine viaR (ct_via (A := { loops := [(6, ⟨[(0, .sh (.int .i64)), (3, .sh .str)], [], [], fun vals _ _ _ => False, fun vals _ => 0⟩)] }) Tryz.func65 rfl Tryz.call65 rfl rfl) (Br (decide (0 < n)) (Wr .i64 (0 - n) (fun (c : Int) => Ct Tryz.prog (fnv 65) #[.int .i64 c] I fun (v : Value) (a : Mem) => ∃ (q : ByteArray), v = .string q /\ (0 : Int) <= 1 /\ 1 <= (q.size : Int) /\ Value.string (q.extract (Int.toNat 1) q.size) = Q)) (Br (n == 0) (Value.string ⟨#[48]⟩ = Q) (False /\ ∀ (a : Mem), Mem -> I.le a -> ∀ (b : Int) (q : ByteArray), False -> Br (decide (b < 0)) ((10 : Int) ≠ 0 /\ Wr .i64 (48 - b.tmod 10) fun (c : Int) => Wr .u8 c fun (d : Int) => ∃ (e : List UInt8), e.length = 1 /\ (∀ (j : Nat) (f : UInt8), e[j]? = some f -> [SV.v (.int .u8 d)][0 + j]? = some (.v (.int .u8 (f.toNat : Int)))) /\ (ByteArray.mk e.toArray).size + q.size <= 4611686018427387904 /\ (10 : Int) ≠ 0 /\ Wr .i64 (b.tdiv 10) fun (f : Int) => False /\ (0 : Nat) < 0) (1 + q.size <= 4611686018427387904 /\ Value.string (⟨#[45]⟩ ++ q) = Q)))) (by kernel_rfl) ?_
   refine Br.t (decide_eq_true (by omega)) (wr_i64 (by have := hn.2; omega) (by omega) ((ct55n (0 - n) ⟨by have := hn.2; omega, by omega⟩ (by omega) I).mono fun v J l hv => ⟨_, hv, by decide, ?_, ?_⟩))
   · rw [strT_size, if_neg (by omega)]; simp only [List.length_cons]; omega
   · rw [hQ, if_neg (by omega)]
     have key : tx ((strT (45 :: Lib.decDigits (0 - n).natAbs)).extract (Int.toNat 1) (strT (45 :: Lib.decDigits (0 - n).natAbs)).size) = Lib.itoa n := by
      rw [tx_extract, tx_strT, strT_size, Lib.itoa, if_neg (by omega), show (0 - n).natAbs = n.toNat by omega]
      simp
     exact congrArg Value.string ((strT_tx _).symm.trans (congrArg strT key))
def bv (t : Tx) : List Value := t.map fun c => .int .u8 c.toNat
theorem bv_len (t : Tx) : (bv t).length = t.length := List.length_map ..
theorem bv_app (s t : Tx) : bv (s ++ t) = bv s ++ bv t := List.map_append ..
def markT (p : List Ins) (k : Nat) : Tx := if isTo p k then lab k ++ [58, 10] else []
def RefO (p : List Ins) (j : Int) (xs : List Value) : Prop := 0 <= j /\ j <= p.length /\ ∃ bs, xs = bv bs /\ outGo p p 0 = bs ++ outGo p (p.drop j.toNat) j.toNat
def RefM (p : List Ins) (j : Int) (xs : List Value) : Prop := 0 <= j /\ j < p.length /\ ∃ bs, xs = bv (bs ++ markT p j.toNat) /\ outGo p p 0 = bs ++ outGo p (p.drop j.toNat) j.toNat
def flatO (l : List Tx) : Tx := l.flatMap (32 :: ·)
def RefI (p : List Ins) (j i : Int) (xs : List Value) : Prop := 0 <= j /\ j < p.length /\ 0 <= i /\ ∃ bs ins bt, p[j.toNat]? = some ins /\ i <= (formL ins.op).length /\ xs = bv (bs ++ bt) /\
 outGo p p 0 = bs ++ outGo p (p.drop j.toNat) j.toNat /\ markT p j.toNat ++ [32, 32] ++ wordT ins.op ++ flatO (operands ins) = bt ++ flatO (operA ((formL ins.op).drop i.toNat) ins (((formL ins.op).take i.toNat).count 114))
theorem bytesV_strT (t : Tx) : bytesV (strT t) = bv t := rfl
theorem flat_cons (o : Tx) (l : List Tx) : flatO (o :: l) = 32 :: o ++ flatO l := by simp [flatO]
theorem join_flat : ∀ (w : Tx) (l : List Tx), joinC 32 (w :: l) = w ++ flatO l
 | w, [] => by rw [joinC]; simp [flatO]
 | w, x :: r => by rw [joinC, join_flat x r, flat_cons]; simp
theorem itoa_dig {r : Int} (h0 : 0 <= r) (h1 : r < 8) : bv (Lib.itoa r) = [.int .u8 (48 + r)] := by
 have e : r = 0 \/ r = 1 \/ r = 2 \/ r = 3 \/ r = 4 \/ r = 5 \/ r = 6 \/ r = 7 := by omega
 have d : ∀ u : Nat, u < 10 -> Lib.itoa (u : Int) = [UInt8.ofNat (48 + u)] := fun u hu => by
  rw [Lib.itoa, if_neg (by omega), Int.toNat_natCast, Lib.decDigits, dif_pos hu]
 rcases e with rfl | rfl | rfl | rfl | rfl | rfl | rfl | rfl
 · rw [show (0 : Int) = ((0 : Nat) : Int) from rfl, d 0 (by decide)]; rfl
 · rw [show (1 : Int) = ((1 : Nat) : Int) from rfl, d 1 (by decide)]; rfl
 · rw [show (2 : Int) = ((2 : Nat) : Int) from rfl, d 2 (by decide)]; rfl
 · rw [show (3 : Int) = ((3 : Nat) : Int) from rfl, d 3 (by decide)]; rfl
 · rw [show (4 : Int) = ((4 : Nat) : Int) from rfl, d 4 (by decide)]; rfl
 · rw [show (5 : Int) = ((5 : Nat) : Int) from rfl, d 5 (by decide)]; rfl
 · rw [show (6 : Int) = ((6 : Nat) : Int) from rfl, d 6 (by decide)]; rfl
 · rw [show (7 : Int) = ((7 : Nat) : Int) from rfl, d 7 (by decide)]; rfl
theorem form_regs (op : Int) : ∀ k : Nat, (formL op)[k]? = some 114 -> ((formL op).take k).count 114 = k /\ k < 3 := by
 intro k hk
 rcases formT_cases op with h | h | h | h | h | h | h | h <;> rw [show formL op = _ from by rw [formL, h]] at hk ⊢
 all_goals
  match k, hk with
  | 0, hk => first | (exact ⟨rfl, by decide⟩) | (simp at hk)
  | 1, hk => first | (exact ⟨rfl, by decide⟩) | (simp at hk)
  | 2, hk => first | (exact ⟨rfl, by decide⟩) | (simp at hk)
  | k + 3, hk => simp at hk
theorem one_abc {i : Ins} (h : okI i) (h1 : oneE i = 0) : i.a <= 7 /\ i.b <= 7 /\ i.c <= 7 := by
 cases hq : formT i.op with
 | none => rw [oneE, hq] at h1; cases h1
 | some l =>
   obtain ⟨f1, _, _⟩ := one_laws h hq
   by_cases hh : abcOk l i
   · exact ⟨hh.1, hh.2.1, hh.2.2.1⟩
   · rw [f1 hh] at h1; cases h1
set_option maxHeartbeats 4000000 in
theorem ct35 (p : List Ins) (a : Option Addr) (n c : Nat) (I : Mem) (h : InsM I a n p) :
 Ct Tryz.prog (fnv 35) #[.slice a n c] I (fun v _ => v = .tuple #[.string (strT (writeA p).1), .int .i64 (writeA p).2]) := by
 obtain ⟨Q, hQ⟩ : ∃ q : Value, q = .tuple #[.string (strT (writeA p).1), .int .i64 (writeA p).2] := ⟨_, rfl⟩;obtain ⟨N, hN⟩ : ∃ f, f = RefO p := ⟨_, rfl⟩;obtain ⟨M, hM⟩ : ∃ f, f = RefM p := ⟨_, rfl⟩;obtain ⟨R, hR⟩ : ∃ f, f = RefI p := ⟨_, rfl⟩;obtain ⟨T, hT⟩ : ∃ f : Int -> Int -> Bool -> Prop, f = fun (j m : Int) b => 0 <= m /\ m <= n /\ b = isTo (p.take m.toNat) j.toNat := ⟨_, rfl⟩;rw [<- hQ]
 refine viaR (ct_via (A := { cuts := [(16, ⟨[(0, .keep), (6, .row 0), (7, .kv)], [(0, .row)], [], fun vals xss _ _ => match vals, xss with | [.int .i64 j], [xs] => M j xs | _, _ => False, fun _ _ => 0⟩)], loops := [(6, ⟨[(0, .keep), (6, .row 0), (7, .sh (.int .i64))], [(0, .row)], [(6, 1, 5)], fun vals xss _ _ => match vals, xss with | [.int .i64 j], [xs] => N j xs | _, _ => False, fun vals _ => match vals with | [.int .i64 j] => (n - j).toNat | _ => 0⟩), (10, ⟨[(0, .keep), (6, .keep), (7, .kv), (8, .sh .bool), (9, .sh (.int .i64))], [(0, .keep)], [], fun vals _ _ _ => match vals with | [.int .i64 j, .bool b, .int .i64 m] => T j m b | _ => False, fun vals _ => match vals with | [_, _, .int .i64 m] => (n - m).toNat | _ => 0⟩), (20, ⟨[(0, .keep), (6, .row 0), (7, .kv), (12, .keep), (14, .keep), (15, .sh (.int .i64))], [(0, .row), (1, .keep)], [], fun vals xss _ _ => match vals, xss with | [.int .i64 j, .int .i64 i], [xs] => R j i xs | _, _ => False, fun vals _ => match vals with | [_, .int .i64 i] => (4 - i).toNat | _ => 0⟩)] }) Tryz.func35 rfl Tryz.call35 rfl rfl) (Ct Tryz.prog (fnv 63) #[.slice a n c] I fun v b => ∃ d e, v = .tuple #[.int .i64 d, .int .i64 e] /\ Br (e != 0) (Value.tuple #[.string ⟨#[]⟩, .int .i64 e] = Q) ((Rf (SV.v (.slice a n c)) /\ (0 : Nat) = 0 /\ N 0 []) /\ ∀ (f : Mem), Mem -> b.le f -> ∀ (x : List Value) (g : Int), N g x -> Br (decide (g < (n : Int))) ((Rf (Ent.mk (.row x 1 5) none) /\ Rf (SV.v (.slice a n c)) /\ Rf (SV.rsl 0 x.length) /\ Rf (SV.v (.int .i64 g)) /\ T g 0 false) /\ ∀ (i : Mem), Mem -> f.le i -> ∀ (j : Bool) (k : Int), T g k j -> Br (decide (k < (n : Int))) (0 <= k /\ k < (n : Int) /\ a.isSome = true /\ (5 : Nat) = 5 /\ ∃ l, atI i a (k.toNat * 5 + 0) = some (.int .u8 l) /\ ∃ m, atI i a (k.toNat * 5 + 1) = some (.int .u8 m) /\ ∃ o, atI i a (k.toNat * 5 + 2) = some (.int .u8 o) /\ ∃ q, atI i a (k.toNat * 5 + 3) = some (.int .u8 q) /\ ∃ r, atI i a (k.toNat * 5 + 4) = some (.int .i64 r) /\ Ct Tryz.prog (fnv 64) #[.agg #[.int .u8 l, .int .u8 m, .int .u8 o, .int .u8 q, .int .i64 r]] i fun s t => ∃ u w, s = .tuple #[.int .i64 u, .bool w] /\ Br j (Wr .i64 (k + 1) (fun y => Rf (Ent.mk (.row x 1 5) none) /\ Rf (SV.v (.slice a n c)) /\ Rf (SV.rsl 0 x.length) /\ Rf (SV.v (.int .i64 g)) /\ T g y true /\ Int.toNat ((n : Int) - y) < Int.toNat ((n : Int) - k))) (Br w (Wr .i64 (k + 1) (fun y => Rf (Ent.mk (.row x 1 5) none) /\ Rf (SV.v (.slice a n c)) /\ Rf (SV.rsl 0 x.length) /\ Rf (SV.v (.int .i64 g)) /\ T g y (u == g) /\ Int.toNat ((n : Int) - y) < Int.toNat ((n : Int) - k))) (Wr .i64 (k + 1) (fun y => Rf (Ent.mk (.row x 1 5) none) /\ Rf (SV.v (.slice a n c)) /\ Rf (SV.rsl 0 x.length) /\ Rf (SV.v (.int .i64 g)) /\ T g y false /\ Int.toNat ((n : Int) - y) < Int.toNat ((n : Int) - k))))) (Br j (x.length = x.length * 1 /\ x.length + 1 <= 9223372036854775807 /\ (x.length + 1) * 1 <= 140737488355328 /\ Ct Tryz.prog (fnv 65) #[.int .i64 g] i fun l m => ∃ q, l = .string q /\ (1 : Nat) = 1 /\ List.length (x ++ [.int .u8 108]) = (x.length + 1) * 1 /\ x.length + 1 + q.size <= 9223372036854775807 /\ (x.length + 1 + q.size) * 1 <= 140737488355328 /\ List.length (x ++ [.int .u8 108] ++ bytesV q) = (x.length + 1 + q.size) * 1 /\ x.length + 1 + q.size + 2 <= 9223372036854775807 /\ (x.length + 1 + q.size + 2) * 1 <= 140737488355328 /\ Rf (SV.v (.slice a n c)) /\ x.length + 1 + q.size + 2 = List.length (x ++ [.int .u8 108] ++ bytesV q ++ [.int .u8 58, .int .u8 10]) /\ Rf (SV.v (.int .i64 g)) /\ M g (x ++ [.int .u8 108] ++ bytesV q ++ [.int .u8 58, .int .u8 10])) (Rf (SV.v (.slice a n c)) /\ Rf x.length /\ Rf (SV.v (.int .i64 g)) /\ M g x) /\ ∀ (l : Mem), Mem -> i.le l -> ∀ (m : List Value), M g m -> 0 <= g /\ g < (n : Int) /\ a.isSome = true /\ a.isSome = true /\ ∃ o, atI l a (g.toNat * 5 + 0 + 0) = some (.int .u8 o) /\ (1 : Nat) = 1 /\ m.length = m.length * 1 /\ m.length + 2 <= 9223372036854775807 /\ (m.length + 2) * 1 <= 140737488355328 /\ Ct Tryz.prog (fnv 7) #[.int .u8 o] l fun q r => ∃ s, q = .string s /\ (1 : Nat) = 1 /\ List.length (m ++ bytesV ⟨#[32, 32]⟩) = (m.length + 2) * 1 /\ m.length + 2 + s.size <= 9223372036854775807 /\ (m.length + 2 + s.size) * 1 <= 140737488355328 /\ 0 <= g /\ g < (n : Int) /\ a.isSome = true /\ a.isSome = true /\ ∃ t, atI r a (g.toNat * 5 + 0 + 0) = some (.int .u8 t) /\ Ct Tryz.prog (fnv 66) #[.int .u8 t] r fun u w => ∃ y z, u = .tuple #[.string y, .bool z] /\ 0 <= g /\ g < (n : Int) /\ a.isSome = true /\ a.isSome = true /\ ∃ n1, atI w a (g.toNat * 5 + 1 + 0) = some (.int .u8 n1) /\ 0 <= g /\ g < (n : Int) /\ a.isSome = true /\ a.isSome = true /\ ∃ n2, atI w a (g.toNat * 5 + 2 + 0) = some (.int .u8 n2) /\ 0 <= g /\ g < (n : Int) /\ a.isSome = true /\ a.isSome = true /\ ∃ n3, atI w a (g.toNat * 5 + 3 + 0) = some (.int .u8 n3) /\ (Rf (Ent.mk (.cells [.v (.int .u8 n1), .v (.int .u8 n2), .v (.int .u8 n3)] 5) none) /\ Rf (SV.v (.slice a n c)) /\ m.length + 2 + s.size = List.length (m ++ bytesV ⟨#[32, 32]⟩ ++ bytesV s) /\ Rf (SV.v (.int .i64 g)) /\ Rf (SV.v (.string y)) /\ Rf (SV.xsl (List.length [Ent.mk (.row (m ++ bytesV ⟨#[32, 32]⟩ ++ bytesV s) 1 5) none]) 0 3 3) /\ R g 0 (m ++ bytesV ⟨#[32, 32]⟩ ++ bytesV s)) /\ ∀ (I1 : Mem), Mem -> w.le I1 -> ∀ (x1 : List Value) (n4 : Int), R g n4 x1 -> Br (decide (n4 < (y.size : Int))) (x1.length = x1.length * 1 /\ x1.length + 1 <= 9223372036854775807 /\ (x1.length + 1) * 1 <= 140737488355328 /\ ∃ c1, y.data.toList[n4.toNat]? = some c1 /\ 0 <= n4 /\ Br ((c1.toNat : Int) == 114) (0 <= n4 /\ n4 < 3 /\ ∃ n5, [SV.v (.int .u8 n1), .v (.int .u8 n2), .v (.int .u8 n3)][0 + n4.toNat * 1 + 0]?.bind (fun (x2 : SV) => (match x2 with
  | SV.v x => some x
  | x => none)) = some (.int .u8 n5) /\ Wr .u8 (48 + n5) fun c2 => List.length (x1 ++ [.int .u8 32]) = (x1.length + 1) * 1 /\ x1.length + 1 + 2 <= 9223372036854775807 /\ (x1.length + 1 + 2) * 1 <= 140737488355328 /\ Wr .i64 (n4 + 1) fun c3 => Rf (Ent.mk (.cells [.v (.int .u8 n1), .v (.int .u8 n2), .v (.int .u8 n3)] 5) none) /\ Rf (SV.v (.slice a n c)) /\ x1.length + 1 + 2 = List.length (x1 ++ [.int .u8 32] ++ [.int .u8 114, .int .u8 c2]) /\ Rf (SV.v (.int .i64 g)) /\ Rf (SV.v (.string y)) /\ Rf (SV.xsl (List.length [Ent.mk (.row (m ++ bytesV ⟨#[32, 32]⟩ ++ bytesV s) 1 5) none]) 0 3 3) /\ R g c3 (x1 ++ [.int .u8 32] ++ [.int .u8 114, .int .u8 c2]) /\ Int.toNat (4 - c3) < Int.toNat (4 - n4)) (∃ c2, y.data.toList[n4.toNat]? = some c2 /\ 0 <= n4 /\ Br ((c2.toNat : Int) == 116) (List.length (x1 ++ [.int .u8 32]) = (x1.length + 1) * 1 /\ x1.length + 1 + 1 <= 9223372036854775807 /\ (x1.length + 1 + 1) * 1 <= 140737488355328 /\ 0 <= g /\ g < (n : Int) /\ a.isSome = true /\ a.isSome = true /\ ∃ n5, atI I1 a (g.toNat * 5 + 4 + 0) = some (.int .i64 n5) /\ Ct Tryz.prog (fnv 65) #[.int .i64 n5] I1 fun v1 I2 => ∃ q1, v1 = .string q1 /\ (1 : Nat) = 1 /\ List.length (x1 ++ [.int .u8 32] ++ [.int .u8 108]) = (x1.length + 1 + 1) * 1 /\ x1.length + 1 + 1 + q1.size <= 9223372036854775807 /\ (x1.length + 1 + 1 + q1.size) * 1 <= 140737488355328 /\ Wr .i64 (n4 + 1) fun c3 => Rf (Ent.mk (.cells [.v (.int .u8 n1), .v (.int .u8 n2), .v (.int .u8 n3)] 5) none) /\ Rf (SV.v (.slice a n c)) /\ x1.length + 1 + 1 + q1.size = List.length (x1 ++ [.int .u8 32] ++ [.int .u8 108] ++ bytesV q1) /\ Rf (SV.v (.int .i64 g)) /\ Rf (SV.v (.string y)) /\ Rf (SV.xsl (List.length [Ent.mk (.row (m ++ bytesV ⟨#[32, 32]⟩ ++ bytesV s) 1 5) none]) 0 3 3) /\ R g c3 (x1 ++ [.int .u8 32] ++ [.int .u8 108] ++ bytesV q1) /\ Int.toNat (4 - c3) < Int.toNat (4 - n4)) (0 <= g /\ g < (n : Int) /\ a.isSome = true /\ a.isSome = true /\ ∃ n5, atI I1 a (g.toNat * 5 + 4 + 0) = some (.int .i64 n5) /\ Ct Tryz.prog (fnv 65) #[.int .i64 n5] I1 fun v1 I2 => ∃ q1, v1 = .string q1 /\ (1 : Nat) = 1 /\ List.length (x1 ++ [.int .u8 32]) = (x1.length + 1) * 1 /\ x1.length + 1 + q1.size <= 9223372036854775807 /\ (x1.length + 1 + q1.size) * 1 <= 140737488355328 /\ Wr .i64 (n4 + 1) fun c3 => Rf (Ent.mk (.cells [.v (.int .u8 n1), .v (.int .u8 n2), .v (.int .u8 n3)] 5) none) /\ Rf (SV.v (.slice a n c)) /\ x1.length + 1 + q1.size = List.length (x1 ++ [.int .u8 32] ++ bytesV q1) /\ Rf (SV.v (.int .i64 g)) /\ Rf (SV.v (.string y)) /\ Rf (SV.xsl (List.length [Ent.mk (.row (m ++ bytesV ⟨#[32, 32]⟩ ++ bytesV s) 1 5) none]) 0 3 3) /\ R g c3 (x1 ++ [.int .u8 32] ++ bytesV q1) /\ Int.toNat (4 - c3) < Int.toNat (4 - n4)))) (x1.length = x1.length * 1 /\ x1.length + 1 <= 9223372036854775807 /\ (x1.length + 1) * 1 <= 140737488355328 /\ Wr .i64 (g + 1) fun c1 => Rf (SV.v (.slice a n c)) /\ x1.length + 1 = List.length (x1 ++ [.int .u8 10]) /\ N c1 (x1 ++ [.int .u8 10]) /\ Int.toNat ((n : Int) - c1) < Int.toNat ((n : Int) - g)))) (∃ q, q.length = x.length /\ List.take x.length x = List.map (fun (i : UInt8) => .int .u8 (i.toNat : Int)) q /\ Value.tuple #[.string ⟨q.toArray⟩, .int .i64 0] = Q))) (by kernel_rfl) ?_
 have hl := h.len;have hok := h.ok;refine (ct63 p a n c I h).mono fun v b lb hv => ⟨_, _, hv, Br.mk (fun h1 => ?_) (fun h1 => ?_)⟩
 · have h1 : (checkL p).2 ≠ 0 := by simpa using h1
   rw [hQ, writeA, if_pos h1]; rfl
 have h1 : (checkL p).2 = 0 := by simpa using h1
 obtain ⟨c1, c2, c3, c4⟩ := check_len h1;have hck := checkGo_ok _ _ _ c3
 have hol := out_len p p 0 hok (by omega)
 have hW : writeA p = (outGo p p 0, 0) := by rw [writeA, if_neg (fun hh => hh h1)]
 rw [hW] at hQ;refine ⟨⟨rfl, rfl, ?_⟩, fun f _ lf x g hg => ?_⟩
 · rw [hN]; exact ⟨Int.le_refl _, Int.natCast_nonneg _, [], rfl, by simp⟩
 rw [hN] at hg;obtain ⟨g1, g2, bs, rfl, g3⟩ := hg;have hbl := bv_len bs
 have hbs : bs.length <= 130 * p.length := by have := congrArg List.length g3; rw [List.length_append] at this; omega
 have hf := h.mono (Mem.le_trans lb lf);refine Br.mk (fun h2 => ?_) (fun h2 => ?_)
 · have h2 := of_decide_eq_true h2
   obtain ⟨ins, q1, q2, _⟩ := hf.get g1 h2
   have hdr : p.drop g.toNat = ins :: p.drop (g + 1).toNat := by
    have hlt : g.toNat < p.length := by omega
    rw [show (g + 1).toNat = g.toNat + 1 by omega, List.drop_eq_getElem_cons hlt]
    congr 1
    rw [List.getElem?_eq_getElem hlt] at q1;exact Option.some.inj q1
   have hin : insT ins = [32, 32] ++ wordT ins.op ++ flatO (operands ins) ++ [10] := by rw [insT, join_flat]; simp
   have g4 : outGo p p 0 = bs ++ (markT p g.toNat ++ [32, 32] ++ wordT ins.op ++ flatO (operands ins)) ++ [10] ++ outGo p (p.drop (g + 1).toNat) (g + 1).toNat := by
    rw [g3, hdr, outGo, hin, show (g + 1).toNat = g.toNat + 1 by omega]
    simp [markT]
   have hg4 := congrArg List.length g4;simp only [List.length_append, List.length_cons, List.length_nil] at hg4;have hone := hck ins (List.mem_of_getElem? q1);have habc := one_abc q2 hone.1;refine ⟨⟨rfl, rfl, rfl, rfl, ?_⟩, fun i _ li j k hT1 => ?_⟩
   · rw [hT]; exact ⟨Int.le_refl _, by omega, rfl⟩
   rw [hT] at hT1;obtain ⟨t1, t2, t3⟩ := hT1;have hi := hf.mono li;refine Br.mk (fun h3 => ?_) (fun h3 => ?_)
   · have h3 := of_decide_eq_true h3
     obtain ⟨y, r1, r2, e0, e1, e2, e3, e4⟩ := hi.get t1 h3
     have htk : p.take (k + 1).toNat = p.take k.toNat ++ [y] := by rw [show (k + 1).toNat = k.toNat + 1 by omega, List.take_add_one, r1]; rfl
     have hnew : isTo (p.take (k + 1).toNat) g.toNat = (j || ((targetE y).2 && ((targetE y).1 == g))) := by
      rw [isTo] at t3
      rw [htk, isTo, List.any_append, List.any_cons, List.any_nil, Bool.or_false, <- t3, show ((g.toNat : Nat) : Int) = g by omega]; rfl
     refine ⟨t1, h3, SlR.isSome hi (by omega), rfl, _, e0, _, e1, _, e2, _, e3, _, e4, (ct64 y r2 i).mono fun v s ls hv => ⟨_, _, hv, Br.mk (fun h4 => wr_i64 (by omega) (by omega) ⟨rfl, rfl, rfl, rfl, ?_, by omega⟩) (fun h4 => Br.mk (fun h5 => wr_i64 (by omega) (by omega) ⟨rfl, rfl, rfl, rfl, ?_, by omega⟩) (fun h5 => wr_i64 (by omega) (by omega) ⟨rfl, rfl, rfl, rfl, ?_, by omega⟩))⟩⟩
     · rw [hT]; exact ⟨by omega, by omega, by rw [hnew, h4]; rfl⟩
     · rw [hT]; exact ⟨by omega, by omega, by rw [hnew, h4, h5]; rfl⟩
     · rw [hT]; exact ⟨by omega, by omega, by rw [hnew, h4, h5]; rfl⟩
   have h3 := of_decide_eq_false h3
   rw [List.take_of_length_le (by omega)] at t3
   have hgn : i64N g := ⟨by omega, by omega⟩
   have hig := itoa_len hgn
   have hgt : ((g.toNat : Nat) : Int) = g := by omega
   refine ⟨Br.mk (fun h4 => ?_) (fun h4 => ?_), fun l _ ll m hm => ?_⟩
   · have hmk : markT p g.toNat = lab g ++ [58, 10] := by rw [markT, <- t3, h4, if_pos rfl, hgt]
     refine ⟨by omega, by omega, by omega, (ct65 g hgn i).mono fun v s ls hv => ⟨_, hv, rfl, by simp, by rw [strT_size]; omega, by rw [strT_size]; omega, by rw [bytesV_strT]; simp [bv_len, strT_size] <;> omega, by rw [strT_size]; omega, by rw [strT_size]; omega, rfl, by rw [bytesV_strT]; simp [bv_len, strT_size] <;> omega, rfl, ?_⟩⟩
     rw [hM]
     refine ⟨g1, by omega, bs, ?_, g3⟩
     rw [hmk, bytesV_strT, lab];simp [bv]
   · have hmk : markT p g.toNat = [] := by rw [markT, <- t3, h4]; rfl
     refine ⟨rfl, rfl, rfl, ?_⟩;rw [hM]
     refine ⟨g1, by omega, bs, ?_, g3⟩
     rw [hmk, List.append_nil]
   rw [hM] at hm;obtain ⟨_, _, bs', rfl, m3⟩ := hm;obtain rfl : bs' = bs := List.append_cancel_right (m3.symm.trans g3);have hml := bv_len (bs' ++ markT p g.toNat);rw [List.length_append] at hml;have hil := hi.mono ll;obtain ⟨ins', q1', _, e0, e1, e2, e3, e4⟩ := hil.get g1 h2;obtain rfl : ins' = ins := Option.some.inj (q1'.symm.trans q1)
   have hs := SlR.isSome hil (by omega)
   have hwl : (strT (wordT ins'.op)).size = (wordT ins'.op).length := strT_size _;have e32 : bytesV ⟨#[32, 32]⟩ = bv [32, 32] := rfl
   refine ⟨g1, h2, hs, hs, _, e0, rfl, by omega, by omega, by omega, (ct7 ins'.op q2.op l).mono fun v s ls hv => ⟨_, hv, rfl, by rw [e32]; simp [bv_len] <;> omega, by omega, by omega, g1, h2, hs, hs, _, atI_le ls e0, (ct66 ins'.op q2.op s).mono fun v y ly hv => ⟨_, _, hv, g1, h2, hs, hs, _, atI_le ly (atI_le ls e1), g1, h2, hs, hs, _, atI_le ly (atI_le ls e2), g1, h2, hs, hs, _, atI_le ly (atI_le ls e3), ⟨rfl, rfl, by rw [e32, bytesV_strT]; simp [bv_len, strT_size] <;> omega, rfl, rfl, rfl, ?_⟩, fun I1 _ lI x1 n4 hR1 => ?_⟩⟩⟩
   · rw [hR]
     refine ⟨g1, by omega, Int.le_refl _, bs', ins', markT p g.toNat ++ [32, 32] ++ wordT ins'.op, q1, by omega, ?_, g3, rfl⟩
     rw [e32, bytesV_strT];simp [bv]
   rw [hR] at hR1;obtain ⟨_, _, u1, bs2, ins2, bt, w1, w2, rfl, w3, w4⟩ := hR1;obtain rfl : bs2 = bs' := List.append_cancel_right (w3.symm.trans g3);obtain rfl : ins2 = ins' := Option.some.inj (w1.symm.trans q1);have hxl := bv_len (bs2 ++ bt);rw [List.length_append] at hxl;have hw4 := congrArg List.length w4;simp only [List.length_append, List.length_cons, List.length_nil] at hw4;have hfl := (formL_mem ins2.op).2.1;refine Br.mk (fun h5 => ?_) (fun h5 => ?_)
   · have h5 := of_decide_eq_true h5
     rw [strT_size] at h5
     have hlt : n4.toNat < (formL ins2.op).length := by omega
     obtain ⟨L, hL⟩ : ∃ L, (formL ins2.op)[n4.toNat]? = some L := ⟨_, List.getElem?_eq_getElem hlt⟩
     have hdL : (formL ins2.op).drop n4.toNat = L :: (formL ins2.op).drop (n4 + 1).toNat := by
      rw [show (n4 + 1).toNat = n4.toNat + 1 by omega, List.drop_eq_getElem_cons hlt]
      congr 1
      rw [List.getElem?_eq_getElem hlt] at hL;exact Option.some.inj hL
     have hcn : ((formL ins2.op).take (n4 + 1).toNat).count 114 = ((formL ins2.op).take n4.toNat).count 114 + (if L = 114 then 1 else 0) := by
      rw [show (n4 + 1).toNat = n4.toNat + 1 by omega, List.take_add_one, hL, List.count_append]
      simp [List.count_cons]
     rw [hdL, operA] at w4;have hnn := itoa_len (n := ins2.n) q2.n
     have put : ∀ (o : Tx) (xs : List Value), xs = bv (bs2 ++ (bt ++ 32 :: o)) -> bt ++ flatO (o :: operA ((formL ins2.op).drop (n4 + 1).toNat) ins2 (((formL ins2.op).take (n4 + 1).toNat).count 114)) = markT p g.toNat ++ [32, 32] ++ wordT ins2.op ++ flatO (operands ins2) -> R g (n4 + 1) xs := fun o xs hxs ho => by
      rw [hR]
      refine ⟨g1, by omega, by omega, bs2, ins2, bt ++ 32 :: o, q1, by omega, hxs, g3, ?_⟩
      rw [<- ho, flat_cons]; simp
     refine ⟨by omega, by omega, by omega, L, hL, u1, Br.mk (fun h6 => ?_) (fun h6 => ⟨L, hL, u1, ?_⟩)⟩
     · have h6 : (L.toNat : Int) = 114 := by simpa using h6
       obtain rfl : L = 114 := UInt8.toNat_inj.1 (by show L.toNat = 114; omega)
       obtain ⟨f1, f2⟩ := form_regs ins2.op n4.toNat hL;rw [if_pos rfl, f1] at w4;rw [if_pos rfl, f1] at hcn
       have hr : 0 <= regAt ins2.a ins2.b ins2.c n4.toNat /\ regAt ins2.a ins2.b ins2.c n4.toNat < 8 := by
        have := q2.a; have := q2.b; have := q2.c
        unfold regAt
        split <;> omega
       refine ⟨u1, by omega, regAt ins2.a ins2.b ins2.c n4.toNat, ?_, wr_u8 (by omega) (by omega) ⟨by simp, by omega, by omega, wr_i64 (by omega) (by omega) ⟨rfl, rfl, by simp, rfl, rfl, rfl, put (114 :: Lib.itoa (regAt ins2.a ins2.b ins2.c n4.toNat)) _ ?_ ?_, by omega⟩⟩⟩
       · have hcs : n4 = 0 \/ n4 = 1 \/ n4 = 2 := by omega
         rcases hcs with rfl | rfl | rfl <;> rfl
       · have e := itoa_dig hr.1 hr.2
         have e1 : bv (bs2 ++ (bt ++ 32 :: 114 :: Lib.itoa (regAt ins2.a ins2.b ins2.c n4.toNat))) = bv (bs2 ++ bt) ++ ([.int .u8 32, .int .u8 114] ++ bv (Lib.itoa (regAt ins2.a ins2.b ins2.c n4.toNat))) := by simp [bv]
         rw [e1, e]; simp
       · rw [hcn, w4]
     · have h6 : L ≠ 114 := fun hh => by subst hh; cases h6
       rw [if_neg h6] at w4;rw [if_neg h6, Nat.add_zero] at hcn;refine Br.mk (fun h7 => ?_) (fun h7 => ?_)
       · have h7 : (L.toNat : Int) = 116 := by simpa using h7
         obtain rfl : L = 116 := UInt8.toNat_inj.1 (by show L.toNat = 116; omega)
         rw [if_pos rfl] at w4
         refine ⟨by simp, by omega, by omega, g1, h2, hs, hs, _, atI_le lI (atI_le ly (atI_le ls e4)), (ct65 ins2.n q2.n I1).mono fun v I2 l2 hv => ⟨_, hv, rfl, by simp, by rw [strT_size]; omega, by rw [strT_size]; omega, wr_i64 (by omega) (by omega) ⟨rfl, rfl, by rw [bytesV_strT]; simp [bv_len, strT_size] <;> omega, rfl, rfl, rfl, put (lab ins2.n) _ ?_ ?_, by omega⟩⟩⟩
         · rw [bytesV_strT, lab]; simp [bv]
         · rw [hcn, w4]
       · have h7 : L ≠ 116 := fun hh => by subst hh; cases h7
         rw [if_neg h7] at w4
         refine ⟨g1, h2, hs, hs, _, atI_le lI (atI_le ly (atI_le ls e4)), (ct65 ins2.n q2.n I1).mono fun v I2 l2 hv => ⟨_, hv, rfl, by simp, by rw [strT_size]; omega, by rw [strT_size]; omega, wr_i64 (by omega) (by omega) ⟨rfl, rfl, by rw [bytesV_strT]; simp [bv_len, strT_size] <;> omega, rfl, rfl, rfl, put (Lib.itoa ins2.n) _ ?_ ?_, by omega⟩⟩⟩
         · rw [bytesV_strT]; simp [bv]
         · rw [hcn, w4]
   · have h5 := of_decide_eq_false h5
     rw [strT_size] at h5
     rw [List.drop_eq_nil_of_le (by omega), operA, show flatO [] = [] from rfl, List.append_nil] at w4
     refine ⟨by omega, by omega, by omega, wr_i64 (by omega) (by omega) ⟨rfl, by simp, ?_, by omega⟩⟩
     rw [hN]
     refine ⟨by omega, by omega, bs2 ++ bt ++ [10], by rw [bv_app (bs2 ++ bt)]; rfl, ?_⟩
     rw [<- w4]; exact g4
 · have h2 := of_decide_eq_false h2
   rw [List.drop_eq_nil_of_le (by omega), outGo, List.append_nil] at g3
   refine ⟨bs, hbl.symm, by rw [List.take_length]; rfl, ?_⟩
   rw [hQ, g3]; rfl
theorem ct8 (op : Int) (ho : 0 <= op /\ op <= 255) (s : ByteArray) (p : List Ins) (a : Option Addr) (n c : Nat) (I : Mem) (hG : Globs I) (h : InsM I a n p) :
 Ct Tryz.prog (fnv 8) #[.int .u8 op, .string s, .slice a n c] I (fun v _ => v = .bool true) := by
 refine viaR (ct_via (A := { }) Tryz.func8 rfl Tryz.call8 rfl rfl) (Br (decide (300 < (s.size : Int))) (Rf (Value.bool true)) (Br (decide (300 < (n : Int))) (Rf (Value.bool true)) (Ct Tryz.prog (fnv 32) #[.string s] I (fun v b => ∃ d e, v = .tuple #[.int .u8 d, .bool e] /\ Ct Tryz.prog (fnv 33) #[.string s] b fun f g => ∃ i j, f = .tuple #[.int .u8 i, .bool j] /\ Ct Tryz.prog (fnv 34) #[.slice a n c] g fun k l => ∃ m o q, k = .slice m o q /\ Ct Tryz.prog (fnv 12) #[.slice m o q] l fun r t => ∃ u w, r = .tuple #[.string u, .int .i64 w] /\ Ct Tryz.prog (fnv 31) #[.slice a n c] t fun x y => ∃ z n1 c1, x = .slice z n1 c1 /\ Ct Tryz.prog (fnv 35) #[.slice z n1 c1] y fun v1 I1 => ∃ q1 n2, v1 = .tuple #[.string q1, .int .i64 n2] /\ Ct Tryz.prog (fnv 36) #[.int .u8 op] I1 fun v2 I2 => ∃ q2, v2 = .string q2 /\ Ct Tryz.prog (fnv 7) #[.int .u8 op] I2 fun v3 I3 => ∃ q3, v3 = .string q3 /\ Br (q2.toList == q3.toList) (Br (d == i) (Br (e == j) (Ct Tryz.prog (fnv 37) #[.string s] I3 (fun v4 I4 => ∃ b1, v4 = .bool b1 /\ Ct Tryz.prog (fnv 38) #[.string s] I4 fun v5 I5 => ∃ b2, v5 = .bool b2 /\ Br (b1 == b2) (Br (u.toList == q1.toList) (Br (w == n2) (Ct Tryz.prog (fnv 27) #[.slice m o q, .slice a n c] I5 (fun v6 I6 => ∃ b3, v6 = .bool b3 /\ Value.bool b3 = .bool true)) (Value.bool false = .bool true)) (Value.bool false = .bool true)) (Value.bool false = .bool true))) (Value.bool false = .bool true)) (Value.bool false = .bool true)) (Value.bool false = .bool true))))) (by kernel_rfl) ?_
 refine Br.mk (fun _ => rfl) (fun h1 => Br.mk (fun _ => rfl) (fun h2 => ?_));have h1 := of_decide_eq_false h1;have h2 := of_decide_eq_false h2
 refine (ct32 s I).mono fun v b lb hv => ⟨_, _, hv, (ct33 s b).mono fun v g lg hv => ⟨_, _, hv, (ct34 p a n c g (h.mono (Mem.le_trans lb lg)) (by omega)).mono fun v l ll hv => ?_⟩⟩
 obtain ⟨m, q, hv, hm⟩ := hv;have hl := h.mono (Mem.le_trans lb (Mem.le_trans lg ll))
 refine ⟨_, _, _, hv, (ct12 p m n q l (hG.mono (Mem.le_trans lb (Mem.le_trans lg ll))) hm).mono fun v t lt hv => ⟨_, _, hv, (ct31 p a n c t (hl.mono lt) (by omega)).mono fun v y ly hv => ?_⟩⟩
 obtain ⟨z, c1, hv, hz⟩ := hv
 refine ⟨_, _, _, hv, (ct35 p z n c1 y hz).mono fun v I1 l1 hv => ⟨_, _, hv, (ct36 op ho I1).mono fun v I2 l2 hv => ⟨_, hv, (ct7 op ho I2).mono fun v I3 l3 hv => ⟨_, hv, Br.t (by simp) (Br.t (by simp) (Br.t (by simp) ((ct37 s (by omega) I3).mono fun v I4 l4 hv => ⟨_, hv, (ct38 s (by omega) I4).mono fun v I5 l5 hv => ⟨_, hv, Br.t (by simp) (Br.t (by simp) (Br.t (by simp) ?_))⟩⟩)))⟩⟩⟩⟩
 have l6 := Mem.le_trans lt (Mem.le_trans ly (Mem.le_trans l1 (Mem.le_trans l2 (Mem.le_trans l3 (Mem.le_trans l4 l5)))))
 refine (ct27 p p m a n n q c I5 (hm.mono l6) (hl.mono l6)).mono fun v I6 l6 hv => ⟨_, hv, by simp⟩
def TsM (I : Mem) (v : Value) (l : List Tx) : Prop := ∃ a n c, v = .slice a n c /\ SlM I a n 1 (strs (l.map strT)) /\ n = l.length /\ n <= c /\ c <= maxLen
theorem ct87 (c : UInt8) (n : Int) (hc : n = c.toNat) (I : Mem) : Ct Tryz.prog (fnv 87) #[.int .u8 n] I (fun v _ => v = .bool (blankB c)) := by
 obtain ⟨Q, hQ⟩ : ∃ q : Value, q = .bool (blankB c) := ⟨_, rfl⟩;rw [<- hQ]
 refine viaR (ct_via (A := { }) Tryz.func87 rfl Tryz.call87 rfl rfl) (Br (n == 32) (Value.bool true = Q) (Value.bool (n == 9) = Q)) (by kernel_rfl) ?_
 have e : ∀ k : UInt8, ((c.toNat : Int) == (k.toNat : Int)) = decide (c = k) := fun k => by
  by_cases hh : c = k
  · subst hh; simp
  · have : ¬ (c.toNat : Int) = k.toNat := fun e => hh (UInt8.toNat_inj.1 (by omega))
    rw [decide_eq_false hh]; simpa using this
 have e1 := e 32;have e2 := e 9;subst hc
 rw [show (((c.toNat : Int) == 32)) = decide (c = 32) from e1, show (((c.toNat : Int) == 9)) = decide (c = 9) from e2, hQ, blankB]
 exact Br.mk (fun h => by rw [h]; rfl) (fun h => by rw [h]; rfl)
theorem ts_row {I : Mem} {a : Option Addr} {c : Nat} {l : List Tx} (h : RowM I a c 1 (strs (l.map strT))) : TsM I (.slice a l.length c) l := by
 have hlen : (strs (l.map strT)).length = l.length := by simp [strs]
 have hsl := h.sl (n := l.length) (by decide) (by rw [hlen, Nat.mul_one])
 obtain ⟨r1, r2, _⟩ := h;rw [hlen] at r1
 exact ⟨a, _, c, rfl, hsl, rfl, by omega, r2⟩
theorem ts_snoc (l : List Tx) (s : ByteArray) (i j : Nat) : strs (l.map strT) ++ [.string (s.extract i j)] = strs ((l ++ [((tx s).drop i).take (j - i)]).map strT) := by
 rw [<- tx_extract]; simp [strs]; rfl
theorem take_snoc {t : Tx} {k j : Nat} {c : UInt8} (hkj : k <= j) (h : t[j]? = some c) : (t.drop k).take (j + 1 - k) = (t.drop k).take (j - k) ++ [c] := by
 rw [show j + 1 - k = (j - k) + 1 by omega, List.take_add_one, List.getElem?_drop, show k + (j - k) = j by omega, h]; rfl
theorem drop_at {t : Tx} {j : Nat} {c : UInt8} (h : t[j]? = some c) : t.drop j = c :: t.drop (j + 1) := by
 obtain ⟨hlt, he⟩ := List.getElem?_eq_some_iff.1 h;rw [List.drop_eq_getElem_cons hlt, he]
theorem ct58 (s : ByteArray) (hs : s.size <= 100000) (I : Mem) : Ct Tryz.prog (fnv 58) #[.string s] I (fun v I' => TsM I' v (splitC 10 (tx s))) := by
 obtain ⟨Q, hQ⟩ : ∃ q : Value -> Mem -> Prop, q = fun v I' => TsM I' v (splitC 10 (tx s)) := ⟨_, rfl⟩
 obtain ⟨N, hN⟩ : ∃ f : Int -> Int -> List Value -> Prop, f = fun (k j : Int) xs => 0 <= k /\ k <= j /\ j <= s.size + 1 /\ ∃ l : List Tx, xs = strs (l.map strT) /\ l.length <= k /\
  ((j = s.size + 1 /\ l = splitC 10 (tx s)) \/ (j <= s.size /\ splitC 10 (tx s) = l ++ splitC 10 ((tx s).drop k.toNat) /\ (10 : UInt8) ∉ ((tx s).drop k.toNat).take (j - k).toNat)) := ⟨_, rfl⟩
 rw [<- hQ]
 refine viaR (ct_via (A := { loops := [(4, ⟨[(0, .keep), (3, .row 0), (4, .sh (.int .i64)), (5, .sh (.int .i64))], [(0, .row)], [(3, 1, 9)], fun vals xss _ _ => match vals, xss with | [.int .i64 k, .int .i64 j], [xs] => N k j xs | _, _ => False, fun vals _ => match vals with | [_, .int .i64 j] => (s.size + 1 - j).toNat | _ => 0⟩)] }) Tryz.func58 rfl Tryz.call58 rfl rfl) (let E1 := fun (x : Int) (a : Int) (b : List Value) => 0 <= x /\ x <= a /\ a <= (s.size : Int) /\ b.length = b.length * 1 /\ b.length + 1 <= 9223372036854775807 /\ (b.length + 1) * 16 <= 140737488355328 /\ Wr .i64 (a + 1) fun c => Wr .i64 (a + 1) fun d => Rf (SV.v (.string s)) /\ b.length + 1 = List.length (b ++ [.string (s.extract x.toNat a.toNat)]) /\ N c d (b ++ [.string (s.extract x.toNat a.toNat)]) /\ Int.toNat ((s.size : Int) + 1 - d) < Int.toNat ((s.size : Int) + 1 - a)
  (Rf (SV.v (.string s)) /\ (0 : Nat) = 0 /\ N 0 0 []) /\ ∀ (a : Mem), Mem -> I.le a -> ∀ (x : List Value) (n b : Int), N n b x -> Br (decide (b <= (s.size : Int))) (Br (b == (s.size : Int)) (E1 n b x) (∃ c, s.data.toList[b.toNat]? = some c /\ 0 <= b /\ Br ((c.toNat : Int) == 10) (E1 n b x) (Wr .i64 (b + 1) (fun d => Rf (SV.v (.string s)) /\ Rf x.length /\ N n d x /\ Int.toNat ((s.size : Int) + 1 - d) < Int.toNat ((s.size : Int) + 1 - b))))) (∀ (c : Option Addr) (d : Nat) (e : Mem), a.le e -> RowM e c d 1 x -> Q (.slice c x.length d) e)) (by kernel_rfl) ?_
 intro E1;have htl : (tx s).length = s.size := Array.length_toList;refine ⟨⟨rfl, rfl, ?_⟩, fun J _ lJ x k j hn => ?_⟩
 · rw [hN]; exact ⟨Int.le_refl _, Int.le_refl _, by omega, [], rfl, Int.le_refl _, .inr ⟨by omega, rfl, by simp⟩⟩
 rw [hN] at hn;obtain ⟨n1, n2, n3, l, rfl, n4, n5⟩ := hn
 have hxl : (strs (l.map strT)).length = l.length := by simp [strs]
 refine Br.mk (fun h1 => ?_) (fun h1 => ?_)
 · have h1 := of_decide_eq_true h1
   obtain ⟨_, n6, n7⟩ := n5.resolve_left (fun hh => by omega)
   have put : (j = s.size \/ (tx s)[j.toNat]? = some 10) -> E1 k j (strs (l.map strT)) := fun hc => by
    refine ⟨n1, n2, h1, by omega, by omega, by omega, wr_i64 (by omega) (by omega) (wr_i64 (by omega) (by omega) ⟨rfl, by simp, ?_, by omega⟩)⟩
    rw [hN]
    refine ⟨by omega, by omega, by omega, l ++ [((tx s).drop k.toNat).take (j.toNat - k.toNat)], ts_snoc l s _ _, by rw [List.length_append]; simp only [List.length_cons, List.length_nil]; omega, ?_⟩
    have ejk : (j - k).toNat = j.toNat - k.toNat := by omega
    rw [ejk] at n7
    by_cases hj : j = s.size
    · refine .inl ⟨by omega, ?_⟩
      rw [n6]
      have : ((tx s).drop k.toNat).take (j.toNat - k.toNat) = (tx s).drop k.toNat := List.take_of_length_le (by rw [List.length_drop]; omega)
      rw [this] at n7 ⊢;rw [split_free n7]
    · have hc := hc.resolve_left hj
      refine .inr ⟨by omega, ?_, by simp⟩
      have hdd : (tx s).drop k.toNat = ((tx s).drop k.toNat).take (j.toNat - k.toNat) ++ 10 :: (tx s).drop (j + 1).toNat := by
       conv => lhs; rw [<- List.take_append_drop (j.toNat - k.toNat) ((tx s).drop k.toNat)]
       rw [List.drop_drop, show k.toNat + (j.toNat - k.toNat) = j.toNat by omega, drop_at hc, show (j + 1).toNat = j.toNat + 1 by omega]
      rw [n6]
      conv => lhs; rw [hdd, split_app n7]
      simp
   refine Br.mk (fun h2 => put (.inl (by simpa using h2))) (fun h2 => ?_)
   have h2 : ¬ j = s.size := by simpa using h2
   obtain ⟨c, hc⟩ : ∃ c, (tx s)[j.toNat]? = some c := ⟨_, List.getElem?_eq_getElem (by omega)⟩
   refine ⟨c, hc, by omega, Br.mk (fun h3 => put (.inr ?_)) (fun h3 => wr_i64 (by omega) (by omega) ⟨rfl, rfl, ?_, by omega⟩)⟩
   · have h3 : (c.toNat : Int) = 10 := by simpa using h3
     rw [hc, show c = 10 from UInt8.toNat_inj.1 (by show c.toNat = 10; omega)]
   · have h3 : c ≠ 10 := fun hh => by subst hh; cases h3
     rw [hN]
     refine ⟨n1, by omega, by omega, l, rfl, n4, .inr ⟨by omega, n6, ?_⟩⟩
     rw [show (j + 1 - k).toNat = j.toNat + 1 - k.toNat by omega, take_snoc (by omega) hc]
     intro hm
     rcases List.mem_append.1 hm with hm | hm
     · exact n7 (by rw [show (j - k).toNat = j.toNat - k.toNat by omega]; exact hm)
     · simp only [List.mem_cons, List.not_mem_nil, or_false] at hm
       exact h3 hm.symm
 · have h1 := of_decide_eq_false h1
   obtain ⟨_, rfl⟩ := n5.resolve_right (fun hh => by omega)
   intro c d e le hrow;rw [hQ, hxl];exact ts_row hrow
theorem ct59 (s : ByteArray) (hs : s.size <= 100000) (I : Mem) : Ct Tryz.prog (fnv 59) #[.string s] I (fun v I' => TsM I' v (piecesT (tx s))) := by
 obtain ⟨Q, hQ⟩ : ∃ q : Value -> Mem -> Prop, q = fun v I' => TsM I' v (piecesT (tx s)) := ⟨_, rfl⟩
 obtain ⟨N, hN⟩ : ∃ f : Int -> Int -> List Value -> Prop, f = fun (k j : Int) xs => 0 <= k /\ k <= j /\ j <= s.size /\ ∃ l : List Tx, xs = strs (l.map strT) /\ l.length <= k /\
  piecesT (tx s) = l ++ fieldsGo (((tx s).drop k.toNat).take (j - k).toNat) (((tx s).drop j.toNat).takeWhile (· ≠ 59)) := ⟨_, rfl⟩
 rw [<- hQ]
 refine viaR (ct_via (A := { loops := [(4, ⟨[(0, .keep), (3, .row 0), (4, .sh (.int .i64)), (5, .sh (.int .i64))], [(0, .row)], [(3, 1, 9)], fun vals xss _ _ => match vals, xss with | [.int .i64 k, .int .i64 j], [xs] => N k j xs | _, _ => False, fun vals _ => match vals with | [_, .int .i64 j] => (s.size + 1 - j).toNat | _ => 0⟩)] }) Tryz.func59 rfl Tryz.call59 rfl rfl) (let E2 := fun (x : UInt8) (a : Mem) (b : List Value) (c : Int) (d : Int) => Br ((x.toNat : Int) == 59) (∀ (e : Option Addr) (f : Nat) (g : Mem), a.le g -> RowM g e f 1 b -> Q (.slice e b.length f) g) (Wr .i64 (c + 1) (fun e => Rf (SV.v (.string s)) /\ Rf b.length /\ N d e b /\ Int.toNat ((s.size : Int) + 1 - e) < Int.toNat ((s.size : Int) + 1 - c)))
  let E1 := fun (x : Int) (a : Int) (b : List Value) (c : UInt8) (d : Mem) => Br (decide (x < a)) (0 <= x /\ x <= a /\ a <= (s.size : Int) /\ b.length = b.length * 1 /\ b.length + 1 <= 9223372036854775807 /\ (b.length + 1) * 16 <= 140737488355328 /\ Wr .i64 (a + 1) fun e => Br ((c.toNat : Int) == 59) (∀ (f : Option Addr) (g : Nat) (h : Mem), d.le h -> RowM h f g 1 (b ++ [.string (s.extract x.toNat a.toNat)]) -> Q (.slice f (b.length + 1) g) h) (Wr .i64 (a + 1) (fun f => Rf (SV.v (.string s)) /\ b.length + 1 = List.length (b ++ [.string (s.extract x.toNat a.toNat)]) /\ N e f (b ++ [.string (s.extract x.toNat a.toNat)]) /\ Int.toNat ((s.size : Int) + 1 - f) < Int.toNat ((s.size : Int) + 1 - a)))) (Wr .i64 (a + 1) (fun e => E2 c d b a e))
  (Rf (SV.v (.string s)) /\ (0 : Nat) = 0 /\ N 0 0 []) /\ ∀ (a : Mem), Mem -> I.le a -> ∀ (x : List Value) (n b : Int), N n b x -> Br (decide (b <= (s.size : Int))) (Br (b == (s.size : Int)) (Br (decide (n < b)) (0 <= n /\ n <= b /\ b <= (s.size : Int) /\ x.length = x.length * 1 /\ x.length + 1 <= 9223372036854775807 /\ (x.length + 1) * 16 <= 140737488355328 /\ Wr .i64 (b + 1) fun c => ∀ (d : Option Addr) (e : Nat) (f : Mem), a.le f -> RowM f d e 1 (x ++ [.string (s.extract n.toNat b.toNat)]) -> Q (.slice d (x.length + 1) e) f) (Wr .i64 (b + 1) (fun c => ∀ (d : Option Addr) (e : Nat) (f : Mem), a.le f -> RowM f d e 1 x -> Q (.slice d x.length e) f))) (∃ c, s.data.toList[b.toNat]? = some c /\ 0 <= b /\ Br ((c.toNat : Int) == 59) (E1 n b x c a) (∃ d, s.data.toList[b.toNat]? = some d /\ 0 <= b /\ Ct Tryz.prog (fnv 87) #[.int .u8 (d.toNat : Int)] a fun v e => ∃ f, v = .bool f /\ Br f (E1 n b x c e) (E2 c e x b n)))) (∀ (c : Option Addr) (d : Nat) (e : Mem), a.le e -> RowM e c d 1 x -> Q (.slice c x.length d) e)) (by kernel_rfl) ?_
 intro E2 E1;have htl : (tx s).length = s.size := Array.length_toList;refine ⟨⟨rfl, rfl, ?_⟩, fun J _ lJ x k j hn => ?_⟩
 · rw [hN]; exact ⟨Int.le_refl _, Int.le_refl _, by omega, [], rfl, Int.le_refl _, rfl⟩
 rw [hN] at hn;obtain ⟨n1, n2, n3, l, rfl, n4, n5⟩ := hn
 have hxl : (strs (l.map strT)).length = l.length := by simp [strs]
 have ejk : (j - k).toNat = j.toNat - k.toNat := by omega
 rw [ejk] at n5;obtain ⟨acc, hacc⟩ : ∃ acc, acc = ((tx s).drop k.toNat).take (j.toNat - k.toNat) := ⟨_, rfl⟩;rw [<- hacc] at n5
 have hal : acc.length = j.toNat - k.toNat := by rw [hacc, List.length_take, List.length_drop]; omega
 have done0 : k = j -> (∀ r, piecesT (tx s) = l ++ fieldsGo acc r -> r = [] -> piecesT (tx s) = l) := fun hk r hr h0 => by
  rw [hr, h0, fieldsGo, if_pos (List.length_eq_zero_iff.1 (by omega)), List.append_nil]
 have done1 : k < j -> (∀ r, piecesT (tx s) = l ++ fieldsGo acc r -> r = [] -> piecesT (tx s) = l ++ [acc]) := fun hk r hr h0 => by
  rw [hr, h0, fieldsGo, if_neg (fun hh => by rw [hh] at hal; simp at hal; omega)]
 have q0 : piecesT (tx s) = l -> ∀ (c : Option Addr) (d : Nat) (e : Mem), RowM e c d 1 (strs (l.map strT)) -> Q (.slice c (strs (l.map strT)).length d) e := fun hp c d e hrow => by
  rw [hQ, hxl, hp]; exact ts_row hrow
 have q1 : piecesT (tx s) = l ++ [acc] -> ∀ (c : Option Addr) (d : Nat) (e : Mem), RowM e c d 1 (strs (l.map strT) ++ [.string (s.extract k.toNat j.toNat)]) -> Q (.slice c ((strs (l.map strT)).length + 1) d) e := fun hp c d e hrow => by
  rw [ts_snoc, <- hacc] at hrow;have := ts_row hrow;rw [hQ, hxl, hp];rw [List.length_append] at this;exact this
 refine Br.mk (fun h1 => ?_) (fun h1 => absurd n3 (by have := of_decide_eq_false h1; omega))
 have h1 := of_decide_eq_true h1;refine Br.mk (fun h2 => ?_) (fun h2 => ?_)
 · have h2 : j = s.size := by simpa using h2
   have hd : ((tx s).drop j.toNat).takeWhile (· ≠ 59) = [] := by rw [List.drop_eq_nil_of_le (by omega)]; rfl
   refine Br.mk (fun h3 => ?_) (fun h3 => ?_)
   · have h3 := of_decide_eq_true h3
     exact ⟨n1, n2, h1, by omega, by omega, by omega, wr_i64 (by omega) (by omega) fun c d e le hrow => q1 (done1 h3 _ n5 hd) c d e hrow⟩
   · have h3 := of_decide_eq_false h3
     exact wr_i64 (by omega) (by omega) fun c d e le hrow => q0 (done0 (by omega) _ n5 hd) c d e hrow
 have h2 : ¬ j = s.size := by simpa using h2
 obtain ⟨c, hc⟩ : ∃ c, (tx s)[j.toNat]? = some c := ⟨_, List.getElem?_eq_getElem (by omega)⟩
 have hdc := drop_at hc
 have ejs : (j + 1).toNat = j.toNat + 1 := by omega
 have end59 : c = 59 -> ((tx s).drop j.toNat).takeWhile (· ≠ 59) = [] := fun hh => by rw [hdc, List.takeWhile_cons, hh]; rfl
 have go59 : c ≠ 59 -> ((tx s).drop j.toNat).takeWhile (· ≠ 59) = c :: ((tx s).drop (j + 1).toNat).takeWhile (· ≠ 59) := fun hh => by rw [hdc, List.takeWhile_cons, if_pos (by simpa using hh), ejs]
 have b59 : ((c.toNat : Int) == 59) = decide (c = 59) := by
  by_cases hh : c = 59
  · subst hh; rfl
  · have : ¬ (c.toNat : Int) = 59 := fun e => hh (UInt8.toNat_inj.1 (by show c.toNat = 59; omega))
    rw [decide_eq_false hh]; simpa using this
 have e1 : (c = 59 \/ blankB c = true) -> ∀ e, E1 k j (strs (l.map strT)) c e := fun hcc e => by
  refine Br.mk (fun h3 => ?_) (fun h3 => wr_i64 (by omega) (by omega) ?_)
  · have h3 := of_decide_eq_true h3
    refine ⟨n1, n2, h1, by omega, by omega, by omega, wr_i64 (by omega) (by omega) ?_⟩
    rw [b59]
    refine Br.mk (fun h4 => fun f g h le hrow => q1 (done1 h3 _ n5 (end59 (of_decide_eq_true h4))) f g h hrow) (fun h4 => wr_i64 (by omega) (by omega) ⟨rfl, by simp, ?_, by omega⟩)
    have h4 := of_decide_eq_false h4;rw [hN]
    refine ⟨by omega, by omega, by omega, l ++ [acc], by rw [ts_snoc, <- hacc], by rw [List.length_append]; simp only [List.length_cons, List.length_nil]; omega, ?_⟩
    rw [n5, go59 h4, fieldsGo, if_pos (hcc.resolve_left h4), if_neg (fun hh => by rw [hh] at hal; simp at hal; omega)]
    simp
  · have h3 := of_decide_eq_false h3
    have hkj : k = j := by omega
    show Br ((c.toNat : Int) == 59) _ _
    rw [b59]
    refine Br.mk (fun h4 => fun f g h le hrow => q0 (done0 hkj _ n5 (end59 (of_decide_eq_true h4))) f g h hrow) (fun h4 => wr_i64 (by omega) (by omega) ⟨rfl, rfl, ?_, by omega⟩)
    have h4 := of_decide_eq_false h4;rw [hN]
    refine ⟨by omega, by omega, by omega, l, rfl, by omega, ?_⟩
    rw [n5, go59 h4, fieldsGo, if_pos (hcc.resolve_left h4), if_pos (List.length_eq_zero_iff.1 (by omega))]
    simp
 refine ⟨c, hc, by omega, ?_⟩
 rw [b59]
 refine Br.mk (fun h3 => e1 (.inl (of_decide_eq_true h3)) _) (fun h3 => ⟨c, hc, by omega, (ct87 c _ rfl J).mono fun v e le hv => ⟨_, hv, Br.mk (fun h4 => e1 (.inr h4) _) (fun h4 => ?_)⟩⟩)
 have h3 := of_decide_eq_false h3
 show Br ((c.toNat : Int) == 59) _ _
 rw [b59]
 refine Br.f (decide_eq_false h3) (wr_i64 (by omega) (by omega) ⟨rfl, rfl, ?_, by omega⟩)
 rw [hN]
 refine ⟨n1, by omega, by omega, l, rfl, n4, ?_⟩
 rw [show (j + 1 - k).toNat = j.toNat + 1 - k.toNat by omega, take_snoc (by omega) hc, <- hacc, n5, go59 h3, fieldsGo, if_neg (by rw [h4]; decide)]
theorem ct30 (p q : List Ins) (a b : Option Addr) (n m c d : Nat) (I : Mem) (h : InsM I a n p) (h' : InsM I b m q) : Ct Tryz.prog (fnv 30) #[.slice a n c, .slice b m d] I (fun v _ => v = .bool (decide (p = q))) := by
 obtain ⟨Q, hQ⟩ : ∃ w : Bool, w = decide (p = q) := ⟨_, rfl⟩;obtain ⟨N, hN⟩ : ∃ f : Int -> Prop, f = fun j : Int => 0 <= j /\ j <= n /\ n = m /\ p.take j.toNat = q.take j.toNat := ⟨_, rfl⟩;rw [<- hQ]
 refine viaR (ct_via (A := { loops := [(4, ⟨[(0, .keep), (1, .keep), (5, .sh (.int .i64))], [], [], fun vals _ _ _ => match vals with | [.int .i64 j] => N j | _ => False, fun vals _ => match vals with | [.int .i64 j] => (n - j).toNat | _ => 0⟩)] }) Tryz.func30 rfl Tryz.call30 rfl rfl) (Br ((n : Int) != (m : Int)) (Value.bool false = .bool Q) ((Rf (SV.v (.slice a n c)) /\ Rf (SV.v (.slice b m d)) /\ N 0) /\ ∀ (e : Mem), Mem -> I.le e -> ∀ (f : Int), N f -> Br (decide (f < (n : Int))) (0 <= f /\ f < (n : Int) /\ a.isSome = true /\ (5 : Nat) = 5 /\ ∃ g, atI e a (f.toNat * 5 + 0) = some (.int .u8 g) /\ ∃ i, atI e a (f.toNat * 5 + 1) = some (.int .u8 i) /\ ∃ j, atI e a (f.toNat * 5 + 2) = some (.int .u8 j) /\ ∃ k, atI e a (f.toNat * 5 + 3) = some (.int .u8 k) /\ ∃ l, atI e a (f.toNat * 5 + 4) = some (.int .i64 l) /\ 0 <= f /\ f < (m : Int) /\ b.isSome = true /\ (5 : Nat) = 5 /\ ∃ o, atI e b (f.toNat * 5 + 0) = some (.int .u8 o) /\ ∃ r, atI e b (f.toNat * 5 + 1) = some (.int .u8 r) /\ ∃ s, atI e b (f.toNat * 5 + 2) = some (.int .u8 s) /\ ∃ t, atI e b (f.toNat * 5 + 3) = some (.int .u8 t) /\ ∃ u, atI e b (f.toNat * 5 + 4) = some (.int .i64 u) /\ Br (!(g == o && (i == r && (j == s && (k == t && (l == u && true)))))) (Value.bool false = .bool Q) (Wr .i64 (f + 1) (fun v => Rf (SV.v (.slice a n c)) /\ Rf (SV.v (.slice b m d)) /\ N v /\ Int.toNat ((n : Int) - v) < Int.toNat ((n : Int) - f)))) (Value.bool true = .bool Q))) (by kernel_rfl) ?_
 have hl := h.len;have hl' := h'.len;have hmx : n <= maxLen := SlR.max h
 have hmx2 : maxLen <= 9223372036854775807 := by decide
 refine Br.mk (fun h1 => ?_) (fun h1 => ⟨⟨rfl, rfl, by rw [hN]; exact ⟨by omega, by omega, Int.natCast_inj.1 (by simpa using h1), rfl⟩⟩, fun e G le f hf => ?_⟩)
 · rw [hQ, decide_eq_false]
   rintro rfl;have : n = m := hl.symm.trans hl';subst this;simp at h1
 rw [hN] at hf ⊢;obtain ⟨h2, h3, h4, h5⟩ := hf;refine Br.mk (fun h6 => ?_) (fun h6 => ?_)
 · have h6 := of_decide_eq_true h6
   obtain ⟨i, g1, g2, e0, e1, e2, e3, e4⟩ := (h.mono le).get h2 h6
   obtain ⟨j, k1, k2, d0, d1, d2, d3, d4⟩ := (h'.mono le).get h2 (by omega)
   have t1 : p.take (f + 1).toNat = p.take f.toNat ++ [i] := by rw [show (f + 1).toNat = f.toNat + 1 by omega, List.take_add_one, g1]; rfl
   have t2 : q.take (f + 1).toNat = q.take f.toNat ++ [j] := by rw [show (f + 1).toNat = f.toNat + 1 by omega, List.take_add_one, k1]; rfl
   refine ⟨h2, h6, SlR.isSome (h.mono le) (by omega), rfl, _, e0, _, e1, _, e2, _, e3, _, e4, h2, by omega, SlR.isSome (h'.mono le) (by omega), rfl, _, d0, _, d1, _, d2, _, d3, _, d4, Br.mk (fun h7 => ?_) (fun h7 => ?_)⟩
   · rw [hQ, decide_eq_false]
     rintro rfl;rw [g1] at k1;cases k1;simp at h7
   · have hij : i = j := by
      obtain ⟨o, a1, b1, c1, n1⟩ := i;obtain ⟨o2, a2, b2, c2, n2⟩ := j;simp only [Bool.not_eq_false', Bool.and_eq_true, beq_iff_eq, and_true] at h7;obtain ⟨rfl, rfl, rfl, rfl, rfl⟩ := h7;rfl
     exact wr_i64 (by omega) (by omega) ⟨rfl, rfl, ⟨by omega, by omega, h4, by rw [t1, t2, h5, hij]⟩, by omega⟩
 · have h6 := of_decide_eq_false h6
   rw [List.take_of_length_le (by omega), List.take_of_length_le (by omega)] at h5
   rw [hQ, decide_eq_true h5]
def numR (t : Tx) : Int × Bool := match numT t with
 | some n => (n, true)
 | none => (0, false)
def digN (l : Tx) : Nat := l.foldl (fun a c => a * 10 + (c.toNat - 48)) 0
def atN (t : Tx) : Nat := if t.head? = some 45 then 1 else 0
theorem digN_snoc (l : Tx) (c : UInt8) : digN (l ++ [c]) = digN l * 10 + (c.toNat - 48) := by rw [digN, List.foldl_append]; rfl
theorem dig_grow : ∀ (b : Tx) (a : Nat), a <= b.foldl (fun a c => a * 10 + (c.toNat - 48)) a
 | [], a => Nat.le_refl a
 | c :: b, a => Nat.le_trans (by omega) (dig_grow b (a * 10 + (c.toNat - 48)))
theorem dig_take (l : Tx) (k : Nat) : digN (l.take k) <= digN l := by
 conv => rhs; rw [<- List.take_append_drop k l]
 rw [digN, digN, List.foldl_append];exact dig_grow _ _
theorem digN_dec (u : Nat) : digN (Lib.decDigits u) = u := by
 induction u using Nat.strongRecOn with
 | _ u ih =>
   rw [Lib.decDigits]
   by_cases h : u < 10
   · rw [dif_pos h]
     show 0 * 10 + ((UInt8.ofNat (48 + u)).toNat - 48) = u
     rw [UInt8.toNat_ofNat']; omega
   · rw [dif_neg h, digN_snoc, ih (u / 10) (by omega), UInt8.toNat_ofNat']; omega
theorem dec_digN (n : Nat) : ∀ t : Tx, t.length = n -> t ≠ [] -> (∀ c ∈ t, 48 <= c.toNat /\ c.toNat <= 57) -> (t.head? = some 48 -> t.length = 1) -> Lib.decDigits (digN t) = t := by
 induction n with
 | zero => intro t h0 h1; exact absurd (List.length_eq_zero_iff.1 h0) h1
 | succ n ih =>
   intro t h0 h1 h2 h3;obtain ⟨r, c, rfl⟩ : ∃ r c, t = r ++ [c] := ⟨t.dropLast, t.getLast h1, (List.dropLast_concat_getLast h1).symm⟩
   have hc := h2 c (by simp)
   have hlen : r.length = n := by rw [List.length_append] at h0; simpa using h0
   have hco : UInt8.ofNat c.toNat = c := UInt8.ofNat_toNat;rw [digN_snoc]
   cases r with
   | nil =>
     have e : digN [] = 0 := rfl
     rw [e, Lib.decDigits, dif_pos (by omega), show 48 + (0 * 10 + (c.toNat - 48)) = c.toNat by omega, hco]; rfl
   | cons x r =>
     have hx : x ≠ 48 := fun hh => by
      subst hh;have := h3 rfl;simp only [List.length_append, List.length_cons, List.length_nil] at this;omega
     have i := ih (x :: r) hlen (by simp) (fun y hy => h2 y (List.mem_append_left _ hy)) (fun hh => by
      simp only [List.head?_cons, Option.some.injEq] at hh;exact absurd hh hx)
     have hpos : digN (x :: r) ≠ 0 := fun hh => by
      rw [hh, Lib.decDigits, dif_pos (by decide)] at i
      have := (List.cons.inj i).1;exact hx this.symm
     rw [Lib.decDigits, dif_neg (by omega), show (digN (x :: r) * 10 + (c.toNat - 48)) / 10 = digN (x :: r) by omega, i, show (digN (x :: r) * 10 + (c.toNat - 48)) % 10 = c.toNat - 48 by omega, show 48 + (c.toNat - 48) = c.toNat by omega, hco]
theorem dec_head {u : Nat} (h : (Lib.decDigits u).head? = some 48) : u = 0 := by
 induction u using Nat.strongRecOn with
 | _ u ih =>
   rw [Lib.decDigits] at h
   by_cases hu : u < 10
   · rw [dif_pos hu] at h
     simp only [List.head?_cons, Option.some.injEq] at h;have := congrArg UInt8.toNat h;rw [UInt8.toNat_ofNat'] at this;have e : (48 : UInt8).toNat = 48 := rfl;omega
   · rw [dif_neg hu] at h
     have hne := (dec_digits (u / 10)).1
     cases hq : Lib.decDigits (u / 10) with
     | nil => exact absurd hq hne
     | cons c r =>
       rw [hq] at h
       have := ih (u / 10) (by omega) (by rw [hq]; exact h)
       omega
theorem num_shape {t : Tx} {v : Int} (h : numT t = some v) : i64N v /\ t.drop (atN t) = Lib.decDigits v.natAbs /\ (atN t = 0 ↔ 0 <= v) := by
 have hit : Lib.itoa v = t := by
  unfold numT at h
  split at h
  · split at h
    · rename_i hh; simp only [Option.some.injEq] at h; rw [<- h]; exact hh
    · cases h
  · cases h
 refine ⟨numT_rng h, ?_⟩;rw [<- hit, Lib.itoa]
 by_cases hv : v < 0
 · rw [if_pos hv]
   refine ⟨rfl, ?_⟩
   rw [show atN (45 :: Lib.decDigits v.natAbs) = 1 from rfl]
   omega
 · rw [if_neg hv]
   have ha : atN (Lib.decDigits v.toNat) = 0 := by
    rw [atN, if_neg];intro hh;obtain ⟨hne, hd⟩ := dec_digits v.toNat
    cases hq : Lib.decDigits v.toNat with
    | nil => exact hne hq
    | cons c r =>
      rw [hq] at hh hd;simp only [List.head?_cons, Option.some.injEq] at hh
      have := hd c (by simp)
      rw [hh] at this
      exact absurd this.1 (by decide)
   rw [ha]
   refine ⟨by rw [List.drop_zero, show v.toNat = v.natAbs by omega], ?_⟩
   omega
theorem num_ok {t : Tx} {w : Nat} (hw : w = digN (t.drop (atN t))) (h1 : t.drop (atN t) ≠ []) (h2 : ∀ c ∈ t.drop (atN t), 48 <= c.toNat /\ c.toNat <= 57) (h3 : (t.drop (atN t)).head? = some 48 -> t.length = 1) (h4 : w <= 9223372036854775808) :
 (atN t = 0 -> w ≠ 9223372036854775808 -> numT t = some (w : Int)) /\ (atN t = 1 -> numT t = some (-(w : Int))) := by
 have e := dec_digN _ _ rfl h1 h2 (fun hh => by
  have h5 := h3 hh;have h6 : (t.drop (atN t)).length ≠ 0 := fun h => h1 (List.length_eq_zero_iff.1 h)
  rw [List.length_drop] at h6 ⊢; omega)
 rw [<- hw] at e;refine ⟨fun ha hn => ?_, fun ha => ?_⟩
 · rw [ha, List.drop_zero] at e
   have hi : Lib.itoa (w : Int) = t := by rw [Lib.itoa, if_neg (by omega), Int.toNat_natCast, e]
   rw [<- hi]
   exact num_itoa ⟨by omega, by omega⟩
 · have hh : t.head? = some 45 := by
    unfold atN at ha
    split at ha
    · assumption
    · cases ha
   rw [ha] at e h1 h3
   obtain ⟨r, rfl⟩ : ∃ r, t = 45 :: r := by
    cases t with
    | nil => cases hh
    | cons c r => exact ⟨r, by simp only [List.head?_cons, Option.some.injEq] at hh; rw [hh]⟩
   simp only [List.drop_succ_cons, List.drop_zero] at e h1 h3
   have hw0 : w ≠ 0 := fun h0 => by
    rw [h0, Lib.decDigits, dif_pos (by decide)] at e
    rw [<- e] at h3;have := h3 rfl;simp at this
   have hi : Lib.itoa (-(w : Int)) = 45 :: r := by rw [Lib.itoa, if_pos (by omega), show (-(w : Int)).natAbs = w by omega, e]
   rw [<- hi]
   exact num_itoa ⟨by omega, by omega⟩
theorem ct111 (s : ByteArray) (hs : s.size <= 100000) (I : Mem) : Ct Tryz.prog (fnv 111) #[.string s] I (fun v _ => v = .tuple #[.int .i64 (numR (tx s)).1, .bool (numR (tx s)).2]) := by
 obtain ⟨Q, hQ⟩ : ∃ q : Value, q = .tuple #[.int .i64 (numR (tx s)).1, .bool (numR (tx s)).2] := ⟨_, rfl⟩;obtain ⟨M, hM⟩ : ∃ f : Int -> Prop, f = fun (j : Int) => j = (atN (tx s) : Nat) := ⟨_, rfl⟩;obtain ⟨N, hN⟩ : ∃ f : Int -> Int -> Int -> Prop, f = fun (k n j : Int) => k = (atN (tx s) : Nat) /\ k <= j /\ j <= s.size /\ n = - (digN (((tx s).drop k.toNat).take (j - k).toNat) : Nat) /\ -9223372036854775808 <= n /\ ∀ c ∈ ((tx s).drop k.toNat).take (j - k).toNat, 48 <= c.toNat /\ c.toNat <= 57 := ⟨_, rfl⟩;rw [<- hQ]
 refine viaR (ct_via (A := { cuts := [(4, ⟨[(0, .keep), (4, .sh (.int .i64))], [], [], fun vals _ _ _ => match vals with | [.int .i64 j] => M j | _ => False, fun _ _ => 0⟩)], loops := [(8, ⟨[(0, .keep), (4, .kv), (5, .sh (.int .i64)), (6, .sh (.int .i64))], [], [], fun vals _ _ _ => match vals with | [.int .i64 k, .int .i64 n, .int .i64 j] => N k n j | _ => False, fun vals _ => match vals with | [_, _, .int .i64 j] => (s.size - j).toNat | _ => 0⟩)] }) Tryz.func111 rfl Tryz.call111 rfl rfl) (let E1 := fun (x : Int) (a : Mem) => (Rf (SV.v (.string s)) /\ Rf (SV.v (.int .i64 x)) /\ N x 0 x) /\ ∀ (b : Mem), Mem -> a.le b -> ∀ (n c : Int), N x n c -> Br (decide (c < (s.size : Int))) (∃ d, s.data.toList[c.toNat]? = some d /\ 0 <= c /\ Br (decide ((d.toNat : Int) < 48)) (Value.tuple #[.int .i64 0, .bool false] = Q) (∃ e, s.data.toList[c.toNat]? = some e /\ 0 <= c /\ Br (decide (57 < (e.toNat : Int))) (Value.tuple #[.int .i64 0, .bool false] = Q) (∃ f, s.data.toList[c.toNat]? = some f /\ 0 <= c /\ Wr .i64 (f.toNat : Int) fun g => Wr .i64 (g - 48) fun h => Wr .i64 (-9223372036854775808 + h) fun i => (10 : Int) ≠ 0 /\ Wr .i64 (i.tdiv 10) fun j => Br (decide (n < j)) (Value.tuple #[.int .i64 0, .bool false] = Q) (Wr .i64 (10 * n) (fun k => Wr .i64 (k - h) fun l => Wr .i64 (c + 1) fun m => Rf (SV.v (.string s)) /\ Rf (SV.v (.int .i64 x)) /\ N x l m /\ Int.toNat ((s.size : Int) - m) < Int.toNat ((s.size : Int) - c)))))) (Br (x == 0) (Br (n == -9223372036854775808) (Value.tuple #[.int .i64 0, .bool false] = Q) (Br (x == 0) (Wr .i64 (0 - n) (fun d => Value.tuple #[.int .i64 d, .bool true] = Q)) (Value.tuple #[.int .i64 n, .bool true] = Q))) (Br (x == 0) (Wr .i64 (0 - n) (fun d => Value.tuple #[.int .i64 d, .bool true] = Q)) (Value.tuple #[.int .i64 n, .bool true] = Q)))
  Br (decide (0 < (s.size : Int))) (∃ c, s.data.toList[0]? = some c /\ (0 : Int) <= 0 /\ Br ((c.toNat : Int) == 45) (Rf (SV.v (.string s)) /\ M 1) (Rf (SV.v (.string s)) /\ M 0)) (Rf (SV.v (.string s)) /\ M 0) /\ ∀ (a : Mem), Mem -> I.le a -> ∀ (n : Int), M n -> Br ((s.size : Int) == n) (Value.tuple #[.int .i64 0, .bool false] = Q) (∃ c, s.data.toList[n.toNat]? = some c /\ 0 <= n /\ Br ((c.toNat : Int) == 48) (Br (decide (1 < (s.size : Int))) (Value.tuple #[.int .i64 0, .bool false] = Q) (E1 n a)) (E1 n a))) (by kernel_rfl) ?_
 intro E1;have htl : (tx s).length = s.size := Array.length_toList
 have ha : atN (tx s) = 0 \/ atN (tx s) = 1 := by unfold atN; split <;> simp
 have bad : (∀ v, numT (tx s) = some v -> False) -> Value.tuple #[.int .i64 0, .bool false] = Q := fun hh => by
  rw [hQ, numR]
  cases hq : numT (tx s) with
  | none => rfl
  | some v => exact (hh v hq).elim
 have good : ∀ v, numT (tx s) = some v -> Value.tuple #[.int .i64 v, .bool true] = Q := fun v hh => by rw [hQ, numR, hh]
 have hhd : (tx s).head? = s.data.toList[0]? := by rw [List.head?_eq_getElem?]; rfl
 refine ⟨Br.mk (fun h1 => ?_) (fun h1 => ⟨rfl, ?_⟩), fun J _ lJ k hk => ?_⟩
 · have h1 := of_decide_eq_true h1
   obtain ⟨c, hc⟩ : ∃ c, s.data.toList[0]? = some c := ⟨_, List.getElem?_eq_getElem (by show 0 < (tx s).length; omega)⟩
   refine ⟨c, hc, Int.le_refl _, Br.mk (fun h2 => ⟨rfl, ?_⟩) (fun h2 => ⟨rfl, ?_⟩)⟩
   · have h2 : (c.toNat : Int) = 45 := by simpa using h2
     rw [hM, atN, hhd, hc, if_pos (by rw [show c = 45 from UInt8.toNat_inj.1 (by show c.toNat = 45; omega)])]; rfl
   · have h2 : c ≠ 45 := fun hh => by subst hh; cases h2
     rw [hM, atN, hhd, hc, if_neg (by simpa using h2)]; rfl
 · have h1 := of_decide_eq_false h1
   have : tx s = [] := List.length_eq_zero_iff.1 (by omega)
   rw [hM, this]; rfl
 rw [hM] at hk;subst hk
 have hdl : ((tx s).drop (atN (tx s))).length = s.size - atN (tx s) := by rw [List.length_drop, htl]
 refine Br.mk (fun h1 => bad fun v hv => ?_) (fun h1 => ?_)
 · have h0 : (s.size : Int) = (atN (tx s) : Nat) := by simpa using h1
   have h1 : s.size = atN (tx s) := by omega
   obtain ⟨_, e, _⟩ := num_shape hv;rw [h1, Nat.sub_self] at hdl;rw [List.length_eq_zero_iff.1 hdl] at e;exact (dec_digits _).1 e.symm
 have h1 : s.size ≠ atN (tx s) := fun hh => by rw [hh] at h1; simp at h1
 have hge : atN (tx s) <= s.size := by
  rcases ha with ha | ha
  · omega
  · unfold atN at ha ⊢
    split at ha
    · rename_i hh
      rw [if_pos hh]
      cases hq : tx s with
      | nil => rw [hq] at hh; cases hh
      | cons c r => rw [hq] at htl; simp at htl; omega
    · cases ha
 obtain ⟨c, hc⟩ : ∃ c, (tx s)[atN (tx s)]? = some c := ⟨_, List.getElem?_eq_getElem (by omega)⟩
 have hdh : ((tx s).drop (atN (tx s))).head? = some c := by rw [List.head?_drop, hc]
 have main : (c = 48 -> ¬ 1 < s.size) -> ∀ K, E1 (atN (tx s) : Nat) K := fun hlead K => by
  refine ⟨⟨rfl, rfl, ?_⟩, fun b _ lb n j hn => ?_⟩
  · rw [hN]; exact ⟨rfl, Int.le_refl _, by omega, by simp [digN], by omega, by simp⟩
  rw [hN] at hn;obtain ⟨_, n1, n2, n3, n4, n5⟩ := hn;rw [Int.toNat_natCast] at n3 n5;obtain ⟨D, hD⟩ : ∃ D, D = (tx s).drop (atN (tx s)) := ⟨_, rfl⟩;rw [<- hD] at n3 n5 hdl hdh;obtain ⟨m, hm⟩ : ∃ m, m = (j - (atN (tx s) : Nat)).toNat := ⟨_, rfl⟩;rw [<- hm] at n3 n5;refine Br.mk (fun h2 => ?_) (fun h2 => ?_)
  · have h2 := of_decide_eq_true h2
    have hml : m < D.length := by omega
    obtain ⟨d, hd⟩ : ∃ d, D[m]? = some d := ⟨_, List.getElem?_eq_getElem hml⟩
    have hd2 : s.data.toList[j.toNat]? = some d := by
     show (tx s)[j.toNat]? = _
     rw [hD, List.getElem?_drop, show atN (tx s) + m = j.toNat by omega] at hd
     exact hd
    have htk : D.take (m + 1) = D.take m ++ [d] := by rw [List.take_add_one, hd]; rfl
    have nod : ¬ (48 <= d.toNat /\ d.toNat <= 57) -> Value.tuple #[.int .i64 0, .bool false] = Q := fun hh => bad fun v hv => by
     obtain ⟨_, e, _⟩ := num_shape hv;rw [<- hD] at e
     have := (dec_digits v.natAbs).2 d (by rw [<- e]; exact List.mem_of_getElem? hd)
     exact hh this
    refine ⟨d, hd2, by omega, Br.mk (fun h3 => nod (by have := of_decide_eq_true h3; omega)) (fun h3 => ⟨d, hd2, by omega, Br.mk (fun h4 => nod (by have := of_decide_eq_true h4; omega)) (fun h4 => ⟨d, hd2, by omega, ?_⟩)⟩)⟩
    have h3 := of_decide_eq_false h3;have h4 := of_decide_eq_false h4
    have et : (-9223372036854775808 + ((d.toNat : Int) - 48)).tdiv 10 = -((9223372036854775808 - ((d.toNat : Int) - 48)) / 10) := by
     rw [show -9223372036854775808 + ((d.toNat : Int) - 48) = -(9223372036854775808 - ((d.toNat : Int) - 48)) by omega, Int.neg_tdiv, Int.tdiv_eq_ediv_of_nonneg (by omega)]
    have hsn : digN (D.take (m + 1)) = digN (D.take m) * 10 + (d.toNat - 48) := by rw [htk, digN_snoc]
    refine wr_i64 (by omega) (by omega) (wr_i64 (by omega) (by omega) (wr_i64 (by omega) (by omega) ⟨by decide, wr_i64 (by rw [et]; omega) (by rw [et]; omega) ?_⟩))
    rw [et];refine Br.mk (fun h5 => bad fun v hv => ?_) (fun h5 => ?_)
    · have h5 := of_decide_eq_true h5
      obtain ⟨r1, e, _⟩ := num_shape hv;rw [<- hD] at e;have g1 := dig_take D (m + 1);rw [hsn, e, digN_dec] at g1;obtain ⟨r1, r2⟩ := r1;rw [<- e] at g1;omega
    · have h5 := of_decide_eq_false h5
      refine wr_i64 (by omega) (by omega) (wr_i64 (by omega) (by omega) (wr_i64 (by omega) (by omega) ⟨rfl, rfl, ?_, by omega⟩))
      rw [hN]
      have em : (j + 1 - (atN (tx s) : Nat)).toNat = m + 1 := by omega
      refine ⟨rfl, by omega, by omega, ?_, by omega, ?_⟩
      · rw [Int.toNat_natCast, <- hD, em, hsn]; omega
      · rw [Int.toNat_natCast, <- hD, em, htk]
        intro z hz
        rcases List.mem_append.1 hz with hz | hz
        · exact n5 z hz
        · simp only [List.mem_cons, List.not_mem_nil, or_false] at hz
          rw [hz]; omega
  · have h2 := of_decide_eq_false h2
    rw [List.take_of_length_le (by omega)] at n3 n5
    have hDne : D ≠ [] := fun hh => by rw [hh] at hdh; cases hdh
    obtain ⟨o1, o2⟩ := num_ok (t := tx s) (w := digN D) (by rw [hD]) (by rw [<- hD]; exact hDne) (by rw [<- hD]; exact n5) (by
     rw [<- hD, hdh];intro hh;have := hlead (Option.some.inj hh)
     omega) (by omega)
    have fin1 : atN (tx s) = 1 -> Value.tuple #[.int .i64 n, .bool true] = Q := fun hh => by rw [n3]; exact good _ (o2 hh)
    have fin0 : atN (tx s) = 0 -> n ≠ -9223372036854775808 -> Wr .i64 (0 - n) fun d => Value.tuple #[.int .i64 d, .bool true] = Q := fun hh hn => by
     refine wr_i64 (by omega) (by omega) ?_
     rw [show 0 - n = (digN D : Nat) by omega]
     exact good _ (o1 hh (by omega))
    rcases ha with ha | ha
    · refine Br.t (by rw [ha]; rfl) (Br.mk (fun h3 => bad fun v hv => ?_) (fun h3 => Br.t (by rw [ha]; rfl) (fin0 ha (by simpa using h3))))
      have h3 : n = -9223372036854775808 := by simpa using h3
      obtain ⟨r1, e, r3⟩ := num_shape hv;rw [<- hD] at e;rw [e, digN_dec] at n3;have := r3.1 ha;obtain ⟨r1, r2⟩ := r1;omega
    · exact Br.f (by rw [ha]; rfl) (Br.f (by rw [ha]; rfl) (fin1 ha))
 refine ⟨c, by rw [Int.toNat_natCast]; exact hc, by omega, Br.mk (fun h2 => Br.mk (fun h3 => bad fun v hv => ?_) (fun h3 => main (fun _ => by have := of_decide_eq_false h3; omega) J)) (fun h2 => main (fun hh => by subst hh; cases h2) J)⟩
 have h2 : (c.toNat : Int) = 48 := by simpa using h2
 obtain rfl : c = 48 := UInt8.toNat_inj.1 (by show c.toNat = 48; omega)
 have h3 := of_decide_eq_true h3;obtain ⟨_, e, r3⟩ := num_shape hv;rw [e] at hdh
 have h0 : v.natAbs = 0 := by
  have g := dec_head hdh;exact g
 rcases ha with ha | ha
 · rw [ha, List.drop_zero, h0, Lib.decDigits, dif_pos (by decide)] at e
   rw [e] at htl
   simp at htl; omega
 · have : ¬ 0 <= v := fun hh => by have := r3.2 hh; omega
   omega
theorem mksV_get {ms : List Mk} {k : Nat} {m : Mk} (h : ms[k]? = some m) : (mksV ms)[k * 3 + 0]? = some (.string (strT m.name)) /\ (mksV ms)[k * 3 + 1]? = some (.int .i64 m.at_) /\ (mksV ms)[k * 3 + 2]? = some (.int .i64 m.line) := by
 induction ms generalizing k with
 | nil => simp at h
 | cons x r ih =>
   match k, h with
   | 0, h =>
     simp only [List.getElem?_cons_zero, Option.some.injEq] at h;subst h;exact ⟨rfl, rfl, rfl⟩
   | k + 1, h =>
     obtain ⟨h1, h2, h3⟩ := ih (k := k) (by simpa using h)
     have e : mksV (x :: r) = .string (strT x.name) :: .int .i64 x.at_ :: .int .i64 x.line :: mksV r := rfl
     rw [e, show (k + 1) * 3 + 0 = (k * 3 + 0) + 3 by omega, show (k + 1) * 3 + 1 = (k * 3 + 1) + 3 by omega, show (k + 1) * 3 + 2 = (k * 3 + 2) + 3 by omega]
     simp only [List.getElem?_cons_succ];exact ⟨h1, h2, h3⟩
def idxMk (ms : List Mk) (name : Tx) : Int := match ms.findIdx? fun m => decide (m.name = name) with
 | some k => (k : Int)
 | none => -1
theorem ct60 (ms : List Mk) (a : Option Addr) (n c : Nat) (name : ByteArray) (I : Mem) (h : SlM I a n 3 (mksV ms)) : Ct Tryz.prog (fnv 60) #[.slice a n c, .string name] I (fun v _ => v = .int .i64 (idxMk ms (tx name))) := by
 obtain ⟨Q, hQ⟩ : ∃ q : Value, q = .int .i64 (idxMk ms (tx name)) := ⟨_, rfl⟩;obtain ⟨N, hN⟩ : ∃ f : Int -> Prop, f = fun j : Int => 0 <= j /\ j <= n /\ ∀ (k : Nat) (m : Mk), (k : Int) < j -> ms[k]? = some m -> m.name ≠ tx name := ⟨_, rfl⟩;rw [<- hQ]
 refine viaR (ct_via (A := { loops := [(2, ⟨[(0, .keep), (1, .keep), (5, .sh (.int .i64))], [], [], fun vals _ _ _ => match vals with | [.int .i64 j] => N j | _ => False, fun vals _ => match vals with | [.int .i64 j] => (n - j).toNat | _ => 0⟩)] }) Tryz.func60 rfl Tryz.call60 rfl rfl) ((Rf (SV.v (.slice a n c)) /\ Rf (SV.v (.string name)) /\ N 0) /\ ∀ (b : Mem), Mem -> I.le b -> ∀ (d : Int), N d -> Br (decide (d < (n : Int))) (0 <= d /\ d < (n : Int) /\ a.isSome = true /\ a.isSome = true /\ ∃ q, atI b a (d.toNat * 3 + 0 + 0) = some (.string q) /\ Br (q.toList == name.toList) (Value.int .i64 d = Q) (Wr .i64 (d + 1) (fun e => Rf (SV.v (.slice a n c)) /\ Rf (SV.v (.string name)) /\ N e /\ Int.toNat ((n : Int) - e) < Int.toNat ((n : Int) - d)))) (Value.int .i64 (-1) = Q)) (by kernel_rfl) ?_
 have hl := h.len;rw [mksV_len] at hl;have hmx : n <= maxLen := h.max
 have hmx2 : maxLen <= 9223372036854775807 := by decide
 refine ⟨⟨rfl, rfl, by rw [hN]; exact ⟨Int.le_refl _, by omega, fun k m hk => by omega⟩⟩, fun b _ lb d hd => ?_⟩
 rw [hN] at hd;obtain ⟨h1, h2, h3⟩ := hd;refine Br.mk (fun h4 => ?_) (fun h4 => ?_)
 · have h4 := of_decide_eq_true h4
   obtain ⟨m, hm⟩ : ∃ m, ms[d.toNat]? = some m := ⟨_, List.getElem?_eq_getElem (by omega)⟩
   obtain ⟨g1, _, _⟩ := mksV_get hm
   have hs : a.isSome = true := by
    cases a with
    | none => have := h.nil rfl; omega
    | some a => rfl
   refine ⟨h1, h4, hs, hs, _, atI_le lb (h.at_ _ _ g1), ?_⟩;rw [str_eq]
   refine Br.mk (fun h5 => ?_) (fun h5 => wr_i64 (by omega) (by omega) ⟨rfl, rfl, ?_, by omega⟩)
   · have h5 : m.name = tx name := by have := congrArg tx (of_decide_eq_true h5); rwa [tx_strT] at this
     have : ms.findIdx? (fun m => decide (m.name = tx name)) = some d.toNat := by
      rw [List.findIdx?_eq_some_iff_getElem];obtain ⟨hlt, hge⟩ := List.getElem?_eq_some_iff.1 hm
      refine ⟨hlt, by rw [hge, h5]; simp, fun j hj hj2 => ?_⟩
      exact h3 j ms[j] (by omega) (List.getElem?_eq_getElem (by omega)) (of_decide_eq_true hj2)
     rw [hQ, idxMk, this]
     simp only
     rw [show ((d.toNat : Nat) : Int) = d by omega]
   · have h5 : m.name ≠ tx name := fun hh => of_decide_eq_false h5 (by rw [hh, strT_tx])
     rw [hN]
     refine ⟨by omega, by omega, fun k y hk hy => ?_⟩
     by_cases hkd : (k : Int) < d
     · exact h3 k y hkd hy
     · have : k = d.toNat := by omega
       rw [this, hm] at hy
       rw [<- Option.some.inj hy]; exact h5
 · have h4 := of_decide_eq_false h4
   have : ms.findIdx? (fun m => decide (m.name = tx name)) = none := by
    rw [List.findIdx?_eq_none_iff];intro x hx;obtain ⟨k, hk, hx⟩ := List.mem_iff_getElem.1 hx
    exact decide_eq_false (h3 k x (by omega) (by rw [List.getElem?_eq_getElem hk, hx]))
   rw [hQ, idxMk, this]
def putOne (f : UInt8) (s : Tx) (x : Src) (u : Nat) : Src × Int :=
 if f = 114 then (match regT s with
  | some r => ({ x with ins := putR x.ins u r }, 0)
  | none => (x, 152))
 else if f = 116 then (if nameB s then ({ x with target := s }, 0) else (x, 153))
 else (match numT s with
  | none => (x, 152)
  | some n => if f = 112 /\ ¬ (0 <= n /\ n < 16) then (x, 152) else ({ x with ins := { x.ins with n := n } }, 0))
set_option maxHeartbeats 2000000 in
theorem ct88 (x : Src) (f : UInt8) (fn : Int) (hf : fn = f.toNat) (s : ByteArray) (hs : s.size <= 100000) (u : Int) (hu : 0 <= u /\ u <= 1000) (I : Mem) :
 Ct Tryz.prog (fnv 88) #[.agg (srcV x).toArray, .int .u8 fn, .string s, .int .i64 u] I (fun v _ => v = .tuple #[.agg (srcV (putOne f (tx s) x u.toNat).1).toArray, .int .i64 (putOne f (tx s) x u.toNat).2]) := by
 obtain ⟨Q, hQ⟩ : ∃ q : Value, q = .tuple #[.agg (srcV (putOne f (tx s) x u.toNat).1).toArray, .int .i64 (putOne f (tx s) x u.toNat).2] := ⟨_, rfl⟩;rw [<- hQ]
 refine viaR (ct_via (A := { }) Tryz.func88 rfl Tryz.call88 rfl rfl) (Br (fn == 114) (Br ((s.size : Int) != 2) (Value.tuple #[.agg #[.int .u8 x.ins.op, .int .u8 x.ins.a, .int .u8 x.ins.b, .int .u8 x.ins.c, .int .i64 x.ins.n, .int .i64 x.line, .string (strT x.target)], .int .i64 152] = Q) (∃ c, s.data.toList[0]? = some c /\ (0 : Int) <= 0 /\ Br ((c.toNat : Int) != 114) (Value.tuple #[.agg #[.int .u8 x.ins.op, .int .u8 x.ins.a, .int .u8 x.ins.b, .int .u8 x.ins.c, .int .i64 x.ins.n, .int .i64 x.line, .string (strT x.target)], .int .i64 152] = Q) (∃ a, s.data.toList[1]? = some a /\ (0 : Int) <= 1 /\ Br (decide ((a.toNat : Int) < 48)) (Value.tuple #[.agg #[.int .u8 x.ins.op, .int .u8 x.ins.a, .int .u8 x.ins.b, .int .u8 x.ins.c, .int .i64 x.ins.n, .int .i64 x.line, .string (strT x.target)], .int .i64 152] = Q) (∃ b, s.data.toList[1]? = some b /\ (0 : Int) <= 1 /\ Br (decide (55 < (b.toNat : Int))) (Value.tuple #[.agg #[.int .u8 x.ins.op, .int .u8 x.ins.a, .int .u8 x.ins.b, .int .u8 x.ins.c, .int .i64 x.ins.n, .int .i64 x.line, .string (strT x.target)], .int .i64 152] = Q) (Br (u == 0) (∃ d, s.data.toList[1]? = some d /\ (0 : Int) <= 1 /\ Wr .u8 ((d.toNat : Int) - 48) fun e => Value.tuple #[.agg #[.int .u8 x.ins.op, .int .u8 e, .int .u8 x.ins.b, .int .u8 x.ins.c, .int .i64 x.ins.n, .int .i64 x.line, .string (strT x.target)], .int .i64 0] = Q) (Br (u == 1) (∃ d, s.data.toList[1]? = some d /\ (0 : Int) <= 1 /\ Wr .u8 ((d.toNat : Int) - 48) fun e => Value.tuple #[.agg #[.int .u8 x.ins.op, .int .u8 x.ins.a, .int .u8 e, .int .u8 x.ins.c, .int .i64 x.ins.n, .int .i64 x.line, .string (strT x.target)], .int .i64 0] = Q) (∃ d, s.data.toList[1]? = some d /\ (0 : Int) <= 1 /\ Wr .u8 ((d.toNat : Int) - 48) fun e => Value.tuple #[.agg #[.int .u8 x.ins.op, .int .u8 x.ins.a, .int .u8 x.ins.b, .int .u8 e, .int .i64 x.ins.n, .int .i64 x.line, .string (strT x.target)], .int .i64 0] = Q))))))) (Br (fn == 116) (Ct Tryz.prog (fnv 38) #[.string s] I (fun v a => ∃ b, v = .bool b /\ Br (!b) (Value.tuple #[.agg #[.int .u8 x.ins.op, .int .u8 x.ins.a, .int .u8 x.ins.b, .int .u8 x.ins.c, .int .i64 x.ins.n, .int .i64 x.line, .string (strT x.target)], .int .i64 153] = Q) (Value.tuple #[.agg #[.int .u8 x.ins.op, .int .u8 x.ins.a, .int .u8 x.ins.b, .int .u8 x.ins.c, .int .i64 x.ins.n, .int .i64 x.line, .string s], .int .i64 0] = Q))) (Ct Tryz.prog (fnv 111) #[.string s] I (fun v a => ∃ n b, v = .tuple #[.int .i64 n, .bool b] /\ Br (!b) (Value.tuple #[.agg #[.int .u8 x.ins.op, .int .u8 x.ins.a, .int .u8 x.ins.b, .int .u8 x.ins.c, .int .i64 x.ins.n, .int .i64 x.line, .string (strT x.target)], .int .i64 152] = Q) (Br (fn == 112) (Br (decide (n < 0)) (Value.tuple #[.agg #[.int .u8 x.ins.op, .int .u8 x.ins.a, .int .u8 x.ins.b, .int .u8 x.ins.c, .int .i64 x.ins.n, .int .i64 x.line, .string (strT x.target)], .int .i64 152] = Q) (Br (decide (15 < n)) (Value.tuple #[.agg #[.int .u8 x.ins.op, .int .u8 x.ins.a, .int .u8 x.ins.b, .int .u8 x.ins.c, .int .i64 x.ins.n, .int .i64 x.line, .string (strT x.target)], .int .i64 152] = Q) (Value.tuple #[.agg #[.int .u8 x.ins.op, .int .u8 x.ins.a, .int .u8 x.ins.b, .int .u8 x.ins.c, .int .i64 n, .int .i64 x.line, .string (strT x.target)], .int .i64 0] = Q))) (Value.tuple #[.agg #[.int .u8 x.ins.op, .int .u8 x.ins.a, .int .u8 x.ins.b, .int .u8 x.ins.c, .int .i64 n, .int .i64 x.line, .string (strT x.target)], .int .i64 0] = Q)))))) (by kernel_rfl) ?_
 have htl : (tx s).length = s.size := Array.length_toList;subst hf
 have fe : ∀ k : UInt8, ((f.toNat : Int) == (k.toNat : Int)) = decide (f = k) := fun k => by
  by_cases hh : f = k
  · subst hh; simp
  · have : ¬ (f.toNat : Int) = k.toNat := fun e => hh (UInt8.toNat_inj.1 (by omega))
    rw [decide_eq_false hh]; simpa using this
 rw [show ((f.toNat : Int) == 114) = decide (f = 114) from fe 114, show ((f.toNat : Int) == 116) = decide (f = 116) from fe 116, show ((f.toNat : Int) == 112) = decide (f = 112) from fe 112]
 refine Br.mk (fun h1 => ?_) (fun h1 => Br.mk (fun h2 => ?_) (fun h2 => ?_))
 · have h1 := of_decide_eq_true h1
   have bad : regT (tx s) = none -> Value.tuple #[.agg #[.int .u8 x.ins.op, .int .u8 x.ins.a, .int .u8 x.ins.b, .int .u8 x.ins.c, .int .i64 x.ins.n, .int .i64 x.line, .string (strT x.target)], .int .i64 152] = Q := fun hh => by
    rw [hQ, putOne, if_pos h1, hh]; rfl
   refine Br.mk (fun h2 => bad ?_) (fun h2 => ?_)
   · have h2 : ¬ s.size = 2 := fun hh => by rw [hh] at h2; simp at h2
     unfold regT;split
     · rename_i y z hq
       rw [hq] at htl;simp at htl;omega
     · rfl
   have h2 : s.size = 2 := by
    have : (s.size : Int) = 2 := by simpa using h2
    omega
   obtain ⟨y, z, hyz⟩ : ∃ y z, tx s = [y, z] := by
    cases hq : tx s with
    | nil => rw [hq] at htl; simp at htl; omega
    | cons y r => cases r with
      | nil => rw [hq] at htl; simp at htl; omega
      | cons z r => cases r with
        | nil => exact ⟨y, z, rfl⟩
        | cons w r => rw [hq] at htl; simp at htl; omega
   have e0 : s.data.toList[0]? = some y := by show (tx s)[0]? = _; rw [hyz]; rfl
   have e1 : s.data.toList[1]? = some z := by show (tx s)[1]? = _; rw [hyz]; rfl
   have hreg : regT (tx s) = if y = 114 /\ 48 <= z.toNat /\ z.toNat <= 55 then some ((z.toNat : Int) - 48) else none := by rw [hyz]; rfl
   refine ⟨y, e0, by decide, Br.mk (fun h3 => bad ?_) (fun h3 => ⟨z, e1, by decide, Br.mk (fun h4 => bad ?_) (fun h4 => ⟨z, e1, by decide, Br.mk (fun h5 => bad ?_) (fun h5 => ?_)⟩)⟩)⟩
   · rw [hreg, if_neg]
     rintro ⟨hh, _⟩;subst hh;simp at h3
   · have h4 := of_decide_eq_true h4
     rw [hreg, if_neg (by omega)]
   · have h5 := of_decide_eq_true h5
     rw [hreg, if_neg (by omega)]
   have h3 : (y.toNat : Int) = 114 := by simpa using h3
   have h4 := of_decide_eq_false h4;have h5 := of_decide_eq_false h5
   have hr : regT (tx s) = some ((z.toNat : Int) - 48) := by rw [hreg, if_pos ⟨UInt8.toNat_inj.1 (by show y.toNat = 114; omega), by omega, by omega⟩]
   have q : ∀ v, v = Value.tuple #[.agg (srcV { x with ins := putR x.ins u.toNat ((z.toNat : Int) - 48) }).toArray, .int .i64 0] -> v = Q := fun v hv => by rw [hv, hQ, putOne, if_pos h1, hr]
   refine Br.mk (fun h6 => ?_) (fun h6 => Br.mk (fun h7 => ?_) (fun h7 => ?_))
   · have h6 : u = 0 := by simpa using h6
     subst h6
     exact ⟨z, e1, by decide, wr_u8 (by omega) (by omega) (q _ rfl)⟩
   · have h7 : u = 1 := by simpa using h7
     subst h7
     exact ⟨z, e1, by decide, wr_u8 (by omega) (by omega) (q _ rfl)⟩
   · have h6 : u ≠ 0 := by simpa using h6
     have h7 : u ≠ 1 := by simpa using h7
     obtain ⟨w, hw⟩ : ∃ w : Nat, u.toNat = w + 2 := ⟨u.toNat - 2, by omega⟩
     refine ⟨z, e1, by decide, wr_u8 (by omega) (by omega) (q _ ?_)⟩
     rw [hw]; rfl
 · have h1 := of_decide_eq_false h1
   have h2 := of_decide_eq_true h2
   refine (ct38 s (by omega) I).mono fun v J l hv => ⟨_, hv, Br.mk (fun h3 => ?_) (fun h3 => ?_)⟩
   · have h3 : nameB (tx s) = false := by simpa using h3
     rw [hQ, putOne, if_neg h1, if_pos h2, h3]; rfl
   · have h3 : nameB (tx s) = true := by simpa using h3
     rw [hQ, putOne, if_neg h1, if_pos h2, h3]; rfl
 · have h1 := of_decide_eq_false h1
   have h2 := of_decide_eq_false h2
   have hP : putOne f (tx s) x u.toNat = (match numT (tx s) with
    | none => (x, 152)
    | some n => if f = 112 /\ ¬ (0 <= n /\ n < 16) then (x, 152) else ({ x with ins := { x.ins with n := n } }, 0)) := by rw [putOne, if_neg h1, if_neg h2]
   refine (ct111 s hs I).mono fun v J l hv => ⟨_, _, hv, ?_⟩
   cases hn : numT (tx s) with
   | none =>
     refine Br.t (by rw [numR, hn]; rfl) ?_
     rw [hQ, hP, hn]; rfl
   | some m =>
     have hr : numR (tx s) = (m, true) := by rw [numR, hn]
     rw [hn] at hP;rw [hr];refine Br.f rfl (Br.mk (fun h3 => Br.mk (fun h4 => ?_) (fun h4 => Br.mk (fun h5 => ?_) (fun h5 => ?_))) (fun h3 => ?_))
     · have h4 := of_decide_eq_true h4
       rw [hQ, hP]
       simp only
       rw [if_pos ⟨of_decide_eq_true h3, by omega⟩]; rfl
     · have h5 := of_decide_eq_true h5
       rw [hQ, hP]
       simp only
       rw [if_pos ⟨of_decide_eq_true h3, by omega⟩]; rfl
     · have h4 := of_decide_eq_false h4
       have h5 := of_decide_eq_false h5;rw [hQ, hP]
       simp only
       rw [if_neg (fun hh => hh.2 ⟨by omega, by omega⟩)]; rfl
     · rw [hQ, hP]
       simp only
       rw [if_neg (fun hh => of_decide_eq_false h3 hh.1)]; rfl
def zeroSrc : Src := ⟨⟨0, 0, 0, 0, 0⟩, 0, []⟩
def oneA (l : List Tx) (line : Int) : Src × Int := if (instrA l line).1 = 0 then ((instrA l line).2, 0) else (zeroSrc, (instrA l line).1)
theorem putOne_any {f : UInt8} (h : f ≠ 114) (s : Tx) (x : Src) (u v : Nat) : putOne f s x u = putOne f s x v := by rw [putOne, putOne, if_neg h, if_neg h]
theorem putGo_one (f : UInt8) (fs : Tx) (s : Tx) (ss : List Tx) (x : Src) (u : Nat) : putGo (f :: fs) (s :: ss) x u = if (putOne f s x u).2 = 0 then putGo fs ss (putOne f s x u).1 (if f = 114 then u + 1 else u) else ((putOne f s x u).2, x) := by
 rw [putGo, putOne]
 by_cases h1 : f = 114
 · rw [if_pos h1, if_pos h1, if_pos h1]
   cases regT s <;> rfl
 · rw [if_neg h1, if_neg h1, if_neg h1]
   by_cases h2 : f = 116
   · rw [if_pos h2, if_pos h2]
     cases nameB s <;> rfl
   · rw [if_neg h2, if_neg h2]
     cases numT s with
     | none => rfl
     | some n =>
       simp only
       by_cases h3 : f = 112 /\ ¬ (0 <= n /\ n < 16)
       · rw [if_pos h3, if_pos h3]; rfl
       · rw [if_neg h3, if_neg h3]; rfl
theorem ct61 (l : List Tx) (hne : l ≠ []) (hl : ∀ t ∈ l, t.length <= 100000) (a : Option Addr) (n c : Nat) (line : Int) (I : Mem) (h : SlM I a n 1 (strs (l.map strT))) :
 Ct Tryz.prog (fnv 61) #[.slice a n c, .int .i64 line] I (fun v _ => v = .tuple #[.agg (srcV (oneA l line).1).toArray, .int .i64 (oneA l line).2]) := by
 obtain ⟨Q, hQ⟩ : ∃ q : Value, q = .tuple #[.agg (srcV (oneA l line).1).toArray, .int .i64 (oneA l line).2] := ⟨_, rfl⟩
 obtain ⟨N, hN⟩ : ∃ f : Int -> List Value -> Prop, f = fun (i : Int) xs => 0 <= i /\ ∃ w r x, l = w :: r /\ xs = srcV x /\ i <= (formL (findT w).1).length /\ r.length = (formL (findT w).1).length /\
  instrA l line = putGo ((formL (findT w).1).drop i.toNat) (r.drop i.toNat) x (((formL (findT w).1).take i.toNat).count 114) := ⟨_, rfl⟩
 rw [<- hQ]
 refine viaR (ct_via (A := { loops := [(9, ⟨[(0, .keep), (8, .keep), (4, .keep), (10, .keep), (11, .sh (.int .i64))], [(0, .keep), (1, .vec)], [], fun vals xss _ _ => match vals, xss with | [.int .i64 i], [xs] => N i xs | _, _ => False, fun vals _ => match vals with | [.int .i64 i] => (10 - i).toNat | _ => 0⟩)] }) Tryz.func61 rfl Tryz.call61 rfl rfl) ((0 : Int) <= 0 /\ 0 < (n : Int) /\ a.isSome = true /\ ∃ q, atI I a 0 = some (.string q) /\ Ct Tryz.prog (fnv 33) #[.string q] I fun v b => ∃ d e, v = .tuple #[.int .u8 d, .bool e] /\ Br (!e) (Value.tuple #[.agg #[.int .u8 0, .int .u8 0, .int .u8 0, .int .u8 0, .int .i64 0, .int .i64 0, .string ⟨#[]⟩], .int .i64 150] = Q) (Ct Tryz.prog (fnv 66) #[.int .u8 d] b (fun f g => ∃ i j, f = .tuple #[.string i, .bool j] /\ Wr .i64 ((n : Int) - 1) fun k => Br (k != (i.size : Int)) (Value.tuple #[.agg #[.int .u8 0, .int .u8 0, .int .u8 0, .int .u8 0, .int .i64 0, .int .i64 0, .string ⟨#[]⟩], .int .i64 151] = Q) ((Rf (Ent.mk (.cells [.v (.int .u8 0), .v (.int .u8 0), .v (.int .u8 0), .v (.int .u8 0), .v (.int .i64 0), .v (.int .i64 0), .v (.string ⟨#[]⟩)] 115) none) /\ Rf (none : Option Nat) /\ Rf (SV.v (.slice a n c)) /\ Rf (SV.v (.string i)) /\ Rf (SV.ptr 0 0) /\ Rf (SV.ptr 1 0) /\ N 0 [.int .u8 d, .int .u8 0, .int .u8 0, .int .u8 0, .int .i64 0, .int .i64 line, .string ⟨#[]⟩]) /\ ∀ (m : Mem), Mem -> g.le m -> ∀ (x : List Value) (o : Int), N o x -> Br (decide (o < (i.size : Int))) ((7 : Nat) = 7 /\ ∃ p, x[0]? = some (.int .u8 p) /\ ∃ r, x[1]? = some (.int .u8 r) /\ ∃ s, x[2]? = some (.int .u8 s) /\ ∃ t, x[3]? = some (.int .u8 t) /\ ∃ u, x[4]? = some (.int .i64 u) /\ ∃ w, x[5]? = some (.int .i64 w) /\ ∃ y, x[6]? = some (.string y) /\ ∃ z, i.data.toList[o.toNat]? = some z /\ 0 <= o /\ Wr .i64 (o + 1) fun c1 => 0 <= c1 /\ c1 < (n : Int) /\ a.isSome = true /\ ∃ q1, atI m a (c1.toNat * 1 + 0) = some (.string q1) /\ Ct Tryz.prog (fnv 88) #[.agg #[.int .u8 p, .int .u8 r, .int .u8 s, .int .u8 t, .int .i64 u, .int .i64 w, .string y], .int .u8 (z.toNat : Int), .string q1, .int .i64 o] m fun v1 I1 => ∃ n1 n2 n3 n4 n5 n6 q2 n7, v1 = .tuple #[.agg #[.int .u8 n1, .int .u8 n2, .int .u8 n3, .int .u8 n4, .int .i64 n5, .int .i64 n6, .string q2], .int .i64 n7] /\ 7 <= x.length /\ Br (n7 != 0) (Value.tuple #[.agg #[.int .u8 0, .int .u8 0, .int .u8 0, .int .u8 0, .int .i64 0, .int .i64 0, .string ⟨#[]⟩], .int .i64 n7] = Q) (Wr .i64 (o + 1) (fun c2 => Rf (Ent.mk (.cells [.v (.int .u8 0), .v (.int .u8 0), .v (.int .u8 0), .v (.int .u8 0), .v (.int .i64 0), .v (.int .i64 0), .v (.string ⟨#[]⟩)] 115) none) /\ Rf (none : Option Nat) /\ Rf (SV.v (.slice a n c)) /\ Rf (SV.v (.string i)) /\ Rf (SV.ptr 0 0) /\ Rf (SV.ptr 1 0) /\ N c2 (.int .u8 n1 :: .int .u8 n2 :: .int .u8 n3 :: .int .u8 n4 :: .int .i64 n5 :: .int .i64 n6 :: .string q2 :: List.append ([] : List Value) (List.drop (0 + List.length [Value.int .u8 n1, .int .u8 n2, .int .u8 n3, .int .u8 n4, .int .i64 n5, .int .i64 n6, .string q2]) x)) /\ Int.toNat (10 - c2) < Int.toNat (10 - o)))) ((7 : Nat) = 7 /\ ∃ p, x[0]? = some (.int .u8 p) /\ ∃ r, x[1]? = some (.int .u8 r) /\ ∃ s, x[2]? = some (.int .u8 s) /\ ∃ t, x[3]? = some (.int .u8 t) /\ ∃ u, x[4]? = some (.int .i64 u) /\ ∃ w, x[5]? = some (.int .i64 w) /\ ∃ y, x[6]? = some (.string y) /\ Value.tuple #[.agg #[.int .u8 p, .int .u8 r, .int .u8 s, .int .u8 t, .int .i64 u, .int .i64 w, .string y], .int .i64 0] = Q))))) (by kernel_rfl) ?_
 obtain ⟨w, r, rfl⟩ : ∃ w r, l = w :: r := by
  cases l with
  | nil => exact absurd rfl hne
  | cons w r => exact ⟨w, r, rfl⟩
 have hn := h.len
 have hsl : (strs ((w :: r).map strT)).length = r.length + 1 := by simp [strs]
 rw [hsl, Nat.mul_one] at hn;have hmx : n <= maxLen := h.max
 have hmx2 : maxLen <= 9223372036854775807 := by decide
 have hs : a.isSome = true := by
  cases a with
  | none => have := h.nil rfl; omega
  | some a => rfl
 have hat : ∀ (k : Nat) (t : Tx), (w :: r)[k]? = some t -> atI I a k = some (.string (strT t)) := fun k t hk => h.at_ k _ (by rw [strs, List.map_map, List.getElem?_map, hk]; rfl)
 have hrg := findT_rng w
 have hwl := hl w (by simp)
 refine ⟨by omega, by omega, hs, _, hat 0 w rfl, (ct33 (strT w) I).mono fun v b lb hv => ⟨_, _, hv, ?_⟩⟩
 rw [tx_strT]
 have q150 : (findT w).2 = false -> Value.tuple #[.agg #[.int .u8 0, .int .u8 0, .int .u8 0, .int .u8 0, .int .i64 0, .int .i64 0, .string ⟨#[]⟩], .int .i64 150] = Q := fun hh => by
  have : (instrA (w :: r) line).1 = 150 := by rw [instrA, if_pos hh]
  rw [hQ, oneA, this]; rfl
 refine Br.mk (fun h1 => q150 (by simpa using h1)) (fun h1 => ?_)
 have h1 : (findT w).2 = true := by simpa using h1
 refine (ct66 (findT w).1 (by omega) b).mono fun v g lg hv => ⟨_, _, hv, wr_i64 (by omega) (by omega) ?_⟩
 rw [strT_size];refine Br.mk (fun h2 => ?_) (fun h2 => ?_)
 · have h2 : r.length ≠ (formL (findT w).1).length := fun hh => by
    rw [show (n : Int) - 1 = ((formL (findT w).1).length : Nat) by omega] at h2
    simp at h2
   have : (instrA (w :: r) line).1 = 151 := by rw [instrA, if_neg (by rw [h1]; decide), if_pos h2]
   rw [hQ, oneA, this]; rfl
 have h2 : r.length = (formL (findT w).1).length := by
  have : (n : Int) - 1 = ((formL (findT w).1).length : Nat) := by simpa using h2
  omega
 have hA : instrA (w :: r) line = putGo (formL (findT w).1) r ⟨⟨(findT w).1, 0, 0, 0, 0⟩, line, []⟩ 0 := by rw [instrA, if_neg (by rw [h1]; decide), if_neg (fun hh => hh h2)]
 refine ⟨⟨rfl, rfl, rfl, rfl, rfl, rfl, ?_⟩, fun m _ lm x o hx => ?_⟩
 · rw [hN]
   exact ⟨Int.le_refl _, w, r, ⟨⟨(findT w).1, 0, 0, 0, 0⟩, line, []⟩, rfl, rfl, by omega, h2, hA⟩
 rw [hN] at hx;obtain ⟨o1, w2, r2, x, he, rfl, o2, _, o3⟩ := hx;obtain ⟨rfl, rfl⟩ := List.cons.inj he;have hfl := (formL_mem (findT w).1).2.1;have lI := Mem.le_trans lb (Mem.le_trans lg lm);refine Br.mk (fun h3 => ?_) (fun h3 => ?_)
 · have h3 := of_decide_eq_true h3
   obtain ⟨f, hf⟩ : ∃ f, (formL (findT w).1)[o.toNat]? = some f := ⟨_, List.getElem?_eq_getElem (by omega)⟩
   obtain ⟨t, ht⟩ : ∃ t, r[o.toNat]? = some t := ⟨_, List.getElem?_eq_getElem (by omega)⟩
   have htl := hl t (List.mem_cons_of_mem _ (List.mem_of_getElem? ht))
   have e1 : (o + 1).toNat = o.toNat + 1 := by omega
   have hdf := drop_at hf
   have hdt : r.drop o.toNat = t :: r.drop (o.toNat + 1) := by
    obtain ⟨hlt, hh⟩ := List.getElem?_eq_some_iff.1 ht;rw [List.drop_eq_getElem_cons hlt, hh]
   obtain ⟨u, hu⟩ : ∃ u, u = ((formL (findT w).1).take o.toNat).count 114 := ⟨_, rfl⟩
   have hpu : putOne f t x u = putOne f t x o.toNat := by
    by_cases h114 : f = 114
    · subst h114
      rw [hu, (form_regs _ _ hf).1]
    · exact putOne_any h114 _ _ _ _
   rw [hdf, hdt, putGo_one, <- hu, hpu] at o3
   have hcn : ((formL (findT w).1).take (o + 1).toNat).count 114 = if f = 114 then u + 1 else u := by
    rw [e1, List.take_add_one, hf, List.count_append, <- hu]
    by_cases h114 : f = 114
    · rw [if_pos h114, h114]; rfl
    · rw [if_neg h114]
      simp [List.count_cons, h114]
   refine ⟨rfl, _, rfl, _, rfl, _, rfl, _, rfl, _, rfl, _, rfl, _, rfl, f, hf, o1, wr_i64 (by omega) (by omega) ⟨by omega, by omega, hs, strT t, atI_le lI (by rw [Nat.mul_one]; exact hat (o + 1).toNat t (by rw [e1]; exact ht)), (ct88 x f _ rfl (strT t) (by rw [strT_size]; omega) o (by omega) m).mono fun v I1 l1 hv => ⟨_, _, _, _, _, _, _, _, hv, Nat.le_refl 7, ?_⟩⟩⟩
   rw [tx_strT]
   refine Br.mk (fun h4 => ?_) (fun h4 => wr_i64 (by omega) (by omega) ⟨rfl, rfl, rfl, rfl, rfl, rfl, ?_, by omega⟩)
   · have h4 : (putOne f t x o.toNat).2 ≠ 0 := by simpa using h4
     rw [if_neg h4] at o3;rw [hQ, oneA, o3]
     simp only
     rw [if_neg h4]; rfl
   · have h4 : (putOne f t x o.toNat).2 = 0 := by simpa using h4
     rw [if_pos h4] at o3;rw [hN]
     refine ⟨by omega, w, r, (putOne f t x o.toNat).1, rfl, rfl, by omega, h2, ?_⟩
     rw [o3, hcn, e1]
 · have h3 := of_decide_eq_false h3
   rw [List.drop_eq_nil_of_le (by omega)] at o3
   have hp : ∀ ss u, putGo [] ss x u = (0, x) := fun ss u => by cases ss <;> rw [putGo] <;> simp
   rw [hp] at o3;refine ⟨rfl, _, rfl, _, rfl, _, rfl, _, rfl, _, rfl, _, rfl, _, rfl, ?_⟩
   rw [hQ, oneA, o3]; rfl
def RefRd (s : ByteArray) (v : Value) (I : Mem) : Prop := ∃ a n c b m d, v = .tuple #[.slice a n c, .slice b m d, .int .i64 (readA (tx s)).1, .int .i64 (readA (tx s)).2.1] /\
 SlM I a n 7 (srcsV (readA (tx s)).2.2.ss) /\ SlM I b m 3 (mksV (readA (tx s)).2.2.ms)
def RdN (L : List Tx) (j : Int) (xs ys : List Value) : Prop := 0 <= j /\ j <= L.length /\ ∃ ms ss, xs = srcsV ss /\ ys = mksV ms /\ ss.length <= j.toNat /\ ms.length <= j.toNat /\ linesA L 1 ⟨[], []⟩ = linesA (L.drop j.toNat) (j + 1) ⟨ms, ss⟩
def RdM (L : List Tx) (i : Int) (xs ys : List Value) : Prop := 0 <= i /\ ∃ ms ss, linesA L 1 ⟨[], []⟩ = (0, 0, ⟨ms, ss⟩) /\ ys = mksV ms /\ i <= ss.length /\ ss.length <= 256 /\ xs = srcsV ((ss.take i.toNat).map (setTo ms) ++ ss.drop i.toNat) /\ ∀ x ∈ ss.take i.toNat, lostB ms x = false
def RdE (L : List Tx) (i : Int) (xs ys : List Value) : Prop := 0 <= i /\ ∃ ms ss, linesA L 1 ⟨[], []⟩ = (0, 0, ⟨ms, ss⟩) /\ ys = mksV ms /\ i <= ms.length /\ ss.length <= 256 /\ xs = srcsV (ss.map (setTo ms)) /\ (∀ x ∈ ss, lostB ms x = false) /\ ∀ m ∈ ms.take i.toNat, m.at_ ≠ (ss.length : Int)
theorem fields_ne : ∀ (t acc : Tx), ∀ w ∈ fieldsGo acc t, w ≠ []
 | [], acc, w, h => by
   rw [fieldsGo] at h
   split at h
   · cases h
   · rename_i hh
     simp only [List.mem_cons, List.not_mem_nil, or_false] at h
     rw [h]; exact hh
 | c :: r, acc, w, h => by
   rw [fieldsGo] at h
   split at h
   · split at h
     · exact fields_ne r [] w h
     · rename_i hh
       rcases List.mem_cons.1 h with h | h
       · rw [h]; exact hh
       · exact fields_ne r [] w h
   · exact fields_ne r _ w h
theorem idx_has (ms : List Mk) (nm : Tx) : decide (0 <= idxMk ms nm) = hasMk ms nm := by
 rw [idxMk, hasMk]
 cases hq : ms.findIdx? fun m => decide (m.name = nm) with
 | none =>
   have := List.findIdx?_eq_none_iff.1 hq
   symm
   rw [decide_eq_false (by decide), List.any_eq_false]
   intro x hx
   rw [this x hx]; decide
 | some k =>
   obtain ⟨hlt, hk, _⟩ := List.findIdx?_eq_some_iff_getElem.1 hq;rw [decide_eq_true (Int.natCast_nonneg k)]
   symm
   rw [List.any_eq_true];exact ⟨_, List.getElem_mem hlt, hk⟩
theorem sl_none {I : Mem} {k : Nat} : SlM I none 0 k [] := ⟨by simp, fun _ => rfl, Nat.zero_le _, fun j v hj => by simp at hj⟩
theorem srcsV_snoc (ss : List Src) (x : Src) : srcsV (ss ++ [x]) = srcsV ss ++ srcV x := by simp [srcsV]
theorem mksV_snoc (ms : List Mk) (m : Mk) : mksV (ms ++ [m]) = mksV ms ++ mkV m := by simp [mksV]
theorem idx_at {ms : List Mk} {nm : Tx} (h : 0 <= idxMk ms nm) : ∃ m, ms[(idxMk ms nm).toNat]? = some m /\ atMk ms nm = m.at_ /\ (idxMk ms nm).toNat < ms.length := by
 unfold idxMk at h ⊢
 cases hq : ms.findIdx? fun m => decide (m.name = nm) with
 | none => rw [hq] at h; exact absurd h (by decide)
 | some k =>
   simp only [Int.toNat_natCast];obtain ⟨hlt, hk, hb⟩ := List.findIdx?_eq_some_iff_getElem.1 hq;refine ⟨ms[k], List.getElem?_eq_getElem hlt, ?_, hlt⟩
   have : ms.find? (fun m => decide (m.name = nm)) = some ms[k] := by
    rw [List.find?_eq_some_iff_getElem]
    exact ⟨hk, k, hlt, rfl, fun j hj => by simpa using hb j hj⟩
   rw [atMk, this]
theorem srcsV_cons (x : Src) (r : List Src) : srcsV (x :: r) = srcV x ++ srcsV r := rfl
theorem srcsV_get : ∀ {A : List Src} {k : Nat} {x : Src}, A[k]? = some x -> ∀ i v, (srcV x)[i]? = some v -> (srcsV A)[k * 7 + i]? = some v
 | [], k, x, h, _, _, _ => by simp at h
 | y :: r, 0, x, h, i, v, hi => by
   simp only [List.getElem?_cons_zero, Option.some.injEq] at h;subst h
   rw [srcsV_cons, Nat.zero_mul, Nat.zero_add, List.getElem?_append_left (List.getElem?_eq_some_iff.1 hi).1]; exact hi
 | y :: r, k + 1, x, h, i, v, hi => by
   have ih := srcsV_get (A := r) (k := k) (by simpa using h) i v hi
   have e : (srcV y).length = 7 := rfl
   rw [srcsV_cons, List.getElem?_append_right (by rw [e]; omega), e, show (k + 1) * 7 + i - 7 = k * 7 + i by omega]; exact ih
theorem srcs_set : ∀ {A : List Src} {k : Nat} {x : Src} (v : Int), A[k]? = some x -> splice (srcsV A) (k * 7 + 0 + 4) [.int .i64 v] = srcsV (A.set k { x with ins := { x.ins with n := v } })
 | [], k, x, v, h => by simp at h
 | y :: r, 0, x, v, h => by
   simp only [List.getElem?_cons_zero, Option.some.injEq] at h;subst h;rfl
 | y :: r, k + 1, x, v, h => by
   have ih := srcs_set (A := r) (k := k) v (by simpa using h)
   rw [List.set_cons_succ, srcsV_cons, srcsV_cons, <- ih];have e : (srcV y).length = 7 := rfl
   show (srcV y ++ srcsV r).set ((k + 1) * 7 + 0 + 4) (.int .i64 v) = srcV y ++ (srcsV r).set (k * 7 + 0 + 4) (.int .i64 v)
   rw [List.set_append_right _ _ (by rw [e]; omega), e, show (k + 1) * 7 + 0 + 4 - 7 = k * 7 + 0 + 4 by omega]
theorem set_one {ms : List Mk} {x : Src} (hx : SrcOk x) (hm : ∀ m ∈ ms, 0 <= m.at_ /\ m.at_ < 256) (hl : lostB ms x = false) : oneE (setTo ms x).ins = 0 := by
 obtain ⟨ho, l, hf, hs⟩ := hx
 rcases hs with ⟨ht, hno, hs⟩ | ⟨ht, hs⟩
 · rw [setTo, if_pos ht]
   exact shape_one hf hs
 · have hhas : hasMk ms x.target = true := by
    rw [lostB, decide_eq_true ht] at hl;simpa using hl
   obtain ⟨m, hmm, he⟩ := List.any_eq_true.1 hhas
   have hatm : ∃ m ∈ ms, atMk ms x.target = m.at_ := by
    rw [atMk]
    cases hq : ms.find? fun m => decide (m.name = x.target) with
    | none => exact absurd he (List.find?_eq_none.1 hq m hmm)
    | some y => exact ⟨y, List.mem_of_find?_eq_some hq, rfl⟩
   obtain ⟨y, hy, e⟩ := hatm;have hn := hm y hy;rw [setTo, if_neg ht]
   exact shape_one (l := l) hf (hs _ (by rw [e]; exact hn.1) (by rw [e]; exact hn.2))
set_option maxHeartbeats 4000000 in
theorem ct29 (s : ByteArray) (hs : s.size <= 65536) (I : Mem) : Ct Tryz.prog (fnv 29) #[.string s] I (fun v I' => RefRd s v I') := by
 obtain ⟨Q, hQ⟩ : ∃ q, q = RefRd s := ⟨_, rfl⟩;obtain ⟨L, hL⟩ : ∃ L, L = splitC 10 (tx s) := ⟨_, rfl⟩;obtain ⟨N, hN⟩ : ∃ f, f = RdN L := ⟨_, rfl⟩;obtain ⟨M, hM⟩ : ∃ f, f = RdM L := ⟨_, rfl⟩;obtain ⟨R, hR⟩ : ∃ f, f = RdE L := ⟨_, rfl⟩;obtain ⟨K, hK⟩ : ∃ k : Nat, k = L.length := ⟨_, rfl⟩;rw [<- hQ]
 refine viaR (ct_via (A := { calls := [(65, .ro), (120, .ro)], loops := [(7, ⟨[(6, .row 0), (7, .row 1), (8, .keep), (9, .sh (.int .i64))], [(0, .row), (1, .row)], [(6, 7, 115), (7, 3, 74)], fun vals xss _ _ => match vals, xss with | [.int .i64 j], [xs, ys] => N j xs ys | _, _ => False, fun vals _ => match vals with | [.int .i64 j] => (K - j).toNat | _ => 0⟩), (26, ⟨[(6, .row 0), (7, .row 1), (14, .sh (.int .i64))], [(0, .row), (1, .row)], [], fun vals xss _ _ => match vals, xss with | [.int .i64 i], [xs, ys] => M i xs ys | _, _ => False, fun vals xss => match vals, xss with | [.int .i64 i], [xs, _] => xs.length - i.toNat | _, _ => 0⟩), (34, ⟨[(6, .row 0), (7, .row 1), (16, .sh (.int .i64))], [(0, .row), (1, .row)], [], fun vals xss _ _ => match vals, xss with | [.int .i64 i], [xs, ys] => R i xs ys | _, _ => False, fun vals xss => match vals, xss with | [.int .i64 i], [_, ys] => ys.length - i.toNat | _, _ => 0⟩)] }) Tryz.func29 rfl Tryz.call29 rfl rfl) (let E1 := fun (x : Nat) (a : Int) (b : Option Addr) (c : Nat) (d : Mem) (e : List Value) (f : List Value) (g : Option Addr) (h : Nat) (i : Nat) => Br (decide (0 < (x : Int))) (Wr .i64 (a + 1) (fun j => Ct Tryz.prog (fnv 61) #[.slice b x c, .int .i64 j] d fun v k => ∃ n l m o p q r t, v = .tuple #[.agg #[.int .u8 n, .int .u8 l, .int .u8 m, .int .u8 o, .int .i64 p, .int .i64 q, .string r], .int .i64 t] /\ Br (t != 0) (Wr .i64 (a + 1) (fun u => Q (.tuple #[.slice none 0 0, .slice none 0 0, .int .i64 u, .int .i64 t]) k)) (e.length = e.length / 7 * 7 /\ e.length / 7 + 1 <= 9223372036854775807 /\ (e.length / 7 + 1) * 40 <= 140737488355328 /\ Wr .i64 (a + 1) fun u => e.length / 7 + 1 = List.length (e ++ [.int .u8 n, .int .u8 l, .int .u8 m, .int .u8 o, .int .i64 p, .int .i64 q, .string r]) / 7 /\ Rf (f.length / 3) /\ Rf (SV.v (.slice g h i)) /\ N u (e ++ [.int .u8 n, .int .u8 l, .int .u8 m, .int .u8 o, .int .i64 p, .int .i64 q, .string r]) f /\ Int.toNat ((K : Int) - u) < Int.toNat ((K : Int) - a)))) (Wr .i64 (a + 1) (fun j => Rf (e.length / 7) /\ Rf (f.length / 3) /\ Rf (SV.v (.slice g h i)) /\ N j e f /\ Int.toNat ((K : Int) - j) < Int.toNat ((K : Int) - a)))
  Br (decide (65536 < (s.size : Int))) (Q (.tuple #[.slice none 0 0, .slice none 0 0, .int .i64 0, .int .i64 3]) I) (Ct Tryz.prog (fnv 58) #[.string s] I (fun v a => ∃ b n c, v = .slice b n c /\ ((0 : Nat) = 0 /\ (0 : Nat) = 0 /\ Rf (SV.v (.slice b n c)) /\ N 0 [] []) /\ ∀ (d : Mem), Mem -> a.le d -> ∀ (x e : List Value) (f : Int), N f x e -> Br (decide (f < (n : Int))) (0 <= f /\ f < (n : Int) /\ b.isSome = true /\ ∃ q, atI d b (f.toNat * 1 + 0) = some (.string q) /\ Ct Tryz.prog (fnv 59) #[.string q] d fun g h => ∃ i j k, g = .slice i j k /\ Br (decide (0 < (j : Int))) ((0 : Int) <= 0 /\ 0 < (j : Int) /\ i.isSome = true /\ ∃ l, atI h i 0 = some (.string l) /\ (0 : Int) <= 0 /\ 0 < (j : Int) /\ i.isSome = true /\ ∃ m, atI h i 0 = some (.string m) /\ Wr .i64 ((m.size : Int) - 1) fun o => ∃ p, l.data.toList[o.toNat]? = some p /\ 0 <= o /\ Br ((p.toNat : Int) == 58) ((0 : Int) <= 0 /\ 0 < (j : Int) /\ i.isSome = true /\ ∃ r, atI h i 0 = some (.string r) /\ (0 : Int) <= 0 /\ 0 < (j : Int) /\ i.isSome = true /\ ∃ t, atI h i 0 = some (.string t) /\ Wr .i64 ((t.size : Int) - 1) fun u => 0 <= u /\ u <= (r.size : Int) /\ Ct Tryz.prog (fnv 38) #[.string (r.extract 0 u.toNat)] h fun w y => ∃ z, w = .bool z /\ Br (!z) (Wr .i64 (f + 1) (fun c1 => Q (.tuple #[.slice none 0 0, .slice none 0 0, .int .i64 c1, .int .i64 153]) y)) (∀ (a1 : Option Addr) (c1 : Nat) (I1 : Mem), y.le I1 -> RowM I1 a1 c1 3 e -> Ct Tryz.prog (fnv 60) #[.slice a1 (e.length / 3) c1, .string (r.extract 0 u.toNat)] I1 fun v1 x1 => ∃ n1, v1 = .int .i64 n1 /\ Br (decide (0 <= n1)) (Wr .i64 (f + 1) (fun c2 => Q (.tuple #[.slice none 0 0, .slice none 0 0, .int .i64 c2, .int .i64 154]) y)) (Wr .i64 (f + 1) (fun c2 => e.length = e.length / 3 * 3 /\ e.length / 3 + 1 <= 9223372036854775807 /\ (e.length / 3 + 1) * 32 <= 140737488355328 /\ (0 : Int) <= 1 /\ 1 <= (j : Int) /\ Br (decide (0 < ((j - 1 : Nat) : Int))) (Wr .i64 (f + 1) (fun c3 => Ct Tryz.prog (fnv 61) #[.slice (sladdr i k 1 1) (j - 1) (k - 1), .int .i64 c3] y fun v2 I2 => ∃ n2 n3 n4 n5 n6 n7 q1 n8, v2 = .tuple #[.agg #[.int .u8 n2, .int .u8 n3, .int .u8 n4, .int .u8 n5, .int .i64 n6, .int .i64 n7, .string q1], .int .i64 n8] /\ Br (n8 != 0) (Wr .i64 (f + 1) (fun c4 => Q (.tuple #[.slice none 0 0, .slice none 0 0, .int .i64 c4, .int .i64 n8]) I2)) (x.length = x.length / 7 * 7 /\ x.length / 7 + 1 <= 9223372036854775807 /\ (x.length / 7 + 1) * 40 <= 140737488355328 /\ Wr .i64 (f + 1) fun c4 => x.length / 7 + 1 = List.length (x ++ [.int .u8 n2, .int .u8 n3, .int .u8 n4, .int .u8 n5, .int .i64 n6, .int .i64 n7, .string q1]) / 7 /\ e.length / 3 + 1 = List.length (e ++ [.string (r.extract 0 u.toNat), .int .i64 ((x.length / 7 : Nat) : Int), .int .i64 c2]) / 3 /\ Rf (SV.v (.slice b n c)) /\ N c4 (x ++ [.int .u8 n2, .int .u8 n3, .int .u8 n4, .int .u8 n5, .int .i64 n6, .int .i64 n7, .string q1]) (e ++ [.string (r.extract 0 u.toNat), .int .i64 ((x.length / 7 : Nat) : Int), .int .i64 c2]) /\ Int.toNat ((K : Int) - c4) < Int.toNat ((K : Int) - f)))) (Wr .i64 (f + 1) (fun c3 => Rf (x.length / 7) /\ e.length / 3 + 1 = List.length (e ++ [.string (r.extract 0 u.toNat), .int .i64 ((x.length / 7 : Nat) : Int), .int .i64 c2]) / 3 /\ Rf (SV.v (.slice b n c)) /\ N c3 x (e ++ [.string (r.extract 0 u.toNat), .int .i64 ((x.length / 7 : Nat) : Int), .int .i64 c2]) /\ Int.toNat ((K : Int) - c3) < Int.toNat ((K : Int) - f))))))) (E1 j f i k h x e b n c)) (E1 j f i k h x e b n c)) (Br (decide (256 < ((x.length / 7 : Nat) : Int))) (Q (.tuple #[.slice none 0 0, .slice none 0 0, .int .i64 0, .int .i64 5]) d) ((Rf (x.length / 7) /\ Rf (e.length / 3) /\ M 0 x e) /\ ∀ (g : Mem), Mem -> d.le g -> ∀ (h i : List Value) (j : Int), M j h i -> Br (decide (j < ((h.length / 7 : Nat) : Int))) (0 <= j /\ j < ((h.length / 7 : Nat) : Int) /\ h.length / 7 * 7 <= h.length /\ ∃ q, h[j.toNat * 7 + 6 + 0]? = some (.string q) /\ Br (!(q.toList == (ByteArray.mk #[]).toList)) (0 <= j /\ j < ((h.length / 7 : Nat) : Int) /\ h.length / 7 * 7 <= h.length /\ ∃ k, h[j.toNat * 7 + 6 + 0]? = some (.string k) /\ ∀ (l : Option Addr) (m : Nat) (o : Mem), g.le o -> RowM o l m 3 i -> Ct Tryz.prog (fnv 60) #[.slice l (i.length / 3) m, .string k] o fun p r => ∃ t, p = .int .i64 t /\ Br (decide (t < 0)) (0 <= j /\ j < ((h.length / 7 : Nat) : Int) /\ h.length / 7 * 7 <= h.length /\ ∃ u, h[j.toNat * 7 + 5 + 0]? = some (.int .i64 u) /\ Q (.tuple #[.slice none 0 0, .slice none 0 0, .int .i64 u, .int .i64 155]) g) (0 <= t /\ t < ((i.length / 3 : Nat) : Int) /\ i.length / 3 * 3 <= i.length /\ ∃ u, i[t.toNat * 3 + 1 + 0]? = some (.int .i64 u) /\ 0 <= j /\ j < ((h.length / 7 : Nat) : Int) /\ h.length / 7 * 7 <= h.length /\ j.toNat * 7 + 0 + 4 + 1 <= h.length /\ (0 : Nat) < 1 /\ Wr .i64 (j + 1) fun w => h.length / 7 = (splice h (j.toNat * 7 + 0 + 4) [.int .i64 u]).length / 7 /\ Rf (i.length / 3) /\ M w (splice h (j.toNat * 7 + 0 + 4) [.int .i64 u]) i /\ (splice h (j.toNat * 7 + 0 + 4) [.int .i64 u]).length - w.toNat < h.length - j.toNat)) (Wr .i64 (j + 1) (fun k => Rf (h.length / 7) /\ Rf (i.length / 3) /\ M k h i /\ h.length - k.toNat < h.length - j.toNat))) ((Rf (h.length / 7) /\ Rf (i.length / 3) /\ R 0 h i) /\ ∀ (k : Mem), Mem -> g.le k -> ∀ (l m : List Value) (o : Int), R o l m -> Br (decide (o < ((m.length / 3 : Nat) : Int))) (0 <= o /\ o < ((m.length / 3 : Nat) : Int) /\ m.length / 3 * 3 <= m.length /\ ∃ p, m[o.toNat * 3 + 1 + 0]? = some (.int .i64 p) /\ Br (p == ((l.length / 7 : Nat) : Int)) (0 <= o /\ o < ((m.length / 3 : Nat) : Int) /\ m.length / 3 * 3 <= m.length /\ ∃ q, m[o.toNat * 3 + 2 + 0]? = some (.int .i64 q) /\ Q (.tuple #[.slice none 0 0, .slice none 0 0, .int .i64 q, .int .i64 156]) k) (Wr .i64 (o + 1) (fun q => Rf (l.length / 7) /\ Rf (m.length / 3) /\ R q l m /\ m.length - q.toNat < m.length - o.toNat))) (Br (((l.length / 7 : Nat) : Int) == 0) (Q (.tuple #[.slice none 0 0, .slice none 0 0, .int .i64 0, .int .i64 6]) k) (Wr .i64 (((l.length / 7 : Nat) : Int) - 1) (fun p => 0 <= p /\ p < ((l.length / 7 : Nat) : Int) /\ l.length / 7 * 7 <= l.length /\ (7 : Nat) = 7 /\ ∃ q, l[p.toNat * 7 + 0]? = some (.int .u8 q) /\ ∃ r, l[p.toNat * 7 + 1]? = some (.int .u8 r) /\ ∃ t, l[p.toNat * 7 + 2]? = some (.int .u8 t) /\ ∃ u, l[p.toNat * 7 + 3]? = some (.int .u8 u) /\ ∃ w, l[p.toNat * 7 + 4]? = some (.int .i64 w) /\ ∃ y, l[p.toNat * 7 + 5]? = some (.int .i64 y) /\ ∃ z, l[p.toNat * 7 + 6]? = some (.string z) /\ Br (q != 1) (Br (q != 2) (Br (q != 9) (Q (.tuple #[.slice none 0 0, .slice none 0 0, .int .i64 y, .int .i64 143]) k) (∀ (a1 : Option Addr) (c1 : Nat) (I1 : Mem), k.le I1 -> RowM I1 a1 c1 7 l -> ∀ (a2 : Option Addr) (c2 : Nat) (I2 : Mem), I1.le I2 -> RowM I2 a2 c2 3 m -> Q (.tuple #[.slice a1 (l.length / 7) c1, .slice a2 (m.length / 3) c2, .int .i64 0, .int .i64 0]) I2)) (∀ (a1 : Option Addr) (c1 : Nat) (I1 : Mem), k.le I1 -> RowM I1 a1 c1 7 l -> ∀ (a2 : Option Addr) (c2 : Nat) (I2 : Mem), I1.le I2 -> RowM I2 a2 c2 3 m -> Q (.tuple #[.slice a1 (l.length / 7) c1, .slice a2 (m.length / 3) c2, .int .i64 0, .int .i64 0]) I2)) (∀ (a1 : Option Addr) (c1 : Nat) (I1 : Mem), k.le I1 -> RowM I1 a1 c1 7 l -> ∀ (a2 : Option Addr) (c2 : Nat) (I2 : Mem), I1.le I2 -> RowM I2 a2 c2 3 m -> Q (.tuple #[.slice a1 (l.length / 7) c1, .slice a2 (m.length / 3) c2, .int .i64 0, .int .i64 0]) I2)))))))))) (by kernel_rfl) ?_
 intro E1;have htl : (tx s).length = s.size := Array.length_toList;obtain ⟨w1, w2⟩ := split_len 10 (tx s);rw [<- hL] at w1 w2
 have hRA : readA (tx s) = if (linesA L 1 ⟨[], []⟩).1 ≠ 0 then ((linesA L 1 ⟨[], []⟩).2.1, (linesA L 1 ⟨[], []⟩).1, ⟨[], []⟩) else if (endA (linesA L 1 ⟨[], []⟩).2.2).2 ≠ 0 then ((endA (linesA L 1 ⟨[], []⟩).2.2).1, (endA (linesA L 1 ⟨[], []⟩).2.2).2, ⟨[], []⟩) else (0, 0, ⟨(linesA L 1 ⟨[], []⟩).2.2.ms, (linesA L 1 ⟨[], []⟩).2.2.ss.map (setTo (linesA L 1 ⟨[], []⟩).2.2.ms)⟩) := by
  rw [readA, if_neg (by omega), <- hL]
 have err : ∀ (ln e : Int) (I' : Mem), readA (tx s) = (ln, e, ⟨[], []⟩) -> Q (.tuple #[.slice none 0 0, .slice none 0 0, .int .i64 ln, .int .i64 e]) I' := fun ln e I' hh => by
  rw [hQ]
  exact ⟨none, 0, 0, none, 0, 0, by rw [hh], by rw [hh]; exact sl_none, by rw [hh]; exact sl_none⟩
 refine Br.f (decide_eq_false (by omega)) ((ct58 s (by omega) I).mono fun v a la hv => ?_)
 obtain ⟨b, n, c, hv, hb, hn, _, _⟩ := hv;rw [<- hL] at hb hn;refine ⟨b, n, c, hv, ⟨rfl, rfl, rfl, ?_⟩, fun d _ ld x e f hf => ?_⟩
 · rw [hN]; exact ⟨Int.le_refl _, Int.natCast_nonneg _, [], [], rfl, rfl, Nat.zero_le _, Nat.zero_le _, rfl⟩
 rw [hN] at hf;obtain ⟨f1, f2, ms, ss, rfl, rfl, f3, f4, f5⟩ := hf;have hsl := srcsV_len ss;have hml := mksV_len ms
 have hs7 : (srcsV ss).length / 7 = ss.length := by omega
 have hm3 : (mksV ms).length / 3 = ms.length := by omega
 refine Br.mk (fun h1 => ?_) (fun h1 => ?_)
 · have h1 := of_decide_eq_true h1
   obtain ⟨t, ht⟩ : ∃ t, L[f.toNat]? = some t := ⟨_, List.getElem?_eq_getElem (by omega)⟩
   have htm := w2 t (List.mem_of_getElem? ht)
   have hdr : L.drop f.toNat = t :: L.drop (f + 1).toNat := by
    obtain ⟨hlt, hh⟩ := List.getElem?_eq_some_iff.1 ht
    rw [show (f + 1).toNat = f.toNat + 1 by omega, List.drop_eq_getElem_cons hlt, hh]
   rw [hdr, linesA] at f5
   have hbs : b.isSome = true := by
    cases b with
    | none => have := hb.nil rfl; omega
    | some a => rfl
   have errL : ∀ e, (lineA ⟨ms, ss⟩ t (f + 1)).1 = e -> e ≠ 0 -> readA (tx s) = (f + 1, e, ⟨[], []⟩) := fun e h2 h3 => by
    rw [if_pos (by rw [h2]; exact h3)] at f5
    rw [hRA, f5]
    simp only
    rw [if_pos (by rw [h2]; exact h3), h2]
   have nxt : ∀ ms' ss', lineA ⟨ms, ss⟩ t (f + 1) = (0, ⟨ms', ss'⟩) -> ss'.length <= ss.length + 1 -> ms'.length <= ms.length + 1 -> N (f + 1) (srcsV ss') (mksV ms') := fun ms' ss' h2 h3 h4 => by
    rw [h2, if_neg (fun hh => hh rfl)] at f5;rw [hN]
    exact ⟨by omega, by omega, ms', ss', rfl, rfl, by omega, by omega, f5⟩
   have hat : atI d b (f.toNat * 1 + 0) = some (.string (strT t)) := by
    rw [Nat.mul_one]
    exact atI_le ld (hb.at_ f.toNat _ (by rw [strs, List.map_map, List.getElem?_map, ht]; rfl))
   refine ⟨f1, h1, hbs, strT t, hat, (ct59 (strT t) (by rw [strT_size]; omega) d).mono fun v h lh hv => ?_⟩
   obtain ⟨i, j, k, hv, hi, hj, hjk, _⟩ := hv;rw [tx_strT] at hi hj;refine ⟨i, j, k, hv, ?_⟩;obtain ⟨P, hP⟩ : ∃ P, P = piecesT t := ⟨_, rfl⟩;rw [<- hP] at hi hj
   have hPl : ∀ w ∈ P, w.length <= t.length := by rw [hP]; exact pieces_len t
   have e1 : lineA ⟨ms, ss⟩ t (f + 1) = putI ⟨ms, ss⟩ P (f + 1) -> E1 j f i k h (srcsV ss) (mksV ms) b n c := fun hp => by
    refine Br.mk (fun h2 => ?_) (fun h2 => ?_)
    · have h2 := of_decide_eq_true h2
      have hne : P ≠ [] := fun hh => by rw [hh] at hj; simp at hj; omega
      have hpi : putI ⟨ms, ss⟩ P (f + 1) = if (instrA P (f + 1)).1 = 0 then (0, ⟨ms, ss ++ [(instrA P (f + 1)).2]⟩) else ((instrA P (f + 1)).1, ⟨ms, ss⟩) := by
       cases P with
       | nil => exact absurd rfl hne
       | cons w r => rfl
      refine wr_i64 (by omega) (by omega) ((ct61 P hne (fun w hw => by have := hPl w hw; omega) i j k (f + 1) h hi).mono fun v k lk hv => ⟨_, _, _, _, _, _, _, _, hv, Br.mk (fun h3 => wr_i64 (by omega) (by omega) (err _ _ _ (errL _ ?_ (by simpa using h3)))) (fun h3 => ?_)⟩)
      · have h3 : (oneA P (f + 1)).2 ≠ 0 := by simpa using h3
        rw [hp, hpi, oneA] at *
        split at h3
        · exact absurd rfl h3
        · rename_i h4
          rw [if_neg h4, if_neg h4]
      · have h3 : (oneA P (f + 1)).2 = 0 := by simpa using h3
        have h4 : (instrA P (f + 1)).1 = 0 := by
         rw [oneA] at h3
         split at h3
         · assumption
         · exact h3
        have h5 : (oneA P (f + 1)).1 = (instrA P (f + 1)).2 := by rw [oneA, if_pos h4]
        rw [hpi, if_pos h4] at hp
        have h6 := nxt _ _ hp (by rw [List.length_append]; exact Nat.le_refl _) (by omega)
        rw [srcsV_snoc, <- h5] at h6
        refine ⟨by omega, by omega, by omega, wr_i64 (by omega) (by omega) ⟨?_, rfl, rfl, h6, by omega⟩⟩
        rw [List.length_append]; simp only [List.length_cons, List.length_nil]; omega
    · have h2 := of_decide_eq_false h2
      have hP0 : P = [] := List.length_eq_zero_iff.1 (by omega)
      rw [hP0] at hp
      exact wr_i64 (by omega) (by omega) ⟨rfl, rfl, rfl, nxt ms ss hp (by omega) (by omega), by omega⟩
   refine Br.mk (fun h2 => ?_) (fun h2 => e1 ?_)
   · have h2 := of_decide_eq_true h2
     obtain ⟨w, l, rfl⟩ : ∃ w l, P = w :: l := by
      cases P with
      | nil => simp at hj; omega
      | cons w l => exact ⟨w, l, rfl⟩
     have hwm := hPl w (by simp)
     have hwne : w ≠ [] := fields_ne (t.takeWhile (· ≠ 59)) [] w (by
      have : w ∈ piecesT t := by rw [<- hP]; simp
      exact this)
     have his : i.isSome = true := by
      cases i with
      | none => have := hi.nil rfl; omega
      | some a => rfl
     have h0 : atI h i 0 = some (.string (strT w)) := hi.at_ 0 _ rfl;have hwl : 0 < w.length := List.length_pos_iff.2 hwne;obtain ⟨p, hp⟩ : ∃ p, w.getLast? = some p := ⟨_, List.getLast?_eq_some_getLast hwne⟩
     have hp2 : (strT w).data.toList[((w.length : Int) - 1).toNat]? = some p := by
      rw [show ((w.length : Int) - 1).toNat = w.length - 1 by omega]
      show w[w.length - 1]? = some p
      rw [<- List.getLast?_eq_getElem?]; exact hp
     refine ⟨Int.le_refl _, h2, his, _, h0, Int.le_refl _, h2, his, _, h0, ?_⟩;rw [strT_size]
     refine wr_i64 (by omega) (by omega) ⟨p, hp2, by omega, Br.mk (fun h3 => ?_) (fun h3 => e1 ?_)⟩
     · have h3 : (p.toNat : Int) = 58 := by simpa using h3
       obtain rfl : p = 58 := UInt8.toNat_inj.1 (by show p.toNat = 58; omega)
       obtain ⟨nm, hnm⟩ : ∃ nm, nm = w.dropLast := ⟨_, rfl⟩
       have hnl : nm.length = w.length - 1 := by rw [hnm, List.length_dropLast]
       have hLA : lineA ⟨ms, ss⟩ t (f + 1) = if (labelA ⟨ms, ss⟩ nm (f + 1)).1 ≠ 0 then labelA ⟨ms, ss⟩ nm (f + 1) else putI (labelA ⟨ms, ss⟩ nm (f + 1)).2 l (f + 1) := by
        rw [lineA, <- hP]
        simp only
        rw [labT, if_pos hp, <- hnm]
       have hex : (strT w).extract 0 ((w.length : Int) - 1).toNat = strT nm := by
        have key : tx ((strT w).extract 0 ((w.length : Int) - 1).toNat) = nm := by
         rw [tx_extract, tx_strT, List.drop_zero, hnm, List.dropLast_eq_take, show ((w.length : Int) - 1).toNat - 0 = w.length - 1 by omega]
        exact (strT_tx _).symm.trans (congrArg strT key)
       refine ⟨Int.le_refl _, h2, his, _, h0, Int.le_refl _, h2, his, _, h0, ?_⟩;rw [strT_size]
       refine wr_i64 (by omega) (by omega) ⟨by omega, by omega, ?_⟩
       rw [hex]
       refine (ct38 (strT nm) (by rw [strT_size]; omega) h).mono fun v y ly hv => ⟨_, hv, ?_⟩
       rw [tx_strT]
       refine Br.mk (fun h4 => wr_i64 (by omega) (by omega) (err _ _ _ (errL 153 ?_ (by decide)))) (fun h4 => ?_)
       · have h4 : nameB nm = false := by simpa using h4
         have : labelA ⟨ms, ss⟩ nm (f + 1) = (153, ⟨ms, ss⟩) := by rw [labelA, if_pos h4]
         rw [hLA, this, if_pos (by simp)]
       have h4 : nameB nm = true := by simpa using h4
       intro a1 c1 I1 l1 hrow;rw [hm3, hs7]
       refine (ct60 ms a1 ms.length c1 (strT nm) I1 (hrow.sl (by decide) (mksV_len ms))).mono fun v x1 lx hv => ⟨_, hv, ?_⟩
       rw [tx_strT, idx_has]
       refine Br.mk (fun h5 => wr_i64 (by omega) (by omega) (err _ _ _ (errL 154 ?_ (by decide)))) (fun h5 => ?_)
       · have : labelA ⟨ms, ss⟩ nm (f + 1) = (154, ⟨ms, ss⟩) := by rw [labelA, if_neg (by rw [h4]; decide), if_pos h5]
         rw [hLA, this, if_pos (by simp)]
       have hlb : labelA ⟨ms, ss⟩ nm (f + 1) = (0, ⟨ms ++ [⟨nm, (ss.length : Int), f + 1⟩], ss⟩) := by rw [labelA, if_neg (by rw [h4]; decide), if_neg (by rw [h5]; decide)]
       rw [hlb, if_neg (fun hh => hh rfl)] at hLA
       simp only at hLA
       have hm1 : mksV ms ++ [.string (strT nm), .int .i64 (ss.length : Int), .int .i64 (f + 1)] = mksV (ms ++ [⟨nm, (ss.length : Int), f + 1⟩]) := (mksV_snoc ms ⟨nm, (ss.length : Int), f + 1⟩).symm
       have hm2 : ms.length + 1 = (mksV ms ++ [Value.string (strT nm), Value.int .i64 (ss.length : Int), Value.int .i64 (f + 1)]).length / 3 := by
        rw [List.length_append]; simp only [List.length_cons, List.length_nil]; omega
       refine wr_i64 (by omega) (by omega) ⟨by omega, by omega, by omega, by decide, by omega, Br.mk (fun h6 => ?_) (fun h6 => ?_)⟩
       · have h6 := of_decide_eq_true h6
         have hne : l ≠ [] := fun hh => by subst hh; simp at hj; omega
         have hpi : putI ⟨ms ++ [⟨nm, (ss.length : Int), f + 1⟩], ss⟩ l (f + 1) = if (instrA l (f + 1)).1 = 0 then (0, ⟨ms ++ [⟨nm, (ss.length : Int), f + 1⟩], ss ++ [(instrA l (f + 1)).2]⟩) else ((instrA l (f + 1)).1, ⟨ms ++ [⟨nm, (ss.length : Int), f + 1⟩], ss⟩) := by
          cases l with
          | nil => exact absurd rfl hne
          | cons w r => rfl
         have htail : SlM y (sladdr i k 1 1) (j - 1) 1 (strs (l.map strT)) := (sl_drop hi (k := 1) (by omega) hjk).mono ly
         refine wr_i64 (by omega) (by omega) ((ct61 l hne (fun w hw => by have := hPl w (List.mem_cons_of_mem _ hw); omega) _ _ _ (f + 1) y htail).mono fun v k lk hv => ⟨_, _, _, _, _, _, _, _, hv, Br.mk (fun h7 => wr_i64 (by omega) (by omega) (err _ _ _ (errL _ ?_ (by simpa using h7)))) (fun h7 => ?_)⟩)
         · have h7 : (oneA l (f + 1)).2 ≠ 0 := by simpa using h7
           rw [hLA, hpi];rw [oneA] at h7 ⊢
           split at h7
           · exact absurd rfl h7
           · rename_i h8
             rw [if_neg h8, if_neg h8]
         · have h7 : (oneA l (f + 1)).2 = 0 := by simpa using h7
           have h8 : (instrA l (f + 1)).1 = 0 := by
            rw [oneA] at h7
            split at h7
            · assumption
            · exact h7
           have h9 : (oneA l (f + 1)).1 = (instrA l (f + 1)).2 := by rw [oneA, if_pos h8]
           rw [hpi, if_pos h8] at hLA
           have g6 := nxt _ _ hLA (by rw [List.length_append]; exact Nat.le_refl _) (by rw [List.length_append]; exact Nat.le_refl _)
           rw [srcsV_snoc, <- h9, <- hm1] at g6
           refine ⟨by omega, by omega, by omega, wr_i64 (by omega) (by omega) ⟨?_, hm2, rfl, g6, by omega⟩⟩
           rw [List.length_append]; simp only [List.length_cons, List.length_nil]; omega
       · have h6 := of_decide_eq_false h6
         have hl0 : l = [] := List.length_eq_zero_iff.1 (by simp only [List.length_cons] at hj; omega)
         rw [hl0] at hLA
         have g6 := nxt _ _ hLA (by omega) (by rw [List.length_append]; exact Nat.le_refl _)
         rw [<- hm1] at g6
         exact wr_i64 (by omega) (by omega) ⟨rfl, hm2, rfl, g6, by omega⟩
     · have h3 : p ≠ 58 := fun hh => by subst hh; cases h3
       rw [lineA, <- hP]
       simp only
       rw [labT, if_neg (by rw [hp]; simpa using h3)]
   · have h2 := of_decide_eq_false h2
     have hP0 : P = [] := List.length_eq_zero_iff.1 (by omega)
     rw [lineA, <- hP, hP0]; rfl
 · have h1 := of_decide_eq_false h1
   rw [List.drop_eq_nil_of_le (by omega), linesA] at f5
   rw [hs7, hm3]
   have hE : readA (tx s) = if (endA ⟨ms, ss⟩).2 ≠ 0 then ((endA ⟨ms, ss⟩).1, (endA ⟨ms, ss⟩).2, ⟨[], []⟩) else (0, 0, ⟨ms, ss.map (setTo ms)⟩) := by
    rw [hRA, f5]
    simp only
    rw [if_neg (fun hh => hh rfl)]
   have errE : ∀ ln e, endA ⟨ms, ss⟩ = (ln, e) -> e ≠ 0 -> readA (tx s) = (ln, e, ⟨[], []⟩) := fun ln e h2 h3 => by rw [hE, h2, if_pos h3]
   refine Br.mk (fun h2 => err _ _ _ (errE _ _ ?_ (by decide))) (fun h2 => ?_)
   · have h2 := of_decide_eq_true h2
     rw [endA, if_pos (by simp only; omega)]
   have h2 := of_decide_eq_false h2;refine ⟨⟨rfl, rfl, ?_⟩, fun g _ lg hx hy j hj => ?_⟩
   · rw [hM]; exact ⟨Int.le_refl _, ms, ss, f5, rfl, Int.natCast_nonneg _, by omega, by simp, by simp⟩
   rw [hM] at hj;obtain ⟨j1, ms', ss', j2, rfl, j3, j4, rfl, j5⟩ := hj
   obtain ⟨rfl, rfl⟩ : ms' = ms /\ ss' = ss := by
    have := j2.symm.trans f5;simpa using this
   obtain ⟨A, hA⟩ : ∃ A, A = (ss'.take j.toNat).map (setTo ms') ++ ss'.drop j.toNat := ⟨_, rfl⟩;rw [<- hA]
   have hAl : A.length = ss'.length := by rw [hA, List.length_append, List.length_map, <- List.length_append, List.take_append_drop]
   have hAs := srcsV_len A
   have hA7 : (srcsV A).length / 7 = ss'.length := by omega
   rw [hA7, hm3];refine Br.mk (fun h3 => ?_) (fun h3 => ?_)
   · have h3 := of_decide_eq_true h3
     obtain ⟨x, hx⟩ : ∃ x, ss'[j.toNat]? = some x := ⟨_, List.getElem?_eq_getElem (by omega)⟩
     have htl2 : ((ss'.take j.toNat).map (setTo ms')).length = j.toNat := by rw [List.length_map, List.length_take]; omega
     have hAx : A[j.toNat]? = some x := by
      rw [hA, List.getElem?_append_right (by omega), htl2, Nat.sub_self, List.getElem?_drop, Nat.add_zero]; exact hx
     have e1 : (j + 1).toNat = j.toNat + 1 := by omega
     have htk : ss'.take (j + 1).toNat = ss'.take j.toNat ++ [x] := by rw [e1, List.take_add_one, hx]; rfl
     have hdx : ss'.drop j.toNat = x :: ss'.drop (j + 1).toNat := by
      obtain ⟨hlt, hh⟩ := List.getElem?_eq_some_iff.1 hx;rw [e1, List.drop_eq_getElem_cons hlt, hh]
     have t6 : (srcsV A)[j.toNat * 7 + 6 + 0]? = some (.string (strT x.target)) := srcsV_get hAx 6 _ rfl;have t5 : (srcsV A)[j.toNat * 7 + 5 + 0]? = some (.int .i64 x.line) := srcsV_get hAx 5 _ rfl
     have hset : A.set j.toNat (setTo ms' x) = (ss'.take (j + 1).toNat).map (setTo ms') ++ ss'.drop (j + 1).toNat := by
      rw [hA, List.set_append_right _ _ (by omega), htl2, Nat.sub_self, hdx, htk]
      simp
     have nx : lostB ms' x = false -> M (j + 1) (srcsV (A.set j.toNat (setTo ms' x))) (mksV ms') := fun hlo => by
      rw [hM, hset]
      refine ⟨by omega, ms', ss', f5, rfl, by omega, j4, rfl, fun y hy => ?_⟩
      rw [htk] at hy
      rcases List.mem_append.1 hy with hy | hy
      · exact j5 y hy
      · simp only [List.mem_cons, List.not_mem_nil, or_false] at hy
        rw [hy]; exact hlo
     refine ⟨j1, h3, by omega, _, t6, Br.mk (fun h4 => ?_) (fun h4 => ?_)⟩
     · have h4 : x.target ≠ [] := fun hh => by rw [hh] at h4; exact nil_toList h4
       refine ⟨j1, h3, by omega, _, t6, fun l m o lo hrow => ?_⟩
       refine (ct60 ms' l ms'.length m (strT x.target) o (hrow.sl (by decide) (mksV_len ms'))).mono fun v r lr hv => ⟨_, hv, ?_⟩
       rw [tx_strT];have hid := idx_has ms' x.target
       refine Br.mk (fun h5 => ⟨j1, h3, by omega, _, t5, err _ _ _ (errE _ _ ?_ (by decide))⟩) (fun h5 => ?_)
       · have h5 := of_decide_eq_true h5
         rw [decide_eq_false (by omega)] at hid
         have hlo : lostB ms' x = true := by rw [lostB, <- hid, decide_eq_true h4]; rfl
         have hfd : ss'.find? (lostB ms') = some x := by
          rw [<- List.take_append_drop j.toNat ss', hdx, List.find?_append, List.find?_eq_none.2 (fun y hy => by rw [j5 y hy]; decide), Option.none_or, List.find?_cons_of_pos hlo]
         rw [endA, if_neg (by simp only; omega)]
         simp only
         rw [hfd]
       · have h5 := of_decide_eq_false h5
         obtain ⟨m', i1, i2, i3⟩ := idx_at (by omega : 0 <= idxMk ms' x.target)
         rw [decide_eq_true (by omega)] at hid
         have hlo : lostB ms' x = false := by rw [lostB, <- hid]; simp
         have hst : setTo ms' x = { x with ins := { x.ins with n := m'.at_ } } := by rw [setTo, if_neg h4, i2]
         have hsp := srcs_set m'.at_ hAx;rw [<- hst] at hsp
         refine ⟨by omega, by omega, by omega, _, (mksV_get i1).2.1, j1, h3, by omega, by omega, by decide, wr_i64 (by omega) (by omega) ?_⟩
         rw [hsp];have hl9 := srcsV_len (A.set j.toNat (setTo ms' x));rw [List.length_set] at hl9
         exact ⟨by omega, rfl, nx hlo, by omega⟩
     · have h4 : x.target = [] := by
        rw [show (⟨#[]⟩ : ByteArray) = strT [] from rfl, str_eq] at h4
        simp only [Bool.not_eq_false'] at h4;exact strT_inj (of_decide_eq_true h4)
       have hst : setTo ms' x = x := by rw [setTo, if_pos h4]
       have hself : A.set j.toNat x = A := by
        obtain ⟨hlt, hh⟩ := List.getElem?_eq_some_iff.1 hAx;rw [<- hh, List.set_getElem_self]
       have := nx (by rw [lostB, decide_eq_false (fun hh => hh h4)]; rfl)
       rw [hst, hself] at this
       exact wr_i64 (by omega) (by omega) ⟨rfl, rfl, this, by omega⟩
   · have h3 := of_decide_eq_false h3
     have hA2 : A = ss'.map (setTo ms') := by rw [hA, List.take_of_length_le (by omega), List.drop_eq_nil_of_le (by omega), List.append_nil]
     rw [List.take_of_length_le (by omega)] at j5
     refine ⟨⟨rfl, rfl, ?_⟩, fun k _ lk u w o ho => ?_⟩
     · rw [hR, hA2]; exact ⟨Int.le_refl _, ms', ss', f5, rfl, Int.natCast_nonneg _, j4, rfl, j5, by simp⟩
     rw [hR] at ho;obtain ⟨o1, ms2, ss2, o2, rfl, o3, o4, rfl, o5, o6⟩ := ho
     obtain ⟨rfl, rfl⟩ : ms2 = ms' /\ ss2 = ss' := by
      have := o2.symm.trans f5;simpa using this
     rw [<- hA2, hA7, hm3]
     have hnone : ss2.find? (lostB ms2) = none := List.find?_eq_none.2 (fun y hy => by rw [o5 y hy]; decide)
     refine Br.mk (fun h4 => ?_) (fun h4 => ?_)
     · have h4 := of_decide_eq_true h4
       obtain ⟨y, hy⟩ : ∃ y, ms2[o.toNat]? = some y := ⟨_, List.getElem?_eq_getElem (by omega)⟩
       obtain ⟨_, y1, y2⟩ := mksV_get hy
       have e1 : (o + 1).toNat = o.toNat + 1 := by omega
       have htk : ms2.take (o + 1).toNat = ms2.take o.toNat ++ [y] := by rw [e1, List.take_add_one, hy]; rfl
       have hdy : ms2.drop o.toNat = y :: ms2.drop (o + 1).toNat := by
        obtain ⟨hlt, hh⟩ := List.getElem?_eq_some_iff.1 hy;rw [e1, List.drop_eq_getElem_cons hlt, hh]
       refine ⟨o1, h4, by omega, _, y1, Br.mk (fun h5 => ⟨o1, h4, by omega, _, y2, err _ _ _ (errE _ _ ?_ (by decide))⟩) (fun h5 => wr_i64 (by omega) (by omega) ⟨rfl, rfl, ?_, by omega⟩)⟩
       · have h5 : y.at_ = (ss2.length : Int) := by simpa using h5
         have hfd : ms2.find? (fun m => decide (m.at_ = (ss2.length : Int))) = some y := by
          rw [<- List.take_append_drop o.toNat ms2, hdy, List.find?_append, List.find?_eq_none.2 (fun z hz => by rw [decide_eq_false (o6 z hz)]; decide), Option.none_or, List.find?_cons, decide_eq_true h5]
         rw [endA, if_neg (by simp only; omega)]
         simp only
         rw [hnone]
         simp only
         rw [hfd]
       · have h5 : y.at_ ≠ (ss2.length : Int) := by simpa using h5
         rw [hR]
         refine ⟨by omega, ms2, ss2, f5, rfl, by omega, j4, by rw [hA2], o5, fun z hz => ?_⟩
         rw [htk] at hz
         rcases List.mem_append.1 hz with hz | hz
         · exact o6 z hz
         · simp only [List.mem_cons, List.not_mem_nil, or_false] at hz
           rw [hz]; exact h5
     · have h4 := of_decide_eq_false h4
       rw [List.take_of_length_le (by omega)] at o6
       have hnm : ms2.find? (fun m => decide (m.at_ = (ss2.length : Int))) = none := List.find?_eq_none.2 (fun z hz => by rw [decide_eq_false (o6 z hz)]; decide)
       have hend : endA ⟨ms2, ss2⟩ = (match A.getLast? with
        | none => (0, 6)
        | some x => if goesB x.ins then (x.line, 143) else (0, 0)) := by
        rw [endA, if_neg (by simp only; omega)]
        simp only
        rw [hnone]
        simp only
        rw [hnm]
        simp only
        rw [<- hA2] <;> rfl
       refine Br.mk (fun h5 => err _ _ _ (errE _ _ ?_ (by decide))) (fun h5 => ?_)
       · have h5 : (ss2.length : Int) = 0 := by simpa using h5
         have : A = [] := List.length_eq_zero_iff.1 (by omega)
         rw [hend, this]; rfl
       have h5 : ss2.length ≠ 0 := fun hh => by rw [hh] at h5; simp at h5
       obtain ⟨z, hz⟩ : ∃ z, A[((ss2.length : Int) - 1).toNat]? = some z := ⟨_, List.getElem?_eq_getElem (by omega)⟩
       have hzl : A.getLast? = some z := by rw [List.getLast?_eq_getElem?, hAl, show ss2.length - 1 = ((ss2.length : Int) - 1).toNat by omega]; exact hz
       rw [hzl] at hend
       simp only at hend
       have hz1 : oneE z.ins = 0 := by
        have hzm : z ∈ ss2.map (setTo ms2) := by rw [<- hA2]; exact List.mem_of_getElem? hz
        obtain ⟨x, hx, rfl⟩ := List.mem_map.1 hzm;obtain ⟨L2, _⟩ := lines2 L 0 ⟨[], []⟩ rd2_zero
        rw [show ((0 : Nat) : Int) + 1 = 1 from rfl, f5] at L2
        refine set_one (L2.sok x hx).1 (fun m hm => ?_) (o5 x hx);have h6 := L2.mok m hm;have h7 := o6 m hm
        simp only at h6
        omega
       have hgo : goesB z.ins = (decide (z.ins.op ≠ 1) && (decide (z.ins.op ≠ 2) && decide (z.ins.op ≠ 9))) := by rw [goesB, decide_eq_true hz1, Bool.true_and]
       have fin : goesB z.ins = false -> ∀ (a1 : Option Addr) (c1 : Nat) (I1 : Mem), k.le I1 -> RowM I1 a1 c1 7 (srcsV A) -> ∀ (a2 : Option Addr) (c2 : Nat) (I2 : Mem), I1.le I2 -> RowM I2 a2 c2 3 (mksV ms2) -> Q (.tuple #[.slice a1 ss2.length c1, .slice a2 ms2.length c2, .int .i64 0, .int .i64 0]) I2 := fun hg a1 c1 I1 l1 r1 a2 c2 I2 l2 r2 => by
        have hr : readA (tx s) = (0, 0, ⟨ms2, A⟩) := by rw [hE, hend, hg, hA2]; rfl
        rw [hQ]
        refine ⟨a1, _, c1, a2, _, c2, by rw [hr], ?_, ?_⟩
        · rw [hr]
          exact (r1.sl (by decide) (by rw [srcsV_len, hAl])).mono l2
        · rw [hr]
          exact r2.sl (by decide) (mksV_len ms2)
       refine wr_i64 (by omega) (by omega) ⟨by omega, by omega, by omega, rfl, _, srcsV_get hz 0 _ rfl, _, srcsV_get hz 1 _ rfl, _, srcsV_get hz 2 _ rfl, _, srcsV_get hz 3 _ rfl, _, srcsV_get hz 4 _ rfl, _, srcsV_get hz 5 _ rfl, _, srcsV_get hz 6 _ rfl, ?_⟩
       refine Br.mk (fun h6 => Br.mk (fun h7 => Br.mk (fun h8 => err _ _ _ (errE _ _ ?_ (by decide))) (fun h8 => fin ?_)) (fun h7 => fin ?_)) (fun h6 => fin ?_)
       · have h6 : z.ins.op ≠ 1 := by simpa using h6
         have h7 : z.ins.op ≠ 2 := by simpa using h7
         have h8 : z.ins.op ≠ 9 := by simpa using h8
         rw [hend, hgo, decide_eq_true h6, decide_eq_true h7, decide_eq_true h8]; rfl
       · have h8 : z.ins.op = 9 := by simpa using h8
         rw [hgo, h8]; rfl
       · have h7 : z.ins.op = 2 := by simpa using h7
         rw [hgo, h7]; rfl
       · have h6 : z.ins.op = 1 := by simpa using h6
         rw [hgo, h6]; rfl
theorem readA_facts (t : Tx) : ((readA t).2.1 ≠ 0 -> (readA t).2.2 = ⟨[], []⟩) /\ (readA t).2.2.ss.length <= 256 := by
 unfold readA;split
 · exact ⟨fun _ => rfl, Nat.zero_le _⟩
 split
 · exact ⟨fun _ => rfl, Nat.zero_le _⟩
 split
 · exact ⟨fun _ => rfl, Nat.zero_le _⟩
 rename_i h;refine ⟨fun hh => absurd rfl hh, ?_⟩;have h := Decidable.not_not.1 h;unfold endA at h
 split at h
 · cases h
 · rename_i h2
   simp only [List.length_map];omega
theorem readA_ok (t : Tx) : ∀ i ∈ (readA t).2.2.ss.map (·.ins), okI i := by
 by_cases h : (readA t).2.1 = 0
 · exact ((read_right t).2.2 h).2.1
 · rw [(readA_facts t).1 h]; intro i hi; cases hi
theorem parse_eq (t : Tx) : parseA t = ((readA t).2.2.ss.map (·.ins), (readA t).1, (readA t).2.1) := by
 rw [parseA]
 by_cases h : (readA t).2.1 = 0
 · rw [if_pos h, ((read_right t).2.2 h).1, h]
 · rw [if_neg h, (readA_facts t).1 h]; rfl
theorem labels_eq (t : Tx) : labelsA t = ((readA t).2.2.ms.map (fun m => (m.name, m.at_)), (readA t).1, (readA t).2.1) := by
 rw [labelsA]
 by_cases h : (readA t).2.1 = 0
 · rw [if_pos h, ((read_right t).2.2 h).1, h]
 · rw [if_neg h, (readA_facts t).1 h]; rfl
theorem lab2_get : ∀ {L : List (Tx × Int)} {k : Nat} {x : Tx × Int}, L[k]? = some x -> (L.flatMap fun x => [Value.string (strT x.1), Value.int .i64 x.2])[k * 2 + 0]? = some (.string (strT x.1)) /\ (L.flatMap fun x => [Value.string (strT x.1), Value.int .i64 x.2])[k * 2 + 1]? = some (.int .i64 x.2)
 | [], k, x, h => by simp at h
 | y :: r, 0, x, h => by
   simp only [List.getElem?_cons_zero, Option.some.injEq] at h;subst h;exact ⟨rfl, rfl⟩
 | y :: r, k + 1, x, h => by
   have ih := lab2_get (L := r) (k := k) (by simpa using h)
   rw [List.flatMap_cons, show (k + 1) * 2 + 0 = (k * 2 + 0) + 2 by omega, show (k + 1) * 2 + 1 = (k * 2 + 1) + 2 by omega]
   exact ih
theorem ct28 (s : ByteArray) (hs : s.size <= 65536) (I : Mem) : Ct Tryz.prog (fnv 28) #[.string s] I (fun v I' => ∃ a n c, v = .tuple #[.slice a n c, .int .i64 (readA (tx s)).1, .int .i64 (readA (tx s)).2.1] /\ InsM I' a n ((readA (tx s)).2.2.ss.map (·.ins))) := by
 obtain ⟨Q, hQ⟩ : ∃ q : Value -> Mem -> Prop, q = fun v I' => ∃ a n c, v = .tuple #[.slice a n c, .int .i64 (readA (tx s)).1, .int .i64 (readA (tx s)).2.1] /\ InsM I' a n ((readA (tx s)).2.2.ss.map (·.ins)) := ⟨_, rfl⟩;obtain ⟨S, hS⟩ : ∃ q, q = (readA (tx s)).2.2.ss := ⟨_, rfl⟩;obtain ⟨N, hN⟩ : ∃ f : Int -> List Value -> Prop, f = fun (j : Int) xs => 0 <= j /\ j <= S.length /\ xs = insVs ((S.take j.toNat).map (·.ins)) := ⟨_, rfl⟩;obtain ⟨K, hK⟩ : ∃ k : Nat, k = S.length := ⟨_, rfl⟩;rw [<- hQ]
 refine viaR (ct_via (A := { loops := [(4, ⟨[(5, .keep), (7, .keep), (8, .keep), (9, .row 0), (10, .sh (.int .i64))], [(0, .row)], [(9, 5, 113)], fun vals xss _ _ => match vals, xss with | [.int .i64 j], [xs] => N j xs | _, _ => False, fun vals _ => match vals with | [.int .i64 j] => (K - j).toNat | _ => 0⟩)] }) Tryz.func28 rfl Tryz.call28 rfl rfl) (Ct Tryz.prog (fnv 29) #[.string s] I fun v a => ∃ b n c d e f g h, v = .tuple #[.slice b n c, .slice d e f, .int .i64 g, .int .i64 h] /\ (Rf (SV.v (.slice b n c)) /\ Rf (SV.v (.int .i64 g)) /\ Rf (SV.v (.int .i64 h)) /\ (0 : Nat) = 0 /\ N 0 []) /\ ∀ (i : Mem), Mem -> a.le i -> ∀ (x : List Value) (j : Int), N j x -> Br (decide (j < (n : Int))) (0 <= j /\ j < (n : Int) /\ b.isSome = true /\ b.isSome = true /\ (5 : Nat) = 5 /\ ∃ k, atI i b (j.toNat * 7 + 0 + 0) = some (.int .u8 k) /\ ∃ l, atI i b (j.toNat * 7 + 0 + 1) = some (.int .u8 l) /\ ∃ m, atI i b (j.toNat * 7 + 0 + 2) = some (.int .u8 m) /\ ∃ o, atI i b (j.toNat * 7 + 0 + 3) = some (.int .u8 o) /\ ∃ p, atI i b (j.toNat * 7 + 0 + 4) = some (.int .i64 p) /\ x.length = x.length / 5 * 5 /\ x.length / 5 + 1 <= 9223372036854775807 /\ (x.length / 5 + 1) * 16 <= 140737488355328 /\ Wr .i64 (j + 1) fun q => Rf (SV.v (.slice b n c)) /\ Rf (SV.v (.int .i64 g)) /\ Rf (SV.v (.int .i64 h)) /\ x.length / 5 + 1 = List.length (x ++ [.int .u8 k, .int .u8 l, .int .u8 m, .int .u8 o, .int .i64 p]) / 5 /\ N q (x ++ [.int .u8 k, .int .u8 l, .int .u8 m, .int .u8 o, .int .i64 p]) /\ Int.toNat ((K : Int) - q) < Int.toNat ((K : Int) - j)) (∀ (k : Option Addr) (l : Nat) (m : Mem), i.le m -> RowM m k l 5 x -> Q (.tuple #[.slice k (x.length / 5) l, .int .i64 g, .int .i64 h]) m)) (by kernel_rfl) ?_
 obtain ⟨g1, g2⟩ := readA_facts (tx s);have hok := readA_ok (tx s);refine (ct29 s hs I).mono fun v a la hv => ?_;obtain ⟨b, n, c, d, e, f, hv, h1, h2⟩ := hv;rw [<- hS] at h1 hok g2;have hl := h1.len;rw [srcsV_len] at hl
 have hsl : n = S.length := by omega
 refine ⟨b, n, c, d, e, f, _, _, hv, ⟨rfl, rfl, rfl, rfl, ?_⟩, fun i _ li x j hx => ?_⟩
 · rw [hN]; exact ⟨Int.le_refl _, Int.natCast_nonneg _, rfl⟩
 rw [hN] at hx;obtain ⟨j1, j2, rfl⟩ := hx;have hxl := insVs_len ((S.take j.toNat).map (·.ins));rw [List.length_map, List.length_take] at hxl;refine Br.mk (fun h3 => ?_) (fun h3 => ?_)
 · have h3 := of_decide_eq_true h3
   have hbs : b.isSome = true := by
    cases b with
    | none => have := h1.nil rfl; omega
    | some a => rfl
   obtain ⟨y, hy⟩ : ∃ y, S[j.toNat]? = some y := ⟨_, List.getElem?_eq_getElem (by omega)⟩
   have htk : S.take (j + 1).toNat = S.take j.toNat ++ [y] := by rw [show (j + 1).toNat = j.toNat + 1 by omega, List.take_add_one, hy]; rfl
   refine ⟨j1, h3, hbs, hbs, rfl, _, atI_le li (h1.at_ _ _ (srcsV_get hy 0 _ rfl)), _, atI_le li (h1.at_ _ _ (srcsV_get hy 1 _ rfl)), _, atI_le li (h1.at_ _ _ (srcsV_get hy 2 _ rfl)), _, atI_le li (h1.at_ _ _ (srcsV_get hy 3 _ rfl)), _, atI_le li (h1.at_ _ _ (srcsV_get hy 4 _ rfl)), by omega, by omega, by omega, wr_i64 (by omega) (by omega) ⟨rfl, rfl, rfl, ?_, ?_, by omega⟩⟩
   · rw [List.length_append]; simp only [List.length_cons, List.length_nil]; omega
   · rw [hN]
     refine ⟨by omega, by omega, ?_⟩
     rw [htk];simp [insVs, insV]
 · have h3 := of_decide_eq_false h3
   intro k l m lm hrow
   rw [List.take_of_length_le (by omega)] at hrow hxl ⊢
   have := SlR.row (by decide) hrow (rowR_ins m hok)
   rw [List.length_map] at this;rw [hQ, <- hS];refine ⟨k, _, l, rfl, ?_⟩
   rw [show (insVs (S.map (·.ins))).length / 5 = S.length by omega]
   exact this
theorem ct6 (s : ByteArray) (I : Mem) (hG : Globs I) : Ct Tryz.prog (fnv 6) #[.string s] I (fun v _ => v = .bool true) := by
 obtain ⟨N, hN⟩ : ∃ f : Int -> Prop, f = fun (j : Int) => 0 <= j /\ j <= (readA (tx s)).2.2.ms.length := ⟨_, rfl⟩;obtain ⟨K, hK⟩ : ∃ k : Nat, k = (readA (tx s)).2.2.ms.length := ⟨_, rfl⟩
 refine viaR (ct_via (A := { loops := [(10, ⟨[(13, .keep), (78, .keep), (79, .keep), (80, .sh (.int .i64))], [], [], fun vals _ _ _ => match vals with | [.int .i64 j] => N j | _ => False, fun vals _ => match vals with | [.int .i64 j] => (K - j).toNat | _ => 0⟩)] }) Tryz.func6 rfl Tryz.call6 rfl rfl) (Br (decide (3000 < (s.size : Int))) (Rf (Value.bool true)) (Ct Tryz.prog (fnv 16) #[.string s] I (fun v a => ∃ b n c d e, v = .tuple #[.slice b n c, .int .i64 d, .int .i64 e] /\ Ct Tryz.prog (fnv 28) #[.string s] a fun f g => ∃ h i j k l, f = .tuple #[.slice h i j, .int .i64 k, .int .i64 l] /\ Ct Tryz.prog (fnv 26) #[.string s] g fun m o => ∃ p q r t u, m = .tuple #[.slice p q r, .int .i64 t, .int .i64 u] /\ Ct Tryz.prog (fnv 29) #[.string s] o fun w x => ∃ y z c1 a1 n1 c2 n2 n3, w = .tuple #[.slice y z c1, .slice a1 n1 c2, .int .i64 n2, .int .i64 n3] /\ Ct Tryz.prog (fnv 31) #[.slice b n c] x fun v1 I1 => ∃ a2 n4 c3, v1 = .slice a2 n4 c3 /\ Ct Tryz.prog (fnv 30) #[.slice a2 n4 c3, .slice h i j] I1 fun v2 I2 => ∃ b1, v2 = .bool b1 /\ Br (!b1) (Value.bool false = .bool true) (Br (d != k) (Value.bool false = .bool true) (Br (e != l) (Value.bool false = .bool true) (Br (t != k) (Value.bool false = .bool true) (Br (u != l) (Value.bool false = .bool true) (Br ((q : Int) != (n1 : Int)) (Value.bool false = .bool true) ((Rf (SV.v (.slice a1 n1 c2)) /\ Rf (SV.v (.slice p q r)) /\ Rf (SV.v (.int .i64 (q : Int))) /\ N 0) /\ ∀ (I3 : Mem), Mem -> I2.le I3 -> ∀ (n5 : Int), N n5 -> Br (decide (n5 < (q : Int))) (0 <= n5 /\ n5 < (q : Int) /\ p.isSome = true /\ (2 : Nat) = 2 /\ ∃ q1, atI I3 p (n5.toNat * 2 + 0) = some (.string q1) /\ ∃ n6, atI I3 p (n5.toNat * 2 + 1) = some (.int .i64 n6) /\ 0 <= n5 /\ n5 < (n1 : Int) /\ a1.isSome = true /\ a1.isSome = true /\ ∃ q2, atI I3 a1 (n5.toNat * 3 + 0 + 0) = some (.string q2) /\ Br (!(q1.toList == q2.toList)) (Value.bool false = .bool true) (0 <= n5 /\ n5 < (n1 : Int) /\ a1.isSome = true /\ a1.isSome = true /\ ∃ n7, atI I3 a1 (n5.toNat * 3 + 1 + 0) = some (.int .i64 n7) /\ Br (n6 != n7) (Value.bool false = .bool true) (Wr .i64 (n5 + 1) (fun c4 => Rf (SV.v (.slice a1 n1 c2)) /\ Rf (SV.v (.slice p q r)) /\ Rf (SV.v (.int .i64 (q : Int))) /\ N c4 /\ Int.toNat ((K : Int) - c4) < Int.toNat ((K : Int) - n5))))) (Rf (Value.bool true))))))))))) (by kernel_rfl) ?_
 refine Br.mk (fun _ => rfl) (fun h0 => ?_);have h0 := of_decide_eq_false h0;obtain ⟨_, g2⟩ := readA_facts (tx s)
 refine (ct16 s (by omega) I hG).mono fun v a la hv => ?_
 rw [parse_eq] at hv;obtain ⟨b, n, c, hv, hb, _, _⟩ := hv
 refine ⟨b, n, c, _, _, hv, (ct28 s (by omega) a).mono fun v g lg hv => ?_⟩
 obtain ⟨h, i, j, hv, hi⟩ := hv
 refine ⟨h, i, j, _, _, hv, (ct26 s (by omega) g (hG.mono (Mem.le_trans la lg))).mono fun v o lo hv => ?_⟩
 rw [labels_eq] at hv;obtain ⟨p, q, r, hv, hp, hq, _, _⟩ := hv
 refine ⟨p, q, r, _, _, hv, (ct29 s (by omega) o).mono fun v x lx hv => ?_⟩
 obtain ⟨y, z, c1, a1, n1, c2, hv, hy, ha⟩ := hv;have hbl := hb.len;simp only [List.length_map] at hbl hq;have hal := ha.len;rw [mksV_len] at hal
 refine ⟨y, z, c1, a1, n1, c2, _, _, hv, (ct31 _ b n c x (hb.mono (Mem.le_trans lg (Mem.le_trans lo lx))) (by omega)).mono fun v I1 l1 hv => ?_⟩
 obtain ⟨a2, c3, hv, h2⟩ := hv
 refine ⟨_, _, _, hv, (ct30 _ _ a2 h n i c3 j I1 h2 (hi.mono (Mem.le_trans lo (Mem.le_trans lx l1)))).mono fun v I2 l2 hv => ⟨_, hv, Br.f (by simp) (Br.f (by simp) (Br.f (by simp) (Br.f (by simp) (Br.f (by simp) (Br.f ?_ ⟨⟨rfl, rfl, rfl, ?_⟩, fun I3 _ l3 k hk => ?_⟩)))))⟩⟩
 · rw [show q = n1 by omega]; simp
 · rw [hN]; exact ⟨Int.le_refl _, Int.natCast_nonneg _⟩
 rw [hN] at hk;obtain ⟨k1, k2⟩ := hk;refine Br.mk (fun h3 => ?_) (fun _ => rfl);have h3 := of_decide_eq_true h3;have hmx := hp.max
 have hmx2 : maxLen <= 9223372036854775807 := by decide
 obtain ⟨m, hm⟩ : ∃ m, (readA (tx s)).2.2.ms[k.toNat]? = some m := ⟨_, List.getElem?_eq_getElem (by omega)⟩
 obtain ⟨u1, u2⟩ := lab2_get (L := (readA (tx s)).2.2.ms.map (fun m => (m.name, m.at_))) (k := k.toNat) (x := (m.name, m.at_)) (by rw [List.getElem?_map, hm]; rfl)
 obtain ⟨w1, w2, _⟩ := mksV_get hm;have lp := Mem.le_trans lx (Mem.le_trans l1 (Mem.le_trans l2 l3));have la2 := Mem.le_trans l1 (Mem.le_trans l2 l3)
 have hps : p.isSome = true := by
  cases p with
  | none => have := hp.nil rfl; omega
  | some a => rfl
 have has : a1.isSome = true := by
  cases a1 with
  | none => have := ha.nil rfl; omega
  | some a => rfl
 exact ⟨k1, h3, hps, rfl, _, atI_le lp (hp.at_ _ _ u1), _, atI_le lp (hp.at_ _ _ u2), k1, by omega, has, has, _, atI_le la2 (ha.at_ _ _ w1), Br.f (by simp) ⟨k1, by omega, has, has, _, atI_le la2 (ha.at_ _ _ w2), Br.f (by simp) (wr_i64 (by omega) (by omega) ⟨rfl, rfl, rfl, by rw [hN]; exact ⟨by omega, by omega⟩, by omega⟩)⟩⟩
