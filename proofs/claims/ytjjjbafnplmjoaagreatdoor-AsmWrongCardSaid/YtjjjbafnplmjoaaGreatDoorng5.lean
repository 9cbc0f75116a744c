/- Part of a proof by the rules of the symbolic walk (see the law's own text): contracts of functions of the program. -/
import Derived.Test.YtjjjbafnplmjoaaGreatDoorng4
import Derived.Test.YtjjjbafnplmjoaaGreatDoorRows
import Derived.Lib.LaidTab
import Derived.Lib.LaidU8
import Derived.Stop.LaidErr
import Derived.Stop.Joined
import Derived.Shelf.Vars
import Derived.Lay
import Derived.MakeChecks
import Derived.ProofKit
import Derived.Test.YtjjjbafnplmjoaaGreatDoorng3
set_option linter.unusedVariables false
set_option linter.unusedSimpArgs false
open Go Go.Proofs Go.SE Go.RowKit
set_option linter.unusedVariables false
set_option maxRecDepth 100000
theorem ct27 (p q : List Ins) (a b : Option Addr) (n m c d : Nat) (I : Mem) (h : InsM I a n p) (h' : InsM I b m q) : Ct Tryz.prog (fnv 27) #[.slice a n c, .slice b m d] I (fun v _ => v = .bool (decide (p = q))) := by
 obtain ⟨Q, hQ⟩ : ∃ w : Bool, w = decide (p = q) := ⟨_, rfl⟩;obtain ⟨N, hN⟩ : ∃ f : Int -> Prop, f = fun j : Int => 0 <= j /\ j <= n /\ n = m /\ p.take j.toNat = q.take j.toNat := ⟨_, rfl⟩;rw [<- hQ]
 refine viaR (ct_via (A := { loops := [(4, ⟨[(0, .keep), (1, .keep), (12, .keep), (13, .sh (.int .i64))], [], [], fun vals _ _ _ => match vals with | [.int .i64 j] => N j | _ => False, fun vals _ => match vals with | [.int .i64 j] => (n - j).toNat | _ => 0⟩)] }) Tryz.func27 rfl Tryz.call27 rfl rfl) (Br ((n : Int) != (m : Int)) (Value.bool false = .bool Q) ((Rf (SV.v (.slice a n c)) /\ Rf (SV.v (.slice b m d)) /\ Rf (SV.v (.int .i64 (n : Int))) /\ N 0) /\ ∀ (e : Mem), Mem -> I.le e -> ∀ (f : Int), N f -> Br (decide (f < (n : Int))) (0 <= f /\ f < (n : Int) /\ a.isSome = true /\ (5 : Nat) = 5 /\ ∃ g, atI e a (f.toNat * 5 + 0) = some (.int .u8 g) /\ ∃ i, atI e a (f.toNat * 5 + 1) = some (.int .u8 i) /\ ∃ j, atI e a (f.toNat * 5 + 2) = some (.int .u8 j) /\ ∃ k, atI e a (f.toNat * 5 + 3) = some (.int .u8 k) /\ ∃ l, atI e a (f.toNat * 5 + 4) = some (.int .i64 l) /\ 0 <= f /\ f < (m : Int) /\ b.isSome = true /\ (5 : Nat) = 5 /\ ∃ o, atI e b (f.toNat * 5 + 0) = some (.int .u8 o) /\ ∃ r, atI e b (f.toNat * 5 + 1) = some (.int .u8 r) /\ ∃ s, atI e b (f.toNat * 5 + 2) = some (.int .u8 s) /\ ∃ t, atI e b (f.toNat * 5 + 3) = some (.int .u8 t) /\ ∃ u, atI e b (f.toNat * 5 + 4) = some (.int .i64 u) /\ Br (!(g == o && (i == r && (j == s && (k == t && (l == u && true)))))) (Value.bool false = .bool Q) (Wr .i64 (f + 1) (fun v => Rf (SV.v (.slice a n c)) /\ Rf (SV.v (.slice b m d)) /\ Rf (SV.v (.int .i64 (n : Int))) /\ N v /\ Int.toNat ((n : Int) - v) < Int.toNat ((n : Int) - f)))) (Value.bool true = .bool Q))) (by kernel_rfl) ?_
 have hl := h.len;have hl' := h'.len;have hmx : n <= maxLen := SlR.max h
 have hmx2 : maxLen <= 9223372036854775807 := by decide
 refine Br.mk (fun h1 => ?_) (fun h1 => ⟨⟨rfl, rfl, rfl, by rw [hN]; exact ⟨by omega, by omega, Int.natCast_inj.1 (by simpa using h1), rfl⟩⟩, fun e G le f hf => ?_⟩)
 · rw [hQ, decide_eq_false]
   rintro rfl;have : n = m := hl.symm.trans hl';subst this;simp at h1
 rw [hN] at hf ⊢;obtain ⟨h2, h3, h4, h5⟩ := hf;refine Br.mk (fun h6 => ?_) (fun h6 => ?_)
 · have h6 := of_decide_eq_true h6
   obtain ⟨i, g1, g2, e0, e1, e2, e3, e4⟩ := (h.mono le).get h2 h6
   obtain ⟨j, k1, k2, d0, d1, d2, d3, d4⟩ := (h'.mono le).get h2 (by omega)
   have t1 : p.take (f + 1).toNat = p.take f.toNat ++ [i] := by rw [show (f + 1).toNat = f.toNat + 1 by omega, List.take_add_one, g1]; rfl
   have t2 : q.take (f + 1).toNat = q.take f.toNat ++ [j] := by rw [show (f + 1).toNat = f.toNat + 1 by omega, List.take_add_one, k1]; rfl
   refine ⟨h2, h6, SlR.isSome (h.mono le) (by omega), rfl, _, e0, _, e1, _, e2, _, e3, _, e4, h2, by omega, SlR.isSome (h'.mono le) (by omega), rfl, _, d0, _, d1, _, d2, _, d3, _, d4, Br.mk (fun h7 => ?_) (fun h7 => ?_)⟩
   · rw [hQ, decide_eq_false]
     rintro rfl;rw [g1] at k1;cases k1;simp at h7
   · have hij : i = j := by
      obtain ⟨o, a1, b1, c1, n1⟩ := i;obtain ⟨o2, a2, b2, c2, n2⟩ := j;simp only [Bool.not_eq_false', Bool.and_eq_true, beq_iff_eq, and_true] at h7;obtain ⟨rfl, rfl, rfl, rfl, rfl⟩ := h7;rfl
     exact wr_i64 (by omega) (by omega) ⟨rfl, rfl, rfl, ⟨by omega, by omega, h4, by rw [t1, t2, h5, hij]⟩, by omega⟩
 · have h6 := of_decide_eq_false h6
   rw [List.take_of_length_le (by omega), List.take_of_length_le (by omega)] at h5
   rw [hQ, decide_eq_true h5]
def awT1 : Tx := [108, 111, 111, 112, 58, 32, 115, 117, 98, 32, 114, 49, 32, 114, 49, 32, 114, 50, 32, 59, 32, 100, 111, 119, 110, 10, 32, 32, 106, 122, 32, 114, 49, 32, 101, 110, 100, 10, 32, 32, 106, 117, 109, 112, 32, 108, 111, 111, 112, 10, 101, 110, 100, 58, 10, 32, 32, 104, 97, 108, 116, 10]
def awT2 : Tx := [108, 48, 58, 10, 32, 32, 115, 117, 98, 32, 114, 49, 32, 114, 49, 32, 114, 50, 10, 32, 32, 106, 122, 32, 114, 49, 32, 108, 51, 10, 32, 32, 106, 117, 109, 112, 32, 108, 48, 10, 108, 51, 58, 10, 32, 32, 104, 97, 108, 116, 10]
def awP : List Ins := [⟨34, 1, 1, 2, 0⟩, ⟨10, 1, 0, 0, 3⟩, ⟨9, 0, 0, 0, 0⟩, ⟨1, 0, 0, 0, 0⟩]
def awL : Array MapEntry := #[⟨.string ⟨#[115, 101, 116, 32, 114, 49]⟩, .int .i64 151, 0⟩, ⟨.string ⟨#[115, 101, 116, 32, 114, 56, 32, 49]⟩, .int .i64 152, 1⟩, ⟨.string ⟨#[115, 101, 116, 32, 114, 49, 32, 48, 49]⟩, .int .i64 152, 2⟩, ⟨.string ⟨#[102, 111, 111]⟩, .int .i64 150, 3⟩, ⟨.string ⟨#[106, 117, 109, 112, 32, 110, 111, 119, 104, 101, 114, 101]⟩, .int .i64 155, 4⟩, ⟨.string ⟨#[106, 117, 109, 112, 32, 49, 120]⟩, .int .i64 153, 5⟩, ⟨.string ⟨#[97, 58]⟩, .int .i64 156, 6⟩, ⟨.string ⟨#[109, 111, 118, 101, 32, 114, 49, 32, 114, 50]⟩, .int .i64 143, 7⟩]
theorem aw1 : parseA awT1 = (awP, 0, 0) := by decide +kernel
theorem aw2 : writeA awP = (awT2, 0) := by decide +kernel
theorem aw3_0 : parseA [115, 101, 116, 32, 114, 49] = ([], 1, 151) := by decide +kernel
theorem aw3_1 : parseA [115, 101, 116, 32, 114, 56, 32, 49] = ([], 1, 152) := by decide +kernel
theorem aw3_2 : parseA [115, 101, 116, 32, 114, 49, 32, 48, 49] = ([], 1, 152) := by decide +kernel
theorem aw3_3 : parseA [102, 111, 111] = ([], 1, 150) := by decide +kernel
theorem aw3_4 : parseA [106, 117, 109, 112, 32, 110, 111, 119, 104, 101, 114, 101] = ([], 1, 155) := by decide +kernel
theorem aw3_5 : parseA [106, 117, 109, 112, 32, 49, 120] = ([], 1, 153) := by decide +kernel
theorem aw3_6 : parseA [97, 58] = ([], 1, 156) := by decide +kernel
theorem aw3_7 : parseA [109, 111, 118, 101, 32, 114, 49, 32, 114, 50] = ([], 1, 143) := by decide +kernel
theorem aw4 : parseA [] = ([], 0, 6) := by decide +kernel
set_option maxHeartbeats 2000000 in
theorem ct11 (I : Mem) (hG : Globs I) : Ct Tryz.prog (fnv 11) #[] I (fun v _ => v = .bool true) := by
 refine viaR (ct_via (A := { loops := [(8, ⟨[(45, .keep)], [(1, .keep), (2, .iter)], [], fun vals xss _ _ => match vals, xss with | [], [_] => True | _, _ => False, fun vals xss => match xss with | [x] => (leftOf awL (decI x)).size | _ => 0⟩)] }) Tryz.func11 rfl Tryz.call11 rfl rfl) (Ct Tryz.prog (fnv 16) #[.string ⟨#[108, 111, 111, 112, 58, 32, 115, 117, 98, 32, 114, 49, 32, 114, 49, 32, 114, 50, 32, 59, 32, 100, 111, 119, 110, 10, 32, 32, 106, 122, 32, 114, 49, 32, 101, 110, 100, 10, 32, 32, 106, 117, 109, 112, 32, 108, 111, 111, 112, 10, 101, 110, 100, 58, 10, 32, 32, 104, 97, 108, 116, 10]⟩] I fun (v : Value) (a : Mem) => ∃ (b : Option Addr) (n c : Nat) (d e : Int), v = .tuple #[.slice b n c, .int .i64 d, .int .i64 e] /\ Br (e != 0) (Value.bool false = .bool true) (Br (d != 0) (Value.bool false = .bool true) (∀ (f : Nat) (g : Mem), a.le g -> g f = some (.cells #[.int .u8 34, .int .u8 1, .int .u8 1, .int .u8 2, .int .i64 0, .int .u8 10, .int .u8 1, .int .u8 0, .int .u8 0, .int .i64 3, .int .u8 9, .int .u8 0, .int .u8 0, .int .u8 0, .int .i64 0, .int .u8 1, .int .u8 0, .int .u8 0, .int .u8 0, .int .i64 0] 27 (0, 0)) -> Ct Tryz.prog (fnv 27) #[.slice b n c, .slice (some ⟨f, 0, none⟩) 4 4] g fun (h : Value) (i : Mem) => ∃ (j : Bool), h = .bool j /\ Br (!j) (Value.bool false = .bool true) (Ct Tryz.prog (fnv 12) #[.slice b n c] i (fun (k : Value) (l : Mem) => ∃ (q : ByteArray) (m : Int), k = .tuple #[.string q, .int .i64 m] /\ Br (m != 0) (Value.bool false = .bool true) (Br (!(q.toList == (ByteArray.mk #[108, 48, 58, 10, 32, 32, 115, 117, 98, 32, 114, 49, 32, 114, 49, 32, 114, 50, 10, 32, 32, 106, 122, 32, 114, 49, 32, 108, 51, 10, 32, 32, 106, 117, 109, 112, 32, 108, 48, 10, 108, 51, 58, 10, 32, 32, 104, 97, 108, 116, 10]).toList)) (Value.bool false = .bool true) (∀ (o : Nat), o = o /\ true = true /\ Rf (some (none : Option (Prod Nat Value))) /\ o = o /\ true = true /\ Rf (some (none : Option (Prod Nat Value))) /\ o = o /\ true = true /\ Rf (some (none : Option (Prod Nat Value))) /\ o = o /\ true = true /\ Rf (some (none : Option (Prod Nat Value))) /\ o = o /\ true = true /\ Rf (some (none : Option (Prod Nat Value))) /\ o = o /\ true = true /\ Rf (some (none : Option (Prod Nat Value))) /\ o = o /\ true = true /\ Rf (some (none : Option (Prod Nat Value))) /\ o = o /\ true = true /\ Rf (some (none : Option (Prod Nat Value))) /\ o = o /\ (Rf (Ent.mk (.raw (.map #[⟨.string ⟨#[115, 101, 116, 32, 114, 49]⟩, .int .i64 151, 0⟩, ⟨.string ⟨#[115, 101, 116, 32, 114, 56, 32, 49]⟩, .int .i64 152, 1⟩, ⟨.string ⟨#[115, 101, 116, 32, 114, 49, 32, 48, 49]⟩, .int .i64 152, 2⟩, ⟨.string ⟨#[102, 111, 111]⟩, .int .i64 150, 3⟩, ⟨.string ⟨#[106, 117, 109, 112, 32, 110, 111, 119, 104, 101, 114, 101]⟩, .int .i64 155, 4⟩, ⟨.string ⟨#[106, 117, 109, 112, 32, 49, 120]⟩, .int .i64 153, 5⟩, ⟨.string ⟨#[97, 58]⟩, .int .i64 156, 6⟩, ⟨.string ⟨#[109, 111, 118, 101, 32, 114, 49, 32, 114, 50]⟩, .int .i64 143, 7⟩] 8)) (some o)) /\ (Rf (some o) /\ (8 : Nat) = 8 /\ (8 : Nat) = 8 /\ Rf (none : Option Nat)) /\ Rf (SV.ptr 2 0) /\ True) /\ ∀ (p : Mem), Mem -> l.le p -> ∀ (x : List Value), True -> o = o /\ true = true /\ (8 : Nat) <= 8 /\ ((leftOf #[⟨.string ⟨#[115, 101, 116, 32, 114, 49]⟩, .int .i64 151, 0⟩, ⟨.string ⟨#[115, 101, 116, 32, 114, 56, 32, 49]⟩, .int .i64 152, 1⟩, ⟨.string ⟨#[115, 101, 116, 32, 114, 49, 32, 48, 49]⟩, .int .i64 152, 2⟩, ⟨.string ⟨#[102, 111, 111]⟩, .int .i64 150, 3⟩, ⟨.string ⟨#[106, 117, 109, 112, 32, 110, 111, 119, 104, 101, 114, 101]⟩, .int .i64 155, 4⟩, ⟨.string ⟨#[106, 117, 109, 112, 32, 49, 120]⟩, .int .i64 153, 5⟩, ⟨.string ⟨#[97, 58]⟩, .int .i64 156, 6⟩, ⟨.string ⟨#[109, 111, 118, 101, 32, 114, 49, 32, 114, 50]⟩, .int .i64 143, 7⟩] (decI x)).size = 0 -> Ct Tryz.prog (fnv 16) #[.string ⟨#[]⟩] p fun (r : Value) (s : Mem) => ∃ (t : Option Addr) (u w : Nat) (y z : Int), r = .tuple #[.slice t u w, .int .i64 y, .int .i64 z] /\ Br (y == 0) (Value.bool (z == 6) = .bool true) (Value.bool false = .bool true)) /\ ((decI x).contains (0 : Nat) = false -> o = o /\ (8 : Nat) = 8 /\ List.Nodup [(0 : Nat), 1, 2, 3, 4, 5, 6, 7] /\ (∃ (s : Array Nat) (r : Nat), ((decI x).toList.concat (0 : Nat)).toArray = s.push r /\ Membership.mem [MapEntry.mk (.string ⟨#[115, 101, 116, 32, 114, 49]⟩) (.int .i64 151) 0, ⟨.string ⟨#[115, 101, 116, 32, 114, 56, 32, 49]⟩, .int .i64 152, 1⟩, ⟨.string ⟨#[115, 101, 116, 32, 114, 49, 32, 48, 49]⟩, .int .i64 152, 2⟩, ⟨.string ⟨#[102, 111, 111]⟩, .int .i64 150, 3⟩, ⟨.string ⟨#[106, 117, 109, 112, 32, 110, 111, 119, 104, 101, 114, 101]⟩, .int .i64 155, 4⟩, ⟨.string ⟨#[106, 117, 109, 112, 32, 49, 120]⟩, .int .i64 153, 5⟩, ⟨.string ⟨#[97, 58]⟩, .int .i64 156, 6⟩, ⟨.string ⟨#[109, 111, 118, 101, 32, 114, 49, 32, 114, 50]⟩, .int .i64 143, 7⟩] (MapEntry.mk (.string ⟨#[115, 101, 116, 32, 114, 49]⟩) (.int .i64 151) r)) /\ Ct Tryz.prog (fnv 16) #[.string ⟨#[115, 101, 116, 32, 114, 49]⟩] p fun (r : Value) (s : Mem) => ∃ (t : Option Addr) (u w : Nat) (y z : Int), r = .tuple #[.slice t u w, .int .i64 y, .int .i64 z] /\ Br (y != 1) (Value.bool false = .bool true) (Br (z != 151) (Value.bool false = .bool true) (Rf (Ent.mk (.raw (.map #[⟨.string ⟨#[115, 101, 116, 32, 114, 49]⟩, .int .i64 151, 0⟩, ⟨.string ⟨#[115, 101, 116, 32, 114, 56, 32, 49]⟩, .int .i64 152, 1⟩, ⟨.string ⟨#[115, 101, 116, 32, 114, 49, 32, 48, 49]⟩, .int .i64 152, 2⟩, ⟨.string ⟨#[102, 111, 111]⟩, .int .i64 150, 3⟩, ⟨.string ⟨#[106, 117, 109, 112, 32, 110, 111, 119, 104, 101, 114, 101]⟩, .int .i64 155, 4⟩, ⟨.string ⟨#[106, 117, 109, 112, 32, 49, 120]⟩, .int .i64 153, 5⟩, ⟨.string ⟨#[97, 58]⟩, .int .i64 156, 6⟩, ⟨.string ⟨#[109, 111, 118, 101, 32, 114, 49, 32, 114, 50]⟩, .int .i64 143, 7⟩] 8)) (some o)) /\ (Rf (some o) /\ (8 : Nat) = 8 /\ (8 : Nat) = 8 /\ Rf (none : Option Nat)) /\ Rf (SV.ptr 2 0) /\ True /\ (leftOf #[⟨.string ⟨#[115, 101, 116, 32, 114, 49]⟩, .int .i64 151, 0⟩, ⟨.string ⟨#[115, 101, 116, 32, 114, 56, 32, 49]⟩, .int .i64 152, 1⟩, ⟨.string ⟨#[115, 101, 116, 32, 114, 49, 32, 48, 49]⟩, .int .i64 152, 2⟩, ⟨.string ⟨#[102, 111, 111]⟩, .int .i64 150, 3⟩, ⟨.string ⟨#[106, 117, 109, 112, 32, 110, 111, 119, 104, 101, 114, 101]⟩, .int .i64 155, 4⟩, ⟨.string ⟨#[106, 117, 109, 112, 32, 49, 120]⟩, .int .i64 153, 5⟩, ⟨.string ⟨#[97, 58]⟩, .int .i64 156, 6⟩, ⟨.string ⟨#[109, 111, 118, 101, 32, 114, 49, 32, 114, 50]⟩, .int .i64 143, 7⟩] (decI (encI ((decI x).toList.concat (0 : Nat)).toArray))).size < (leftOf #[⟨.string ⟨#[115, 101, 116, 32, 114, 49]⟩, .int .i64 151, 0⟩, ⟨.string ⟨#[115, 101, 116, 32, 114, 56, 32, 49]⟩, .int .i64 152, 1⟩, ⟨.string ⟨#[115, 101, 116, 32, 114, 49, 32, 48, 49]⟩, .int .i64 152, 2⟩, ⟨.string ⟨#[102, 111, 111]⟩, .int .i64 150, 3⟩, ⟨.string ⟨#[106, 117, 109, 112, 32, 110, 111, 119, 104, 101, 114, 101]⟩, .int .i64 155, 4⟩, ⟨.string ⟨#[106, 117, 109, 112, 32, 49, 120]⟩, .int .i64 153, 5⟩, ⟨.string ⟨#[97, 58]⟩, .int .i64 156, 6⟩, ⟨.string ⟨#[109, 111, 118, 101, 32, 114, 49, 32, 114, 50]⟩, .int .i64 143, 7⟩] (decI x)).size))) /\ ((decI x).contains (1 : Nat) = false -> o = o /\ (8 : Nat) = 8 /\ List.Nodup [(0 : Nat), 1, 2, 3, 4, 5, 6, 7] /\ (∃ (s : Array Nat) (r : Nat), ((decI x).toList.concat (1 : Nat)).toArray = s.push r /\ Membership.mem [MapEntry.mk (.string ⟨#[115, 101, 116, 32, 114, 49]⟩) (.int .i64 151) 0, ⟨.string ⟨#[115, 101, 116, 32, 114, 56, 32, 49]⟩, .int .i64 152, 1⟩, ⟨.string ⟨#[115, 101, 116, 32, 114, 49, 32, 48, 49]⟩, .int .i64 152, 2⟩, ⟨.string ⟨#[102, 111, 111]⟩, .int .i64 150, 3⟩, ⟨.string ⟨#[106, 117, 109, 112, 32, 110, 111, 119, 104, 101, 114, 101]⟩, .int .i64 155, 4⟩, ⟨.string ⟨#[106, 117, 109, 112, 32, 49, 120]⟩, .int .i64 153, 5⟩, ⟨.string ⟨#[97, 58]⟩, .int .i64 156, 6⟩, ⟨.string ⟨#[109, 111, 118, 101, 32, 114, 49, 32, 114, 50]⟩, .int .i64 143, 7⟩] (MapEntry.mk (.string ⟨#[115, 101, 116, 32, 114, 56, 32, 49]⟩) (.int .i64 152) r)) /\ Ct Tryz.prog (fnv 16) #[.string ⟨#[115, 101, 116, 32, 114, 56, 32, 49]⟩] p fun (r : Value) (s : Mem) => ∃ (t : Option Addr) (u w : Nat) (y z : Int), r = .tuple #[.slice t u w, .int .i64 y, .int .i64 z] /\ Br (y != 1) (Value.bool false = .bool true) (Br (z != 152) (Value.bool false = .bool true) (Rf (Ent.mk (.raw (.map #[⟨.string ⟨#[115, 101, 116, 32, 114, 49]⟩, .int .i64 151, 0⟩, ⟨.string ⟨#[115, 101, 116, 32, 114, 56, 32, 49]⟩, .int .i64 152, 1⟩, ⟨.string ⟨#[115, 101, 116, 32, 114, 49, 32, 48, 49]⟩, .int .i64 152, 2⟩, ⟨.string ⟨#[102, 111, 111]⟩, .int .i64 150, 3⟩, ⟨.string ⟨#[106, 117, 109, 112, 32, 110, 111, 119, 104, 101, 114, 101]⟩, .int .i64 155, 4⟩, ⟨.string ⟨#[106, 117, 109, 112, 32, 49, 120]⟩, .int .i64 153, 5⟩, ⟨.string ⟨#[97, 58]⟩, .int .i64 156, 6⟩, ⟨.string ⟨#[109, 111, 118, 101, 32, 114, 49, 32, 114, 50]⟩, .int .i64 143, 7⟩] 8)) (some o)) /\ (Rf (some o) /\ (8 : Nat) = 8 /\ (8 : Nat) = 8 /\ Rf (none : Option Nat)) /\ Rf (SV.ptr 2 0) /\ True /\ (leftOf #[⟨.string ⟨#[115, 101, 116, 32, 114, 49]⟩, .int .i64 151, 0⟩, ⟨.string ⟨#[115, 101, 116, 32, 114, 56, 32, 49]⟩, .int .i64 152, 1⟩, ⟨.string ⟨#[115, 101, 116, 32, 114, 49, 32, 48, 49]⟩, .int .i64 152, 2⟩, ⟨.string ⟨#[102, 111, 111]⟩, .int .i64 150, 3⟩, ⟨.string ⟨#[106, 117, 109, 112, 32, 110, 111, 119, 104, 101, 114, 101]⟩, .int .i64 155, 4⟩, ⟨.string ⟨#[106, 117, 109, 112, 32, 49, 120]⟩, .int .i64 153, 5⟩, ⟨.string ⟨#[97, 58]⟩, .int .i64 156, 6⟩, ⟨.string ⟨#[109, 111, 118, 101, 32, 114, 49, 32, 114, 50]⟩, .int .i64 143, 7⟩] (decI (encI ((decI x).toList.concat (1 : Nat)).toArray))).size < (leftOf #[⟨.string ⟨#[115, 101, 116, 32, 114, 49]⟩, .int .i64 151, 0⟩, ⟨.string ⟨#[115, 101, 116, 32, 114, 56, 32, 49]⟩, .int .i64 152, 1⟩, ⟨.string ⟨#[115, 101, 116, 32, 114, 49, 32, 48, 49]⟩, .int .i64 152, 2⟩, ⟨.string ⟨#[102, 111, 111]⟩, .int .i64 150, 3⟩, ⟨.string ⟨#[106, 117, 109, 112, 32, 110, 111, 119, 104, 101, 114, 101]⟩, .int .i64 155, 4⟩, ⟨.string ⟨#[106, 117, 109, 112, 32, 49, 120]⟩, .int .i64 153, 5⟩, ⟨.string ⟨#[97, 58]⟩, .int .i64 156, 6⟩, ⟨.string ⟨#[109, 111, 118, 101, 32, 114, 49, 32, 114, 50]⟩, .int .i64 143, 7⟩] (decI x)).size))) /\ ((decI x).contains (2 : Nat) = false -> o = o /\ (8 : Nat) = 8 /\ List.Nodup [(0 : Nat), 1, 2, 3, 4, 5, 6, 7] /\ (∃ (s : Array Nat) (r : Nat), ((decI x).toList.concat (2 : Nat)).toArray = s.push r /\ Membership.mem [MapEntry.mk (.string ⟨#[115, 101, 116, 32, 114, 49]⟩) (.int .i64 151) 0, ⟨.string ⟨#[115, 101, 116, 32, 114, 56, 32, 49]⟩, .int .i64 152, 1⟩, ⟨.string ⟨#[115, 101, 116, 32, 114, 49, 32, 48, 49]⟩, .int .i64 152, 2⟩, ⟨.string ⟨#[102, 111, 111]⟩, .int .i64 150, 3⟩, ⟨.string ⟨#[106, 117, 109, 112, 32, 110, 111, 119, 104, 101, 114, 101]⟩, .int .i64 155, 4⟩, ⟨.string ⟨#[106, 117, 109, 112, 32, 49, 120]⟩, .int .i64 153, 5⟩, ⟨.string ⟨#[97, 58]⟩, .int .i64 156, 6⟩, ⟨.string ⟨#[109, 111, 118, 101, 32, 114, 49, 32, 114, 50]⟩, .int .i64 143, 7⟩] (MapEntry.mk (.string ⟨#[115, 101, 116, 32, 114, 49, 32, 48, 49]⟩) (.int .i64 152) r)) /\ Ct Tryz.prog (fnv 16) #[.string ⟨#[115, 101, 116, 32, 114, 49, 32, 48, 49]⟩] p fun (r : Value) (s : Mem) => ∃ (t : Option Addr) (u w : Nat) (y z : Int), r = .tuple #[.slice t u w, .int .i64 y, .int .i64 z] /\ Br (y != 1) (Value.bool false = .bool true) (Br (z != 152) (Value.bool false = .bool true) (Rf (Ent.mk (.raw (.map #[⟨.string ⟨#[115, 101, 116, 32, 114, 49]⟩, .int .i64 151, 0⟩, ⟨.string ⟨#[115, 101, 116, 32, 114, 56, 32, 49]⟩, .int .i64 152, 1⟩, ⟨.string ⟨#[115, 101, 116, 32, 114, 49, 32, 48, 49]⟩, .int .i64 152, 2⟩, ⟨.string ⟨#[102, 111, 111]⟩, .int .i64 150, 3⟩, ⟨.string ⟨#[106, 117, 109, 112, 32, 110, 111, 119, 104, 101, 114, 101]⟩, .int .i64 155, 4⟩, ⟨.string ⟨#[106, 117, 109, 112, 32, 49, 120]⟩, .int .i64 153, 5⟩, ⟨.string ⟨#[97, 58]⟩, .int .i64 156, 6⟩, ⟨.string ⟨#[109, 111, 118, 101, 32, 114, 49, 32, 114, 50]⟩, .int .i64 143, 7⟩] 8)) (some o)) /\ (Rf (some o) /\ (8 : Nat) = 8 /\ (8 : Nat) = 8 /\ Rf (none : Option Nat)) /\ Rf (SV.ptr 2 0) /\ True /\ (leftOf #[⟨.string ⟨#[115, 101, 116, 32, 114, 49]⟩, .int .i64 151, 0⟩, ⟨.string ⟨#[115, 101, 116, 32, 114, 56, 32, 49]⟩, .int .i64 152, 1⟩, ⟨.string ⟨#[115, 101, 116, 32, 114, 49, 32, 48, 49]⟩, .int .i64 152, 2⟩, ⟨.string ⟨#[102, 111, 111]⟩, .int .i64 150, 3⟩, ⟨.string ⟨#[106, 117, 109, 112, 32, 110, 111, 119, 104, 101, 114, 101]⟩, .int .i64 155, 4⟩, ⟨.string ⟨#[106, 117, 109, 112, 32, 49, 120]⟩, .int .i64 153, 5⟩, ⟨.string ⟨#[97, 58]⟩, .int .i64 156, 6⟩, ⟨.string ⟨#[109, 111, 118, 101, 32, 114, 49, 32, 114, 50]⟩, .int .i64 143, 7⟩] (decI (encI ((decI x).toList.concat (2 : Nat)).toArray))).size < (leftOf #[⟨.string ⟨#[115, 101, 116, 32, 114, 49]⟩, .int .i64 151, 0⟩, ⟨.string ⟨#[115, 101, 116, 32, 114, 56, 32, 49]⟩, .int .i64 152, 1⟩, ⟨.string ⟨#[115, 101, 116, 32, 114, 49, 32, 48, 49]⟩, .int .i64 152, 2⟩, ⟨.string ⟨#[102, 111, 111]⟩, .int .i64 150, 3⟩, ⟨.string ⟨#[106, 117, 109, 112, 32, 110, 111, 119, 104, 101, 114, 101]⟩, .int .i64 155, 4⟩, ⟨.string ⟨#[106, 117, 109, 112, 32, 49, 120]⟩, .int .i64 153, 5⟩, ⟨.string ⟨#[97, 58]⟩, .int .i64 156, 6⟩, ⟨.string ⟨#[109, 111, 118, 101, 32, 114, 49, 32, 114, 50]⟩, .int .i64 143, 7⟩] (decI x)).size))) /\ ((decI x).contains (3 : Nat) = false -> o = o /\ (8 : Nat) = 8 /\ List.Nodup [(0 : Nat), 1, 2, 3, 4, 5, 6, 7] /\ (∃ (s : Array Nat) (r : Nat), ((decI x).toList.concat (3 : Nat)).toArray = s.push r /\ Membership.mem [MapEntry.mk (.string ⟨#[115, 101, 116, 32, 114, 49]⟩) (.int .i64 151) 0, ⟨.string ⟨#[115, 101, 116, 32, 114, 56, 32, 49]⟩, .int .i64 152, 1⟩, ⟨.string ⟨#[115, 101, 116, 32, 114, 49, 32, 48, 49]⟩, .int .i64 152, 2⟩, ⟨.string ⟨#[102, 111, 111]⟩, .int .i64 150, 3⟩, ⟨.string ⟨#[106, 117, 109, 112, 32, 110, 111, 119, 104, 101, 114, 101]⟩, .int .i64 155, 4⟩, ⟨.string ⟨#[106, 117, 109, 112, 32, 49, 120]⟩, .int .i64 153, 5⟩, ⟨.string ⟨#[97, 58]⟩, .int .i64 156, 6⟩, ⟨.string ⟨#[109, 111, 118, 101, 32, 114, 49, 32, 114, 50]⟩, .int .i64 143, 7⟩] (MapEntry.mk (.string ⟨#[102, 111, 111]⟩) (.int .i64 150) r)) /\ Ct Tryz.prog (fnv 16) #[.string ⟨#[102, 111, 111]⟩] p fun (r : Value) (s : Mem) => ∃ (t : Option Addr) (u w : Nat) (y z : Int), r = .tuple #[.slice t u w, .int .i64 y, .int .i64 z] /\ Br (y != 1) (Value.bool false = .bool true) (Br (z != 150) (Value.bool false = .bool true) (Rf (Ent.mk (.raw (.map #[⟨.string ⟨#[115, 101, 116, 32, 114, 49]⟩, .int .i64 151, 0⟩, ⟨.string ⟨#[115, 101, 116, 32, 114, 56, 32, 49]⟩, .int .i64 152, 1⟩, ⟨.string ⟨#[115, 101, 116, 32, 114, 49, 32, 48, 49]⟩, .int .i64 152, 2⟩, ⟨.string ⟨#[102, 111, 111]⟩, .int .i64 150, 3⟩, ⟨.string ⟨#[106, 117, 109, 112, 32, 110, 111, 119, 104, 101, 114, 101]⟩, .int .i64 155, 4⟩, ⟨.string ⟨#[106, 117, 109, 112, 32, 49, 120]⟩, .int .i64 153, 5⟩, ⟨.string ⟨#[97, 58]⟩, .int .i64 156, 6⟩, ⟨.string ⟨#[109, 111, 118, 101, 32, 114, 49, 32, 114, 50]⟩, .int .i64 143, 7⟩] 8)) (some o)) /\ (Rf (some o) /\ (8 : Nat) = 8 /\ (8 : Nat) = 8 /\ Rf (none : Option Nat)) /\ Rf (SV.ptr 2 0) /\ True /\ (leftOf #[⟨.string ⟨#[115, 101, 116, 32, 114, 49]⟩, .int .i64 151, 0⟩, ⟨.string ⟨#[115, 101, 116, 32, 114, 56, 32, 49]⟩, .int .i64 152, 1⟩, ⟨.string ⟨#[115, 101, 116, 32, 114, 49, 32, 48, 49]⟩, .int .i64 152, 2⟩, ⟨.string ⟨#[102, 111, 111]⟩, .int .i64 150, 3⟩, ⟨.string ⟨#[106, 117, 109, 112, 32, 110, 111, 119, 104, 101, 114, 101]⟩, .int .i64 155, 4⟩, ⟨.string ⟨#[106, 117, 109, 112, 32, 49, 120]⟩, .int .i64 153, 5⟩, ⟨.string ⟨#[97, 58]⟩, .int .i64 156, 6⟩, ⟨.string ⟨#[109, 111, 118, 101, 32, 114, 49, 32, 114, 50]⟩, .int .i64 143, 7⟩] (decI (encI ((decI x).toList.concat (3 : Nat)).toArray))).size < (leftOf #[⟨.string ⟨#[115, 101, 116, 32, 114, 49]⟩, .int .i64 151, 0⟩, ⟨.string ⟨#[115, 101, 116, 32, 114, 56, 32, 49]⟩, .int .i64 152, 1⟩, ⟨.string ⟨#[115, 101, 116, 32, 114, 49, 32, 48, 49]⟩, .int .i64 152, 2⟩, ⟨.string ⟨#[102, 111, 111]⟩, .int .i64 150, 3⟩, ⟨.string ⟨#[106, 117, 109, 112, 32, 110, 111, 119, 104, 101, 114, 101]⟩, .int .i64 155, 4⟩, ⟨.string ⟨#[106, 117, 109, 112, 32, 49, 120]⟩, .int .i64 153, 5⟩, ⟨.string ⟨#[97, 58]⟩, .int .i64 156, 6⟩, ⟨.string ⟨#[109, 111, 118, 101, 32, 114, 49, 32, 114, 50]⟩, .int .i64 143, 7⟩] (decI x)).size))) /\ ((decI x).contains (4 : Nat) = false -> o = o /\ (8 : Nat) = 8 /\ List.Nodup [(0 : Nat), 1, 2, 3, 4, 5, 6, 7] /\ (∃ (s : Array Nat) (r : Nat), ((decI x).toList.concat (4 : Nat)).toArray = s.push r /\ Membership.mem [MapEntry.mk (.string ⟨#[115, 101, 116, 32, 114, 49]⟩) (.int .i64 151) 0, ⟨.string ⟨#[115, 101, 116, 32, 114, 56, 32, 49]⟩, .int .i64 152, 1⟩, ⟨.string ⟨#[115, 101, 116, 32, 114, 49, 32, 48, 49]⟩, .int .i64 152, 2⟩, ⟨.string ⟨#[102, 111, 111]⟩, .int .i64 150, 3⟩, ⟨.string ⟨#[106, 117, 109, 112, 32, 110, 111, 119, 104, 101, 114, 101]⟩, .int .i64 155, 4⟩, ⟨.string ⟨#[106, 117, 109, 112, 32, 49, 120]⟩, .int .i64 153, 5⟩, ⟨.string ⟨#[97, 58]⟩, .int .i64 156, 6⟩, ⟨.string ⟨#[109, 111, 118, 101, 32, 114, 49, 32, 114, 50]⟩, .int .i64 143, 7⟩] (MapEntry.mk (.string ⟨#[106, 117, 109, 112, 32, 110, 111, 119, 104, 101, 114, 101]⟩) (.int .i64 155) r)) /\ Ct Tryz.prog (fnv 16) #[.string ⟨#[106, 117, 109, 112, 32, 110, 111, 119, 104, 101, 114, 101]⟩] p fun (r : Value) (s : Mem) => ∃ (t : Option Addr) (u w : Nat) (y z : Int), r = .tuple #[.slice t u w, .int .i64 y, .int .i64 z] /\ Br (y != 1) (Value.bool false = .bool true) (Br (z != 155) (Value.bool false = .bool true) (Rf (Ent.mk (.raw (.map #[⟨.string ⟨#[115, 101, 116, 32, 114, 49]⟩, .int .i64 151, 0⟩, ⟨.string ⟨#[115, 101, 116, 32, 114, 56, 32, 49]⟩, .int .i64 152, 1⟩, ⟨.string ⟨#[115, 101, 116, 32, 114, 49, 32, 48, 49]⟩, .int .i64 152, 2⟩, ⟨.string ⟨#[102, 111, 111]⟩, .int .i64 150, 3⟩, ⟨.string ⟨#[106, 117, 109, 112, 32, 110, 111, 119, 104, 101, 114, 101]⟩, .int .i64 155, 4⟩, ⟨.string ⟨#[106, 117, 109, 112, 32, 49, 120]⟩, .int .i64 153, 5⟩, ⟨.string ⟨#[97, 58]⟩, .int .i64 156, 6⟩, ⟨.string ⟨#[109, 111, 118, 101, 32, 114, 49, 32, 114, 50]⟩, .int .i64 143, 7⟩] 8)) (some o)) /\ (Rf (some o) /\ (8 : Nat) = 8 /\ (8 : Nat) = 8 /\ Rf (none : Option Nat)) /\ Rf (SV.ptr 2 0) /\ True /\ (leftOf #[⟨.string ⟨#[115, 101, 116, 32, 114, 49]⟩, .int .i64 151, 0⟩, ⟨.string ⟨#[115, 101, 116, 32, 114, 56, 32, 49]⟩, .int .i64 152, 1⟩, ⟨.string ⟨#[115, 101, 116, 32, 114, 49, 32, 48, 49]⟩, .int .i64 152, 2⟩, ⟨.string ⟨#[102, 111, 111]⟩, .int .i64 150, 3⟩, ⟨.string ⟨#[106, 117, 109, 112, 32, 110, 111, 119, 104, 101, 114, 101]⟩, .int .i64 155, 4⟩, ⟨.string ⟨#[106, 117, 109, 112, 32, 49, 120]⟩, .int .i64 153, 5⟩, ⟨.string ⟨#[97, 58]⟩, .int .i64 156, 6⟩, ⟨.string ⟨#[109, 111, 118, 101, 32, 114, 49, 32, 114, 50]⟩, .int .i64 143, 7⟩] (decI (encI ((decI x).toList.concat (4 : Nat)).toArray))).size < (leftOf #[⟨.string ⟨#[115, 101, 116, 32, 114, 49]⟩, .int .i64 151, 0⟩, ⟨.string ⟨#[115, 101, 116, 32, 114, 56, 32, 49]⟩, .int .i64 152, 1⟩, ⟨.string ⟨#[115, 101, 116, 32, 114, 49, 32, 48, 49]⟩, .int .i64 152, 2⟩, ⟨.string ⟨#[102, 111, 111]⟩, .int .i64 150, 3⟩, ⟨.string ⟨#[106, 117, 109, 112, 32, 110, 111, 119, 104, 101, 114, 101]⟩, .int .i64 155, 4⟩, ⟨.string ⟨#[106, 117, 109, 112, 32, 49, 120]⟩, .int .i64 153, 5⟩, ⟨.string ⟨#[97, 58]⟩, .int .i64 156, 6⟩, ⟨.string ⟨#[109, 111, 118, 101, 32, 114, 49, 32, 114, 50]⟩, .int .i64 143, 7⟩] (decI x)).size))) /\ ((decI x).contains (5 : Nat) = false -> o = o /\ (8 : Nat) = 8 /\ List.Nodup [(0 : Nat), 1, 2, 3, 4, 5, 6, 7] /\ (∃ (s : Array Nat) (r : Nat), ((decI x).toList.concat (5 : Nat)).toArray = s.push r /\ Membership.mem [MapEntry.mk (.string ⟨#[115, 101, 116, 32, 114, 49]⟩) (.int .i64 151) 0, ⟨.string ⟨#[115, 101, 116, 32, 114, 56, 32, 49]⟩, .int .i64 152, 1⟩, ⟨.string ⟨#[115, 101, 116, 32, 114, 49, 32, 48, 49]⟩, .int .i64 152, 2⟩, ⟨.string ⟨#[102, 111, 111]⟩, .int .i64 150, 3⟩, ⟨.string ⟨#[106, 117, 109, 112, 32, 110, 111, 119, 104, 101, 114, 101]⟩, .int .i64 155, 4⟩, ⟨.string ⟨#[106, 117, 109, 112, 32, 49, 120]⟩, .int .i64 153, 5⟩, ⟨.string ⟨#[97, 58]⟩, .int .i64 156, 6⟩, ⟨.string ⟨#[109, 111, 118, 101, 32, 114, 49, 32, 114, 50]⟩, .int .i64 143, 7⟩] (MapEntry.mk (.string ⟨#[106, 117, 109, 112, 32, 49, 120]⟩) (.int .i64 153) r)) /\ Ct Tryz.prog (fnv 16) #[.string ⟨#[106, 117, 109, 112, 32, 49, 120]⟩] p fun (r : Value) (s : Mem) => ∃ (t : Option Addr) (u w : Nat) (y z : Int), r = .tuple #[.slice t u w, .int .i64 y, .int .i64 z] /\ Br (y != 1) (Value.bool false = .bool true) (Br (z != 153) (Value.bool false = .bool true) (Rf (Ent.mk (.raw (.map #[⟨.string ⟨#[115, 101, 116, 32, 114, 49]⟩, .int .i64 151, 0⟩, ⟨.string ⟨#[115, 101, 116, 32, 114, 56, 32, 49]⟩, .int .i64 152, 1⟩, ⟨.string ⟨#[115, 101, 116, 32, 114, 49, 32, 48, 49]⟩, .int .i64 152, 2⟩, ⟨.string ⟨#[102, 111, 111]⟩, .int .i64 150, 3⟩, ⟨.string ⟨#[106, 117, 109, 112, 32, 110, 111, 119, 104, 101, 114, 101]⟩, .int .i64 155, 4⟩, ⟨.string ⟨#[106, 117, 109, 112, 32, 49, 120]⟩, .int .i64 153, 5⟩, ⟨.string ⟨#[97, 58]⟩, .int .i64 156, 6⟩, ⟨.string ⟨#[109, 111, 118, 101, 32, 114, 49, 32, 114, 50]⟩, .int .i64 143, 7⟩] 8)) (some o)) /\ (Rf (some o) /\ (8 : Nat) = 8 /\ (8 : Nat) = 8 /\ Rf (none : Option Nat)) /\ Rf (SV.ptr 2 0) /\ True /\ (leftOf #[⟨.string ⟨#[115, 101, 116, 32, 114, 49]⟩, .int .i64 151, 0⟩, ⟨.string ⟨#[115, 101, 116, 32, 114, 56, 32, 49]⟩, .int .i64 152, 1⟩, ⟨.string ⟨#[115, 101, 116, 32, 114, 49, 32, 48, 49]⟩, .int .i64 152, 2⟩, ⟨.string ⟨#[102, 111, 111]⟩, .int .i64 150, 3⟩, ⟨.string ⟨#[106, 117, 109, 112, 32, 110, 111, 119, 104, 101, 114, 101]⟩, .int .i64 155, 4⟩, ⟨.string ⟨#[106, 117, 109, 112, 32, 49, 120]⟩, .int .i64 153, 5⟩, ⟨.string ⟨#[97, 58]⟩, .int .i64 156, 6⟩, ⟨.string ⟨#[109, 111, 118, 101, 32, 114, 49, 32, 114, 50]⟩, .int .i64 143, 7⟩] (decI (encI ((decI x).toList.concat (5 : Nat)).toArray))).size < (leftOf #[⟨.string ⟨#[115, 101, 116, 32, 114, 49]⟩, .int .i64 151, 0⟩, ⟨.string ⟨#[115, 101, 116, 32, 114, 56, 32, 49]⟩, .int .i64 152, 1⟩, ⟨.string ⟨#[115, 101, 116, 32, 114, 49, 32, 48, 49]⟩, .int .i64 152, 2⟩, ⟨.string ⟨#[102, 111, 111]⟩, .int .i64 150, 3⟩, ⟨.string ⟨#[106, 117, 109, 112, 32, 110, 111, 119, 104, 101, 114, 101]⟩, .int .i64 155, 4⟩, ⟨.string ⟨#[106, 117, 109, 112, 32, 49, 120]⟩, .int .i64 153, 5⟩, ⟨.string ⟨#[97, 58]⟩, .int .i64 156, 6⟩, ⟨.string ⟨#[109, 111, 118, 101, 32, 114, 49, 32, 114, 50]⟩, .int .i64 143, 7⟩] (decI x)).size))) /\ ((decI x).contains (6 : Nat) = false -> o = o /\ (8 : Nat) = 8 /\ List.Nodup [(0 : Nat), 1, 2, 3, 4, 5, 6, 7] /\ (∃ (s : Array Nat) (r : Nat), ((decI x).toList.concat (6 : Nat)).toArray = s.push r /\ Membership.mem [MapEntry.mk (.string ⟨#[115, 101, 116, 32, 114, 49]⟩) (.int .i64 151) 0, ⟨.string ⟨#[115, 101, 116, 32, 114, 56, 32, 49]⟩, .int .i64 152, 1⟩, ⟨.string ⟨#[115, 101, 116, 32, 114, 49, 32, 48, 49]⟩, .int .i64 152, 2⟩, ⟨.string ⟨#[102, 111, 111]⟩, .int .i64 150, 3⟩, ⟨.string ⟨#[106, 117, 109, 112, 32, 110, 111, 119, 104, 101, 114, 101]⟩, .int .i64 155, 4⟩, ⟨.string ⟨#[106, 117, 109, 112, 32, 49, 120]⟩, .int .i64 153, 5⟩, ⟨.string ⟨#[97, 58]⟩, .int .i64 156, 6⟩, ⟨.string ⟨#[109, 111, 118, 101, 32, 114, 49, 32, 114, 50]⟩, .int .i64 143, 7⟩] (MapEntry.mk (.string ⟨#[97, 58]⟩) (.int .i64 156) r)) /\ Ct Tryz.prog (fnv 16) #[.string ⟨#[97, 58]⟩] p fun (r : Value) (s : Mem) => ∃ (t : Option Addr) (u w : Nat) (y z : Int), r = .tuple #[.slice t u w, .int .i64 y, .int .i64 z] /\ Br (y != 1) (Value.bool false = .bool true) (Br (z != 156) (Value.bool false = .bool true) (Rf (Ent.mk (.raw (.map #[⟨.string ⟨#[115, 101, 116, 32, 114, 49]⟩, .int .i64 151, 0⟩, ⟨.string ⟨#[115, 101, 116, 32, 114, 56, 32, 49]⟩, .int .i64 152, 1⟩, ⟨.string ⟨#[115, 101, 116, 32, 114, 49, 32, 48, 49]⟩, .int .i64 152, 2⟩, ⟨.string ⟨#[102, 111, 111]⟩, .int .i64 150, 3⟩, ⟨.string ⟨#[106, 117, 109, 112, 32, 110, 111, 119, 104, 101, 114, 101]⟩, .int .i64 155, 4⟩, ⟨.string ⟨#[106, 117, 109, 112, 32, 49, 120]⟩, .int .i64 153, 5⟩, ⟨.string ⟨#[97, 58]⟩, .int .i64 156, 6⟩, ⟨.string ⟨#[109, 111, 118, 101, 32, 114, 49, 32, 114, 50]⟩, .int .i64 143, 7⟩] 8)) (some o)) /\ (Rf (some o) /\ (8 : Nat) = 8 /\ (8 : Nat) = 8 /\ Rf (none : Option Nat)) /\ Rf (SV.ptr 2 0) /\ True /\ (leftOf #[⟨.string ⟨#[115, 101, 116, 32, 114, 49]⟩, .int .i64 151, 0⟩, ⟨.string ⟨#[115, 101, 116, 32, 114, 56, 32, 49]⟩, .int .i64 152, 1⟩, ⟨.string ⟨#[115, 101, 116, 32, 114, 49, 32, 48, 49]⟩, .int .i64 152, 2⟩, ⟨.string ⟨#[102, 111, 111]⟩, .int .i64 150, 3⟩, ⟨.string ⟨#[106, 117, 109, 112, 32, 110, 111, 119, 104, 101, 114, 101]⟩, .int .i64 155, 4⟩, ⟨.string ⟨#[106, 117, 109, 112, 32, 49, 120]⟩, .int .i64 153, 5⟩, ⟨.string ⟨#[97, 58]⟩, .int .i64 156, 6⟩, ⟨.string ⟨#[109, 111, 118, 101, 32, 114, 49, 32, 114, 50]⟩, .int .i64 143, 7⟩] (decI (encI ((decI x).toList.concat (6 : Nat)).toArray))).size < (leftOf #[⟨.string ⟨#[115, 101, 116, 32, 114, 49]⟩, .int .i64 151, 0⟩, ⟨.string ⟨#[115, 101, 116, 32, 114, 56, 32, 49]⟩, .int .i64 152, 1⟩, ⟨.string ⟨#[115, 101, 116, 32, 114, 49, 32, 48, 49]⟩, .int .i64 152, 2⟩, ⟨.string ⟨#[102, 111, 111]⟩, .int .i64 150, 3⟩, ⟨.string ⟨#[106, 117, 109, 112, 32, 110, 111, 119, 104, 101, 114, 101]⟩, .int .i64 155, 4⟩, ⟨.string ⟨#[106, 117, 109, 112, 32, 49, 120]⟩, .int .i64 153, 5⟩, ⟨.string ⟨#[97, 58]⟩, .int .i64 156, 6⟩, ⟨.string ⟨#[109, 111, 118, 101, 32, 114, 49, 32, 114, 50]⟩, .int .i64 143, 7⟩] (decI x)).size))) /\ ((decI x).contains (7 : Nat) = false -> o = o /\ (8 : Nat) = 8 /\ List.Nodup [(0 : Nat), 1, 2, 3, 4, 5, 6, 7] /\ (∃ (s : Array Nat) (r : Nat), ((decI x).toList.concat (7 : Nat)).toArray = s.push r /\ Membership.mem [MapEntry.mk (.string ⟨#[115, 101, 116, 32, 114, 49]⟩) (.int .i64 151) 0, ⟨.string ⟨#[115, 101, 116, 32, 114, 56, 32, 49]⟩, .int .i64 152, 1⟩, ⟨.string ⟨#[115, 101, 116, 32, 114, 49, 32, 48, 49]⟩, .int .i64 152, 2⟩, ⟨.string ⟨#[102, 111, 111]⟩, .int .i64 150, 3⟩, ⟨.string ⟨#[106, 117, 109, 112, 32, 110, 111, 119, 104, 101, 114, 101]⟩, .int .i64 155, 4⟩, ⟨.string ⟨#[106, 117, 109, 112, 32, 49, 120]⟩, .int .i64 153, 5⟩, ⟨.string ⟨#[97, 58]⟩, .int .i64 156, 6⟩, ⟨.string ⟨#[109, 111, 118, 101, 32, 114, 49, 32, 114, 50]⟩, .int .i64 143, 7⟩] (MapEntry.mk (.string ⟨#[109, 111, 118, 101, 32, 114, 49, 32, 114, 50]⟩) (.int .i64 143) r)) /\ Ct Tryz.prog (fnv 16) #[.string ⟨#[109, 111, 118, 101, 32, 114, 49, 32, 114, 50]⟩] p fun (r : Value) (s : Mem) => ∃ (t : Option Addr) (u w : Nat) (y z : Int), r = .tuple #[.slice t u w, .int .i64 y, .int .i64 z] /\ Br (y != 1) (Value.bool false = .bool true) (Br (z != 143) (Value.bool false = .bool true) (Rf (Ent.mk (.raw (.map #[⟨.string ⟨#[115, 101, 116, 32, 114, 49]⟩, .int .i64 151, 0⟩, ⟨.string ⟨#[115, 101, 116, 32, 114, 56, 32, 49]⟩, .int .i64 152, 1⟩, ⟨.string ⟨#[115, 101, 116, 32, 114, 49, 32, 48, 49]⟩, .int .i64 152, 2⟩, ⟨.string ⟨#[102, 111, 111]⟩, .int .i64 150, 3⟩, ⟨.string ⟨#[106, 117, 109, 112, 32, 110, 111, 119, 104, 101, 114, 101]⟩, .int .i64 155, 4⟩, ⟨.string ⟨#[106, 117, 109, 112, 32, 49, 120]⟩, .int .i64 153, 5⟩, ⟨.string ⟨#[97, 58]⟩, .int .i64 156, 6⟩, ⟨.string ⟨#[109, 111, 118, 101, 32, 114, 49, 32, 114, 50]⟩, .int .i64 143, 7⟩] 8)) (some o)) /\ (Rf (some o) /\ (8 : Nat) = 8 /\ (8 : Nat) = 8 /\ Rf (none : Option Nat)) /\ Rf (SV.ptr 2 0) /\ True /\ (leftOf #[⟨.string ⟨#[115, 101, 116, 32, 114, 49]⟩, .int .i64 151, 0⟩, ⟨.string ⟨#[115, 101, 116, 32, 114, 56, 32, 49]⟩, .int .i64 152, 1⟩, ⟨.string ⟨#[115, 101, 116, 32, 114, 49, 32, 48, 49]⟩, .int .i64 152, 2⟩, ⟨.string ⟨#[102, 111, 111]⟩, .int .i64 150, 3⟩, ⟨.string ⟨#[106, 117, 109, 112, 32, 110, 111, 119, 104, 101, 114, 101]⟩, .int .i64 155, 4⟩, ⟨.string ⟨#[106, 117, 109, 112, 32, 49, 120]⟩, .int .i64 153, 5⟩, ⟨.string ⟨#[97, 58]⟩, .int .i64 156, 6⟩, ⟨.string ⟨#[109, 111, 118, 101, 32, 114, 49, 32, 114, 50]⟩, .int .i64 143, 7⟩] (decI (encI ((decI x).toList.concat (7 : Nat)).toArray))).size < (leftOf #[⟨.string ⟨#[115, 101, 116, 32, 114, 49]⟩, .int .i64 151, 0⟩, ⟨.string ⟨#[115, 101, 116, 32, 114, 56, 32, 49]⟩, .int .i64 152, 1⟩, ⟨.string ⟨#[115, 101, 116, 32, 114, 49, 32, 48, 49]⟩, .int .i64 152, 2⟩, ⟨.string ⟨#[102, 111, 111]⟩, .int .i64 150, 3⟩, ⟨.string ⟨#[106, 117, 109, 112, 32, 110, 111, 119, 104, 101, 114, 101]⟩, .int .i64 155, 4⟩, ⟨.string ⟨#[106, 117, 109, 112, 32, 49, 120]⟩, .int .i64 153, 5⟩, ⟨.string ⟨#[97, 58]⟩, .int .i64 156, 6⟩, ⟨.string ⟨#[109, 111, 118, 101, 32, 114, 49, 32, 114, 50]⟩, .int .i64 143, 7⟩] (decI x)).size)))))))))) (by kernel_rfl) ?_
 have hok : ∀ i ∈ awP, okI i := fun i hi => by
  simp only [awP, List.mem_cons, List.not_mem_nil, or_false] at hi
  rcases hi with rfl | rfl | rfl | rfl <;> exact ⟨by decide, by decide, by decide, by decide, by decide⟩
 refine (ct16 (strT awT1) (by rw [strT_size]; decide) I hG).mono fun v a la h => ?_
 rw [show tx (strT awT1) = awT1 from rfl, aw1] at h
 obtain ⟨b, n, c, hv, hp, h3, h4⟩ := h;refine ⟨b, n, c, 0, 0, hv, Br.f rfl (Br.f rfl fun f g lg hf => ?_)⟩
 have hins : InsM g (some ⟨f, 0, none⟩) 4 awP := ⟨insVs awP, sl_cells (n := 4) (sz := 5) hf rfl (by decide), rowR_ins g hok⟩
 refine (ct27 awP awP b (some ⟨f, 0, none⟩) n 4 c 4 g (hp.mono lg) hins).mono fun h i li hh => ⟨_, hh, Br.f (by simp) ?_⟩
 refine (ct12 awP b n c i (hG.mono (Mem.le_trans la (Mem.le_trans lg li))) (hp.mono (Mem.le_trans lg li))).mono fun k l lk hk => ?_;rw [aw2] at hk
 refine ⟨_, _, hk, Br.f rfl (Br.f (by show (!(strT awT2).toList == (strT awT2).toList) = false; rw [str_eq, decide_eq_true rfl]; rfl) fun o => ?_)⟩
 have hG : Globs l := hG.mono (Mem.le_trans la (Mem.le_trans lg (Mem.le_trans li lk)));simp only [Rf, eq_self, true_and, and_true, true_implies, decI_encI];intro I1 G1 hI1 xs
 refine ⟨by omega, fun hend => ?_, fun hs => ?_, fun hs => ?_, fun hs => ?_, fun hs => ?_, fun hs => ?_, fun hs => ?_, fun hs => ?_, fun hs => ?_⟩
 · refine (ct16 (strT []) (by rw [strT_size]; decide) I1 (hG.mono hI1)).mono fun v I2 hI2 ⟨b2, n2, c2, hv, _⟩ => ?_
   rw [show tx (strT []) = [] from rfl, aw4] at hv
   exact ⟨_, _, _, _, _, hv, Br.t rfl rfl⟩
 · refine ⟨by decide, ⟨decI xs, 0, rfl, by simp⟩, (ct16 (strT [115, 101, 116, 32, 114, 49]) (by rw [strT_size]; decide) I1 (hG.mono hI1)).mono fun v I2 hI2 ⟨b2, n2, c2, hv, _⟩ => ?_⟩
   rw [show tx (strT [115, 101, 116, 32, 114, 49]) = [115, 101, 116, 32, 114, 49] from rfl, aw3_0] at hv
   exact ⟨_, _, _, _, _, hv, Br.f rfl (Br.f rfl (left_lt (es := awL) (y := ⟨.string ⟨#[115, 101, 116, 32, 114, 49]⟩, .int .i64 151, 0⟩) (by simp [awL]) hs))⟩
 · refine ⟨by decide, ⟨decI xs, 1, rfl, by simp⟩, (ct16 (strT [115, 101, 116, 32, 114, 56, 32, 49]) (by rw [strT_size]; decide) I1 (hG.mono hI1)).mono fun v I2 hI2 ⟨b2, n2, c2, hv, _⟩ => ?_⟩
   rw [show tx (strT [115, 101, 116, 32, 114, 56, 32, 49]) = [115, 101, 116, 32, 114, 56, 32, 49] from rfl, aw3_1] at hv
   exact ⟨_, _, _, _, _, hv, Br.f rfl (Br.f rfl (left_lt (es := awL) (y := ⟨.string ⟨#[115, 101, 116, 32, 114, 56, 32, 49]⟩, .int .i64 152, 1⟩) (by simp [awL]) hs))⟩
 · refine ⟨by decide, ⟨decI xs, 2, rfl, by simp⟩, (ct16 (strT [115, 101, 116, 32, 114, 49, 32, 48, 49]) (by rw [strT_size]; decide) I1 (hG.mono hI1)).mono fun v I2 hI2 ⟨b2, n2, c2, hv, _⟩ => ?_⟩
   rw [show tx (strT [115, 101, 116, 32, 114, 49, 32, 48, 49]) = [115, 101, 116, 32, 114, 49, 32, 48, 49] from rfl, aw3_2] at hv
   exact ⟨_, _, _, _, _, hv, Br.f rfl (Br.f rfl (left_lt (es := awL) (y := ⟨.string ⟨#[115, 101, 116, 32, 114, 49, 32, 48, 49]⟩, .int .i64 152, 2⟩) (by simp [awL]) hs))⟩
 · refine ⟨by decide, ⟨decI xs, 3, rfl, by simp⟩, (ct16 (strT [102, 111, 111]) (by rw [strT_size]; decide) I1 (hG.mono hI1)).mono fun v I2 hI2 ⟨b2, n2, c2, hv, _⟩ => ?_⟩
   rw [show tx (strT [102, 111, 111]) = [102, 111, 111] from rfl, aw3_3] at hv
   exact ⟨_, _, _, _, _, hv, Br.f rfl (Br.f rfl (left_lt (es := awL) (y := ⟨.string ⟨#[102, 111, 111]⟩, .int .i64 150, 3⟩) (by simp [awL]) hs))⟩
 · refine ⟨by decide, ⟨decI xs, 4, rfl, by simp⟩, (ct16 (strT [106, 117, 109, 112, 32, 110, 111, 119, 104, 101, 114, 101]) (by rw [strT_size]; decide) I1 (hG.mono hI1)).mono fun v I2 hI2 ⟨b2, n2, c2, hv, _⟩ => ?_⟩
   rw [show tx (strT [106, 117, 109, 112, 32, 110, 111, 119, 104, 101, 114, 101]) = [106, 117, 109, 112, 32, 110, 111, 119, 104, 101, 114, 101] from rfl, aw3_4] at hv
   exact ⟨_, _, _, _, _, hv, Br.f rfl (Br.f rfl (left_lt (es := awL) (y := ⟨.string ⟨#[106, 117, 109, 112, 32, 110, 111, 119, 104, 101, 114, 101]⟩, .int .i64 155, 4⟩) (by simp [awL]) hs))⟩
 · refine ⟨by decide, ⟨decI xs, 5, rfl, by simp⟩, (ct16 (strT [106, 117, 109, 112, 32, 49, 120]) (by rw [strT_size]; decide) I1 (hG.mono hI1)).mono fun v I2 hI2 ⟨b2, n2, c2, hv, _⟩ => ?_⟩
   rw [show tx (strT [106, 117, 109, 112, 32, 49, 120]) = [106, 117, 109, 112, 32, 49, 120] from rfl, aw3_5] at hv
   exact ⟨_, _, _, _, _, hv, Br.f rfl (Br.f rfl (left_lt (es := awL) (y := ⟨.string ⟨#[106, 117, 109, 112, 32, 49, 120]⟩, .int .i64 153, 5⟩) (by simp [awL]) hs))⟩
 · refine ⟨by decide, ⟨decI xs, 6, rfl, by simp⟩, (ct16 (strT [97, 58]) (by rw [strT_size]; decide) I1 (hG.mono hI1)).mono fun v I2 hI2 ⟨b2, n2, c2, hv, _⟩ => ?_⟩
   rw [show tx (strT [97, 58]) = [97, 58] from rfl, aw3_6] at hv
   exact ⟨_, _, _, _, _, hv, Br.f rfl (Br.f rfl (left_lt (es := awL) (y := ⟨.string ⟨#[97, 58]⟩, .int .i64 156, 6⟩) (by simp [awL]) hs))⟩
 · refine ⟨by decide, ⟨decI xs, 7, rfl, by simp⟩, (ct16 (strT [109, 111, 118, 101, 32, 114, 49, 32, 114, 50]) (by rw [strT_size]; decide) I1 (hG.mono hI1)).mono fun v I2 hI2 ⟨b2, n2, c2, hv, _⟩ => ?_⟩
   rw [show tx (strT [109, 111, 118, 101, 32, 114, 49, 32, 114, 50]) = [109, 111, 118, 101, 32, 114, 49, 32, 114, 50] from rfl, aw3_7] at hv
   exact ⟨_, _, _, _, _, hv, Br.f rfl (Br.f rfl (left_lt (es := awL) (y := ⟨.string ⟨#[109, 111, 118, 101, 32, 114, 49, 32, 114, 50]⟩, .int .i64 143, 7⟩) (by simp [awL]) hs))⟩
def laidW : List (String × DataW Unit) := [("math/bits.deBruijn32tab", YtjjjbafnplmjoaaGreatDoor.Rows.laid_math_bits_deBruijn32tab), ("math/bits.deBruijn64tab", YtjjjbafnplmjoaaGreatDoor.Rows.laid_math_bits_deBruijn64tab), ("internal/strconv.uint64pow10", YtjjjbafnplmjoaaGreatDoor.Rows.laid_internal_strconv_uint64pow10), ("unicode/utf8.acceptRanges", YtjjjbafnplmjoaaGreatDoor.Rows.laid_unicode_utf8_acceptRanges), ("strconv.ErrRange", YtjjjbafnplmjoaaGreatDoor.Rows.laid_strconv_ErrRange), ("strconv.ErrSyntax", YtjjjbafnplmjoaaGreatDoor.Rows.laid_strconv_ErrSyntax), ("unicode/utf8.first", YtjjjbafnplmjoaaGreatDoor.Rows.laid_unicode_utf8_first)]
theorem gPow : Tryz.prog.globalNamed "internal/strconv.uint64pow10" = some 3 := by kernel_rfl
theorem gSyn : Tryz.prog.globalNamed "strconv.ErrSyntax" = some 8 := by kernel_rfl
theorem gRng : Tryz.prog.globalNamed "strconv.ErrRange" = some 9 := by kernel_rfl
theorem cell_to {W w : World} (hw : (memW W).inW w) {a : Addr} {v : Value} (h : W.cell? a = some v) (hs : a.spot = none) : w.cell? a = some v := by
 refine cellM_world hw ?_;unfold World.cell? at h;unfold cellM memW;rw [hs] at h ⊢
 cases hb : W.heap[a.block]? with
 | none => rw [hb] at h; simp at h
 | some o =>
   rw [hb] at h
   cases o <;> simp_all
theorem var_to {W w : World} (hw : (memW W).inW w) {n : String} {cs : Array Value} (h : W.var? Tryz.prog n = some cs) : w.var? Tryz.prog n = some cs := by
 unfold World.var? at h ⊢
 cases hg : Tryz.prog.globalNamed n with
 | none => rw [hg] at h; cases h
 | some g =>
   rw [hg] at h;simp only [Option.bind_some] at h ⊢
   cases hb : W.heap[g]? with
   | none => rw [hb] at h; cases h
   | some o =>
     have := hw g o hb;rw [hb] at h
     rw [this]; exact h
theorem starS : "*errors.errorString" = "*" ++ "errors.errorString" := by decide +kernel
theorem rowS : ∀ u, Tryz.prog.typeName? 3 u = some "*errors.errorString" -> u = 224 := fun u h =>
 typeName_ptr_named (nm := "errors.errorString") (by rw [<- starS]; kernel_rfl) (by kernel_rfl) (by decide) u (by rw [<- starS]; exact h)
theorem sent {W : World} {n : String} {text : List UInt8} {r : List (String × DataW Unit)} {g : Nat} (hg : Tryz.prog.globalNamed n = some g) (ht : (Tryz.prog.globals[g]?).map (·.type) = some 53)
 (h : laidMet Tryz.prog ((n, .iface "*errors.errorString" (.ptr (.agg [.lit (.string text)]))) :: r) W) : ∃ tp p, W.cell? ⟨g, 0, none⟩ = some (.iface tp p) := by
 obtain ⟨a, s, hv, _⟩ := laid_sentinel h hg ht Tryz.underlying53 rowS Tryz.underlying224 Tryz.underlying226 rfl rfl Tryz.underlying9 (by kernel_rfl) (by kernel_rfl)
 have := World.var?_cell hg hv 0;exact ⟨_, _, this⟩
theorem globs_mk {W : World} {r r2 : List (String × DataW Unit)} (hsh : W.ShapedOpen Tryz.prog)
 (h1 : laidMet Tryz.prog (("internal/strconv.uint64pow10", YtjjjbafnplmjoaaGreatDoor.Rows.laid_internal_strconv_uint64pow10) :: r) W)
 (h2 : laidMet Tryz.prog (("strconv.ErrRange", YtjjjbafnplmjoaaGreatDoor.Rows.laid_strconv_ErrRange) :: ("strconv.ErrSyntax", YtjjjbafnplmjoaaGreatDoor.Rows.laid_strconv_ErrSyntax) :: r2) W) : Globs (memW W) := by
 obtain ⟨m, hm⟩ := cell_of_shapedOpen_int (P := Tryz.prog) (g := 2) (t := 3) (zero := #[.int .i64 0]) (k := .i64) hsh (of_decide_eq_true (by kernel_rfl)) (by kernel_rfl) rfl (by kernel_rfl) (by kernel_rfl) Tryz.underlying3
 have hT : Lib.TabIs Tryz.prog W "internal/strconv.uint64pow10" .u64 Lib.pow10Tab := Lib.tabIs_of_head (t := 201) (e := 129) (n := 20) gPow (by kernel_rfl) (by kernel_rfl) (by kernel_rfl) (by kernel_rfl) (by kernel_rfl) h1
 obtain ⟨t1, p1, hr⟩ := sent gRng (by kernel_rfl) h2
 obtain ⟨t2, p2, hs⟩ := sent gSyn (by kernel_rfl) h2.tail
 intro w hw;exact ⟨⟨m, cell_to hw hm rfl⟩, var_to hw hT, ⟨t2, p2, cell_to hw hs rfl⟩, ⟨t1, p1, cell_to hw hr rfl⟩⟩
theorem globs_ofW {W : World} (hsh : W.ShapedOpen Tryz.prog) (hL : laidMetH Tryz.prog laidW W) : Globs (memW W) := by
 rw [MakeChecks.laidMetH_plain _ _ _ (by kernel_rfl)] at hL
 exact globs_mk hsh hL.tail.tail hL.tail.tail.tail.tail
theorem cells5 : Tryz.prog.cellsOf 5 = 1 := by kernel_rfl
def Q5 (I : Mem) (v : Value) : Prop := ∃ n, v = .int .u8 n /\ 0 <= n /\ n <= 255
section
variable {H : Type} {enc : TypeId × Value -> H} {W : World} {r : Reach} {b0 : Nat} {v : Value} {d : DataW H} {ps : List MemPlace}
theorem op5 (hval : Value.okWide Tryz.prog W r b0 5 v) (hd : DataW.Trod enc Tryz.prog W 0 (fun _ => true) true 5 v d ps) (hw : ∀ n ∈ d.weights Tryz.prog 5, n <= reachBytes) : Q5 (memW W) v := by
 obtain ⟨n, rfl, h1, h2⟩ := opI Tryz.underlying5 hval;exact ⟨n, rfl, h1, h2⟩
end
def wordsB (op : Int) : Bool :=
 ((formT op).isSome == decide (wordT op ≠ [])) && (((findT (wordT op)).2 == (formT op).isSome) && ((!(formT op).isSome || (decide ((findT (wordT op)).1 = op) && nameB (wordT op))) && ((formT op).isSome || decide ((findT (wordT op)).1 = 0))))
theorem words_all : ∀ k : Fin 256, wordsB (k.val : Int) = true := by decide +kernel
theorem words_of {op : Int} (h : 0 <= op /\ op <= 255) : wordsB op = true := by
 have := words_all ⟨op.toNat, by omega⟩
 rwa [show ((op.toNat : Nat) : Int) = op by omega] at this
theorem find_word {s : Tx} (h : (findT s).2 = true) : wordT (findT s).1 = s := by
 unfold findT at h ⊢;split
 · rename_i h1
   unfold opFind at h1 ⊢
   split at h1
   · rename_i k hk
     obtain ⟨hlt, he, _⟩ := List.findIdx?_eq_some_iff_getElem.1 hk;have he := of_decide_eq_true he;simp only [hk]
     rw [wordT, if_pos (by omega), opName, if_neg (by omega), show (32 + ((k : Int) + 1) - 32 - 1).toNat = k by omega, List.getElem?_eq_getElem hlt]
     exact he
   · cases h1
 · rename_i h1
   rw [if_neg h1] at h;unfold baseFind at h ⊢
   split at h
   · rename_i k hk
     obtain ⟨hlt, he, _⟩ := List.findIdx?_eq_some_iff_getElem.1 hk;have he := of_decide_eq_true he;have hl : baseNames.length = 11 := rfl;simp only [hk]
     rw [wordT, if_neg (by omega), if_neg (by omega), show (((k : Int) + 1) - 1).toNat = k by omega, List.getElem?_eq_getElem hlt]
     exact he
   · cases h
def shapeI (i : Ins) (l : Tx) : Prop :=
 (l = [] /\ i.a = 0 /\ i.b = 0 /\ i.c = 0 /\ i.n = 0) \/ (l = [114, 110] /\ i.a < 8 /\ i.b = 0 /\ i.c = 0) \/ (l = [114, 114] /\ i.a < 8 /\ i.b < 8 /\ i.c = 0 /\ i.n = 0) \/
 (l = [114, 114, 112] /\ i.a < 8 /\ i.b < 8 /\ i.c = 0 /\ 0 <= i.n /\ i.n < 16) \/ (l = [116] /\ i.a = 0 /\ i.b = 0 /\ i.c = 0 /\ 0 <= i.n /\ i.n < 256) \/
 (l = [114, 116] /\ i.a < 8 /\ i.b = 0 /\ i.c = 0 /\ 0 <= i.n /\ i.n < 256) \/ (l = [114, 114, 114] /\ i.a < 8 /\ i.b < 8 /\ i.c < 8 /\ i.n = 0)
set_option maxHeartbeats 8000000 in
theorem one_shape {i : Ins} (ho : okI i) (h : oneE i = 0) : ∃ l, formT i.op = some l /\ shapeI i l := by
 rw [oneE] at h
 have ha := ho.a; have hb := ho.b; have hc := ho.c
 rcases formT_cases i.op with hf | hf | hf | hf | hf | hf | hf | hf <;> rw [hf] at h <;> simp only at h
 · cases h
 · refine ⟨_, hf, .inl ⟨rfl, ?_⟩⟩
   rw [oneGo] at h
   split at h
   · rename_i hz; exact hz
   · cases h
 · refine ⟨_, hf, .inr (.inl ⟨rfl, ?_⟩)⟩
   simp only [oneGo, regAt, true_and] at h
   repeat' split at h
   all_goals simp_all
   all_goals omega
 · refine ⟨_, hf, .inr (.inr (.inl ⟨rfl, ?_⟩))⟩
   simp only [oneGo, regAt, true_and] at h
   repeat' split at h
   all_goals simp_all
   all_goals omega
 · refine ⟨_, hf, .inr (.inr (.inr (.inl ⟨rfl, ?_⟩)))⟩
   simp only [oneGo, regAt, true_and] at h
   repeat' split at h
   all_goals simp_all
   all_goals omega
 · refine ⟨_, hf, .inr (.inr (.inr (.inr (.inl ⟨rfl, ?_⟩))))⟩
   simp only [oneGo, regAt, true_and] at h
   repeat' split at h
   all_goals simp_all
   all_goals omega
 · refine ⟨_, hf, .inr (.inr (.inr (.inr (.inr (.inl ⟨rfl, ?_⟩)))))⟩
   simp only [oneGo, regAt, true_and] at h
   repeat' split at h
   all_goals simp_all
   all_goals omega
 · refine ⟨_, hf, .inr (.inr (.inr (.inr (.inr (.inr ⟨rfl, ?_⟩)))))⟩
   simp only [oneGo, regAt, true_and] at h
   repeat' split at h
   all_goals simp_all
   all_goals omega
theorem shape_one {i : Ins} {l : Tx} (hf : formT i.op = some l) (h : shapeI i l) : oneE i = 0 := by
 rw [oneE, hf]
 simp only
 unfold shapeI at h
 rcases h with ⟨rfl, h⟩ | ⟨rfl, h⟩ | ⟨rfl, h⟩ | ⟨rfl, h⟩ | ⟨rfl, h⟩ | ⟨rfl, h⟩ | ⟨rfl, h⟩ <;> simp_all [oneGo, regAt]
theorem reg_itoa {r : Int} (h0 : 0 <= r) (h1 : r < 8) : regT (114 :: Lib.itoa r) = some r := by
 have : ∀ k : Fin 8, regT (114 :: Lib.itoa (k.val : Int)) = some (k.val : Int) := by decide +kernel
 have h := this ⟨r.toNat, by omega⟩
 rwa [show ((r.toNat : Nat) : Int) = r by omega] at h
theorem lab_name {n : Int} (h0 : 0 <= n) (h1 : n < 256) : nameB (lab n) = true := by
 have : ∀ k : Fin 256, nameB (lab (k.val : Int)) = true := by decide +kernel
 have h := this ⟨n.toNat, by omega⟩
 rwa [show ((n.toNat : Nat) : Int) = n by omega] at h
theorem num_itoa {n : Int} (h : i64N n) : numT (Lib.itoa n) = some n := by
 rw [numT, itoa_parse h]; simp
def srcI (i : Ins) (line : Int) : Src := if 116 ∈ formL i.op then ⟨{ i with n := 0 }, line, lab i.n⟩ else ⟨i, line, []⟩
theorem find_form {op : Int} (ho : 0 <= op /\ op <= 255) {l : Tx} (h : formT op = some l) : findT (wordT op) = (op, true) := by
 have hw := words_of ho;simp only [wordsB, Bool.and_eq_true, beq_iff_eq, Bool.or_eq_true, Bool.not_eq_true', decide_eq_true_eq] at hw;obtain ⟨w1, w2, w3, w4⟩ := hw;rw [h] at w2 w3
 have w3 := w3.resolve_left (by simp)
 exact Prod.ext w3.1 w2
theorem instr_back {i : Ins} (ho : okI i) (h : oneE i = 0) (line : Int) : instrA (wordT i.op :: operands i) line = (0, srcI i line) := by
 obtain ⟨l, hf, hs⟩ := one_shape ho h
 have hfl : formL i.op = l := by rw [formL, hf]; rfl
 have hfd := find_form ho.op hf
 have ha := ho.a; have hb := ho.b; have hc := ho.c
 have hoper : operands i = operA l i 0 := by rw [operands, hfl]
 obtain ⟨op, a, b, c, n⟩ := i
 simp only at hf hs hfl hfd ha hb hc hoper ho
 have hol := (oper_len ho l 0).1
 rw [instrA, hfd, if_neg (by simp), if_neg (by rw [hoper, hol, hfl]; simp), hoper]
 simp only [hfl, srcI];unfold shapeI at hs
 simp only at hs
 rcases hs with ⟨rfl, rfl, rfl, rfl, rfl⟩ | ⟨rfl, h1, rfl, rfl⟩ | ⟨rfl, h1, h2, rfl, rfl⟩ | ⟨rfl, h1, h2, rfl, h3, h4⟩ | ⟨rfl, rfl, rfl, rfl, h3, h4⟩ | ⟨rfl, h1, rfl, rfl, h3, h4⟩ | ⟨rfl, h1, h2, h3, rfl⟩
 · rw [putGo_nil]; rfl
 · simp [operA, putGo, regAt, reg_itoa ha.1 h1, num_itoa ho.n, putR]
 · simp [operA, putGo, regAt, reg_itoa ha.1 h1, reg_itoa hb.1 h2, putR]
 · simp [operA, putGo, regAt, reg_itoa ha.1 h1, reg_itoa hb.1 h2, num_itoa ho.n, putR, h3, h4]
 · simp [operA, putGo, lab_name h3 h4]
 · simp [operA, putGo, regAt, reg_itoa ha.1 h1, lab_name h3 h4, putR]
 · simp [operA, putGo, regAt, reg_itoa ha.1 h1, reg_itoa hb.1 h2, reg_itoa hc.1 h3, putR]
def wdC (c : UInt8) : Prop := c ≠ 32 /\ c ≠ 9 /\ c ≠ 59 /\ c ≠ 10 /\ c ≠ 58
theorem itoa_wd (n : Int) : (∀ c ∈ Lib.itoa n, wdC c) /\ Lib.itoa n ≠ [] := by
 have key : ∀ u, (∀ c ∈ Lib.decDigits u, wdC c) /\ Lib.decDigits u ≠ [] := fun u => ⟨fun c hc => by
  have := (dec_digits u).2 c hc
  refine ⟨?_, ?_, ?_, ?_, ?_⟩ <;> (rintro rfl; revert this; decide), (dec_digits u).1⟩
 unfold Lib.itoa;split
 · refine ⟨fun c hc => ?_, by simp⟩
   rcases List.mem_cons.1 hc with rfl | hc
   · exact ⟨by decide, by decide, by decide, by decide, by decide⟩
   · exact (key _).1 c hc
 · exact key _
theorem cons_wd {a : UInt8} {t : Tx} (ha : wdC a) (h : ∀ c ∈ t, wdC c) : ∀ c ∈ a :: t, wdC c := fun c hc => by
 rcases List.mem_cons.1 hc with rfl | hc
 · exact ha
 · exact h c hc
theorem oper_wd (i : Ins) : ∀ (fs : Tx) (u : Nat), ∀ w ∈ operA fs i u, (∀ c ∈ w, wdC c) /\ w ≠ []
 | [], u, w, hw => by cases hw
 | f :: fs, u, w, hw => by
   rw [operA] at hw
   split at hw
   · rcases List.mem_cons.1 hw with rfl | hw
     · exact ⟨cons_wd ⟨by decide, by decide, by decide, by decide, by decide⟩ (itoa_wd _).1, by simp⟩
     · exact oper_wd i fs _ w hw
   · split at hw
     · rcases List.mem_cons.1 hw with rfl | hw
       · exact ⟨cons_wd ⟨by decide, by decide, by decide, by decide, by decide⟩ (itoa_wd _).1, by simp [lab]⟩
       · exact oper_wd i fs _ w hw
     · rcases List.mem_cons.1 hw with rfl | hw
       · exact itoa_wd _
       · exact oper_wd i fs _ w hw
theorem word_wd {op : Int} (ho : 0 <= op /\ op <= 255) : ∀ c ∈ wordT op, wdC c := by
 have : ∀ k : Fin 256, ((wordT (k.val : Int)).all fun c => c != 32 && (c != 9 && (c != 59 && (c != 10 && c != 58)))) = true := by decide +kernel
 have h := this ⟨op.toNat, by omega⟩
 rw [show ((op.toNat : Nat) : Int) = op by omega] at h
 intro c hc;have := List.all_eq_true.1 h c hc;simpa [wdC, bne, Bool.and_eq_true] using this
theorem fields_join : ∀ (ws : List Tx) (acc : Tx), (∀ w ∈ ws, (∀ c ∈ w, wdC c) /\ w ≠ []) -> (∀ c ∈ acc, wdC c) -> fieldsGo acc (joinC 32 ws) = (match ws with | [] => (if acc = [] then [] else [acc]) | w :: r => (acc ++ w) :: r)
 | [], acc, _, _ => by rw [joinC, fieldsGo]
 | [w], acc, h, ha => by
   have hw := h w (by simp)
   have e : w = w ++ [] := by simp
   rw [joinC]
   conv => lhs; rw [e]
   rw [fields_skip w acc [] (fun c hc => by have := hw.1 c hc; simp [blankB, this.1, this.2.1]), fieldsGo, if_neg (by simp [hw.2])]
 | w :: y :: r, acc, h, ha => by
   have hw := h w (by simp)
   have ih := fields_join (y :: r) [] (fun z hz => h z (List.mem_cons_of_mem _ hz)) (fun c hc => by cases hc)
   rw [joinC, fields_skip w acc _ (fun c hc => by have := hw.1 c hc; simp [blankB, this.1, this.2.1]), fieldsGo, if_pos (by decide), if_neg (by simp [hw.2]), ih]
   rfl
theorem join_wd59 : ∀ (ws : List Tx), (∀ w ∈ ws, (∀ c ∈ w, wdC c) /\ w ≠ []) -> ∀ c ∈ joinC 32 ws, c ≠ 59 /\ c ≠ 10
 | [], _, c, hc => by cases hc
 | [w], h, c, hc => by
   rw [joinC] at hc
   have := (h w (by simp)).1 c hc
   exact ⟨this.2.2.1, this.2.2.2.1⟩
 | w :: y :: r, h, c, hc => by
   rw [joinC] at hc
   rcases List.mem_append.1 hc with hc | hc
   · have := (h w (by simp)).1 c hc
     exact ⟨this.2.2.1, this.2.2.2.1⟩
   · rcases List.mem_cons.1 hc with rfl | hc
     · exact ⟨by decide, by decide⟩
     · exact join_wd59 (y :: r) (fun z hz => h z (List.mem_cons_of_mem _ hz)) c hc
theorem word_ne {i : Ins} (ho : okI i) (h : oneE i = 0) : wordT i.op ≠ [] := fun e => by
 obtain ⟨l, hf, _⟩ := one_shape ho h;have hw := words_of ho.op;simp only [wordsB, Bool.and_eq_true, beq_iff_eq] at hw;rw [hf, e] at hw;cases hw.1
theorem words_wd {i : Ins} (ho : okI i) (h : oneE i = 0) : ∀ w ∈ wordT i.op :: operands i, (∀ c ∈ w, wdC c) /\ w ≠ [] := fun w hw => by
 rcases List.mem_cons.1 hw with rfl | hw
 · exact ⟨word_wd ho.op, word_ne ho h⟩
 · exact oper_wd i _ _ w hw
def insL (i : Ins) : Tx := [32, 32] ++ joinC 32 (wordT i.op :: operands i)
theorem insT_eq (i : Ins) : insT i = insL i ++ [10] := rfl
theorem tw_self (c : UInt8) (t : Tx) (h : ∀ x ∈ t, x ≠ c) : t.takeWhile (· ≠ c) = t := (tw_all _ t fun x hx => decide_eq_true (h x hx)).1
theorem pieces_ins {i : Ins} (ho : okI i) (h : oneE i = 0) : piecesT (insL i) = wordT i.op :: operands i := by
 have hw := words_wd ho h;rw [piecesT, tw_self]
 · rw [insL, List.cons_append, List.cons_append, List.nil_append, fieldsGo, if_pos (by decide), if_pos rfl, fieldsGo, if_pos (by decide), if_pos rfl, fields_join _ _ hw (fun c hc => by cases hc)]
   rfl
 · intro x hx
   rw [insL] at hx
   rcases List.mem_append.1 hx with hx | hx
   · simp only [List.mem_cons, List.not_mem_nil, or_false] at hx
     rcases hx with rfl | rfl <;> decide
   · exact (join_wd59 _ hw x hx).1
theorem ins_no10 {i : Ins} (ho : okI i) (h : oneE i = 0) : (10 : UInt8) ∉ insL i := fun hx => by
 rw [insL] at hx
 rcases List.mem_append.1 hx with hx | hx
 · simp at hx
 · exact (join_wd59 _ (words_wd ho h) 10 hx).2 rfl
theorem lab_wd (n : Int) : (∀ c ∈ lab n, wdC c) /\ lab n ≠ [] := ⟨cons_wd ⟨by decide, by decide, by decide, by decide, by decide⟩ (itoa_wd _).1, by simp [lab]⟩
theorem fields_one {t : Tx} (h : ∀ c ∈ t, blankB c = false) (hne : t ≠ []) : fieldsGo [] t = [t] := by
 have e := fields_skip t [] [] h;rw [List.append_nil, List.nil_append] at e;rw [e, fieldsGo, if_neg hne]
theorem pieces_lab (n : Int) : piecesT (lab n ++ [58]) = [lab n ++ [58]] := by
 have hw := (lab_wd n).1
 have hall : ∀ c ∈ lab n ++ [58], c ≠ 32 /\ c ≠ 9 /\ c ≠ 59 := fun c hc => by
  rcases List.mem_append.1 hc with hc | hc
  · have := hw c hc; exact ⟨this.1, this.2.1, this.2.2.1⟩
  · simp only [List.mem_cons, List.not_mem_nil, or_false] at hc
    subst hc; decide
 rw [piecesT, tw_self _ _ fun x hx => (hall x hx).2.2]
 exact fields_one (fun c hc => by have := hall c hc; simp [blankB, this.1, this.2.1]) (by simp)
theorem lab_no10 (n : Int) : (10 : UInt8) ∉ lab n ++ [58] := fun hx => by
 rcases List.mem_append.1 hx with hx | hx
 · exact ((lab_wd n).1 10 hx).2.2.2.1 rfl
 · simp at hx
theorem line_ins {i : Ins} (ho : okI i) (h : oneE i = 0) (r : Rd) (line : Int) : lineA r (insL i) line = (0, ⟨r.ms, r.ss ++ [srcI i line]⟩) := by
 have hlab : labT (wordT i.op) = none := by
  rw [labT, if_neg];intro hl;have hm : (58 : UInt8) ∈ wordT i.op := List.mem_of_getLast? hl;exact ((words_wd ho h _ (List.mem_cons_self ..)).1 58 hm).2.2.2.2 rfl
 rw [lineA, pieces_ins ho h];simp only [hlab];rw [putI, instr_back ho h]
 · rfl
 · intro hh; cases hh
theorem line_lab {n : Int} (h0 : 0 <= n) (h1 : n < 256) (r : Rd) (line : Int) (hno : hasMk r.ms (lab n) = false) : lineA r (lab n ++ [58]) line = (0, ⟨r.ms ++ [⟨lab n, (r.ss.length : Int), line⟩], r.ss⟩) := by
 have hlab : labT (lab n ++ [58]) = some (lab n) := by rw [labT, if_pos (by simp)]; simp
 rw [lineA, pieces_lab];simp only [hlab]
 have hl : labelA r (lab n) line = (0, ⟨r.ms ++ [⟨lab n, (r.ss.length : Int), line⟩], r.ss⟩) := by rw [labelA, lab_name h0 h1, if_neg (by simp), if_neg (by rw [hno]; simp)]
 rw [hl]; rfl
theorem line_nil (r : Rd) (line : Int) : lineA r [] line = (0, r) := rfl
def outLines (p : List Ins) : List Ins -> Nat -> List Tx
 | [], _ => []
 | i :: r, k => (if isTo p k then [lab k ++ [58]] else []) ++ insL i :: outLines p r (k + 1)
theorem split_out (p : List Ins) : ∀ (l : List Ins) (k : Nat), (∀ i ∈ l, okI i /\ oneE i = 0) -> splitC 10 (outGo p l k) = outLines p l k ++ [[]]
 | [], k, _ => rfl
 | i :: r, k, h => by
   have hi := h i (by simp)
   have ih := split_out p r (k + 1) fun j hj => h j (List.mem_cons_of_mem _ hj);rw [outGo, outLines, insT_eq]
   have e : splitC 10 (insL i ++ [10] ++ outGo p r (k + 1)) = insL i :: (outLines p r (k + 1) ++ [[]]) := by
    rw [List.append_assoc, List.singleton_append, split_app (ins_no10 hi.1 hi.2), ih]
   split
   · rw [show lab (k : Int) ++ [58, 10] = (lab k ++ [58]) ++ [10] by simp, List.append_assoc, List.append_assoc, List.singleton_append, split_app (lab_no10 _), e]
     rfl
   · rw [List.nil_append, e]; rfl
def MsR (p : List Ins) (k : Nat) (ms : List Mk) : Prop := ms.map (fun m => (m.name, m.at_)) = ((List.range k).filter (isTo p)).map fun (j : Nat) => (lab j, (j : Int))
theorem lab_inj {a b : Nat} (ha : a < 100000) (hb : b < 100000) (h : lab a = lab b) : a = b := by
 simp only [lab, List.cons.injEq, true_and] at h
 have := itoa_inj (by omega) (by omega) h
 omega
theorem MsR.has {p : List Ins} {k : Nat} {ms : List Mk} (h : MsR p k ms) (hk : k <= 1000) {j : Nat} (hj : j < 1000) : hasMk ms (lab j) = (decide (j < k) && isTo p j) := by
 have e : hasMk ms (lab j) = (ms.map (fun m => (m.name, m.at_))).any fun x => decide (x.1 = lab j) := by
  rw [hasMk, List.any_map]; rfl
 rw [e, h, List.any_map]
 by_cases hh : j < k /\ isTo p j = true
 · rw [decide_eq_true hh.1, hh.2, List.any_eq_true.2]
   · rfl
   · exact ⟨j, List.mem_filter.2 ⟨List.mem_range.2 hh.1, hh.2⟩, by simp⟩
 · have : (decide (j < k) && isTo p j) = false := by
    rw [Bool.eq_false_iff];intro hb;simp only [Bool.and_eq_true, decide_eq_true_eq] at hb;exact hh hb
   rw [this, Bool.eq_false_iff];intro hb;obtain ⟨x, hx, he⟩ := List.any_eq_true.1 hb;obtain ⟨h1, h2⟩ := List.mem_filter.1 hx;have h1 := List.mem_range.1 h1;simp only [Function.comp, decide_eq_true_eq] at he
   have := lab_inj (by omega) (by omega) he
   subst this;exact hh ⟨h1, h2⟩
theorem lines_back (p : List Ins) : ∀ (l : List Ins) (k : Nat) (n : Int) (r : Rd), (∀ i ∈ l, okI i /\ oneE i = 0) -> r.ss.length = k -> MsR p k r.ms -> k + l.length <= 256 ->
 ∃ r', linesA (outLines p l k ++ [[]]) n r = (0, 0, r') /\ MsR p (k + l.length) r'.ms /\ ∃ ss', r'.ss = r.ss ++ ss' /\ ss'.map (fun x => (x.ins, x.target)) = l.map fun i => ((srcI i 0).ins, (srcI i 0).target)
 | [], k, n, r, _, h1, h2, _ => ⟨r, by rw [outLines, List.nil_append, linesA, line_nil]; rfl, h2, [], by simp, rfl⟩
 | i :: l, k, n, r, h, h1, h2, h3 => by
   have hi := h i (by simp)
   simp only [List.length_cons] at h3
   have hsrc : ∀ line, ((srcI i line).ins, (srcI i line).target) = ((srcI i 0).ins, (srcI i 0).target) := fun line => by
    unfold srcI; split <;> rfl
   have step : ∀ (ms : List Mk) (line : Int), MsR p (k + 1) ms -> ∃ r', linesA (insL i :: (outLines p l (k + 1) ++ [[]])) line ⟨ms, r.ss⟩ = (0, 0, r') /\ MsR p (k + (l.length + 1)) r'.ms /\ ∃ ss', r'.ss = r.ss ++ ss' /\ ss'.map (fun x => (x.ins, x.target)) = (i :: l).map fun i => ((srcI i 0).ins, (srcI i 0).target) := by
    intro ms line hms
    obtain ⟨r', g1, g2, ss', g3, g4⟩ := lines_back p l (k + 1) (line + 1) ⟨ms, r.ss ++ [srcI i line]⟩ (fun j hj => h j (List.mem_cons_of_mem _ hj)) (by simp [h1]) hms (by omega)
    refine ⟨r', ?_, by rw [show k + (l.length + 1) = k + 1 + l.length by omega]; exact g2, srcI i line :: ss', by rw [g3]; simp, ?_⟩
    · rw [linesA, line_ins hi.1 hi.2, if_neg (by simp)]
      exact g1
    · rw [List.map_cons, List.map_cons, g4, hsrc]
   have hfilt : ∀ b, isTo p k = b -> (List.range (k + 1)).filter (isTo p) = (List.range k).filter (isTo p) ++ if b then [k] else [] := fun b hb => by
    rw [List.range_succ, List.filter_append]
    congr 1
    rw [List.filter_cons, hb]
    cases b <;> rfl
   rw [outLines]
   cases ht : isTo p k with
   | true =>
     rw [if_pos rfl]
     have hno : hasMk r.ms (lab (k : Int)) = false := by
      rw [h2.has (by omega) (by omega), decide_eq_false (by omega)]; rfl
     obtain ⟨r', g1, g2, g3⟩ := step (r.ms ++ [⟨lab k, (r.ss.length : Int), n⟩]) (n + 1) (by
      rw [MsR, hfilt true ht, List.map_append, List.map_append, h2, if_pos rfl, h1]; rfl)
     refine ⟨r', ?_, g2, g3⟩
     rw [List.append_assoc, List.singleton_append, linesA, line_lab (by omega) (by omega) r n hno, if_neg (by simp)]
     exact g1
   | false =>
     rw [if_neg (by simp), List.nil_append]
     exact step r.ms n (by rw [MsR, hfilt false ht, List.map_append, h2]; simp)
theorem out_len (p : List Ins) : ∀ (l : List Ins) (k : Nat), (∀ i ∈ l, okI i) -> k + l.length <= 256 -> (outGo p l k).length <= 130 * l.length
 | [], _, _, _ => Nat.zero_le _
 | i :: l, k, h, hk => by
   have ih := out_len p l (k + 1) (fun j hj => h j (List.mem_cons_of_mem _ hj)) (by simp only [List.length_cons] at hk; omega)
   have h1 := insT_len (h i (by simp))
   have h2 : (lab (k : Int)).length <= 22 := by
    simp only [List.length_cons] at hk
    have := itoa_len (n := (k : Int)) ⟨by omega, by omega⟩
    simp only [lab, List.length_cons]; omega
   rw [outGo];simp only [List.length_append, List.length_cons];split
   · simp only [List.length_append, List.length_cons, List.length_nil]; omega
   · simp only [List.length_nil]; omega
theorem to_there {p : List Ins} {i : Ins} (hi : i ∈ p) (ht : (targetE i).2 = true) (hn : 0 <= (targetE i).1) : isTo p (targetE i).1.toNat = true := by
 rw [isTo, List.any_eq_true]
 exact ⟨i, hi, by rw [ht, Bool.true_and, decide_eq_true_eq]; omega⟩
theorem tgt_form {i : Ins} (ho : okI i) (h : oneE i = 0) : (116 ∈ formL i.op ↔ (targetE i).2 = true) /\ ((targetE i).2 = true -> (targetE i).1 = i.n) := by
 obtain ⟨l, hf, hs⟩ := one_shape ho h
 have hk : ∀ k : Fin 256, (decide (116 ∈ formL (k.val : Int))) = decide ((k.val : Int) = 9 \/ (k.val : Int) = 10 \/ (k.val : Int) = 11) := by decide +kernel
 have h2 := ho.op
 have h1 := hk ⟨i.op.toNat, by omega⟩
 rw [show ((i.op.toNat : Nat) : Int) = i.op by omega] at h1
 have h1 := decide_eq_decide.1 h1;unfold targetE;constructor
 · rw [h1]
   constructor
   · intro hh; rw [if_pos ⟨h, hh⟩]
   · intro hh
     split at hh
     · rename_i hc; exact hc.2
     · cases hh
 · intro hh
   split at hh
   · rename_i hc; rw [if_pos hc]
   · cases hh
theorem MsR.at_ {p : List Ins} {k : Nat} {ms : List Mk} (h : MsR p k ms) (hk : k <= 1000) {j : Nat} (hj : j < k) (ht : isTo p j = true) : atMk ms (lab j) = (j : Int) := by
 have hh := h.has hk (j := j) (by omega)
 rw [decide_eq_true hj, ht] at hh
 have hmem : ∀ m ∈ ms, ∃ j' : Nat, j' < k /\ m.name = lab j' /\ m.at_ = (j' : Int) := fun m hm => by
  have : (m.name, m.at_) ∈ ms.map (fun m => (m.name, m.at_)) := List.mem_map_of_mem hm;rw [h] at this;obtain ⟨j', hj', he⟩ := List.mem_map.1 this;have he := Prod.mk.inj he;exact ⟨j', List.mem_range.1 (List.mem_filter.1 hj').1, he.1.symm, he.2.symm⟩
 rw [atMk]
 cases hq : ms.find? fun m => decide (m.name = lab j) with
 | none =>
   have := List.find?_eq_none.1 hq;obtain ⟨m, hm, he⟩ := List.any_eq_true.1 hh;exact absurd he (this m hm)
 | some m =>
   have h1 := List.find?_some hq;have h1 := of_decide_eq_true h1;obtain ⟨j', g1, g2, g3⟩ := hmem m (List.mem_of_find?_eq_some hq)
   have := lab_inj (by omega) (by omega) (g2.symm.trans h1)
   simp only
   rw [g3, this]
theorem read_back {p : List Ins} (ho : ∀ i ∈ p, okI i) (h : (checkL p).2 = 0) :
 ∃ ms, readA (outGo p p 0) = (0, 0, ⟨ms, (readA (outGo p p 0)).2.2.ss⟩) /\ MsR p p.length ms /\ (readA (outGo p p 0)).2.2.ss.map (·.ins) = p := by
 obtain ⟨c1, c2, c3, c4⟩ := check_len h;have hck := checkGo_ok _ _ _ c3;have hall : ∀ i ∈ p, okI i /\ oneE i = 0 := fun i hi => ⟨ho i hi, (hck i hi).1⟩
 obtain ⟨r, g1, g2, ss, g3, g4⟩ := lines_back p p 0 1 ⟨[], []⟩ hall rfl rfl (by omega)
 simp only [List.nil_append] at g3;rw [Nat.zero_add] at g2
 have hlen := out_len p p 0 ho (by omega)
 have hss : r.ss.length = p.length := by
  have := congrArg List.length g4
  rw [g3]; simpa using this
 have hgo : ∀ x ∈ r.ss, ∃ i ∈ p, x.ins = (srcI i 0).ins /\ x.target = (srcI i 0).target := fun x hx => by
  have : (x.ins, x.target) ∈ ss.map (fun x => (x.ins, x.target)) := List.mem_map_of_mem (by rw [<- g3]; exact hx)
  rw [g4] at this;obtain ⟨i, hi, he⟩ := List.mem_map.1 this;have he := Prod.mk.inj he;exact ⟨i, hi, he.1.symm, he.2.symm⟩
 have hset : ∀ (x : Src) (i : Ins), i ∈ p -> x.ins = (srcI i 0).ins -> x.target = (srcI i 0).target -> (setTo r.ms x).ins = i /\ lostB r.ms x = false := by
  intro x i hi h1 h2;have hif := hall i hi;obtain ⟨t1, t2⟩ := tgt_form hif.1 hif.2;unfold srcI at h1 h2
  by_cases hm : 116 ∈ formL i.op
  · rw [if_pos hm] at h1 h2
    simp only at h1 h2
    have ht := t1.1 hm;have hn := t2 ht;have hrng := target_rng ht;have hlt := (hck i hi).2 ht;have hto := to_there hi ht hrng.1;rw [hn] at hrng hlt hto
    have e : lab i.n = lab ((i.n.toNat : Nat) : Int) := by rw [show ((i.n.toNat : Nat) : Int) = i.n by omega]
    have hat := g2.at_ (by omega) (j := i.n.toNat) (by omega) hto
    have hhas := g2.has (by omega) (j := i.n.toNat) (by omega)
    rw [decide_eq_true (by omega), hto] at hhas
    have hne : x.target ≠ [] := by rw [h2]; exact (lab_wd _).2
    refine ⟨?_, ?_⟩
    · rw [setTo, if_neg hne, h1, h2, e, hat]
      obtain ⟨o, a, b, c, n⟩ := i;simp only [Ins.mk.injEq, true_and] at *;omega
    · rw [lostB, h2, e, hhas]; simp
  · rw [if_neg hm] at h1 h2
    simp only at h1 h2
    refine ⟨by rw [setTo, if_pos h2, h1], by rw [lostB, h2]; rfl⟩
 have hmap : r.ss.map (fun x => (setTo r.ms x).ins) = p := by
  apply List.ext_getElem?;intro k;rw [List.getElem?_map]
  cases hq : r.ss[k]? with
  | none =>
    rw [Option.map_none];have := List.getElem?_eq_none_iff.1 hq
    rw [List.getElem?_eq_none (by omega)]
  | some x =>
    have hlt := (List.getElem?_eq_some_iff.1 hq).1
    have hx : (ss.map (fun x => (x.ins, x.target)))[k]? = some (x.ins, x.target) := by rw [List.getElem?_map, <- g3, hq]; rfl
    rw [g4, List.getElem?_map, Option.map_eq_some_iff] at hx;obtain ⟨i, hi, he⟩ := hx;have he := Prod.mk.inj he;rw [Option.map_some, (hset x i (List.mem_of_getElem? hi) he.1.symm he.2.symm).1, hi]
 have hend : endA r = (0, 0) := by
  rw [endA, if_neg (by omega)]
  have h1 : r.ss.find? (lostB r.ms) = none := List.find?_eq_none.2 fun x hx => by
   obtain ⟨i, hi, e1, e2⟩ := hgo x hx
   rw [(hset x i hi e1 e2).2]; simp
  have h2 : (r.ms.find? fun m => decide (m.at_ = (r.ss.length : Int))) = none := List.find?_eq_none.2 fun m hm => by
   have : (m.name, m.at_) ∈ r.ms.map (fun m => (m.name, m.at_)) := List.mem_map_of_mem hm;rw [g2] at this;obtain ⟨j', hj', he⟩ := List.mem_map.1 this;have he := (Prod.mk.inj he).2;have := List.mem_range.1 (List.mem_filter.1 hj').1;simp only [decide_eq_true_eq];omega
  rw [h1, h2]
  simp only
  have hlast : ((r.ss.map (setTo r.ms)).map (·.ins)).getLast? = p.getLast? := by rw [List.map_map]; exact congrArg List.getLast? hmap
  rw [List.getLast?_map] at hlast
  cases hq : (r.ss.map (setTo r.ms)).getLast? with
  | none =>
    have := List.getLast?_eq_none_iff.1 hq;have := congrArg List.length this
    simp at this; rw [this] at hss; simp at hss; omega
  | some x =>
    rw [hq, Option.map_some] at hlast
    simp only
    rw [lastGoes, <- hlast] at c4
    simp only at c4
    rw [c4]; rfl
 have hread : readA (outGo p p 0) = (0, 0, ⟨r.ms, r.ss.map (setTo r.ms)⟩) := by
  rw [readA, if_neg (by omega), split_out p p 0 hall, g1]
  simp only [ne_eq, not_true_eq_false, if_false, hend]
 refine ⟨r.ms, by rw [hread], g2, ?_⟩
 rw [hread];simp only [List.map_map];exact hmap
theorem parse_back {p : List Ins} (ho : ∀ i ∈ p, okI i) (h : (checkL p).2 = 0) : parseA (writeA p).1 = (p, 0, 0) /\ labelsA (writeA p).1 = (((List.range p.length).filter (isTo p)).map (fun (j : Nat) => (lab j, (j : Int))), 0, 0) := by
 obtain ⟨ms, h1, h2, h3⟩ := read_back ho h
 have e : (writeA p).1 = outGo p p 0 := by rw [writeA, if_neg (fun hh => hh h)]
 rw [e];refine ⟨?_, ?_⟩
 · rw [parseA, if_pos (by rw [h1]), h3]
 · rw [labelsA, if_pos (by rw [h1]), h1]
   exact congrArg (fun z => (z, (0 : Int), (0 : Int))) h2
def SrcOk (x : Src) : Prop := okI x.ins /\ ∃ l, formT x.ins.op = some l /\ ((x.target = [] /\ 116 ∉ l /\ shapeI x.ins l) \/ (x.target ≠ [] /\ ∀ n : Int, 0 <= n -> n < 256 -> shapeI { x.ins with n := n } l))
theorem nameB_ne {t : Tx} (h : nameB t = true) : t ≠ [] := fun e => by subst e; cases h
theorem put_shape {op : Int} {l : Tx} (hf : formT op = some l) {ts : List Tx} (hlen : ts.length = l.length) {line : Int} {x : Src} (h : putGo l ts ⟨⟨op, 0, 0, 0, 0⟩, line, []⟩ 0 = (0, x)) :
 x.ins.op = op /\ ((x.target = [] /\ 116 ∉ l /\ shapeI x.ins l) \/ (x.target ≠ [] /\ ∀ n : Int, 0 <= n -> n < 256 -> shapeI { x.ins with n := n } l)) := by
 have key : ∀ (f : UInt8) (fs : Tx) (s : Tx) (ss : List Tx) (y : Src) (u : Nat), putGo (f :: fs) (s :: ss) y u = (0, x) ->
  (f = 114 /\ ∃ r, regT s = some r /\ 0 <= r /\ r < 8 /\ putGo fs ss { y with ins := putR y.ins u r } (u + 1) = (0, x)) \/ (f = 116 /\ nameB s = true /\ putGo fs ss { y with target := s } u = (0, x)) \/
  (f ≠ 114 /\ f ≠ 116 /\ ∃ n, numT s = some n /\ (f = 112 -> 0 <= n /\ n < 16) /\ putGo fs ss { y with ins := { y.ins with n := n } } u = (0, x)) := by
  intro f fs s ss y u h;rw [putGo] at h
  split at h
  · rename_i hr
    split at h
    · rename_i r hq
      have := regT_rng hq
      exact .inl ⟨hr, r, hq, this.1, by omega, h⟩
    · cases h
  · rename_i hr
    split at h
    · rename_i ht
      split at h
      · rename_i hn; exact .inr (.inl ⟨ht, hn, h⟩)
      · cases h
    · rename_i ht
      split at h
      · cases h
      · rename_i n hn
        split at h
        · cases h
        · rename_i hp
          exact .inr (.inr ⟨hr, ht, n, hn, fun e => Decidable.not_not.1 fun hh => hp ⟨e, hh⟩, h⟩)
 have e1 : ¬ (114 : UInt8) = 116 := by decide
 have e2 : ¬ (110 : UInt8) = 114 := by decide
 have e3 : ¬ (110 : UInt8) = 116 := by decide
 have e4 : ¬ (112 : UInt8) = 114 := by decide
 have e5 : ¬ (112 : UInt8) = 116 := by decide
 have e6 : ¬ (116 : UInt8) = 114 := by decide
 have reg : ∀ {fs : Tx} {s : Tx} {ss : List Tx} {y : Src} {u : Nat}, putGo (114 :: fs) (s :: ss) y u = (0, x) -> ∃ r, 0 <= r /\ r < 8 /\ putGo fs ss { y with ins := putR y.ins u r } (u + 1) = (0, x) := fun h => by
  rcases key _ _ _ _ _ _ h with ⟨_, r, _, h1, h2, h3⟩ | ⟨h1, _⟩ | ⟨h1, _⟩
  · exact ⟨r, h1, h2, h3⟩
  · exact absurd h1 e1
  · exact absurd rfl h1
 have tgt : ∀ {fs : Tx} {s : Tx} {ss : List Tx} {y : Src} {u : Nat}, putGo (116 :: fs) (s :: ss) y u = (0, x) -> s ≠ [] /\ putGo fs ss { y with target := s } u = (0, x) := fun h => by
  rcases key _ _ _ _ _ _ h with ⟨h1, _⟩ | ⟨_, h1, h2⟩ | ⟨_, h1, _⟩
  · exact absurd h1 e6
  · exact ⟨nameB_ne h1, h2⟩
  · exact absurd rfl h1
 have fin : ∀ {ss : List Tx} {y : Src} {u : Nat}, putGo [] ss y u = (0, x) -> y = x := fun h => by
  rw [putGo_nil] at h; exact (Prod.mk.inj h).2
 rcases formT_cases op with hh | hh | hh | hh | hh | hh | hh | hh <;> rw [hh] at hf <;> cases hf
 · have := fin h; subst this
   exact ⟨rfl, .inl ⟨rfl, by decide, .inl ⟨rfl, rfl, rfl, rfl, rfl⟩⟩⟩
 · match ts, hlen with
   | [s1, s2], _ =>
     obtain ⟨r, r0, r1, h⟩ := reg h
     rcases key _ _ _ _ _ _ h with ⟨h1, _⟩ | ⟨h1, _⟩ | ⟨_, _, n, _, _, h⟩
     · exact absurd h1 e2
     · exact absurd h1 e3
     · have := fin h; subst this
       exact ⟨rfl, .inl ⟨rfl, by decide, .inr (.inl ⟨rfl, r1, rfl, rfl⟩)⟩⟩
 · match ts, hlen with
   | [s1, s2], _ =>
     obtain ⟨r, r0, r1, h⟩ := reg h;obtain ⟨q, q0, q1, h⟩ := reg h
     have := fin h; subst this
     exact ⟨rfl, .inl ⟨rfl, by decide, .inr (.inr (.inl ⟨rfl, r1, q1, rfl, rfl⟩))⟩⟩
 · match ts, hlen with
   | [s1, s2, s3], _ =>
     obtain ⟨r, r0, r1, h⟩ := reg h;obtain ⟨q, q0, q1, h⟩ := reg h
     rcases key _ _ _ _ _ _ h with ⟨h1, _⟩ | ⟨h1, _⟩ | ⟨_, _, n, _, hp, h⟩
     · exact absurd h1 e4
     · exact absurd h1 e5
     · have := fin h; subst this
       exact ⟨rfl, .inl ⟨rfl, by decide, .inr (.inr (.inr (.inl ⟨rfl, r1, q1, rfl, hp rfl⟩)))⟩⟩
 · match ts, hlen with
   | [s1], _ =>
     obtain ⟨hne, h⟩ := tgt h
     have := fin h; subst this
     exact ⟨rfl, .inr ⟨hne, fun n n0 n1 => .inr (.inr (.inr (.inr (.inl ⟨rfl, rfl, rfl, rfl, n0, n1⟩))))⟩⟩
 · match ts, hlen with
   | [s1, s2], _ =>
     obtain ⟨r, r0, r1, h⟩ := reg h;obtain ⟨hne, h⟩ := tgt h
     have := fin h; subst this
     exact ⟨rfl, .inr ⟨hne, fun n n0 n1 => .inr (.inr (.inr (.inr (.inr (.inl ⟨rfl, r1, rfl, rfl, n0, n1⟩)))))⟩⟩
 · match ts, hlen with
   | [s1, s2, s3], _ =>
     obtain ⟨r, r0, r1, h⟩ := reg h;obtain ⟨q, q0, q1, h⟩ := reg h;obtain ⟨w, w0, w1, h⟩ := reg h
     have := fin h; subst this
     exact ⟨rfl, .inl ⟨rfl, by decide, .inr (.inr (.inr (.inr (.inr (.inr ⟨rfl, r1, q1, w1, rfl⟩)))))⟩⟩
theorem findT_form {t : Tx} (h : (findT t).2 = true) : ∃ l, formT (findT t).1 = some l := by
 have hw := find_word h;have hrg := findT_rng t
 have hwd := words_of (op := (findT t).1) (by omega)
 simp only [wordsB, Bool.and_eq_true, beq_iff_eq] at hwd;have h2 := hwd.2.1;rw [hw, h] at h2
 cases hq : formT (findT t).1 with
 | none => rw [hq] at h2; cases h2
 | some l => exact ⟨l, rfl⟩
theorem instr_src {l : List Tx} {line : Int} (h : (instrA l line).1 = 0) : SrcOk (instrA l line).2 /\ (instrA l line).2.line = line := by
 have hok := instrA_ok l line;refine ⟨⟨hok.1, ?_⟩, hok.2⟩
 cases l with
 | nil => cases h
 | cons w r =>
   rw [instrA] at h ⊢
   split at h
   · cases h
   · rename_i h1
     rw [if_neg h1]
     split at h
     · cases h
     · rename_i h2
       rw [if_neg h2]
       have h1 : (findT w).2 = true := by simpa using h1
       obtain ⟨f, hf⟩ := findT_form h1
       have hfl : formL (findT w).1 = f := by rw [formL, hf]; rfl
       rw [hfl] at h h2 ⊢;obtain ⟨x, hx⟩ : ∃ x, putGo f r ⟨⟨(findT w).1, 0, 0, 0, 0⟩, line, []⟩ 0 = (0, x) := ⟨_, Prod.ext h rfl⟩;obtain ⟨g1, g2⟩ := put_shape hf (Decidable.not_not.1 h2) hx;rw [hx]
       exact ⟨f, by rw [g1]; exact hf, g2⟩
structure Rd2 (r : Rd) (k : Nat) : Prop where
 sok : ∀ x ∈ r.ss, SrcOk x /\ 1 <= x.line /\ x.line <= k
 mok : ∀ m ∈ r.ms, nameB m.name = true /\ 0 <= m.at_ /\ m.at_ <= r.ss.length /\ 1 <= m.line /\ m.line <= k
 srt : r.ms.Pairwise fun a b => a.at_ <= b.at_ /\ a.name ≠ b.name
theorem Rd2.mono {r : Rd} {k : Nat} (h : Rd2 r k) : Rd2 r (k + 1) := ⟨fun x hx => ⟨(h.sok x hx).1, (h.sok x hx).2.1, by have := (h.sok x hx).2.2; omega⟩,
 fun m hm => by obtain ⟨h1, h2, h3, h4, h5⟩ := h.mok m hm; exact ⟨h1, h2, h3, h4, by omega⟩, h.srt⟩
theorem label2 {r : Rd} {k : Nat} (h : Rd2 r k) (name : Tx) : Rd2 (labelA r name ((k : Int) + 1)).2 (k + 1) := by
 unfold labelA;split
 · exact h.mono
 · rename_i h1
   split
   · exact h.mono
   · rename_i h2
     refine ⟨h.mono.sok, fun m hm => ?_, ?_⟩
     · rcases List.mem_append.1 hm with hm | hm
       · exact h.mono.mok m hm
       · simp only [List.mem_cons, List.not_mem_nil, or_false] at hm
         subst hm
         exact ⟨by simpa using h1, Int.natCast_nonneg _, Int.le_refl _, by simp only; omega, by simp only; omega⟩
     · simp only
       rw [List.pairwise_append];refine ⟨h.srt, List.pairwise_singleton _ _, fun a ha b hb => ?_⟩;simp only [List.mem_cons, List.not_mem_nil, or_false] at hb;subst hb;refine ⟨(h.mok a ha).2.2.1, fun e => h2 ?_⟩;rw [hasMk, List.any_eq_true];exact ⟨a, ha, decide_eq_true e⟩
theorem puti2 {r : Rd} {k : Nat} (h : Rd2 r (k + 1)) (l : List Tx) : Rd2 (putI r l ((k : Int) + 1)).2 (k + 1) := by
 unfold putI;split
 · exact h
 · split
   · rename_i hq
     obtain ⟨h1, h2⟩ := instr_src hq;refine ⟨fun x hx => ?_, fun m hm => ?_, h.srt⟩
     · rcases List.mem_append.1 hx with hx | hx
       · exact h.sok x hx
       · simp only [List.mem_cons, List.not_mem_nil, or_false] at hx
         subst hx
         exact ⟨h1, by omega, by omega⟩
     · obtain ⟨h1, h2, h3, h4, h5⟩ := h.mok m hm
       exact ⟨h1, h2, by simp only [List.length_append, List.length_cons, List.length_nil]; omega, h4, h5⟩
   · exact h
theorem line2 {r : Rd} {k : Nat} (h : Rd2 r k) (s : Tx) : Rd2 (lineA r s ((k : Int) + 1)).2 (k + 1) := by
 unfold lineA;split
 · exact h.mono
 · split
   · split
     · exact label2 h _
     · exact puti2 (label2 h _) _
   · exact puti2 h.mono _
structure Sm where
 op : Int
 a : Int
 b : Int
 c : Int
 n : Int
def smV (x : Sm) : List Value := [.int .u8 x.op, .int .u8 x.a, .int .u8 x.b, .int .u8 x.c, .int .i64 x.n]
structure okSm (x : Sm) : Prop where
 op : 0 <= x.op /\ x.op <= 255
 a : 0 <= x.a /\ x.a <= 255
 b : 0 <= x.b /\ x.b <= 255
 c : 0 <= x.c /\ x.c <= 255
 n : i64N x.n
def opTab : List Int := [3, 3, 3, 3, 3, 4, 5, 5, 5, 6, 6, 6, 7, 8, 8, 9, 10, 10, 10, 11, 11, 1, 2]
def opSm (x : Sm) : Int := if x.op % 40 < 17 then 33 + x.op % 40 else (opTab[(x.op % 40 - 17).toNat]?).getD 0
theorem ct76 (x : Sm) (h : okSm x) (I : Mem) : Ct Tryz.prog (fnv 76) #[.agg (smV x).toArray] I (fun v _ => v = .int .u8 (opSm x)) := by
 obtain ⟨Q, hQ⟩ : ∃ q : Int, q = opSm x := ⟨_, rfl⟩;rw [<- hQ]
 refine viaR (ct_via (A := { }) Tryz.func76 rfl Tryz.call76 rfl rfl) ((40 : Int) ≠ 0 /\ Br (decide (x.op.tmod 40 < 17)) (Wr .u8 (33 + x.op.tmod 40) (fun c => Value.int .u8 c = .int .u8 Q)) (Wr .u8 (x.op.tmod 40 - 17) (fun c => 0 <= c /\ c < 23 /\ ∃ n, [SV.v (.int .u8 3), .v (.int .u8 3), .v (.int .u8 3), .v (.int .u8 3), .v (.int .u8 3), .v (.int .u8 4), .v (.int .u8 5), .v (.int .u8 5), .v (.int .u8 5), .v (.int .u8 6), .v (.int .u8 6), .v (.int .u8 6), .v (.int .u8 7), .v (.int .u8 8), .v (.int .u8 8), .v (.int .u8 9), .v (.int .u8 10), .v (.int .u8 10), .v (.int .u8 10), .v (.int .u8 11), .v (.int .u8 11), .v (.int .u8 1), .v (.int .u8 2)][0 + c.toNat * 1 + 0]?.bind (fun (a : SV) => (match a with
  | SV.v x => some x
  | x => none)) = some (.int .u8 n) /\ Value.int .u8 n = .int .u8 Q))) (by kernel_rfl) ?_
 have ho := h.op;have e : x.op.tmod 40 = x.op % 40 := Int.tmod_eq_emod_of_nonneg ho.1;rw [e]
 refine ⟨by decide, Br.mk (fun h1 => ?_) (fun h1 => ?_)⟩
 · have h1 := of_decide_eq_true h1
   refine wr_u8 (by omega) (by omega) ?_
   rw [hQ, opSm, if_pos h1]
 · have h1 := of_decide_eq_false h1
   refine wr_u8 (by omega) (by omega) ⟨by omega, by omega, ?_⟩
   rw [hQ, opSm, if_neg h1];obtain ⟨c, hc⟩ : ∃ c, c = x.op % 40 - 17 := ⟨_, rfl⟩;rw [<- hc]
   have hcs : c = 0 \/ c = 1 \/ c = 2 \/ c = 3 \/ c = 4 \/ c = 5 \/ c = 6 \/ c = 7 \/ c = 8 \/ c = 9 \/ c = 10 \/ c = 11 \/ c = 12 \/ c = 13 \/ c = 14 \/ c = 15 \/ c = 16 \/ c = 17 \/ c = 18 \/ c = 19 \/ c = 20 \/ c = 21 \/ c = 22 := by omega
   clear hc h1 e
   rcases hcs with rfl | rfl | rfl | rfl | rfl | rfl | rfl | rfl | rfl | rfl | rfl | rfl | rfl | rfl | rfl | rfl | rfl | rfl | rfl | rfl | rfl | rfl | rfl <;> exact ⟨_, rfl, rfl⟩
theorem opSm_rng {x : Sm} (h : okSm x) : 0 <= opSm x /\ opSm x <= 49 := by
 have ho := h.op;unfold opSm;split
 · omega
 · have : ∀ t ∈ opTab, 0 <= t /\ t <= 49 := by decide
   cases hq : opTab[(x.op % 40 - 17).toNat]? with
   | none => decide
   | some t => exact this t (List.mem_of_getElem? hq)
def umod (n : Int) (m : Int) : Int := (n % 18446744073709551616) % m
def goS : Tx -> Sm -> Int -> Ins -> Nat -> Ins
 | [], _, _, i, _ => i
 | f :: r, x, m, i, u => if f = 114 then goS r x m (if u < 3 then putR i u (regAt x.a x.b x.c u % 8) else i) (u + 1)
   else if f = 110 then goS r x m { i with n := x.n } u
   else if f = 112 then goS r x m { i with n := umod x.n 16 } u
   else goS r x m { i with n := umod x.n (max m 1) } u
def oneS (x : Sm) (m : Int) : Ins := goS (formL (opSm x)) x m ⟨opSm x, 0, 0, 0, 0⟩ 0
def SmN (x : Sm) (m : Int) (p : Nat) (u : Int) (cs : List Value) : Prop := ∃ i : Ins, cs = insV i /\ okI i /\ oneS x m = goS ((formL (opSm x)).drop p) x m i u.toNat /\ 0 <= u /\ u <= p /\ p <= (formL (opSm x)).length
set_option maxHeartbeats 4000000 in
theorem ct47 (x : Sm) (h : okSm x) (m : Int) (hm : 1 <= m /\ m <= 1000) (I : Mem) : Ct Tryz.prog (fnv 47) #[.agg (smV x).toArray, .int .i64 m] I (fun v _ => v = .agg (insV (oneS x m)).toArray /\ okI (oneS x m)) := by
 obtain ⟨Q, hQ⟩ : ∃ q : Value -> Prop, q = fun v => v = .agg (insV (oneS x m)).toArray /\ okI (oneS x m) := ⟨_, rfl⟩
 rw [show (fun (v : Value) (_ : Mem) => v = .agg (insV (oneS x m)).toArray /\ okI (oneS x m)) = fun v _ => Q v from by rw [hQ]]
 obtain ⟨N, hN⟩ : ∃ f, f = SmN x m := ⟨_, rfl⟩;obtain ⟨F, hF⟩ : ∃ q : Nat, q = (formL (opSm x)).length := ⟨_, rfl⟩
 refine viaR (ct_via (A := { calls := [(46, .cs [0, 1, 2])], loops := [(6, ⟨[(1, .keep), (2, .keep), (4, .keep), (8, .keep), (9, .keep), (10, .sh (.int .i64)), (27, .keep)], [(0, .keep), (1, .keep), (2, .cells [.sh (.int .u8), .sh (.int .u8), .sh (.int .u8), .sh (.int .u8), .sh (.int .i64)]), (3, .keep), (4, .iter)], [], fun vals xss _ _ => match vals, xss with | .int .i64 u :: cs, [it] => N (posL it) u cs | _, _ => False, fun _ xss => match xss with | [it] => F - posL it | _ => 0⟩)] }) Tryz.func47 rfl Tryz.call47 rfl rfl) (let E2 := Ent.mk (.cells [.v (.int .u8 0), .v (.int .u8 0), .v (.int .u8 0), .v (.int .u8 0), .v (.int .i64 0)] 27) none
  let E3 := Ent.mk (.cells [.ptr 2 1, .ptr 2 2, .ptr 2 3] 110) none
  let E4 := Ent.mk (.cells [.v (.int .u8 x.op), .v (.int .u8 x.a), .v (.int .u8 x.b), .v (.int .u8 x.c), .v (.int .i64 x.n)] 92) none
  let E1 := fun (a : ByteArray) (b : List Value) (c : Int) (d : Int) (e : Int) (f : Int) (g : Int) (i : Int) => Rf E4 /\ Rf E2 /\ Rf E3 /\ (a = a /\ Rf (none : Option Nat)) /\ Rf (SV.v (.int .i64 m)) /\ Rf (SV.ptr 0 0) /\ Rf (SV.ptr 1 0) /\ Rf (SV.ptr 2 0) /\ Rf (SV.xsl 3 0 3 3) /\ Rf (SV.ptr 4 0) /\ Rf (none : Option Nat) /\ N (posL [.int .i64 ((posL b + (Utf8.decode a (posL b)).2 : Nat) : Int)]) c [.int .u8 d, .int .u8 e, .int .u8 f, .int .u8 g, .int .i64 i] /\ F - posL [.int .i64 ((posL b + (Utf8.decode a (posL b)).2 : Nat) : Int)] < F - posL b
  Ct Tryz.prog (fnv 76) #[.agg #[.int .u8 x.op, .int .u8 x.a, .int .u8 x.b, .int .u8 x.c, .int .i64 x.n]] I fun v a => ∃ n, v = .int .u8 n /\ Ct Tryz.prog (fnv 74) #[.int .u8 n] a fun b c => ∃ q d, b = .tuple #[.string q, .bool d] /\ (Rf E4 /\ Rf E2 /\ Rf E3 /\ (q = q /\ Rf (none : Option Nat)) /\ Rf (SV.v (.int .i64 m)) /\ Rf (SV.ptr 0 0) /\ Rf (SV.ptr 1 0) /\ Rf (SV.ptr 2 0) /\ Rf (SV.xsl 3 0 3 3) /\ Rf (SV.ptr 4 0) /\ Rf (none : Option Nat) /\ N 0 0 [.int .u8 n, .int .u8 0, .int .u8 0, .int .u8 0, .int .i64 0]) /\ ∀ (e : Mem), Mem -> c.le e -> ∀ (f : List Value) (g i j k l o : Int), N (posL f) g [.int .u8 i, .int .u8 j, .int .u8 k, .int .u8 l, .int .i64 o] -> Br ((posL f).blt q.size) (Br (((Utf8.decode q (posL f)).1 : Int) == 114) (Br (decide (g < 3)) ((g = 0 \/ g = 1 \/ g = 2) /\ (g = 0 -> (0 : Int) <= 0 /\ (0 : Int) < 3 /\ 0 <= g /\ g < 3 /\ ∃ p, [SV.v (.int .u8 x.a), .v (.int .u8 x.b), .v (.int .u8 x.c)][0 + g.toNat * 1 + 0]?.bind (fun (r : SV) => (match r with
  | SV.v x => some x
  | x => none)) = some (.int .u8 p) /\ (8 : Int) ≠ 0 /\ Wr .i64 (g + 1) fun r => Rf E4 /\ Rf E2 /\ Rf E3 /\ (q = q /\ Rf (none : Option Nat)) /\ Rf (SV.v (.int .i64 m)) /\ Rf (SV.ptr 0 0) /\ Rf (SV.ptr 1 0) /\ Rf (SV.ptr 2 0) /\ Rf (SV.xsl 3 0 3 3) /\ Rf (SV.ptr 4 0) /\ Rf (none : Option Nat) /\ N (posL [.int .i64 ((posL f + (Utf8.decode q (posL f)).2 : Nat) : Int)]) r [.int .u8 i, .int .u8 (p.tmod 8), .int .u8 k, .int .u8 l, .int .i64 o] /\ F - posL [.int .i64 ((posL f + (Utf8.decode q (posL f)).2 : Nat) : Int)] < F - posL f) /\ (g = 1 -> (0 : Int) <= 1 /\ (1 : Int) < 3 /\ 0 <= g /\ g < 3 /\ ∃ p, [SV.v (.int .u8 x.a), .v (.int .u8 x.b), .v (.int .u8 x.c)][0 + g.toNat * 1 + 0]?.bind (fun (r : SV) => (match r with
  | SV.v x => some x
  | x => none)) = some (.int .u8 p) /\ (8 : Int) ≠ 0 /\ Wr .i64 (g + 1) fun r => Rf E4 /\ Rf E2 /\ Rf E3 /\ (q = q /\ Rf (none : Option Nat)) /\ Rf (SV.v (.int .i64 m)) /\ Rf (SV.ptr 0 0) /\ Rf (SV.ptr 1 0) /\ Rf (SV.ptr 2 0) /\ Rf (SV.xsl 3 0 3 3) /\ Rf (SV.ptr 4 0) /\ Rf (none : Option Nat) /\ N (posL [.int .i64 ((posL f + (Utf8.decode q (posL f)).2 : Nat) : Int)]) r [.int .u8 i, .int .u8 j, .int .u8 (p.tmod 8), .int .u8 l, .int .i64 o] /\ F - posL [.int .i64 ((posL f + (Utf8.decode q (posL f)).2 : Nat) : Int)] < F - posL f) /\ (g = 2 -> (0 : Int) <= 2 /\ (2 : Int) < 3 /\ 0 <= g /\ g < 3 /\ ∃ p, [SV.v (.int .u8 x.a), .v (.int .u8 x.b), .v (.int .u8 x.c)][0 + g.toNat * 1 + 0]?.bind (fun (r : SV) => (match r with
  | SV.v x => some x
  | x => none)) = some (.int .u8 p) /\ (8 : Int) ≠ 0 /\ Wr .i64 (g + 1) fun r => Rf E4 /\ Rf E2 /\ Rf E3 /\ (q = q /\ Rf (none : Option Nat)) /\ Rf (SV.v (.int .i64 m)) /\ Rf (SV.ptr 0 0) /\ Rf (SV.ptr 1 0) /\ Rf (SV.ptr 2 0) /\ Rf (SV.xsl 3 0 3 3) /\ Rf (SV.ptr 4 0) /\ Rf (none : Option Nat) /\ N (posL [.int .i64 ((posL f + (Utf8.decode q (posL f)).2 : Nat) : Int)]) r [.int .u8 i, .int .u8 j, .int .u8 k, .int .u8 (p.tmod 8), .int .i64 o] /\ F - posL [.int .i64 ((posL f + (Utf8.decode q (posL f)).2 : Nat) : Int)] < F - posL f)) (Wr .i64 (g + 1) (fun p => E1 q f p i j k l o))) (Br (((Utf8.decode q (posL f)).1 : Int) == 110) (Rf E4 /\ Rf E2 /\ Rf E3 /\ (q = q /\ Rf (none : Option Nat)) /\ Rf (SV.v (.int .i64 m)) /\ Rf (SV.ptr 0 0) /\ Rf (SV.ptr 1 0) /\ Rf (SV.ptr 2 0) /\ Rf (SV.xsl 3 0 3 3) /\ Rf (SV.ptr 4 0) /\ Rf (none : Option Nat) /\ N (posL [.int .i64 ((posL f + (Utf8.decode q (posL f)).2 : Nat) : Int)]) g [.int .u8 i, .int .u8 j, .int .u8 k, .int .u8 l, .int .i64 x.n] /\ F - posL [.int .i64 ((posL f + (Utf8.decode q (posL f)).2 : Nat) : Int)] < F - posL f) (Br (((Utf8.decode q (posL f)).1 : Int) == 112) (Wr .u64 x.n (fun p => (16 : Int) ≠ 0 /\ Wr .i64 (p.tmod 16) fun r => E1 q f g i j k l r)) (Wr .u64 x.n (fun p => Wr .u64 (bif true then imax m 1 else imin m 1) fun r => r ≠ 0 /\ Wr .i64 (p.tmod r) fun s => E1 q f g i j k l s))))) (Q (.agg #[.int .u8 i, .int .u8 j, .int .u8 k, .int .u8 l, .int .i64 o]))) (by kernel_rfl) ?_
 intro E2 E3 E4 E1;have hop := opSm_rng h;obtain ⟨hmem, hlen, hcnt⟩ := formL_mem (opSm x)
 have hreg : ∀ u, 0 <= regAt x.a x.b x.c u /\ regAt x.a x.b x.c u <= 255 := fun u => by
  unfold regAt;split
  · exact h.a
  · exact h.b
  · exact h.c
 refine (ct76 x h I).mono fun v a la hv => ⟨_, hv, (ct74 _ (by omega) a).mono fun b c lc hb => ⟨_, _, hb, ⟨rfl, rfl, rfl, ⟨rfl, rfl⟩, rfl, rfl, rfl, rfl, rfl, rfl, rfl, ?_⟩, fun e G le f g i j k l o hn => ?_⟩⟩
 · rw [hN]
   exact ⟨⟨opSm x, 0, 0, 0, 0⟩, rfl, ⟨by simp only; omega, (by decide : 0 <= (0 : Int) /\ (0 : Int) <= 255), (by decide : 0 <= (0 : Int) /\ (0 : Int) <= 255), (by decide : 0 <= (0 : Int) /\ (0 : Int) <= 255), (by decide : -9223372036854775808 <= (0 : Int) /\ (0 : Int) <= 9223372036854775807)⟩, rfl, Int.le_refl _, Int.le_refl _, Nat.zero_le _⟩
 rw [hN] at hn;obtain ⟨y, hy, ho, h2, h3, h4, h5⟩ := hn;simp only [insV, List.cons.injEq, Value.int.injEq, true_and, and_true] at hy;obtain ⟨rfl, rfl, rfl, rfl, rfl⟩ := hy;refine Br.mk (fun h7 => ?_) (fun h7 => ?_)
 · have hlt : posL f < (formL (opSm x)).length := by
    have : posL f < (strT (formL (opSm x))).size := by simpa using h7
    rwa [strT_size] at this
   obtain ⟨L, hL⟩ : ∃ L, (formL (opSm x))[posL f]? = some L := ⟨_, List.getElem?_eq_getElem hlt⟩;have hLm := hmem L (List.mem_of_getElem? hL)
   have hd : (formL (opSm x)).drop (posL f) = L :: (formL (opSm x)).drop (posL f + 1) := by
    rw [List.drop_eq_getElem_cons hlt]
    congr 1
    rw [List.getElem?_eq_getElem hlt] at hL;exact Option.some.inj hL
   have hdec : Utf8.decode (strT (formL (opSm x))) (posL f) = (L.toNat, 1) := dec_ascii hL (by rcases hLm with rfl | rfl | rfl | rfl <;> decide)
   have hpos : posL [Value.int .i64 ((posL f + 1 : Nat) : Int)] = posL f + 1 := by simp [posL, natV]
   have hF2 : F - (posL f + 1) < F - posL f := by omega
   rw [hd] at h2;simp only [E1, hdec, hpos, Rf, eq_self, true_and, and_true, hF2]
   have next : ∀ (y' : Ins) (u' : Int), okI y' -> 0 <= u' -> u' <= ((posL f + 1 : Nat) : Int) -> goS (L :: (formL (opSm x)).drop (posL f + 1)) x m y g.toNat = goS ((formL (opSm x)).drop (posL f + 1)) x m y' u'.toNat -> N (posL f + 1) u' [.int .u8 y'.op, .int .u8 y'.a, .int .u8 y'.b, .int .u8 y'.c, .int .i64 y'.n] := fun y' u' g1 g2 g3 g4 => by
    rw [hN]
    exact ⟨y', rfl, g1, by rw [h2, g4], g2, g3, by omega⟩
   by_cases hr : L = 114
   · subst hr
     refine Br.t rfl (Br.mk (fun h8 => ?_) (fun h8 => ?_))
     · have h8 := of_decide_eq_true h8
       have hcs : g = 0 \/ g = 1 \/ g = 2 := by omega
       have hrem : (regAt x.a x.b x.c g.toNat).tmod 8 = regAt x.a x.b x.c g.toNat % 8 := Int.tmod_eq_emod_of_nonneg (hreg _).1
       have hrg : 0 <= regAt x.a x.b x.c g.toNat % 8 /\ regAt x.a x.b x.c g.toNat % 8 <= 255 := by omega
       have hgo : goS (114 :: (formL (opSm x)).drop (posL f + 1)) x m y g.toNat = goS ((formL (opSm x)).drop (posL f + 1)) x m (putR y g.toNat (regAt x.a x.b x.c g.toNat % 8)) (g.toNat + 1) := by
        rw [goS, if_pos rfl, if_pos (by omega)]
       refine ⟨hcs, fun hg => ?_, fun hg => ?_, fun hg => ?_⟩
       all_goals subst hg
       · refine ⟨by omega, by omega, by omega, by omega, regAt x.a x.b x.c 0, rfl, by decide, wr_i64 (by omega) (by omega) ?_⟩
         have e0 : (regAt x.a x.b x.c 0).tmod 8 = regAt x.a x.b x.c 0 % 8 := hrem;rw [e0]
         exact next (putR y 0 (regAt x.a x.b x.c 0 % 8)) (0 + 1) ⟨ho.op, hrg, ho.b, ho.c, ho.n⟩ (by omega) (by omega) hgo
       · refine ⟨by omega, by omega, by omega, by omega, regAt x.a x.b x.c 1, rfl, by decide, wr_i64 (by omega) (by omega) ?_⟩
         have e0 : (regAt x.a x.b x.c 1).tmod 8 = regAt x.a x.b x.c 1 % 8 := hrem;rw [e0]
         exact next (putR y 1 (regAt x.a x.b x.c 1 % 8)) (1 + 1) ⟨ho.op, ho.a, hrg, ho.c, ho.n⟩ (by omega) (by omega) hgo
       · refine ⟨by omega, by omega, by omega, by omega, regAt x.a x.b x.c 2, rfl, by decide, wr_i64 (by omega) (by omega) ?_⟩
         have e0 : (regAt x.a x.b x.c 2).tmod 8 = regAt x.a x.b x.c 2 % 8 := hrem;rw [e0]
         exact next (putR y 2 (regAt x.a x.b x.c 2 % 8)) (2 + 1) ⟨ho.op, ho.a, ho.b, hrg, ho.n⟩ (by omega) (by omega) hgo
     · have h8 := of_decide_eq_false h8
       refine wr_i64 (by omega) (by omega) (next y (g + 1) ho (by omega) (by omega) ?_)
       rw [goS, if_pos rfl, if_neg (by omega), show (g + 1).toNat = g.toNat + 1 by omega]
   · refine Br.f (by simpa using fun e : (L.toNat : Int) = 114 => hr (UInt8.toNat_inj.1 (by rw [show (114 : UInt8).toNat = 114 by decide]; omega))) ?_
     have w64 : IntKind.u64.wrap x.n = x.n % 18446744073709551616 := by rw [IntKind.wrap_u64]
     have hnn : 0 <= x.n % 18446744073709551616 := Int.emod_nonneg _ (by decide)
     by_cases hnl : L = 110
     · subst hnl
       refine Br.t rfl (next { y with n := x.n } g ⟨ho.op, ho.a, ho.b, ho.c, h.n⟩ h3 (by omega) ?_)
       rw [goS, if_neg (by decide), if_pos rfl]
     · refine Br.f (by simpa using fun e : (L.toNat : Int) = 110 => hnl (UInt8.toNat_inj.1 (by rw [show (110 : UInt8).toNat = 110 by decide]; omega))) ?_
       by_cases hp : L = 112
       · subst hp
         refine Br.t rfl ⟨_, w64, by decide, ?_⟩
         rw [Int.tmod_eq_emod_of_nonneg hnn]
         have hu : 0 <= umod x.n 16 /\ umod x.n 16 < 16 := by unfold umod; omega
         refine wr_i64 (by unfold umod at hu; omega) (by unfold umod at hu; omega) (next { y with n := umod x.n 16 } g ⟨ho.op, ho.a, ho.b, ho.c, ⟨by simp only; omega, by simp only; omega⟩⟩ h3 (by omega) ?_)
         rw [goS, if_neg (by decide), if_neg (by decide), if_pos rfl]
       · refine Br.f (by simpa using fun e : (L.toNat : Int) = 112 => hp (UInt8.toNat_inj.1 (by rw [show (112 : UInt8).toNat = 112 by decide]; omega))) ⟨_, w64, ?_⟩
         have him : (bif true then imax m 1 else imin m 1) = m := by
          show imax m 1 = m
          unfold imax; split <;> omega
         rw [him]
         refine ⟨m, by rw [IntKind.wrap_u64]; omega, by omega, ?_⟩
         rw [Int.tmod_eq_emod_of_nonneg hnn]
         have hu : 0 <= umod x.n m /\ umod x.n m < m := ⟨Int.emod_nonneg _ (by omega), Int.emod_lt_of_pos _ (by omega)⟩
         have hmx : max m 1 = m := by omega
         refine wr_i64 (by unfold umod at hu; omega) (by unfold umod at hu; omega) (next { y with n := umod x.n m } g ⟨ho.op, ho.a, ho.b, ho.c, ⟨by simp only; omega, by simp only; omega⟩⟩ h3 (by omega) ?_)
         rw [goS, if_neg hr, if_neg hnl, if_neg hp, hmx]
 · have hge : (formL (opSm x)).length <= posL f := by
    have h7 : ¬ posL f < (strT (formL (opSm x))).size := fun hh => by
     have : (posL f).blt (strT (formL (opSm x))).size = true := by simpa using hh
     rw [this] at h7; cases h7
    rw [strT_size] at h7; omega
   rw [List.drop_eq_nil_of_le hge, goS] at h2;rw [hQ, h2];exact ⟨rfl, ho⟩
def SmC (I : Mem) (c : List Value) (x : Sm) : Prop := c = smV x /\ okSm x
theorem smC_mono (I J : Mem) (c : List Value) (e : Sm) (_ : I.le J) (h : SmC I c e) : SmC J c e := h
def SmM (I : Mem) (a : Option Addr) (n : Nat) (l : List Sm) : Prop := SlR 5 SmC I a n l
def madeS (l : List Sm) : List Ins := (l.take 40).map (fun x => oneS x ((l.take 40).length + 1)) ++ [⟨1, 0, 0, 0, 0⟩]
set_option maxHeartbeats 2000000 in
theorem ct13 (l : List Sm) (a : Option Addr) (n c : Nat) (hc : n <= c) (I : Mem) (h : SmM I a n l) : Ct Tryz.prog (fnv 13) #[.slice a n c] I (fun v I' => ∃ b m d, v = .slice b m d /\ InsM I' b m (madeS l) /\ m <= d /\ d <= maxLen) := by
 obtain ⟨Q, hQ⟩ : ∃ q : Value -> Mem -> Prop, q = fun v I' => ∃ b m d, v = .slice b m d /\ InsM I' b m (madeS l) /\ m <= d /\ d <= maxLen := ⟨_, rfl⟩;obtain ⟨N, hN⟩ : ∃ f : Int -> List Value -> Prop, f = fun (j : Int) xs => 0 <= j /\ j <= (l.take 40).length /\ xs = insVs (((l.take 40).take j.toNat).map fun x => oneS x ((l.take 40).length + 1)) /\ ∀ x ∈ (l.take 40).take j.toNat, okI (oneS x ((l.take 40).length + 1)) := ⟨_, rfl⟩;obtain ⟨M, hM⟩ : ∃ q : Nat, q = (l.take 40).length := ⟨_, rfl⟩;rw [<- hQ]
 refine viaR (ct_via (A := { loops := [(4, ⟨[(0, .keep), (3, .row 0), (11, .keep), (12, .keep), (13, .sh (.int .i64))], [(0, .row)], [(3, 5, 27)], fun vals xss _ _ => match vals, xss with | [.int .i64 j], [xs] => N j xs | _, _ => False, fun vals _ => match vals with | [.int .i64 j] => (M - j).toNat | _ => 0⟩)] }) Tryz.func13 rfl Tryz.call13 rfl rfl) (0 <= (bif false then imax (n : Int) 40 else imin (n : Int) 40) /\ (bif false then imax (n : Int) 40 else imin (n : Int) 40) <= (c : Int) /\ (Rf (SV.v (.slice a (bif false then imax (n : Int) 40 else imin (n : Int) 40).toNat c)) /\ (0 : Nat) = 0 /\ Rf (SV.v (.slice a (bif false then imax (n : Int) 40 else imin (n : Int) 40).toNat c)) /\ Rf (SV.v (.int .i64 ((bif false then imax (n : Int) 40 else imin (n : Int) 40).toNat : Int))) /\ N 0 []) /\ ∀ (b : Mem), Mem -> I.le b -> ∀ (x : List Value) (d : Int), N d x -> Br (decide (d < ((bif false then imax (n : Int) 40 else imin (n : Int) 40).toNat : Int))) (0 <= d /\ d < ((bif false then imax (n : Int) 40 else imin (n : Int) 40).toNat : Int) /\ a.isSome = true /\ (5 : Nat) = 5 /\ ∃ e, atI b a (d.toNat * 5 + 0) = some (.int .u8 e) /\ ∃ f, atI b a (d.toNat * 5 + 1) = some (.int .u8 f) /\ ∃ g, atI b a (d.toNat * 5 + 2) = some (.int .u8 g) /\ ∃ i, atI b a (d.toNat * 5 + 3) = some (.int .u8 i) /\ ∃ j, atI b a (d.toNat * 5 + 4) = some (.int .i64 j) /\ Wr .i64 (((bif false then imax (n : Int) 40 else imin (n : Int) 40).toNat : Int) + 1) fun k => Ct Tryz.prog (fnv 47) #[.agg #[.int .u8 e, .int .u8 f, .int .u8 g, .int .u8 i, .int .i64 j], .int .i64 k] b fun v m => ∃ o p q r s, v = .agg #[.int .u8 o, .int .u8 p, .int .u8 q, .int .u8 r, .int .i64 s] /\ x.length = x.length / 5 * 5 /\ x.length / 5 + 1 <= 9223372036854775807 /\ (x.length / 5 + 1) * 16 <= 140737488355328 /\ Wr .i64 (d + 1) fun t => Rf (SV.v (.slice a (bif false then imax (n : Int) 40 else imin (n : Int) 40).toNat c)) /\ x.length / 5 + 1 = List.length (x ++ [.int .u8 o, .int .u8 p, .int .u8 q, .int .u8 r, .int .i64 s]) / 5 /\ Rf (SV.v (.slice a (bif false then imax (n : Int) 40 else imin (n : Int) 40).toNat c)) /\ Rf (SV.v (.int .i64 ((bif false then imax (n : Int) 40 else imin (n : Int) 40).toNat : Int))) /\ N t (x ++ [.int .u8 o, .int .u8 p, .int .u8 q, .int .u8 r, .int .i64 s]) /\ Int.toNat ((M : Int) - t) < Int.toNat ((M : Int) - d)) (x.length = x.length / 5 * 5 /\ x.length / 5 + 1 <= 9223372036854775807 /\ (x.length / 5 + 1) * 16 <= 140737488355328 /\ ∀ (e : Option Addr) (f : Nat) (g : Mem), b.le g -> RowM g e f 5 (x ++ [.int .u8 1, .int .u8 0, .int .u8 0, .int .u8 0, .int .i64 0]) -> Q (.slice e (x.length / 5 + 1) f) g)) (by kernel_rfl) ?_
 have hl : l.length = n := SlR.len (by decide) h
 have hmx : n <= maxLen := SlR.max h
 have hmx2 : maxLen <= 9223372036854775807 := by decide
 have hM2 : M = min n 40 := by rw [hM, List.length_take, hl]; omega
 have him : (bif false then imax (n : Int) 40 else imin (n : Int) 40) = (M : Int) := by
  show imin (n : Int) 40 = _
  unfold imin; split <;> omega
 rw [him, Int.toNat_natCast]
 have ht := SlR.take (m := M) (by decide) h (by omega)
 have hlt : l.take M = l.take 40 := by
  rw [hM2]
  rcases Nat.le_total n 40 with hh | hh
  · rw [Nat.min_eq_left hh, List.take_of_length_le (by omega), List.take_of_length_le (by omega)]
  · rw [Nat.min_eq_right hh]
 rw [hlt] at ht;obtain ⟨T, hT⟩ : ∃ T, T = l.take 40 := ⟨_, rfl⟩;rw [<- hT] at ht hM hN;rw [<- hM] at hN
 refine ⟨by omega, by omega, ⟨rfl, rfl, rfl, rfl, ?_⟩, fun b G lb x d hd => ?_⟩
 · rw [hN]; exact ⟨Int.le_refl _, Int.natCast_nonneg _, rfl, fun x hx => by cases hx⟩
 rw [hN] at hd;obtain ⟨h1, h2, h3, h4⟩ := hd
 have hxl : x.length = d.toNat * 5 := by rw [h3, insVs_len, List.length_map, List.length_take]; omega
 have hx5 : x.length / 5 = d.toNat := by omega
 refine Br.mk (fun h5 => ?_) (fun h5 => ?_)
 · have h5 := of_decide_eq_true h5
   have htb := SlR.mono smC_mono ht lb
   obtain ⟨y, cs, g1, g2, ⟨rfl, g3⟩, g4⟩ := SlR.at_ (by decide) htb h1 h5
   have htk : T.take (d + 1).toNat = T.take d.toNat ++ [y] := by rw [show (d + 1).toNat = d.toNat + 1 by omega, List.take_add_one, g1]; rfl
   refine ⟨h1, h5, SlR.isSome htb (by omega), rfl, _, g4 0 _ rfl, _, g4 1 _ rfl, _, g4 2 _ rfl, _, g4 3 _ rfl, _, g4 4 _ rfl, wr_i64 (by omega) (by omega) ((ct47 y g3 ((M : Int) + 1) (by omega) b).mono fun v m lm ⟨hv, hok⟩ => ⟨_, _, _, _, _, hv, by omega, by omega, by omega, wr_i64 (by omega) (by omega) ⟨rfl, ?_, rfl, rfl, ?_, by omega⟩⟩)⟩
   · rw [List.length_append]; simp only [List.length_cons, List.length_nil]; omega
   · rw [hN]
     refine ⟨by omega, by omega, ?_, fun z hz => ?_⟩
     · rw [h3, htk]
       simp [insVs, insV]
     · rw [htk] at hz
       rcases List.mem_append.1 hz with hz | hz
       · exact h4 z hz
       · simp only [List.mem_cons, List.not_mem_nil, or_false] at hz
         rw [hz]; exact hok
 · have h5 := of_decide_eq_false h5
   refine ⟨by omega, by omega, by omega, fun e f g lg hrow => ?_⟩
   rw [List.take_of_length_le (by omega)] at h3 h4
   have hmade : madeS l = T.map (fun x => oneS x ((M : Int) + 1)) ++ [⟨1, 0, 0, 0, 0⟩] := by rw [madeS, <- hT, <- hM]
   have hx : x ++ [.int .u8 1, .int .u8 0, .int .u8 0, .int .u8 0, .int .i64 0] = insVs (madeS l) := by rw [hmade, h3]; simp [insVs, insV]
   have hokm : ∀ i ∈ madeS l, okI i := fun i hi => by
    rw [hmade] at hi
    rcases List.mem_append.1 hi with hi | hi
    · obtain ⟨z, hz, rfl⟩ := List.mem_map.1 hi
      exact h4 z hz
    · simp only [List.mem_cons, List.not_mem_nil, or_false] at hi
      subst hi
      exact ⟨by decide, by decide, by decide, by decide, by decide⟩
   rw [hx] at hrow
   have hsl := SlR.row (by decide) hrow (rowR_ins g hokm)
   have hln : (madeS l).length = x.length / 5 + 1 := by rw [hmade, List.length_append, List.length_map]; simp only [List.length_cons, List.length_nil]; omega
   obtain ⟨r1, r2, _⟩ := hrow;rw [insVs_len, hln] at r1;rw [hQ]
   refine ⟨e, _, f, rfl, ?_, by omega, r2⟩
   rw [<- hln]; exact hsl
theorem opSm_form {x : Sm} (h : okSm x) : ∃ l, formT (opSm x) = some l := by
 have ho := h.op;unfold opSm;split
 · refine ⟨[114, 114, 114], ?_⟩
   rw [formT, if_pos ⟨by omega, by omega⟩]
 · have : ∀ t ∈ opTab, (formT t).isSome = true := by decide
   have hl : opTab.length = 23 := rfl
   have hlt : (x.op % 40 - 17).toNat < opTab.length := by omega
   rw [List.getElem?_eq_getElem hlt];have := this _ (List.getElem_mem hlt);exact Option.isSome_iff_exists.1 this
theorem oneS_shape {x : Sm} (h : okSm x) {m : Int} (hm : 1 <= m /\ m <= 256) : ∃ l, formT (oneS x m).op = some l /\ shapeI (oneS x m) l /\ (116 ∈ l -> (oneS x m).n < m) := by
 obtain ⟨l, hl⟩ := opSm_form h
 have hop : ∀ (fs : Tx) (i : Ins) (u : Nat), (goS fs x m i u).op = i.op := by
  intro fs
  induction fs with
  | nil => intro i u; rfl
  | cons f r ih =>
    intro i u;rw [goS];split
    · rw [ih]
      split
      · unfold putR; split <;> rfl
      · rfl
    · split
      · rw [ih]
      · split <;> rw [ih]
 have hopx : (oneS x m).op = opSm x := by rw [oneS, hop]
 have hfl : formL (opSm x) = l := by rw [formL, hl]; rfl
 have ha := h.a; have hb := h.b; have hc := h.c
 have u1 : 0 <= umod x.n 16 /\ umod x.n 16 < 16 := by unfold umod; omega
 have u2 : 0 <= umod x.n (max m 1) /\ umod x.n (max m 1) < m := by
  have : max m 1 = m := by omega
  rw [this]
  exact ⟨Int.emod_nonneg _ (by omega), Int.emod_lt_of_pos _ (by omega)⟩
 refine ⟨l, by rw [hopx]; exact hl, ?_⟩
 rw [oneS, hfl]
 rcases formT_cases (opSm x) with hh | hh | hh | hh | hh | hh | hh | hh <;> rw [hh] at hl <;> cases hl
 · exact ⟨.inl ⟨rfl, rfl, rfl, rfl, rfl⟩, fun hh => by cases hh⟩
 · exact ⟨.inr (.inl ⟨rfl, by show x.a % 8 < 8; omega, rfl, rfl⟩), fun hh => by simp at hh⟩
 · exact ⟨.inr (.inr (.inl ⟨rfl, by show x.a % 8 < 8; omega, by show x.b % 8 < 8; omega, rfl, rfl⟩)), fun hh => by simp at hh⟩
 · exact ⟨.inr (.inr (.inr (.inl ⟨rfl, by show x.a % 8 < 8; omega, by show x.b % 8 < 8; omega, rfl, u1.1, u1.2⟩))), fun hh => by simp at hh⟩
 · exact ⟨.inr (.inr (.inr (.inr (.inl ⟨rfl, rfl, rfl, rfl, u2.1, by show umod x.n (max m 1) < 256; omega⟩)))), fun _ => u2.2⟩
 · exact ⟨.inr (.inr (.inr (.inr (.inr (.inl ⟨rfl, by show x.a % 8 < 8; omega, rfl, rfl, u2.1, by show umod x.n (max m 1) < 256; omega⟩))))), fun _ => u2.2⟩
 · exact ⟨.inr (.inr (.inr (.inr (.inr (.inr ⟨rfl, by show x.a % 8 < 8; omega, by show x.b % 8 < 8; omega, by show x.c % 8 < 8; omega, rfl⟩))))), fun hh => by simp at hh⟩
theorem check_of {p : List Ins} (hok : ∀ i ∈ p, okI i) (h : ∀ i ∈ p, oneE i = 0 /\ ((targetE i).2 = true -> (targetE i).1 < p.length)) (h0 : 0 < p.length) (h1 : p.length <= 256) (h2 : lastGoes p = false) : checkL p = (-1, 0) := by
 have hgo : ∀ (q : List Ins) (k : Int), (∀ i ∈ q, oneE i = 0 /\ ((targetE i).2 = true -> (targetE i).1 < p.length)) -> checkGo p.length q k = (-1, 0) := by
  intro q
  induction q with
  | nil => intro k _; rfl
  | cons i r ih =>
    intro k h
    obtain ⟨h1, h2⟩ := h i (by simp)
    rw [checkGo, if_neg (fun hh => hh h1), if_neg (fun hh => by have := h2 hh.1; omega)]
    exact ih _ fun j hj => h j (List.mem_cons_of_mem _ hj)
 rw [checkL, if_neg (by omega), if_neg (by omega), hgo p 0 h, if_neg (fun hh => hh rfl), h2]; rfl
theorem made_right {l : List Sm} (h : ∀ x ∈ l, okSm x) (hok : ∀ i ∈ madeS l, okI i) : checkL (madeS l) = (-1, 0) := by
 have hlen : (madeS l).length = (l.take 40).length + 1 := by rw [madeS, List.length_append, List.length_map]; rfl
 have h40 : (l.take 40).length <= 40 := by rw [List.length_take]; omega
 refine check_of hok (fun i hi => ?_) (by omega) (by omega) ?_
 · rw [madeS] at hi
   rcases List.mem_append.1 hi with hi | hi
   · obtain ⟨x, hx, rfl⟩ := List.mem_map.1 hi
     have hsx := h x (List.mem_of_mem_take hx)
     obtain ⟨f, h1, h2, h3⟩ := oneS_shape hsx (m := ((l.take 40).length : Int) + 1) ⟨by omega, by omega⟩
     have ho := hok _ (by rw [madeS]; exact List.mem_append_left _ (List.mem_map_of_mem hx))
     have h0 := shape_one h1 h2;refine ⟨h0, fun ht => ?_⟩;obtain ⟨t1, t2⟩ := tgt_form ho h0;have hm := t1.2 ht;rw [formL, h1] at hm;rw [t2 ht, hlen];have := h3 hm;omega
   · simp only [List.mem_cons, List.not_mem_nil, or_false] at hi
     subst hi
     exact ⟨by decide, fun hh => by cases hh⟩
 · rw [lastGoes, madeS, List.getLast?_concat]; rfl
theorem cells92 : Tryz.prog.cellsOf 92 = 5 := by kernel_rfl
theorem cells2 : Tryz.prog.cellsOf 2 = 1 := by kernel_rfl
def Q31 (I : Mem) (v : Value) : Prop := ∃ a n c l, v = .slice a n c /\ SmM I a n l /\ n <= c /\ c <= maxLen
theorem opc92 (W : World) : OpC Tryz.prog W 92 fun cs => ∃ x, SmC (memW W) cs x := by
 refine (opc_struct (P := Tryz.prog) (W := W) Tryz.underlying92 cells92 (.cons rfl cells5 (opc_int Tryz.underlying5) (.cons rfl cells5 (opc_int Tryz.underlying5) (.cons rfl cells5 (opc_int Tryz.underlying5) (.cons rfl cells5 (opc_int Tryz.underlying5) (.cons rfl cells2 (opc_int Tryz.underlying2) .nil)))))).mono ?_;rintro cs ⟨hl, ⟨k, h1, k1, k2⟩, ⟨a, h2, k3, k4⟩, ⟨b, h3, k5, k6⟩, ⟨c, h4, k7, k8⟩, ⟨n, h5, k9, k10⟩, _⟩
 match cs, hl with
 | [y0, y1, y2, y3, y4], _ =>
   simp only [List.drop_succ_cons, List.drop_zero, List.take_succ_cons, List.take_zero, List.cons.injEq, and_true] at h1 h2 h3 h4 h5
   subst h1; subst h2; subst h3; subst h4; subst h5
   exact ⟨⟨k, a, b, c, n⟩, rfl, ⟨k1, k2⟩, ⟨k3, k4⟩, ⟨k5, k6⟩, ⟨k7, k8⟩, ⟨k9, k10⟩⟩
section
variable {H : Type} {enc : TypeId × Value -> H} {W : World} {r : Reach} {b0 : Nat} {v : Value} {d : DataW H} {ps : List MemPlace}
theorem op31 (hval : Value.okWide Tryz.prog W r b0 31 v) (hd : DataW.Trod enc Tryz.prog W 0 (fun _ => true) true 31 v d ps) (hw : ∀ n ∈ d.weights Tryz.prog 31, n <= reachBytes) : Q31 (memW W) v := by
 obtain ⟨a, n, c, xs, h1, h2, h3, h4, _, h5⟩ := opc_top_slice (opc_slice (by decide) Tryz.underlying31 cells92 (opc92 W)) Tryz.underlying31 hval hd hw
 simp only [List.cons.injEq, and_true] at h1;obtain ⟨l, hl, hr⟩ := RowR.of (E := SmC) n xs h4.len h5;exact ⟨a, n, c, l, h1, ⟨xs, h4, hr⟩, h2, h3⟩
end
theorem SmM.ok {I : Mem} {a : Option Addr} {n : Nat} {l : List Sm} (h : SmM I a n l) : ∀ x ∈ l, okSm x := by
 obtain ⟨xs, _, h2⟩ := h;exact RowR.all (P := okSm) (fun h => h.2) h2
theorem InsM.ok {I : Mem} {a : Option Addr} {n : Nat} {p : List Ins} (h : InsM I a n p) : ∀ x ∈ p, okI x := by
 obtain ⟨xs, _, h2⟩ := h;exact RowR.all (P := okI) (fun h => h.2) h2
theorem lit_size (l : List UInt8) : (⟨l.toArray⟩ : ByteArray).size = l.length := by show l.toArray.size = _; simp
set_option maxHeartbeats 1000000
theorem ct18 (xs ys : List Value) (a : Option Addr) (b n c m d : Nat) (i : Int) (cv : Array Value) (I G : Mem) (hn : n <= c) (hc : c <= maxLen) (hi : 0 <= i /\ i <= n) (h : OwnS 1 G a c) (hs : SlM G a n 1 xs) (hb : I b = some (.cells cv 9)) (hv : SlM I (some ⟨b, 0, none⟩) m 1 ys) (hm : 0 < m) (hsm : n + m <= 1000000) (ha : a.isSome = true) (h1 : ∀ v ∈ xs ++ ys, v.oneCell' = true) :
 CtH Tryz.prog (fnv 18) #[.slice a n c, .int .i64 i, .slice (some ⟨b, 0, none⟩) m d] I G (fun v I' G' => ∃ a' c', v = .slice a' (n + m) c' /\ SlM G' a' (n + m) 1 (xs.take i.toNat ++ ys ++ xs.drop i.toNat) /\ n + m <= c' /\ c' <= maxLen) := by
 obtain ⟨Q, hQ⟩ : ∃ q : Value -> Mem -> Prop, q = fun v G' => ∃ a' c', v = .slice a' (n + m) c' /\ SlM G' a' (n + m) 1 (xs.take i.toNat ++ ys ++ xs.drop i.toNat) /\ n + m <= c' /\ c' <= maxLen := ⟨_, rfl⟩;obtain ⟨w, hw⟩ : ∃ w : Option Addr, w = some ⟨b, 0, none⟩ := ⟨_, rfl⟩
 rw [show (fun (v : Value) (I' G' : Mem) => ∃ a' c', v = .slice a' (n + m) c' /\ SlM G' a' (n + m) 1 (xs.take i.toNat ++ ys ++ xs.drop i.toNat) /\ n + m <= c' /\ c' <= maxLen) = fun v I' G' => Q v G' by rw [hQ], <- hw]
 refine viaR (ctG_via (A := { calls := [(25, .st), (40, .st), (45, .st), (54, .st), (77, .st), (82, .st), (88, .st), (67, .g), (93, .g)] }) Tryz.func18 rfl Tryz.call18 rfl rfl) (0 <= i /\ i <= (n : Int) /\ Br ((m : Int) == 0) (Q (.slice a n c) G) (Br (i == (n : Int)) ((1 : Nat) = 1 /\ (0 : Nat) < 1 /\ ∃ y, y.length = m * 1 /\ (w = none -> m = 0) /\ (∀ (j : Nat) (v : Value), y[j]? = some v -> atI I w j = some v \/ atI G w j = some v) /\ (∀ (v : Value), Membership.mem y v -> v.oneCell' = true) /\ Br (decide ((n : Int) + (m : Int) <= (c : Int))) (∃ e, (y = [] /\ e = G \/ PutG G a (n * 1) y e) /\ Q (.slice a (n + m) c) e) (a.isSome = true /\ n + m <= 9223372036854775807 /\ (n + m) * 16 <= 140737488355328 /\ ∃ x, x.length = n * 1 /\ (∀ (j : Nat) (v : Value), x[j]? = some v -> atI I a j = some v \/ atI G a j = some v) /\ ∀ (e f : Nat) (g : Array Value) (j : Prod Nat Nat) (k : Mem), G e = none -> I e = none -> n + m <= f -> f <= 9223372036854775807 -> (∀ (l : Nat), l < g.size -> ¬(j.1 <= l /\ l < j.2)) -> g.size = f * 1 -> List.take (List.length (x ++ y)) g.toList = x ++ y -> k = (fun l => if l = e then some (.cells g 9 j) else G l) -> Q (.slice (some ⟨e, 0, none⟩) (n + m) f) k)) (Wr .i64 ((n : Int) + (m : Int)) (fun e => Br (decide ((c : Int) < e)) (0 <= i /\ i <= (c : Int) /\ Wr .i64 ((n : Int) + (m : Int)) fun f => Wr .i64 (f - i) fun g => (1 : Nat) = 1 /\ (0 : Nat) < 1 /\ 0 < g /\ c < i.toNat + g.toNat /\ a.isSome = true /\ i.toNat + g.toNat <= 9223372036854775807 /\ (i.toNat + g.toNat) * 16 <= 140737488355328 /\ ∃ x, x.length = i.toNat * 1 /\ (∀ (j : Nat) (v : Value), x[j]? = some v -> atI I a j = some v \/ atI G a j = some v) /\ ∀ (j k : Nat) (l : Array Value) (o : Prod Nat Nat) (p : Mem), G j = none -> I j = none -> i.toNat + g.toNat <= k -> k <= 9223372036854775807 -> (∀ (q : Nat), q < l.size -> ¬(o.1 <= q /\ q < o.2)) -> l.size = k * 1 -> List.take x.length l.toList = x -> p = (fun q => if q = j then some (.cells l 9 o) else G q) -> 0 <= i /\ i <= ((i.toNat + g.toNat : Nat) : Int) /\ ∃ q, q.length = m.min (i.toNat + g.toNat - i.toNat) * 1 /\ (∀ (r : Nat) (v : Value), q[r]? = some v -> atI I w r = some v \/ atI p w r = some v) /\ (∀ (v : Value), Membership.mem q v -> v.oneCell' = true) /\ (w = none -> q = []) /\ ∃ r, (q = [] /\ r = p \/ PutG p (sladdr (some ⟨j, 0, none⟩) k i.toNat 1) 0 q r) /\ Wr .i64 (i + (m : Int)) fun s => 0 <= s /\ s <= ((i.toNat + g.toNat : Nat) : Int) /\ 0 <= i /\ i <= (n : Int) /\ ∃ t, t.length = Nat.min (n - i.toNat) (i.toNat + g.toNat - s.toNat) * 1 /\ (∀ (u : Nat) (v : Value), t[u]? = some v -> atI I (sladdr a c i.toNat 1) u = some v \/ atI r (sladdr a c i.toNat 1) u = some v) /\ (∀ (v : Value), Membership.mem t v -> v.oneCell' = true) /\ (sladdr a c i.toNat 1 = none -> t = []) /\ ∃ u, (t = [] /\ u = r \/ PutG r (sladdr (some ⟨j, 0, none⟩) k s.toNat 1) 0 t u) /\ Q (.slice (some ⟨j, 0, none⟩) (i.toNat + g.toNat) k) u) (Wr .i64 ((n : Int) + (m : Int)) (fun f => 0 <= f /\ f <= (c : Int) /\ Wr .i64 (i + (m : Int)) fun g => 0 <= g /\ g <= (f.toNat : Int) /\ CtH Tryz.prog (fnv 51) #[.slice w m d, .slice (sladdr a c g.toNat 1) (f.toNat - g.toNat) (c - g.toNat)] I G fun v j k => ∃ l, v = .bool l /\ Br (!l) (Wr .i64 (i + (m : Int)) (fun o => 0 <= o /\ o <= (f.toNat : Int) /\ 0 <= i /\ i <= (f.toNat : Int) /\ ∃ p, p.length = Nat.min (f.toNat - i.toNat) (f.toNat - o.toNat) * 1 /\ (∀ (q : Nat) (r : Value), p[q]? = some r -> atI j (sladdr a c i.toNat 1) q = some r \/ atI k (sladdr a c i.toNat 1) q = some r) /\ (∀ (q : Value), Membership.mem p q -> q.oneCell' = true) /\ (sladdr a c i.toNat 1 = none -> p = []) /\ ∃ q, (p = [] /\ q = k \/ PutG k (sladdr a c o.toNat 1) 0 p q) /\ 0 <= i /\ i <= (f.toNat : Int) /\ ∃ r, r.length = m.min (f.toNat - i.toNat) * 1 /\ (∀ (s : Nat) (t : Value), r[s]? = some t -> atI j w s = some t \/ atI q w s = some t) /\ (∀ (s : Value), Membership.mem r s -> s.oneCell' = true) /\ (w = none -> r = []) /\ ∃ s, (r = [] /\ s = q \/ PutG q (sladdr a c i.toNat 1) 0 r s) /\ Q (.slice a f.toNat c) s)) (0 <= (n : Int) /\ (n : Int) <= (f.toNat : Int) /\ ∃ o, o.length = m.min (f.toNat - n) * 1 /\ (∀ (p : Nat) (q : Value), o[p]? = some q -> atI j w p = some q \/ atI k w p = some q) /\ (∀ (p : Value), Membership.mem o p -> p.oneCell' = true) /\ (w = none -> o = []) /\ ∃ p, (o = [] /\ p = k \/ PutG k (sladdr a c n 1) 0 o p) /\ 0 <= i /\ i <= (f.toNat : Int) /\ CtH Tryz.prog (fnv 52) #[.slice (sladdr a c i.toNat 1) (f.toNat - i.toNat) (c - i.toNat), .int .i64 (m : Int)] j p fun q r s => q = .tuple #[] /\ Q (.slice a f.toNat c) s))))))) (by kernel_rfl) ?_
 rw [<- hw] at hv
 exact insert_cond (w := 16) (by omega) hn hc hi h hs hv hm hsm ha h1 (fun a' c' G' k1 k2 k3 k4 => by rw [hQ]; exact ⟨a', c', rfl, k1, k3, k4⟩) fun a' n' c' hh => by
  rw [hw]
  obtain ⟨ti, hti⟩ := Option.isSome_iff_exists.1 (show (Tryz.prog.info? 9).isSome = true by kernel_rfl)
  exact ct_over (tR := 4) (hi := hti) Tryz.func51 (by kernel_rfl) (by kernel_rfl) (by kernel_rfl) (by kernel_rfl) Tryz.underlying22 (hv := hb) (ha := hh)
theorem ct19 (xs : List ByteArray) (a : Option Addr) (n c : Nat) (I : Mem) (h : SlM I a n 1 (strs xs)) (hn : n <= 1000000) (h0 : 0 < n) :
 Ct Tryz.prog (fnv 19) #[.slice a n c] I (fun v I' => ∃ a' c', v = .slice a' n c' /\ SlM I' a' n 1 (strs xs) /\ n <= c' /\ c' <= maxLen /\ NewS 1 I I' a' c' /\ a'.isSome = true) := by
 obtain ⟨Q, hQ⟩ : ∃ q : Value -> Mem -> Prop, q = fun v I' => ∃ a' c', v = .slice a' n c' /\ SlM I' a' n 1 (strs xs) /\ n <= c' /\ c' <= maxLen /\ NewS 1 I I' a' c' /\ a'.isSome = true := ⟨_, rfl⟩;rw [<- hQ]
 refine viaR (ctF_via (A := { }) Tryz.func19 rfl Tryz.call19 rfl rfl) (Br a.isNone (Q (.slice none 0 0) I) (∃ y, y.length = n * 1 /\ (a = none -> n = 0) /\ (∀ (j : Nat) (v : Value), y[j]? = some v -> atI I a j = some v) /\ (∀ (v : Value), Membership.mem y v -> v.oneCell' = true) /\ (0 : Nat) = 0 /\ 0 + n <= 9223372036854775807 /\ (0 + n) * 16 <= 140737488355328 /\ ∀ (b : Option Addr) (d : Nat) (e : Mem), I.le e -> RowF I e b d 1 y 9 -> Q (.slice b (0 + n) d) e)) (by kernel_rfl) ?_
 have hl := h.len
 refine Br.mk (fun e => ?_) (fun _ => ⟨strs xs, h.len, h.nil, h.at_, fun v hv => ?_, rfl, by omega, by omega, fun b d e le hrow => ?_⟩)
 · have e : a = none := by simpa using e
   have := h.nil e; omega
 · obtain ⟨s, _, rfl⟩ := List.mem_map.1 hv; rfl
 · rw [hQ, Nat.zero_add]
   have hr := hrow.row
   have hs := hr.sl (n := n) (by omega) hl
   refine ⟨b, d, rfl, hs, ?_, hr.2.1, hrow.newS, ?_⟩
   · have := hr.1; omega
   · cases b with
     | none => have := hs.nil rfl; omega
     | some _ => rfl
theorem ct15 (s : ByteArray) (hs : s.size <= 10000000) (I : Mem) : Ct Tryz.prog (fnv 15) #[.string s, .string ⟨#[10]⟩] I (fun v _ => v = .string (strT (Lib.trimSuffix (tx s) [10]))) := by
 refine ct_of_calls Tryz.call15 fun w hI => ?_
 refine (Tryz.strings_TrimSuffix s ⟨#[10]⟩ w (by omega)).mono fun e w' ⟨he, hw⟩ => ⟨⟨_, he, rfl⟩, hw ▸ Below.refl _ _⟩
theorem ct14 (s : ByteArray) (hs : s.size <= 1000000) (I : Mem) (hG : Globs I) :
 Ct Tryz.prog (fnv 14) #[.string s, .string ⟨#[10]⟩] I (fun v I' => ∃ (l : List ByteArray) (a : Option Addr) (n : Nat), v = .slice a n n /\ l.map tx = splitC 10 (tx s) /\ SlM I' a n 1 (strs l)) := by
 refine ct_of_callsN Tryz.call14 fun w hI => ?_;obtain ⟨⟨m, hm⟩, _⟩ := hG w hI
 refine (Tryz.strings_Split s ⟨#[10]⟩ m w (by omega) hm (Nat.le_refl 1)).mono fun e w' ⟨he, hw⟩ => ?_
 obtain ⟨L, hL⟩ : ∃ L, L = Lib.splitB ⟨#[10]⟩ 0 (Lib.countB s ⟨#[10]⟩) s := ⟨_, rfl⟩;have hlen := Lib.splitB_all ⟨#[10]⟩ (Nat.le_refl 1) 0 _ s rfl;have hcnt : Lib.countB s ⟨#[10]⟩ = (tx s).count 10 := Lib.count_one 10 (tx s)
 have hmap : L.map tx = splitC 10 (tx s) := by
  rw [hL, hcnt];have := Lib.splitB_data ⟨#[10]⟩ 0 ((tx s).count 10) s;exact this.trans (splitK_one 10 (tx s))
 rw [<- hL] at hw hlen;have hcle : Lib.countB s ⟨#[10]⟩ <= s.size := Lib.countB_le ⟨#[10]⟩ (Nat.le_refl 1) _ s (Nat.le_refl _);subst hw
 have hnew : I w.heap.size = none := by
  cases hb : I w.heap.size with
  | none => rfl
  | some o => exact absurd (Mem.inW_lt hI hb) (Nat.lt_irrefl _)
 refine ⟨_, fun b => if b = w.heap.size then some (.cells (L.map Value.string).toArray 9 (0, 0)) else I b, he, fun b o hb => ?_, fun b o hb => ?_, fun b hb hn => ?_, ⟨L, some ⟨w.heap.size, 0, none⟩, _, rfl, hmap, ?_⟩, (Below.refl _ _).alloc (Nat.le_refl _) _⟩
 · simp only at hb
   split at hb
   · rename_i h; subst h; cases hb; exact Array.getElem?_push_size
   · rw [Below.heap_alloc w _ b (Mem.inW_lt hI hb)]; exact hI b o hb
 · simp only
   rw [if_neg (fun h => by subst h; rw [hnew] at hb; cases hb)]; exact hb
 · simp only
   rw [if_neg (by omega)]; exact hn
 · exact sl_cells (if_pos rfl) (by simp; omega) (by simp only [maxLen]; omega)
theorem ct17c (c : UInt8) (l : List ByteArray) (a : Option Addr) (n cp : Nat) (I : Mem) (h : SlM I a n 1 (strs l)) (hn : n <= cp) (hlen : (joinC c (l.map tx)).length <= 1000000000) (hN : n <= 1000000) :
 Ct Tryz.prog (fnv 17) #[.slice a n cp, .string ⟨#[c]⟩] I (fun v _ => v = .string (strT (joinC c (l.map tx)))) := by
 have e0 : strT (joinC c (l.map tx)) = ⟨(Lib.join (l.map (·.data.toList)) [c]).toArray⟩ := by rw [strT, <- joinC_eq]; rfl
 have hl := h.len;simp only [strs, List.length_map, Nat.mul_one] at hl;subst hl;refine ct_of_calls Tryz.call17 fun w hI => ?_
 cases l with
 | nil => exact (Tryz.strings_Join_none _ _ _ w).mono fun e w' ⟨he, hw⟩ => ⟨⟨_, he, by rfl⟩, hw ▸ Below.refl _ _⟩
 | cons x r =>
   cases a with
   | none => have := h.nil rfl; simp at this
   | some ad =>
     have hc : ∀ (j : Nat) (y : ByteArray), (x :: r)[j]? = some y -> w.cell? (ad.add j) = some (.string y) := fun j y hj =>
      cellM_world hI (h.at_ j _ (strs_get hj))
     have h0 := hc 0 x rfl;obtain ⟨b, o, sp⟩ := ad
     obtain rfl : sp = none := by
      cases sp with
      | none => rfl
      | some s => have := h.at_ 0 (.string x) rfl; simp only [atI, Option.bind_some, cellM, Addr.add, if_true] at this; split at this <;> simp at this
     have hlt : b < w.heap.size := by
      have := h.at_ 0 (.string x) rfl;simp only [atI, Option.bind_some, cellM, Addr.add, if_true] at this
      split at this
      · rename_i hb; exact Mem.inW_lt hI hb
      · cases this
     have hln : (Lib.join ((x :: r).map (·.data.toList)) [c]).length <= 140737488355328 := by
      have : (strT (joinC c ((x :: r).map tx))).size = (Lib.join ((x :: r).map (·.data.toList)) [c]).length := by rw [e0]; rfl
      rw [strT_size] at this;omega
     refine (Tryz.strings_Join b o cp (x :: r) ⟨#[c]⟩ w (fun j y hj => ?_) hlt (by omega) hn hln).mono fun e w' ⟨he, hw⟩ => ⟨⟨_, he, by rw [e0]⟩, hw⟩
     have := hc j y hj
     by_cases hj0 : j = 0
     · subst hj0; exact this
     · simpa [Addr.add, hj0] using this
theorem join_app (c : UInt8) : ∀ {ws vs : List Tx}, ws ≠ [] -> vs ≠ [] -> joinC c (ws ++ vs) = joinC c ws ++ c :: joinC c vs
 | [], _, h, _ => absurd rfl h
 | [x], [], _, h => absurd rfl h
 | [x], y :: r, _, _ => by rw [List.cons_append, List.nil_append, joinC]; rfl
 | x :: y :: r, vs, _, h => by
   rw [List.cons_append, List.cons_append, joinC, <- List.cons_append, join_app c (by simp) h, joinC]
   simp
theorem lines_app : ∀ (l1 l2 : List Tx) (n : Int) (r : Rd), (linesA l1 n r).1 = 0 -> linesA (l1 ++ l2) n r = linesA l2 (n + l1.length) (linesA l1 n r).2.2
 | [], l2, n, r, _ => by simp [linesA]
 | s :: l1, l2, n, r, h => by
   rw [linesA] at h
   by_cases hs : (lineA r s n).1 = 0
   · rw [if_neg (fun hh => hh hs)] at h
     rw [List.cons_append, linesA, if_neg (fun hh => hh hs), lines_app l1 l2 (n + 1) _ h, linesA, if_neg (fun hh => hh hs), List.length_cons]
     congr 1; omega
   · rw [if_pos hs] at h; exact absurd h hs
theorem lines_pre : ∀ (l1 l2 : List Tx) (n : Int) (r : Rd), (linesA (l1 ++ l2) n r).1 = 0 -> (linesA l1 n r).1 = 0
 | [], l2, n, r, _ => rfl
 | s :: l1, l2, n, r, h => by
   rw [List.cons_append, linesA] at h
   by_cases hs : (lineA r s n).1 = 0
   · rw [if_neg (fun hh => hh hs)] at h
     rw [linesA, if_neg (fun hh => hh hs)]; exact lines_pre l1 l2 _ _ h
   · rw [if_pos hs] at h; exact absurd h hs
theorem lines_ok : ∀ (l : List Tx) (n : Int) (r : Rd), (linesA l n r).1 = 0 -> linesA l n r = (0, 0, (linesA l n r).2.2)
 | [], n, r, _ => rfl
 | s :: l, n, r, h => by
   rw [linesA] at h ⊢
   by_cases hs : (lineA r s n).1 = 0
   · rw [if_neg (fun hh => hh hs)] at h ⊢; exact lines_ok l _ _ h
   · rw [if_pos hs] at h; exact absurd h hs
def SimR (r q : Rd) : Prop := r.ms.map (·.name) = q.ms.map (·.name)
theorem has_names (ms : List Mk) (s : Tx) : hasMk ms s = (ms.map (·.name)).any fun x => decide (x = s) := by rw [hasMk, List.any_map]; rfl
theorem SimR.has {r q : Rd} (h : SimR r q) (s : Tx) : hasMk r.ms s = hasMk q.ms s := by rw [has_names, has_names, h]
theorem put_err (line line2 : Int) : ∀ (f : Tx) (l : List Tx) (i : Ins) (t : Tx) (u : Nat), (putGo f l ⟨i, line, t⟩ u).1 = (putGo f l ⟨i, line2, t⟩ u).1 /\ (putGo f l ⟨i, line, t⟩ u).2.target = (putGo f l ⟨i, line2, t⟩ u).2.target /\ (putGo f l ⟨i, line, t⟩ u).2.line = line
 | [], l, i, t, u => by cases l <;> exact ⟨rfl, rfl, rfl⟩
 | f :: fs, [], i, t, u => ⟨rfl, rfl, rfl⟩
 | f :: fs, s :: ss, i, t, u => by
   unfold putGo;split
   · split
     · exact put_err line line2 fs ss _ _ _
     · exact ⟨rfl, rfl, rfl⟩
   · split
     · split
       · exact put_err line line2 fs ss _ _ _
       · exact ⟨rfl, rfl, rfl⟩
     · split
       · exact ⟨rfl, rfl, rfl⟩
       · split
         · exact ⟨rfl, rfl, rfl⟩
         · exact put_err line line2 fs ss _ _ _
theorem instr_err (l : List Tx) (line line2 : Int) : (instrA l line).1 = (instrA l line2).1 /\ (instrA l line).2.target = (instrA l line2).2.target /\ (instrA l line).2.line = line := by
 unfold instrA;split
 · exact ⟨rfl, rfl, rfl⟩
 · split
   · exact ⟨rfl, rfl, rfl⟩
   · split
     · exact ⟨rfl, rfl, rfl⟩
     · exact put_err line line2 _ _ _ _ _
theorem putI_sim {r q : Rd} (h : SimR r q) (l : List Tx) (n m : Int) (h0 : (putI r l n).1 = 0) : (putI q l m).1 = 0 /\ SimR (putI r l n).2 (putI q l m).2 /\ ∃ s1 s2, (putI r l n).2 = ⟨r.ms, r.ss ++ s1⟩ /\ (putI q l m).2 = ⟨q.ms, q.ss ++ s2⟩ /\ s1.map (·.target) = s2.map (·.target) := by
 cases l with
 | nil => exact ⟨rfl, h, [], [], by simp [putI], by simp [putI], rfl⟩
 | cons w t =>
   obtain ⟨e1, e2, _⟩ := instr_err (w :: t) n m;simp only [putI] at h0 ⊢
   by_cases hi : (instrA (w :: t) n).1 = 0
   · rw [if_pos hi, if_pos (e1 ▸ hi)]
     exact ⟨rfl, h, [_], [_], rfl, rfl, by simp [e2]⟩
   · rw [if_neg hi] at h0; exact absurd h0 hi
theorem line_sim {r q : Rd} (h : SimR r q) (s : Tx) (n m : Int) (h0 : (lineA r s n).1 = 0) : (lineA q s m).1 = 0 /\ SimR (lineA r s n).2 (lineA q s m).2 /\ ∃ m1 m2 s1 s2, (lineA r s n).2 = ⟨r.ms ++ m1, r.ss ++ s1⟩ /\ (lineA q s m).2 = ⟨q.ms ++ m2, q.ss ++ s2⟩ /\ s1.map (·.target) = s2.map (·.target) := by
 unfold lineA at h0 ⊢;split
 · exact ⟨rfl, h, [], [], [], [], by simp, by simp, rfl⟩
 · rename_i w l hp
   rw [hp] at h0
   simp only at h0 ⊢
   split
   · rename_i name hl
     rw [hl] at h0
     simp only at h0
     have hh := h.has name
     by_cases hn : nameB name = false
     · rw [labelA, if_pos hn, if_pos (by simp)] at h0; simp at h0
     · by_cases hm : hasMk r.ms name = true
       · rw [labelA, if_neg hn, if_pos hm, if_pos (by simp)] at h0; simp at h0
       · have er : labelA r name n = (0, ⟨r.ms ++ [⟨name, (r.ss.length : Int), n⟩], r.ss⟩) := by rw [labelA, if_neg hn, if_neg hm]
         have eq : labelA q name m = (0, ⟨q.ms ++ [⟨name, (q.ss.length : Int), m⟩], q.ss⟩) := by rw [labelA, if_neg hn, if_neg (by rw [<- hh]; exact hm)]
         rw [er, if_neg (by simp)] at h0
         rw [er, eq, if_neg (by simp), if_neg (by simp)]
         obtain ⟨p1, p2, s1, s2, p3, p4, p5⟩ := putI_sim (r := ⟨r.ms ++ [⟨name, (r.ss.length : Int), n⟩], r.ss⟩) (q := ⟨q.ms ++ [⟨name, (q.ss.length : Int), m⟩], q.ss⟩) (by unfold SimR at h ⊢; simp [h]) l n m h0
         exact ⟨p1, p2, _, _, s1, s2, p3, p4, p5⟩
   · rename_i hl
     rw [hl] at h0
     simp only at h0
     obtain ⟨p1, p2, s1, s2, p3, p4, p5⟩ := putI_sim h (w :: l) n m h0
     exact ⟨p1, p2, [], [], s1, s2, by rw [List.append_nil]; exact p3, by rw [List.append_nil]; exact p4, p5⟩
theorem lines_sim : ∀ (l : List Tx) {r q : Rd} (n m : Int), SimR r q -> (linesA l n r).1 = 0 -> (linesA l m q).1 = 0 /\ SimR (linesA l n r).2.2 (linesA l m q).2.2 /\ ∃ m1 m2 s1 s2, (linesA l n r).2.2 = ⟨r.ms ++ m1, r.ss ++ s1⟩ /\ (linesA l m q).2.2 = ⟨q.ms ++ m2, q.ss ++ s2⟩ /\ s1.map (·.target) = s2.map (·.target)
 | [], r, q, n, m, h, _ => ⟨rfl, h, [], [], [], [], by simp [linesA], by simp [linesA], rfl⟩
 | s :: l, r, q, n, m, h, h0 => by
   rw [linesA] at h0
   by_cases hs : (lineA r s n).1 = 0
   · rw [if_neg (fun hh => hh hs)] at h0
     obtain ⟨a1, a2, m1, m2, s1, s2, a3, a4, a5⟩ := line_sim h s n m hs;obtain ⟨b1, b2, m3, m4, s3, s4, b3, b4, b5⟩ := lines_sim l (n + 1) (m + 1) a2 h0;simp only [linesA, hs, a1, ne_eq, not_true_eq_false, if_false]
     refine ⟨b1, b2, m1 ++ m3, m2 ++ m4, s1 ++ s3, s2 ++ s4, by rw [b3, a3]; simp, by rw [b4, a4]; simp, by simp [a5, b5]⟩
   · rw [if_pos hs] at h0; exact absurd h0 hs
def noLab (s : Tx) : Bool := match s with
 | c :: d :: _ => !(decide (c = 108) && decide (48 <= d.toNat /\ d.toNat <= 57))
 | _ => true
theorem noLab_lab (j : Nat) : noLab (lab j) = false := by
 have hd : Lib.itoa (j : Int) = Lib.decDigits j := by unfold Lib.itoa; rw [if_neg (by omega)]; simp
 obtain ⟨h1, h2⟩ := dec_digits j;rw [lab, hd]
 cases hq : Lib.decDigits j with
 | nil => exact absurd hq h1
 | cons c t =>
   have := h2 c (by rw [hq]; simp)
   simp only [noLab];rw [decide_eq_true this];rfl
theorem lines_full {p : List Ins} (ho : ∀ i ∈ p, okI i) (h : (checkL p).2 = 0) :
 ∃ r, linesA (outLines p p 0) 1 ⟨[], []⟩ = (0, 0, r) /\ r.ss.length = p.length /\ (∀ s : Tx, noLab s = true -> hasMk r.ms s = false) /\ r.ss.find? (lostB r.ms) = none /\ (r.ms.find? fun m => decide (m.at_ = (r.ss.length : Int))) = none := by
 obtain ⟨c1, c2, c3, c4⟩ := check_len h;have hck := checkGo_ok _ _ _ c3;have hall : ∀ i ∈ p, okI i /\ oneE i = 0 := fun i hi => ⟨ho i hi, (hck i hi).1⟩
 obtain ⟨r, g1, g2, ss, g3, g4⟩ := lines_back p p 0 1 ⟨[], []⟩ hall rfl rfl (by omega)
 simp only [List.nil_append] at g3
 have e1 : linesA (outLines p p 0) 1 ⟨[], []⟩ = (0, 0, r) := by
  have hp := lines_pre (outLines p p 0) [[]] 1 ⟨[], []⟩ (by rw [g1])
  rw [lines_app _ _ _ _ hp, linesA, line_nil] at g1;have := lines_ok _ _ _ hp;rw [this];simp only [ne_eq, not_true_eq_false, if_false, linesA, Prod.mk.injEq, true_and] at g1;rw [g1]
 have hss : r.ss.length = p.length := by
  have := congrArg List.length g4
  rw [g3]; simpa using this
 have hno : ∀ s : Tx, noLab s = true -> hasMk r.ms s = false := fun s hs => by
  rw [Bool.eq_false_iff];intro hb;obtain ⟨m, hm, he⟩ := List.any_eq_true.1 hb;have he := of_decide_eq_true he;have : (m.name, m.at_) ∈ r.ms.map (fun m => (m.name, m.at_)) := List.mem_map_of_mem hm;rw [g2] at this;obtain ⟨j, _, hj⟩ := List.mem_map.1 this;have hj := (Prod.mk.inj hj).1;rw [he] at hj;rw [<- hj, noLab_lab] at hs;cases hs
 obtain ⟨pb, _⟩ := parse_back ho h
 have ew : (writeA p).1 = outGo p p 0 := by rw [writeA, if_neg (fun hh => hh h)]
 have hlen := out_len p p 0 ho (by omega)
 have hend : (endA r).2 = 0 := by
  have h2 : (readA (outGo p p 0)).2.1 = 0 := by
   rw [ew, parseA] at pb
   split at pb
   · assumption
   · exact (Prod.mk.inj (Prod.mk.inj pb).2).2
  rw [readA, if_neg (by omega), split_out p p 0 hall, g1] at h2
  simp only [ne_eq, not_true_eq_false, if_false] at h2
  split at h2
  · exact h2
  · rename_i hh; exact Decidable.not_not.1 hh
 unfold endA at hend
 rw [if_neg (by omega)] at hend
 cases hf : r.ss.find? (lostB r.ms) with
 | some x => rw [hf] at hend; cases hend
 | none =>
   rw [hf] at hend
   simp only at hend
   cases hg : r.ms.find? fun m => decide (m.at_ = (r.ss.length : Int)) with
   | some x => rw [hg] at hend; cases hend
   | none => exact ⟨r, e1, hss, hno, hf, hg⟩
theorem out_no10 {p : List Ins} (hall : ∀ i ∈ p, okI i /\ oneE i = 0) : ∀ x ∈ outLines p p 0, (10 : UInt8) ∉ x := fun x hx => by
 have h := splitC_free 10 (outGo p p 0) x;rw [split_out p p 0 hall] at h;exact h (List.mem_append_left _ hx)
theorem out_ne {p : List Ins} (h : 0 < p.length) : outLines p p 0 ≠ [] := by
 obtain ⟨i, r, rfl⟩ : ∃ i r, p = i :: r := by
  cases p with
  | nil => simp at h
  | cons i r => exact ⟨i, r, rfl⟩
 rw [outLines]
 simp
theorem out_join {p : List Ins} (hall : ∀ i ∈ p, okI i /\ oneE i = 0) (h : 0 < p.length) : outGo p p 0 = joinC 10 (outLines p p 0) ++ [10] := by
 rw [<- join_split 10 (outGo p p 0), split_out p p 0 hall, join_app 10 (out_ne h) (by simp)]
 rfl
theorem trim_nl (x : Tx) : Lib.trimSuffix (x ++ [10]) [10] = x := by
 have h : Lib.hasSuffix (x ++ [10]) [10] = true := by simp [Lib.hasSuffix]
 rw [Lib.trimSuffix, if_pos h]
 simp
theorem parse_bad {ls : List Tx} (hne : ls ≠ []) (h10 : ∀ x ∈ ls, (10 : UInt8) ∉ x) (hl : (joinC 10 ls).length <= 65536) {e k : Int} (he : e ≠ 0) {r : Rd} (h : linesA ls 1 ⟨[], []⟩ = (e, k, r)) : parseA (joinC 10 ls) = ([], k, e) := by
 have hr : readA (joinC 10 ls) = (k, e, ⟨[], []⟩) := by rw [readA, if_neg (by omega), split_join hne h10, h, if_pos he]
 rw [parseA, hr, if_neg he]
theorem parse_end {ls : List Tx} (hne : ls ≠ []) (h10 : ∀ x ∈ ls, (10 : UInt8) ∉ x) (hl : (joinC 10 ls).length <= 65536) {e k : Int} (he : e ≠ 0) {r : Rd} (h : linesA ls 1 ⟨[], []⟩ = (0, 0, r)) (h2 : endA r = (k, e)) : parseA (joinC 10 ls) = ([], k, e) := by
 have hr : readA (joinC 10 ls) = (k, e, ⟨[], []⟩) := by rw [readA, if_neg (by omega), split_join hne h10, h, if_neg (by simp), h2, if_pos he]
 rw [parseA, hr, if_neg he]
theorem lines_err {l1 l2 : List Tx} {s : Tx} {n : Int} {r r1 : Rd} {e : Int} (h : linesA l1 n r = (0, 0, r1)) (he : e ≠ 0) (hs : (lineA r1 s (n + l1.length)).1 = e) : ∃ q, linesA (l1 ++ s :: l2) n r = (e, n + l1.length, q) := by
 rw [lines_app _ _ _ _ (by rw [h]), h, linesA, if_pos (by rw [hs]; exact he), hs]
 exact ⟨_, rfl⟩
def badL (j : Nat) : Tx × Int := match j with
 | 0 => ([49, 120, 58, 32, 104, 97, 108, 116], 153)
 | 1 => ([58, 32, 104, 97, 108, 116], 153)
 | 2 => ([120, 58, 32, 120, 58, 32, 104, 97, 108, 116], 150)
 | 3 => ([104, 97, 108, 116, 115], 150)
 | 4 => ([104, 97, 108, 116, 32, 114, 49], 151)
 | 5 => ([97, 100, 100, 32, 114, 49, 32, 114, 50], 151)
 | 6 => ([115, 101, 116, 32, 114, 49, 32, 49, 46, 53], 152)
 | 7 => ([115, 101, 110, 100, 32, 114, 49, 32, 114, 50, 32, 49, 54], 152)
 | 8 => ([106, 117, 109, 112, 32, 114, 49, 32, 120], 151)
 | 9 => ([106, 122, 32, 114, 49, 32, 88], 153)
 | _ => ([108, 111, 97, 100, 32, 114, 49, 32, 57], 152)
theorem put_bad {r : Rd} {l : List Tx} {n e : Int} (hl : l ≠ []) (h : (instrA l 0).1 = e) (he : e ≠ 0) : (putI r l n).1 = e := by
 cases l with
 | nil => exact absurd rfl hl
 | cons w t =>
   have := (instr_err (w :: t) n 0).1
   rw [putI, if_neg (by rw [this, h]; exact he)]
   · rw [this, h]
   · intro hh; cases hh
theorem bad_plain {s : Tx} {w : Tx} {l : List Tx} (hp : piecesT s = w :: l) (hlab : labT w = none) {e : Int} (h : (instrA (w :: l) 0).1 = e) (he : e ≠ 0) (r : Rd) (n : Int) : (lineA r s n).1 = e := by
 rw [lineA, hp];simp only [hlab]
 exact put_bad (by simp) h he
theorem bad_label {s : Tx} {w nm : Tx} {l : List Tx} (hp : piecesT s = w :: l) (hlab : labT w = some nm) (h : nameB nm = false) (r : Rd) (n : Int) : (lineA r s n).1 = 153 := by
 rw [lineA, hp];simp only [hlab]
 rw [labelA, if_pos h, if_pos (by simp)]
theorem bad_line (j : Nat) (hj : j < 11) (r : Rd) (n : Int) (hr : hasMk r.ms [120] = false) : (lineA r (badL j).1 n).1 = (badL j).2 := by
 match j, hj with
 | 0, _ => exact bad_label (w := [49, 120, 58]) (nm := [49, 120]) (l := [[104, 97, 108, 116]]) (by decide) (by decide) (by decide) r n
 | 1, _ => exact bad_label (w := [58]) (nm := []) (l := [[104, 97, 108, 116]]) (by decide) (by decide) (by decide) r n
 | 2, _ =>
   have hp : piecesT (badL 2).1 = [[120, 58], [120, 58], [104, 97, 108, 116]] := by decide
   have hl : labT [120, 58] = some [120] := by decide
   rw [lineA, hp];simp only [hl]
   have el : labelA r [120] n = (0, ⟨r.ms ++ [⟨[120], (r.ss.length : Int), n⟩], r.ss⟩) := by rw [labelA, if_neg (by decide), if_neg (by rw [hr]; simp)]
   rw [el, if_neg (by simp)]
   exact put_bad (by simp) (by decide +kernel) (by decide)
 | 3, _ => exact bad_plain (w := [104, 97, 108, 116, 115]) (l := []) (by decide) (by decide) (by decide +kernel) (by decide) r n
 | 4, _ => exact bad_plain (w := [104, 97, 108, 116]) (l := [[114, 49]]) (by decide) (by decide) (by decide +kernel) (by decide) r n
 | 5, _ => exact bad_plain (w := [97, 100, 100]) (l := [[114, 49], [114, 50]]) (by decide) (by decide) (by decide +kernel) (by decide) r n
 | 6, _ => exact bad_plain (w := [115, 101, 116]) (l := [[114, 49], [49, 46, 53]]) (by decide) (by decide) (by decide +kernel) (by decide) r n
 | 7, _ => exact bad_plain (w := [115, 101, 110, 100]) (l := [[114, 49], [114, 50], [49, 54]]) (by decide) (by decide) (by decide +kernel) (by decide) r n
 | 8, _ => exact bad_plain (w := [106, 117, 109, 112]) (l := [[114, 49], [120]]) (by decide) (by decide) (by decide +kernel) (by decide) r n
 | 9, _ => exact bad_plain (w := [106, 122]) (l := [[114, 49], [88]]) (by decide) (by decide) (by decide +kernel) (by decide) r n
 | 10, _ => exact bad_plain (w := [108, 111, 97, 100]) (l := [[114, 49], [57]]) (by decide) (by decide) (by decide +kernel) (by decide) r n
theorem bad_shape (j : Nat) : (badL j).1.length <= 20 /\ (10 : UInt8) ∉ (badL j).1 /\ (badL j).2 ≠ 0 := by
 unfold badL
 split <;> decide
def jumpL : Tx := [106, 117, 109, 112, 32, 110, 97, 109, 101, 95, 116, 104, 97, 116, 95, 105, 115, 95, 110, 111, 116, 95, 116, 104, 101, 114, 101]
def jumpN : Tx := [110, 97, 109, 101, 95, 116, 104, 97, 116, 95, 105, 115, 95, 110, 111, 116, 95, 116, 104, 101, 114, 101]
def twL : Tx := [116, 119, 105, 99, 101, 58, 32, 104, 97, 108, 116]
def twN : Tx := [116, 119, 105, 99, 101]
def laL : Tx := [108, 97, 115, 116, 58, 59, 120]
def laN : Tx := [108, 97, 115, 116]
theorem join_len (c : UInt8) : ∀ (ws : List Tx), (joinC c ws).length + 1 = (ws.map (fun w => w.length + 1)).sum + if ws = [] then 1 else 0
 | [] => rfl
 | [x] => by simp [joinC]
 | x :: y :: r => by
   have := join_len c (y :: r)
   rw [if_neg (by simp)] at this ⊢
   rw [joinC, List.length_append, List.length_cons, List.map_cons, List.sum_cons];omega
theorem join_ins {c : UInt8} (ws : List Tx) (k : Nat) (x : Tx) : (joinC c (ws.take k ++ [x] ++ ws.drop k)).length <= (joinC c ws).length + x.length + 1 := by
 have h1 := join_len c ws;have h2 := join_len c (ws.take k ++ [x] ++ ws.drop k)
 rw [if_neg (by simp)] at h2
 simp only [List.map_append, List.sum_append, List.map_cons, List.map_nil, List.sum_cons, List.sum_nil] at h2
 have h3 : (ws.map (fun w => w.length + 1)).sum = ((ws.take k).map (fun w => w.length + 1)).sum + ((ws.drop k).map (fun w => w.length + 1)).sum := by
  rw [<- List.sum_append, <- List.map_append, List.take_append_drop]
 omega
section
variable {p : List Ins} (ho : ∀ i ∈ p, okI i) (h : (checkL p).2 = 0) (h41 : p.length <= 41)
include ho h h41
theorem text_len : (joinC 10 (outLines p p 0)).length <= 6000 /\ outLines p p 0 ≠ [] /\ (∀ x ∈ outLines p p 0, (10 : UInt8) ∉ x) /\ outGo p p 0 = joinC 10 (outLines p p 0) ++ [10] := by
 obtain ⟨c1, c2, c3, c4⟩ := check_len h;have hck := checkGo_ok _ _ _ c3;have hall : ∀ i ∈ p, okI i /\ oneE i = 0 := fun i hi => ⟨ho i hi, (hck i hi).1⟩;have hj := out_join hall c1
 have hl := out_len p p 0 ho (by omega)
 rw [hj, List.length_append] at hl;simp only [List.length_cons, List.length_nil] at hl
 exact ⟨by omega, out_ne c1, out_no10 hall, hj⟩
theorem cut_lines (k : Nat) : ∃ r1, linesA ((outLines p p 0).take k) 1 ⟨[], []⟩ = (0, 0, r1) /\ (∀ s : Tx, noLab s = true -> hasMk r1.ms s = false) := by
 have _ := h41;obtain ⟨r, g1, g2, g3, g4, g5⟩ := lines_full ho h
 have hp := lines_pre ((outLines p p 0).take k) ((outLines p p 0).drop k) 1 ⟨[], []⟩ (by rw [List.take_append_drop, g1])
 have e := lines_ok _ _ _ hp;refine ⟨_, e, fun s hs => ?_⟩;have h2 := lines_app _ ((outLines p p 0).drop k) _ _ hp;rw [List.take_append_drop, g1] at h2
 obtain ⟨_, _, m1, m2, s1, s2, a3, a4, a5⟩ := lines_sim ((outLines p p 0).drop k) (r := (linesA ((outLines p p 0).take k) 1 ⟨[], []⟩).2.2) (q := (linesA ((outLines p p 0).take k) 1 ⟨[], []⟩).2.2) (1 + ((outLines p p 0).take k).length) (1 + ((outLines p p 0).take k).length) rfl (by rw [<- h2])
 have := g3 s hs;rw [<- h2] at a3
 simp only at a3
 rw [a3] at this;simp only [hasMk, List.any_append, Bool.or_eq_false_iff] at this;exact this.1
theorem wrong1 (k j : Nat) (hk : k <= (outLines p p 0).length) (hj : j < 11) : parseA (joinC 10 ((outLines p p 0).take k ++ [(badL j).1] ++ (outLines p p 0).drop k) ++ [10, 102, 111, 111]) = ([], (k : Int) + 1, (badL j).2) := by
 obtain ⟨t1, t2, t3, t4⟩ := text_len ho h h41;obtain ⟨b1, b2, b3⟩ := bad_shape j;obtain ⟨r1, g1, g2⟩ := cut_lines ho h h41 k
 have e0 : joinC 10 ((outLines p p 0).take k ++ [(badL j).1] ++ (outLines p p 0).drop k) ++ [10, 102, 111, 111] = joinC 10 ((outLines p p 0).take k ++ (badL j).1 :: ((outLines p p 0).drop k ++ [[102, 111, 111]])) := by
  rw [show (outLines p p 0).take k ++ (badL j).1 :: ((outLines p p 0).drop k ++ [[102, 111, 111]]) = ((outLines p p 0).take k ++ [(badL j).1] ++ (outLines p p 0).drop k) ++ [[102, 111, 111]] by simp, join_app 10 (ws := (outLines p p 0).take k ++ [(badL j).1] ++ (outLines p p 0).drop k) (vs := [[102, 111, 111]]) (by simp) (by simp)]
  rfl
 have hl := join_ins (c := 10) (outLines p p 0) k (badL j).1
 have h2 := bad_line j hj r1 (1 + ((outLines p p 0).take k).length) (g2 _ (by decide))
 obtain ⟨q, hq⟩ := lines_err (l2 := (outLines p p 0).drop k ++ [[102, 111, 111]]) g1 b3 h2
 rw [e0, parse_bad (by simp) ?_ ?_ b3 hq, List.length_take, Nat.min_eq_left hk, Int.add_comm]
 · intro x hx
   simp only [List.mem_append, List.mem_cons, List.not_mem_nil, or_false] at hx
   rcases hx with hx | rfl | hx | rfl
   · exact t3 x (List.mem_of_mem_take hx)
   · exact b2
   · exact t3 x (List.mem_of_mem_drop hx)
   · decide
 · rw [<- e0, List.length_append]
   simp only [List.length_cons, List.length_nil];omega
theorem wrong2 (k : Nat) (hk : k <= (outLines p p 0).length) : parseA (joinC 10 ((outLines p p 0).take k ++ [jumpL] ++ (outLines p p 0).drop k)) = ([], (k : Int) + 1, 155) := by
 obtain ⟨t1, t2, t3, t4⟩ := text_len ho h h41;obtain ⟨r, f1, f2, f3, f4, f5⟩ := lines_full ho h
 have hp := lines_pre ((outLines p p 0).take k) ((outLines p p 0).drop k) 1 ⟨[], []⟩ (by rw [List.take_append_drop, f1])
 have e := lines_ok _ _ _ hp;have h2 := lines_app _ ((outLines p p 0).drop k) _ _ hp;rw [List.take_append_drop, f1] at h2;obtain ⟨r1, hr1⟩ : ∃ r1, r1 = (linesA ((outLines p p 0).take k) 1 ⟨[], []⟩).2.2 := ⟨_, rfl⟩;rw [<- hr1] at e h2
 have hkl : ((outLines p p 0).take k).length = k := by rw [List.length_take]; omega
 rw [hkl] at h2
 have hline : ∃ src, lineA r1 jumpL (1 + k) = (0, ⟨r1.ms, r1.ss ++ [src]⟩) /\ src.target = jumpN /\ src.line = 1 + (k : Int) := by
  have hpz : piecesT jumpL = [[106, 117, 109, 112], jumpN] := by decide
  have hl : labT [106, 117, 109, 112] = none := by decide
  have hi : (instrA [[106, 117, 109, 112], jumpN] 0).1 = 0 /\ (instrA [[106, 117, 109, 112], jumpN] 0).2.target = jumpN := by decide +kernel
  obtain ⟨i1, i2, i3⟩ := instr_err [[106, 117, 109, 112], jumpN] (1 + k) 0
  refine ⟨(instrA [[106, 117, 109, 112], jumpN] (1 + k)).2, ?_, by rw [i2, hi.2], i3⟩
  rw [lineA, hpz];simp only [hl]
  rw [putI, if_pos (by rw [i1, hi.1])]
  intro hh; cases hh
 obtain ⟨src, hs1, hs2, hs3⟩ := hline
 obtain ⟨b1, b2, m1, m2, s1, s2, a3, a4, a5⟩ := lines_sim ((outLines p p 0).drop k) (r := r1) (q := ⟨r1.ms, r1.ss ++ [src]⟩) (1 + k) (1 + k + 1) rfl (by rw [<- h2])
 rw [<- h2] at b2 a3
 simp only at b2 a3
 obtain ⟨q, hq⟩ : ∃ q, q = (linesA ((outLines p p 0).drop k) (1 + k + 1) ⟨r1.ms, r1.ss ++ [src]⟩).2.2 := ⟨_, rfl⟩;have hok := lines_ok _ _ _ b1;rw [<- hq] at b2 a4 hok
 have hfull : linesA ((outLines p p 0).take k ++ jumpL :: (outLines p p 0).drop k) 1 ⟨[], []⟩ = (0, 0, q) := by
  rw [lines_app _ _ _ _ hp, <- hr1, hkl, linesA, hs1, if_neg (by simp)]
  exact hok
 have hlost : ∀ x : Src, lostB q.ms x = lostB r.ms x := fun x => by rw [lostB, lostB, b2.has]
 have hend : endA q = (1 + (k : Int), 155) := by
  have hsl := congrArg List.length a5;simp only [List.length_map] at hsl;have hrl := congrArg (fun z : Rd => z.ss.length) a3;simp only [List.length_append] at hrl
  have hql : q.ss.length <= 256 := by rw [a4]; simp only [List.length_append, List.length_cons, List.length_nil]; omega
  have hno : q.ss.find? (lostB q.ms) = some src := by
   rw [a4];simp only [List.append_assoc]
   have hn1 : r1.ss.find? (lostB q.ms) = none := List.find?_eq_none.2 fun x hx => by
    rw [hlost];refine List.find?_eq_none.1 f4 x ?_
    rw [a3]; simp [hx]
   rw [a4] at hn1;rw [List.find?_append, hn1, Option.none_or, List.singleton_append, List.find?_cons]
   have : lostB q.ms src = true := by
    rw [hlost, lostB, hs2, f3 jumpN (by decide)]; rfl
   rw [a4] at this;rw [this]
  rw [endA, if_neg (by omega), hno]
  simp only [hs3]
 have hl := join_ins (c := 10) (outLines p p 0) k jumpL;have hjl : jumpL.length = 27 := rfl
 rw [show (outLines p p 0).take k ++ [jumpL] ++ (outLines p p 0).drop k = (outLines p p 0).take k ++ jumpL :: (outLines p p 0).drop k by simp] at hl ⊢
 rw [parse_end (by simp) ?_ (by omega) (by decide) hfull hend, Int.add_comm]
 intro x hx;simp only [List.mem_append, List.mem_cons] at hx
 rcases hx with hx | rfl | hx
 · exact t3 x (List.mem_of_mem_take hx)
 · decide
 · exact t3 x (List.mem_of_mem_drop hx)
theorem wrong3 : parseA (outGo p p 0 ++ [116, 119, 105, 99, 101, 58, 32, 104, 97, 108, 116, 10, 116, 119, 105, 99, 101, 58, 32, 104, 97, 108, 116]) = ([], ((outLines p p 0).length : Int) + 2, 154) := by
 obtain ⟨t1, t2, t3, t4⟩ := text_len ho h h41;obtain ⟨r, f1, f2, f3, f4, f5⟩ := lines_full ho h
 have e0 : outGo p p 0 ++ [116, 119, 105, 99, 101, 58, 32, 104, 97, 108, 116, 10, 116, 119, 105, 99, 101, 58, 32, 104, 97, 108, 116] = joinC 10 (outLines p p 0 ++ [twL, twL]) := by
  rw [t4, join_app 10 t2 (by simp)]
  simp [joinC, twL]
 have hpz : piecesT twL = [[116, 119, 105, 99, 101, 58], [104, 97, 108, 116]] := by decide
 have hl : labT [116, 119, 105, 99, 101, 58] = some twN := by decide
 have hi : (instrA [[104, 97, 108, 116]] 0).1 = 0 := by decide +kernel
 have hi2 : ∀ n, (instrA [[104, 97, 108, 116]] n).1 = 0 := fun n => by rw [(instr_err _ n 0).1]; exact hi
 have l1 : lineA r twL (1 + (outLines p p 0).length) = (0, ⟨r.ms ++ [⟨twN, (r.ss.length : Int), 1 + (outLines p p 0).length⟩], r.ss ++ [(instrA [[104, 97, 108, 116]] (1 + (outLines p p 0).length)).2]⟩) := by
  have el : labelA r twN (1 + (outLines p p 0).length) = (0, ⟨r.ms ++ [⟨twN, (r.ss.length : Int), 1 + (outLines p p 0).length⟩], r.ss⟩) := by rw [labelA, if_neg (by decide), if_neg (by rw [f3 twN (by decide)]; simp)]
  rw [lineA, hpz];simp only [hl]
  rw [el, if_neg (by simp), putI, if_pos (hi2 _)]
  intro hh; cases hh
 have hq : ∃ q, linesA (outLines p p 0 ++ [twL, twL]) 1 ⟨[], []⟩ = (154, ((outLines p p 0).length : Int) + 2, q) := by
  rw [lines_app _ _ _ _ (by rw [f1]), f1]
  simp only
  rw [linesA, l1, if_neg (by simp)]
  simp only
  have el : ∀ q : Rd, hasMk q.ms twN = true -> ∀ n, (lineA q twL n).1 = 154 := fun q hq n => by
   have e : labelA q twN n = (154, q) := by rw [labelA, if_neg (by decide), if_pos hq]
   rw [lineA, hpz];simp only [hl]
   rw [e, if_pos (by simp)]
  have hm := el ⟨r.ms ++ [⟨twN, (r.ss.length : Int), 1 + (outLines p p 0).length⟩], r.ss ++ [(instrA [[104, 97, 108, 116]] (1 + (outLines p p 0).length)).2]⟩ (by simp [hasMk]) (1 + (outLines p p 0).length + 1)
  rw [linesA, if_pos (by rw [hm]; decide), hm]
  exact ⟨_, by rw [show (1 + ((outLines p p 0).length : Int) + 1) = (outLines p p 0).length + 2 by omega]⟩
 obtain ⟨q, hq⟩ := hq
 rw [e0, parse_bad (by simp) ?_ ?_ (by decide) hq]
 · intro x hx
   simp only [List.mem_append, List.mem_cons, List.not_mem_nil, or_false] at hx
   rcases hx with hx | rfl | rfl
   · exact t3 x hx
   · decide
   · decide
 · rw [<- e0, t4]
   simp only [List.length_append, List.length_cons, List.length_nil];omega
theorem wrong4 : parseA (outGo p p 0 ++ [108, 97, 115, 116, 58, 59, 120, 10, 10]) = ([], ((outLines p p 0).length : Int) + 1, 156) := by
 obtain ⟨t1, t2, t3, t4⟩ := text_len ho h h41;obtain ⟨r, f1, f2, f3, f4, f5⟩ := lines_full ho h
 have e0 : outGo p p 0 ++ [108, 97, 115, 116, 58, 59, 120, 10, 10] = joinC 10 (outLines p p 0 ++ [laL, [], []]) := by
  rw [t4, join_app 10 t2 (by simp)]
  simp [joinC, laL]
 have hpz : piecesT laL = [[108, 97, 115, 116, 58]] := by decide
 have hl : labT [108, 97, 115, 116, 58] = some laN := by decide
 obtain ⟨q, hq⟩ : ∃ q : Rd, q = ⟨r.ms ++ [⟨laN, (r.ss.length : Int), 1 + (outLines p p 0).length⟩], r.ss⟩ := ⟨_, rfl⟩
 have l1 : lineA r laL (1 + (outLines p p 0).length) = (0, q) := by
  have el : labelA r laN (1 + (outLines p p 0).length) = (0, q) := by rw [hq, labelA, if_neg (by decide), if_neg (by rw [f3 laN (by decide)]; simp)]
  rw [lineA, hpz];simp only [hl]
  rw [el, if_neg (by simp), putI]
 have hfull : linesA (outLines p p 0 ++ [laL, [], []]) 1 ⟨[], []⟩ = (0, 0, q) := by
  rw [lines_app _ _ _ _ (by rw [f1]), f1]
  simp only
  rw [linesA, l1, if_neg (by simp)]
  simp only
  rw [linesA, line_nil, if_neg (by simp), linesA, line_nil, if_neg (by simp)]
  rfl
 have hend : endA q = (((outLines p p 0).length : Int) + 1, 156) := by
  have hn : q.ss.find? (lostB q.ms) = none := List.find?_eq_none.2 fun x hx => by
   rw [hq] at hx ⊢;have := List.find?_eq_none.1 f4 x hx;rw [lostB] at this ⊢;simp only [Bool.and_eq_true, Bool.not_eq_true', not_and, Bool.not_eq_false, hasMk, List.any_append] at this ⊢;intro hh
   rw [this hh]; rfl
  have hm : q.ms.find? (fun m => decide (m.at_ = (q.ss.length : Int))) = some ⟨laN, (r.ss.length : Int), 1 + (outLines p p 0).length⟩ := by
   rw [hq]
   simp only
   rw [List.find?_append, f5, Option.none_or, List.find?_cons]
   simp
  rw [endA, if_neg (by rw [hq]; simp only; omega), hn]
  simp only
  rw [hm];simp only [Prod.mk.injEq, and_true];omega
 rw [e0, parse_end (by simp) ?_ ?_ (by decide) hfull hend]
 · intro x hx
   simp only [List.mem_append, List.mem_cons, List.not_mem_nil, or_false] at hx
   rcases hx with hx | rfl | rfl | rfl
   · exact t3 x hx
   · decide
   · decide
   · decide
 · rw [<- e0, t4]
   simp only [List.length_append, List.length_cons, List.length_nil];omega
end
set_option maxHeartbeats 4000000
theorem bad_at : ∀ j, j < 11 -> ([SV.v (.string ⟨#[49, 120, 58, 32, 104, 97, 108, 116]⟩), .v (.string ⟨#[58, 32, 104, 97, 108, 116]⟩), .v (.string ⟨#[120, 58, 32, 120, 58, 32, 104, 97, 108, 116]⟩), .v (.string ⟨#[104, 97, 108, 116, 115]⟩), .v (.string ⟨#[104, 97, 108, 116, 32, 114, 49]⟩), .v (.string ⟨#[97, 100, 100, 32, 114, 49, 32, 114, 50]⟩), .v (.string ⟨#[115, 101, 116, 32, 114, 49, 32, 49, 46, 53]⟩), .v (.string ⟨#[115, 101, 110, 100, 32, 114, 49, 32, 114, 50, 32, 49, 54]⟩), .v (.string ⟨#[106, 117, 109, 112, 32, 114, 49, 32, 120]⟩), .v (.string ⟨#[106, 122, 32, 114, 49, 32, 88]⟩), .v (.string ⟨#[108, 111, 97, 100, 32, 114, 49, 32, 57]⟩)][j]?.bind fun x => match x with | .v x => some x | _ => none) = some (.string (strT (badL j).1)) /\
 ([SV.v (.int .i64 153), .v (.int .i64 153), .v (.int .i64 150), .v (.int .i64 150), .v (.int .i64 151), .v (.int .i64 151), .v (.int .i64 152), .v (.int .i64 152), .v (.int .i64 151), .v (.int .i64 153), .v (.int .i64 152)][j]?.bind fun x => match x with | .v x => some x | _ => none) = some (.int .i64 (badL j).2)
 | 0, _ => ⟨rfl, rfl⟩
 | 1, _ => ⟨rfl, rfl⟩
 | 2, _ => ⟨rfl, rfl⟩
 | 3, _ => ⟨rfl, rfl⟩
 | 4, _ => ⟨rfl, rfl⟩
 | 5, _ => ⟨rfl, rfl⟩
 | 6, _ => ⟨rfl, rfl⟩
 | 7, _ => ⟨rfl, rfl⟩
 | 8, _ => ⟨rfl, rfl⟩
 | 9, _ => ⟨rfl, rfl⟩
 | 10, _ => ⟨rfl, rfl⟩
theorem len_sum : ∀ O : List Tx, O.length <= (O.map (fun w => w.length + 1)).sum
 | [] => Nat.le_refl _
 | a :: r => by
   have := len_sum r
   simp only [List.length_cons, List.map_cons, List.sum_cons]; omega
theorem strs_ins (L : List ByteArray) (k : Nat) (q : ByteArray) : (strs L).take k ++ [.string q] ++ (strs L).drop k = strs (L.take k ++ [q] ++ L.drop k) := by simp [strs, List.map_take, List.map_drop]
theorem ct4 (l : List Sm) (a : Option Addr) (n c : Nat) (hc : n <= c) (way at_ : Int) (hw : 0 <= way /\ way <= 255) (ht : 0 <= at_ /\ at_ <= 255) (I : Mem) (hG : Globs I) (h : SmM I a n l) : Ct Tryz.prog (fnv 4) #[.slice a n c, .int .u8 way, .int .u8 at_] I (fun v _ => v = .bool true) := by
 refine viaR (ct_via (A := { calls := [(56, .g), (60, .hg), (61, .g), (69, .g), (72, .hg), (73, .g)] }) Tryz.func4 rfl Tryz.call4 rfl rfl) (Ct Tryz.prog (fnv 11) #[] I fun v b => ∃ d, v = .bool d /\ Br (!d) (Value.bool false = .bool true) (Ct Tryz.prog (fnv 13) #[.slice a n c] b (fun e f => ∃ g i j, e = .slice g i j /\ Ct Tryz.prog (fnv 12) #[.slice g i j] f fun k m => ∃ q o, k = .tuple #[.string q, .int .i64 o] /\ Br (o != 0) (Value.bool false = .bool true) (Ct Tryz.prog (fnv 15) #[.string q, .string ⟨#[10]⟩] m (fun p r => ∃ s, p = .string s /\ Ct Tryz.prog (fnv 14) #[.string s, .string ⟨#[10]⟩] r fun t u => ∃ w x y, t = .slice w x y /\ Wr .i64 at_ fun z => Wr .i64 ((x : Int) + 1) fun c1 => c1 ≠ 0 /\ (11 : Int) ≠ 0 /\ 0 <= way.tmod 11 /\ way.tmod 11 < 11 /\ ∃ q1, [SV.v (.string ⟨#[49, 120, 58, 32, 104, 97, 108, 116]⟩), .v (.string ⟨#[58, 32, 104, 97, 108, 116]⟩), .v (.string ⟨#[120, 58, 32, 120, 58, 32, 104, 97, 108, 116]⟩), .v (.string ⟨#[104, 97, 108, 116, 115]⟩), .v (.string ⟨#[104, 97, 108, 116, 32, 114, 49]⟩), .v (.string ⟨#[97, 100, 100, 32, 114, 49, 32, 114, 50]⟩), .v (.string ⟨#[115, 101, 116, 32, 114, 49, 32, 49, 46, 53]⟩), .v (.string ⟨#[115, 101, 110, 100, 32, 114, 49, 32, 114, 50, 32, 49, 54]⟩), .v (.string ⟨#[106, 117, 109, 112, 32, 114, 49, 32, 120]⟩), .v (.string ⟨#[106, 122, 32, 114, 49, 32, 88]⟩), .v (.string ⟨#[108, 111, 97, 100, 32, 114, 49, 32, 57]⟩)][0 + (way.tmod 11).toNat * 1 + 0]?.bind (fun (x1 : SV) => (match x1 with
  | SV.v x => some x
  | x => none)) = some (.string q1) /\ (11 : Int) ≠ 0 /\ 0 <= way.tmod 11 /\ way.tmod 11 < 11 /\ ∃ n1, [SV.v (.int .i64 153), .v (.int .i64 153), .v (.int .i64 150), .v (.int .i64 150), .v (.int .i64 151), .v (.int .i64 151), .v (.int .i64 152), .v (.int .i64 152), .v (.int .i64 151), .v (.int .i64 153), .v (.int .i64 152)][0 + (way.tmod 11).toNat * 1 + 0]?.bind (fun (x1 : SV) => (match x1 with
  | SV.v x => some x
  | x => none)) = some (.int .i64 n1) /\ CtH Tryz.prog (fnv 19) #[.slice w x y] u Mem.emp fun v1 I1 G => ∃ a1 n2 c2, v1 = .slice a1 n2 c2 /\ ∀ (b1 : Nat) (I2 : Mem), I1.le I2 -> I2 b1 = some (.cells #[.string q1] 9 (0, 0)) -> CtH Tryz.prog (fnv 18) #[.slice a1 n2 c2, .int .i64 (z.tmod c1), .slice (some ⟨b1, 0, none⟩) 1 1] I2 G fun v2 I3 G1 => ∃ a2 n3 c3, v2 = .slice a2 n3 c3 /\ CtH Tryz.prog (fnv 17) #[.slice a2 n3 c3, .string ⟨#[10]⟩] I3 G1 fun v3 I4 G2 => ∃ q2, v3 = .string q2 /\ q2.size + 4 <= 4611686018427387904 /\ Ct Tryz.prog (fnv 16) #[.string (q2 ++ ⟨#[10, 102, 111, 111]⟩)] I4 fun v4 I5 => ∃ a3 n4 c4 n5 n6, v4 = .tuple #[.slice a3 n4 c4, .int .i64 n5, .int .i64 n6] /\ CtH Tryz.prog (fnv 19) #[.slice w x y] I5 G2 fun v5 I6 G3 => ∃ a4 n7 c5, v5 = .slice a4 n7 c5 /\ ∀ (b2 : Nat) (I7 : Mem), I6.le I7 -> I7 b2 = some (.cells #[.string ⟨#[106, 117, 109, 112, 32, 110, 97, 109, 101, 95, 116, 104, 97, 116, 95, 105, 115, 95, 110, 111, 116, 95, 116, 104, 101, 114, 101]⟩] 9 (0, 0)) -> CtH Tryz.prog (fnv 18) #[.slice a4 n7 c5, .int .i64 (z.tmod c1), .slice (some ⟨b2, 0, none⟩) 1 1] I7 G3 fun v6 I8 G4 => ∃ a5 n8 c6, v6 = .slice a5 n8 c6 /\ CtH Tryz.prog (fnv 17) #[.slice a5 n8 c6, .string ⟨#[10]⟩] I8 G4 fun v7 I9 G5 => ∃ q3, v7 = .string q3 /\ Ct Tryz.prog (fnv 16) #[.string q3] I9 fun v8 I10 => ∃ a6 n9 c7 n10 n11, v8 = .tuple #[.slice a6 n9 c7, .int .i64 n10, .int .i64 n11] /\ q.size + 23 <= 4611686018427387904 /\ Ct Tryz.prog (fnv 16) #[.string (q ++ ⟨#[116, 119, 105, 99, 101, 58, 32, 104, 97, 108, 116, 10, 116, 119, 105, 99, 101, 58, 32, 104, 97, 108, 116]⟩)] I10 fun v9 I11 => ∃ a7 n12 c8 n13 n14, v9 = .tuple #[.slice a7 n12 c8, .int .i64 n13, .int .i64 n14] /\ q.size + 9 <= 4611686018427387904 /\ Ct Tryz.prog (fnv 16) #[.string (q ++ ⟨#[108, 97, 115, 116, 58, 59, 120, 10, 10]⟩)] I11 fun v10 I12 => ∃ a8 n15 c9 n16 n17, v10 = .tuple #[.slice a8 n15 c9, .int .i64 n16, .int .i64 n17] /\ Wr .i64 ((n4 : Int) + (n9 : Int)) fun c10 => Wr .i64 (c10 + (n12 : Int)) fun c11 => Wr .i64 (c11 + (n15 : Int)) fun c12 => Br (c12 == 0) (Wr .i64 (z.tmod c1 + 1) (fun c13 => Br (n5 == c13) (Br (n6 == n1) (Wr .i64 (z.tmod c1 + 1) (fun c14 => Br (n10 == c14) (Br (n11 == 155) (Wr .i64 ((x : Int) + 2) (fun c15 => Br (n13 == c15) (Br (n14 == 154) (Wr .i64 ((x : Int) + 1) (fun c16 => Br (n16 == c16) (Value.bool (n17 == 156) = .bool true) (Value.bool false = .bool true))) (Value.bool false = .bool true)) (Value.bool false = .bool true))) (Value.bool false = .bool true)) (Value.bool false = .bool true))) (Value.bool false = .bool true)) (Value.bool false = .bool true))) (Value.bool false = .bool true)))))) (by kernel_rfl) ?_
 refine (ct11 I hG).mono fun v I1 l1 hv => ⟨_, hv, Br.f rfl ((ct13 l a n c hc I1 (SlR.mono smC_mono h l1)).mono fun v I2 l2 ⟨g, i, j, hv, hip, hio, _⟩ => ⟨g, i, j, hv, ?_⟩)⟩;have okp := hip.ok;have cp := made_right h.ok okp
 have hml : (madeS l).length <= 41 := by rw [madeS, List.length_append, List.length_map, List.length_take]; simp only [List.length_cons, List.length_nil]; omega
 obtain ⟨p, hp⟩ : ∃ p, p = madeS l := ⟨_, rfl⟩;rw [<- hp] at okp cp hip hml
 have cp2 : (checkL p).2 = 0 := by rw [cp]
 have wp : writeA p = (outGo p p 0, 0) := by rw [writeA, if_neg (fun hh => hh cp2)]
 obtain ⟨t1, t2, t3, t4⟩ := text_len okp cp2 hml;have hG2 := hG.mono (Mem.le_trans l1 l2);refine (ct12 p g i j I2 hG2 hip).mono fun v I3 l3 hv => ⟨_, _, hv, ?_⟩;rw [wp]
 dsimp only
 obtain ⟨O, hO⟩ : ∃ O, O = outLines p p 0 := ⟨_, rfl⟩;have w1 := fun k j => wrong1 okp cp2 hml k j;have w2 := fun k => wrong2 okp cp2 hml k;have w3 := wrong3 okp cp2 hml;have w4 := wrong4 okp cp2 hml;rw [<- hO] at t1 t2 t3 t4 w1 w2 w3 w4;have hG3 := hG2.mono l3
 have hts : (strT (outGo p p 0)).size <= 6001 := by rw [strT_size, t4, List.length_append]; simp only [List.length_cons, List.length_nil]; omega
 refine Br.f rfl ((ct15 _ (by omega) I3).mono fun v I4 l4 hv => ⟨_, hv, ?_⟩)
 rw [tx_strT, t4, trim_nl]
 have hjs : (strT (joinC 10 O)).size <= 6000 := by rw [strT_size]; exact t1
 refine (ct14 _ (by omega) I4 (hG3.mono l4)).mono fun v I5 l5 ⟨L, w, x, hv, hL, hsl⟩ => ⟨w, x, x, hv, ?_⟩
 rw [tx_strT, split_join t2 t3] at hL
 have hxl : O.length = x := by
  have h1 := hsl.len;have h2 := congrArg List.length hL;simp only [strs, List.length_map] at h1 h2;omega
 have hx0 : 0 < x := by
  rw [<- hxl];exact List.length_pos_iff.2 t2
 have hj2 := join_len 10 O
 have hx6 : x <= 6002 := by
  have := len_sum O;rw [if_neg t2] at hj2;omega
 have hG5 := hG3.mono (Mem.le_trans l4 l5)
 obtain ⟨jn, hjn⟩ : ∃ jn : Nat, way.tmod 11 = jn := ⟨(way.tmod 11).toNat, by have : way.tmod 11 = way % 11 := Int.tmod_eq_emod_of_nonneg hw.1; omega⟩
 have hjl : jn < 11 := by have : way.tmod 11 = way % 11 := Int.tmod_eq_emod_of_nonneg hw.1; omega
 obtain ⟨kn, hkn⟩ : ∃ kn : Nat, at_.tmod ((x : Int) + 1) = kn := ⟨(at_.tmod ((x : Int) + 1)).toNat, by
  have : at_.tmod ((x : Int) + 1) = at_ % ((x : Int) + 1) := Int.tmod_eq_emod_of_nonneg ht.1
  have := Int.emod_nonneg at_ (b := (x : Int) + 1) (by omega)
  omega⟩
 have hkl : kn <= x := by
  have : at_.tmod ((x : Int) + 1) = at_ % ((x : Int) + 1) := Int.tmod_eq_emod_of_nonneg ht.1
  have := Int.emod_lt_of_pos at_ (b := (x : Int) + 1) (by omega)
  omega
 obtain ⟨b1, b2⟩ := bad_at jn hjl;obtain ⟨s1, s2, s3⟩ := bad_shape jn
 have hidx : 0 + (way.tmod 11).toNat * 1 + 0 = jn := by rw [hjn]; simp
 refine wr_i64 (by omega) (by omega) (wr_i64 (by omega) (by omega) ?_)
 rw [hidx, hkn]
 refine ⟨by omega, by omega, by omega, by omega, _, b1, by omega, by omega, by omega, _, b2, ?_⟩
 obtain ⟨q1, hq1⟩ : ∃ q, q = strT (badL jn).1 := ⟨_, rfl⟩
 have hq1t : tx q1 = (badL jn).1 := by rw [hq1, tx_strT]
 rw [<- hq1]
 clear b1 b2 hidx
 have hkt : ((kn : Int)).toNat = kn := by omega
 have texts : ∀ q : ByteArray, (L.take kn ++ [q] ++ L.drop kn).map tx = O.take kn ++ [tx q] ++ O.drop kn := fun q => by simp [hL.symm, List.map_take, List.map_drop]
 have insLen : ∀ q : ByteArray, (tx q).length <= 100 -> (joinC 10 ((L.take kn ++ [q] ++ L.drop kn).map tx)).length <= 6101 := fun q hq => by
  rw [texts];have := join_ins (c := 10) O kn (tx q);omega
 refine (ct_own (ct19 L w x x I5 hsl (by omega) hx0)).mono ?_
 rintro v I6 G6 _ ⟨rfl, J6, lJ6, ⟨a6, c6, hv, g1, g2, g3, g4, g5⟩, hG6⟩
 refine ⟨a6, x, c6, hv, fun v7 I7 l7 hb7 => (ct18 (strs L) [.string q1] a6 v7 x c6 1 1 kn _ I7 G6 g2 g3 ⟨by omega, by omega⟩ (by rw [hG6]; exact g4.own) (by rw [hG6]; exact g4.sl (by omega) g1) hb7 (sl_cells (n := 1) (sz := 1) hb7 rfl (by decide)) (by omega) (by omega) g5 (fun v hv => by
  rcases List.mem_append.1 hv with hv | hv
  · obtain ⟨s, _, rfl⟩ := List.mem_map.1 hv; rfl
  · rw [List.mem_singleton.1 hv]; rfl)).mono fun v I8 G8 l8 ⟨a8, c8, hv, k1, k2, k3⟩ => ⟨a8, _, c8, hv, ?_⟩⟩
 rw [hkt, strs_ins] at k1
 refine (ct_both fun hap => ct17c 10 _ a8 (x + 1) c8 (both I8 G8) (sl_both hap k1) k2 (by have := insLen q1 (by rw [hq1t]; omega); omega) (by omega)).mono ?_
 rintro v I9 G9 _ ⟨rfl, rfl, _, hv⟩;rw [texts, hq1t] at hv
 have il1 := insLen q1 (by rw [hq1t]; omega)
 rw [texts, hq1t] at il1;have hG9 := hG5.mono (Mem.le_trans l7 l8)
 refine ⟨_, hv, by rw [strT_size]; omega, (ct16 _ (by rw [ByteArray.size_append, strT_size, lit_size]; simp only [List.length_cons, List.length_nil]; omega) _ hG9).mono fun v I10 l10 hv => ?_⟩
 rw [show tx (strT (joinC 10 (O.take kn ++ [(badL jn).1] ++ O.drop kn)) ++ ⟨#[10, 102, 111, 111]⟩) = joinC 10 (O.take kn ++ [(badL jn).1] ++ O.drop kn) ++ [10, 102, 111, 111] by simp [tx, strT], w1 kn jn (by omega) hjl] at hv
 obtain ⟨a10, n10, c10, hv, hi10, _, _⟩ := hv;have hz10 := hi10.len;simp only [List.length_nil] at hz10;refine ⟨a10, n10, c10, _, _, hv, ?_⟩;have hsl2 := hsl.mono (Mem.le_trans l7 (Mem.le_trans l8 l10))
 refine (ct_own (ct19 L w x x I10 hsl2 (by omega) hx0)).mono ?_
 rintro v I11 G11 _ ⟨rfl, J11, lJ11, ⟨a11, c11, hv, g1, g2, g3, g4, g5⟩, hG11⟩
 refine ⟨a11, x, c11, hv, fun v12 I12 l12 hb12 => (ct18 (strs L) [.string (strT jumpL)] a11 v12 x c11 1 1 kn _ I12 G11 g2 g3 ⟨by omega, by omega⟩ (by rw [hG11]; exact g4.own) (by rw [hG11]; exact g4.sl (by omega) g1) hb12 (sl_cells (n := 1) (sz := 1) hb12 rfl (by decide)) (by omega) (by omega) g5 (fun v hv => by
  rcases List.mem_append.1 hv with hv | hv
  · obtain ⟨s, _, rfl⟩ := List.mem_map.1 hv; rfl
  · rw [List.mem_singleton.1 hv]; rfl)).mono fun v I13 G13 l13 ⟨a13, c13, hv, k1, k2, k3⟩ => ⟨a13, _, c13, hv, ?_⟩⟩
 rw [hkt, strs_ins] at k1
 have il2 := insLen (strT jumpL) (by rw [tx_strT]; decide)
 refine (ct_both fun hap => ct17c 10 _ a13 (x + 1) c13 (both I13 G13) (sl_both hap k1) k2 (by omega) (by omega)).mono ?_
 rintro v I14 G14 _ ⟨rfl, rfl, _, hv⟩;rw [texts, tx_strT] at hv il2;have hG14 := hG9.mono (Mem.le_trans l10 (Mem.le_trans l12 l13))
 refine ⟨_, hv, (ct16 _ (by rw [strT_size]; omega) _ hG14).mono fun v I15 l15 hv => ?_⟩
 rw [tx_strT, w2 kn (by omega)] at hv
 obtain ⟨a15, n15, c15, hv, hi15, _, _⟩ := hv;have hz15 := hi15.len;simp only [List.length_nil] at hz15
 have hos : (strT (joinC 10 O ++ [10])).size = (joinC 10 O).length + 1 := by rw [strT_size, List.length_append]; rfl
 refine ⟨a15, n15, c15, _, _, hv, by omega, (ct16 _ (by rw [ByteArray.size_append, hos, lit_size]; simp only [List.length_cons, List.length_nil]; omega) _ (hG14.mono l15)).mono fun v I16 l16 hv => ?_⟩
 rw [t4] at w3 w4
 rw [show ∀ z : List UInt8, tx (strT (joinC 10 O ++ [10]) ++ ⟨z.toArray⟩) = joinC 10 O ++ [10] ++ z from fun z => by simp [tx, strT], w3] at hv
 obtain ⟨a16, n16, c16, hv, hi16, _, _⟩ := hv;have hz16 := hi16.len;simp only [List.length_nil] at hz16
 refine ⟨a16, n16, c16, _, _, hv, by omega, (ct16 _ (by rw [ByteArray.size_append, hos, lit_size]; simp only [List.length_cons, List.length_nil]; omega) _ (hG14.mono (Mem.le_trans l15 l16))).mono fun v I17 l17 hv => ?_⟩
 rw [show ∀ z : List UInt8, tx (strT (joinC 10 O ++ [10]) ++ ⟨z.toArray⟩) = joinC 10 O ++ [10] ++ z from fun z => by simp [tx, strT], w4] at hv
 obtain ⟨a17, n17, c17, hv, hi17, _, _⟩ := hv;have hz17 := hi17.len;simp only [List.length_nil] at hz17
 refine ⟨a17, n17, c17, _, _, hv, wr_i64 (by omega) (by omega) (wr_i64 (by omega) (by omega) (wr_i64 (by omega) (by omega) (Br.t (by simp; omega) (wr_i64 (by omega) (by omega) (Br.t (by simp) (Br.t (by simp) (wr_i64 (by omega) (by omega) (Br.t (by simp) (Br.t (by simp) (wr_i64 (by omega) (by omega) (Br.t (by simp; omega) (Br.t (by simp) (wr_i64 (by omega) (by omega) (Br.t (by simp; omega) (by simp)))))))))))))))⟩
theorem ct4Q (I : Mem) (hG : Globs I) (v0 v1 v2 : Value) (h0 : Q31 I v0) (h1 : Q5 I v1) (h2 : Q5 I v2) : Ct Tryz.prog (fnv 4) #[v0, v1, v2] I (fun v _ => v = .bool true) := by
 obtain ⟨a, n, c, l, rfl, hl, hc, _⟩ := h0;obtain ⟨w, rfl, hw⟩ := h1;obtain ⟨t, rfl, ht⟩ := h2;exact ct4 l a n c hc w t hw ht I hG hl
