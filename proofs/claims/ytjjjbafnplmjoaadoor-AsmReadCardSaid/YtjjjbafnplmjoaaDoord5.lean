/- Part of a proof by the rules of the symbolic walk (see the law's own text): contracts of functions of the program. -/
import Derived.Test.YtjjjbafnplmjoaaDoord4
import Derived.Test.YtjjjbafnplmjoaaDoorRows
import Derived.Lib.LaidTab
import Derived.Lib.LaidU8
import Derived.Stop.LaidErr
import Derived.Stop.Joined
import Derived.Shelf.Vars
import Derived.Lay
import Derived.MakeChecks
import Derived.ProofKit
import Derived.Test.YtjjjbafnplmjoaaDoord3
set_option linter.unusedVariables false
set_option linter.unusedSimpArgs false
open Go Go.Proofs Go.SE Go.RowKit
set_option linter.unusedVariables false
set_option maxRecDepth 100000
theorem ct19 (p q : List Ins) (a b : Option Addr) (n m c d : Nat) (I : Mem) (h : InsM I a n p) (h' : InsM I b m q) : Ct Tryd.prog (fnv 19) #[.slice a n c, .slice b m d] I (fun v _ => v = .bool (decide (p = q))) := by
 obtain ⟨Q, hQ⟩ : ∃ w : Bool, w = decide (p = q) := ⟨_, rfl⟩;obtain ⟨N, hN⟩ : ∃ f : Int -> Prop, f = fun j : Int => 0 <= j /\ j <= n /\ n = m /\ p.take j.toNat = q.take j.toNat := ⟨_, rfl⟩;rw [<- hQ]
 refine viaR (ct_via (A := { loops := [(4, ⟨[(0, .keep), (1, .keep), (12, .keep), (13, .sh (.int .i64))], [], [], fun vals _ _ _ => match vals with | [.int .i64 j] => N j | _ => False, fun vals _ => match vals with | [.int .i64 j] => (n - j).toNat | _ => 0⟩)] }) Tryd.func19 rfl Tryd.call19 rfl rfl) (Br ((n : Int) != (m : Int)) (Value.bool false = .bool Q) ((Rf (SV.v (.slice a n c)) /\ Rf (SV.v (.slice b m d)) /\ Rf (SV.v (.int .i64 (n : Int))) /\ N 0) /\ ∀ (e : Mem), Mem -> I.le e -> ∀ (f : Int), N f -> Br (decide (f < (n : Int))) (0 <= f /\ f < (n : Int) /\ a.isSome = true /\ (5 : Nat) = 5 /\ ∃ g, atI e a (f.toNat * 5 + 0) = some (.int .u8 g) /\ ∃ i, atI e a (f.toNat * 5 + 1) = some (.int .u8 i) /\ ∃ j, atI e a (f.toNat * 5 + 2) = some (.int .u8 j) /\ ∃ k, atI e a (f.toNat * 5 + 3) = some (.int .u8 k) /\ ∃ l, atI e a (f.toNat * 5 + 4) = some (.int .i64 l) /\ 0 <= f /\ f < (m : Int) /\ b.isSome = true /\ (5 : Nat) = 5 /\ ∃ o, atI e b (f.toNat * 5 + 0) = some (.int .u8 o) /\ ∃ r, atI e b (f.toNat * 5 + 1) = some (.int .u8 r) /\ ∃ s, atI e b (f.toNat * 5 + 2) = some (.int .u8 s) /\ ∃ t, atI e b (f.toNat * 5 + 3) = some (.int .u8 t) /\ ∃ u, atI e b (f.toNat * 5 + 4) = some (.int .i64 u) /\ Br (!(g == o && (i == r && (j == s && (k == t && (l == u && true)))))) (Value.bool false = .bool Q) (Wr .i64 (f + 1) (fun v => Rf (SV.v (.slice a n c)) /\ Rf (SV.v (.slice b m d)) /\ Rf (SV.v (.int .i64 (n : Int))) /\ N v /\ Int.toNat ((n : Int) - v) < Int.toNat ((n : Int) - f)))) (Value.bool true = .bool Q))) (by kernel_rfl) ?_
 have hl := h.len;have hl' := h'.len;have hmx : n <= maxLen := SlR.max h
 have hmx2 : maxLen <= 9223372036854775807 := by decide
 refine Br.mk (fun h1 => ?_) (fun h1 => ⟨⟨rfl, rfl, rfl, by rw [hN]; exact ⟨by omega, by omega, Int.natCast_inj.1 (by simpa using h1), rfl⟩⟩, fun e G le f hf => ?_⟩)
 · rw [hQ, decide_eq_false]
   rintro rfl;have : n = m := hl.symm.trans hl';subst this;simp at h1
 rw [hN] at hf ⊢;obtain ⟨h2, h3, h4, h5⟩ := hf;refine Br.mk (fun h6 => ?_) (fun h6 => ?_)
 · have h6 := of_decide_eq_true h6
   obtain ⟨i, g1, g2, e0, e1, e2, e3, e4⟩ := (h.mono le).get h2 h6
   obtain ⟨j, k1, k2, d0, d1, d2, d3, d4⟩ := (h'.mono le).get h2 (by omega)
   have t1 : p.take (f + 1).toNat = p.take f.toNat ++ [i] := by rw [show (f + 1).toNat = f.toNat + 1 by omega, List.take_add_one, g1]; rfl
   have t2 : q.take (f + 1).toNat = q.take f.toNat ++ [j] := by rw [show (f + 1).toNat = f.toNat + 1 by omega, List.take_add_one, k1]; rfl
   refine ⟨h2, h6, SlR.isSome (h.mono le) (by omega), rfl, _, e0, _, e1, _, e2, _, e3, _, e4, h2, by omega, SlR.isSome (h'.mono le) (by omega), rfl, _, d0, _, d1, _, d2, _, d3, _, d4, Br.mk (fun h7 => ?_) (fun h7 => ?_)⟩
   · rw [hQ, decide_eq_false]
     rintro rfl;rw [g1] at k1;cases k1;simp at h7
   · have hij : i = j := by
      obtain ⟨o, a1, b1, c1, n1⟩ := i;obtain ⟨o2, a2, b2, c2, n2⟩ := j;simp only [Bool.not_eq_false', Bool.and_eq_true, beq_iff_eq, and_true] at h7;obtain ⟨rfl, rfl, rfl, rfl, rfl⟩ := h7;rfl
     exact wr_i64 (by omega) (by omega) ⟨rfl, rfl, rfl, ⟨by omega, by omega, h4, by rw [t1, t2, h5, hij]⟩, by omega⟩
 · have h6 := of_decide_eq_false h6
   rw [List.take_of_length_le (by omega), List.take_of_length_le (by omega)] at h5
   rw [hQ, decide_eq_true h5]
def awT1 : Tx := [108, 111, 111, 112, 58, 32, 115, 117, 98, 32, 114, 49, 32, 114, 49, 32, 114, 50, 32, 59, 32, 100, 111, 119, 110, 10, 32, 32, 106, 122, 32, 114, 49, 32, 101, 110, 100, 10, 32, 32, 106, 117, 109, 112, 32, 108, 111, 111, 112, 10, 101, 110, 100, 58, 10, 32, 32, 104, 97, 108, 116, 10]
def awT2 : Tx := [108, 48, 58, 10, 32, 32, 115, 117, 98, 32, 114, 49, 32, 114, 49, 32, 114, 50, 10, 32, 32, 106, 122, 32, 114, 49, 32, 108, 51, 10, 32, 32, 106, 117, 109, 112, 32, 108, 48, 10, 108, 51, 58, 10, 32, 32, 104, 97, 108, 116, 10]
def awP : List Ins := [⟨34, 1, 1, 2, 0⟩, ⟨10, 1, 0, 0, 3⟩, ⟨9, 0, 0, 0, 0⟩, ⟨1, 0, 0, 0, 0⟩]
def awL : Array MapEntry := #[⟨.string ⟨#[115, 101, 116, 32, 114, 49]⟩, .int .i64 151, 0⟩, ⟨.string ⟨#[115, 101, 116, 32, 114, 56, 32, 49]⟩, .int .i64 152, 1⟩, ⟨.string ⟨#[115, 101, 116, 32, 114, 49, 32, 48, 49]⟩, .int .i64 152, 2⟩, ⟨.string ⟨#[102, 111, 111]⟩, .int .i64 150, 3⟩, ⟨.string ⟨#[106, 117, 109, 112, 32, 110, 111, 119, 104, 101, 114, 101]⟩, .int .i64 155, 4⟩, ⟨.string ⟨#[106, 117, 109, 112, 32, 49, 120]⟩, .int .i64 153, 5⟩, ⟨.string ⟨#[97, 58]⟩, .int .i64 156, 6⟩, ⟨.string ⟨#[109, 111, 118, 101, 32, 114, 49, 32, 114, 50]⟩, .int .i64 143, 7⟩]
theorem aw1 : parseA awT1 = (awP, 0, 0) := by decide +kernel
theorem aw2 : writeA awP = (awT2, 0) := by decide +kernel
theorem aw3_0 : parseA [115, 101, 116, 32, 114, 49] = ([], 1, 151) := by decide +kernel
theorem aw3_1 : parseA [115, 101, 116, 32, 114, 56, 32, 49] = ([], 1, 152) := by decide +kernel
theorem aw3_2 : parseA [115, 101, 116, 32, 114, 49, 32, 48, 49] = ([], 1, 152) := by decide +kernel
theorem aw3_3 : parseA [102, 111, 111] = ([], 1, 150) := by decide +kernel
theorem aw3_4 : parseA [106, 117, 109, 112, 32, 110, 111, 119, 104, 101, 114, 101] = ([], 1, 155) := by decide +kernel
theorem aw3_5 : parseA [106, 117, 109, 112, 32, 49, 120] = ([], 1, 153) := by decide +kernel
theorem aw3_6 : parseA [97, 58] = ([], 1, 156) := by decide +kernel
theorem aw3_7 : parseA [109, 111, 118, 101, 32, 114, 49, 32, 114, 50] = ([], 1, 143) := by decide +kernel
theorem aw4 : parseA [] = ([], 0, 6) := by decide +kernel
set_option maxHeartbeats 2000000 in
theorem ct8 (I : Mem) (hG : Globs I) : Ct Tryd.prog (fnv 8) #[] I (fun v _ => v = .bool true) := by
 refine viaR (ct_via (A := { loops := [(8, ⟨[(45, .keep)], [(1, .keep), (2, .iter)], [], fun vals xss _ _ => match vals, xss with | [], [_] => True | _, _ => False, fun vals xss => match xss with | [x] => (leftOf awL (decI x)).size | _ => 0⟩)] }) Tryd.func8 rfl Tryd.call8 rfl rfl) (Ct Tryd.prog (fnv 17) #[.string ⟨#[108, 111, 111, 112, 58, 32, 115, 117, 98, 32, 114, 49, 32, 114, 49, 32, 114, 50, 32, 59, 32, 100, 111, 119, 110, 10, 32, 32, 106, 122, 32, 114, 49, 32, 101, 110, 100, 10, 32, 32, 106, 117, 109, 112, 32, 108, 111, 111, 112, 10, 101, 110, 100, 58, 10, 32, 32, 104, 97, 108, 116, 10]⟩] I fun (v : Value) (a : Mem) => ∃ (b : Option Addr) (n c : Nat) (d e : Int), v = .tuple #[.slice b n c, .int .i64 d, .int .i64 e] /\ Br (e != 0) (Value.bool false = .bool true) (Br (d != 0) (Value.bool false = .bool true) (∀ (f : Nat) (g : Mem), a.le g -> g f = some (.cells #[.int .u8 34, .int .u8 1, .int .u8 1, .int .u8 2, .int .i64 0, .int .u8 10, .int .u8 1, .int .u8 0, .int .u8 0, .int .i64 3, .int .u8 9, .int .u8 0, .int .u8 0, .int .u8 0, .int .i64 0, .int .u8 1, .int .u8 0, .int .u8 0, .int .u8 0, .int .i64 0] 44 (0, 0)) -> Ct Tryd.prog (fnv 19) #[.slice b n c, .slice (some ⟨f, 0, none⟩) 4 4] g fun (h : Value) (i : Mem) => ∃ (j : Bool), h = .bool j /\ Br (!j) (Value.bool false = .bool true) (Ct Tryd.prog (fnv 16) #[.slice b n c] i (fun (k : Value) (l : Mem) => ∃ (q : ByteArray) (m : Int), k = .tuple #[.string q, .int .i64 m] /\ Br (m != 0) (Value.bool false = .bool true) (Br (!(q.toList == (ByteArray.mk #[108, 48, 58, 10, 32, 32, 115, 117, 98, 32, 114, 49, 32, 114, 49, 32, 114, 50, 10, 32, 32, 106, 122, 32, 114, 49, 32, 108, 51, 10, 32, 32, 106, 117, 109, 112, 32, 108, 48, 10, 108, 51, 58, 10, 32, 32, 104, 97, 108, 116, 10]).toList)) (Value.bool false = .bool true) (∀ (o : Nat), o = o /\ true = true /\ Rf (some (none : Option (Prod Nat Value))) /\ o = o /\ true = true /\ Rf (some (none : Option (Prod Nat Value))) /\ o = o /\ true = true /\ Rf (some (none : Option (Prod Nat Value))) /\ o = o /\ true = true /\ Rf (some (none : Option (Prod Nat Value))) /\ o = o /\ true = true /\ Rf (some (none : Option (Prod Nat Value))) /\ o = o /\ true = true /\ Rf (some (none : Option (Prod Nat Value))) /\ o = o /\ true = true /\ Rf (some (none : Option (Prod Nat Value))) /\ o = o /\ true = true /\ Rf (some (none : Option (Prod Nat Value))) /\ o = o /\ (Rf (Ent.mk (.raw (.map #[⟨.string ⟨#[115, 101, 116, 32, 114, 49]⟩, .int .i64 151, 0⟩, ⟨.string ⟨#[115, 101, 116, 32, 114, 56, 32, 49]⟩, .int .i64 152, 1⟩, ⟨.string ⟨#[115, 101, 116, 32, 114, 49, 32, 48, 49]⟩, .int .i64 152, 2⟩, ⟨.string ⟨#[102, 111, 111]⟩, .int .i64 150, 3⟩, ⟨.string ⟨#[106, 117, 109, 112, 32, 110, 111, 119, 104, 101, 114, 101]⟩, .int .i64 155, 4⟩, ⟨.string ⟨#[106, 117, 109, 112, 32, 49, 120]⟩, .int .i64 153, 5⟩, ⟨.string ⟨#[97, 58]⟩, .int .i64 156, 6⟩, ⟨.string ⟨#[109, 111, 118, 101, 32, 114, 49, 32, 114, 50]⟩, .int .i64 143, 7⟩] 8)) (some o)) /\ (Rf (some o) /\ (8 : Nat) = 8 /\ (8 : Nat) = 8 /\ Rf (none : Option Nat)) /\ Rf (SV.ptr 2 0) /\ True) /\ ∀ (p : Mem), Mem -> l.le p -> ∀ (x : List Value), True -> o = o /\ true = true /\ (8 : Nat) <= 8 /\ ((leftOf #[⟨.string ⟨#[115, 101, 116, 32, 114, 49]⟩, .int .i64 151, 0⟩, ⟨.string ⟨#[115, 101, 116, 32, 114, 56, 32, 49]⟩, .int .i64 152, 1⟩, ⟨.string ⟨#[115, 101, 116, 32, 114, 49, 32, 48, 49]⟩, .int .i64 152, 2⟩, ⟨.string ⟨#[102, 111, 111]⟩, .int .i64 150, 3⟩, ⟨.string ⟨#[106, 117, 109, 112, 32, 110, 111, 119, 104, 101, 114, 101]⟩, .int .i64 155, 4⟩, ⟨.string ⟨#[106, 117, 109, 112, 32, 49, 120]⟩, .int .i64 153, 5⟩, ⟨.string ⟨#[97, 58]⟩, .int .i64 156, 6⟩, ⟨.string ⟨#[109, 111, 118, 101, 32, 114, 49, 32, 114, 50]⟩, .int .i64 143, 7⟩] (decI x)).size = 0 -> Ct Tryd.prog (fnv 17) #[.string ⟨#[]⟩] p fun (r : Value) (s : Mem) => ∃ (t : Option Addr) (u w : Nat) (y z : Int), r = .tuple #[.slice t u w, .int .i64 y, .int .i64 z] /\ Br (y == 0) (Value.bool (z == 6) = .bool true) (Value.bool false = .bool true)) /\ ((decI x).contains (0 : Nat) = false -> o = o /\ (8 : Nat) = 8 /\ List.Nodup [(0 : Nat), 1, 2, 3, 4, 5, 6, 7] /\ (∃ (s : Array Nat) (r : Nat), ((decI x).toList.concat (0 : Nat)).toArray = s.push r /\ Membership.mem [MapEntry.mk (.string ⟨#[115, 101, 116, 32, 114, 49]⟩) (.int .i64 151) 0, ⟨.string ⟨#[115, 101, 116, 32, 114, 56, 32, 49]⟩, .int .i64 152, 1⟩, ⟨.string ⟨#[115, 101, 116, 32, 114, 49, 32, 48, 49]⟩, .int .i64 152, 2⟩, ⟨.string ⟨#[102, 111, 111]⟩, .int .i64 150, 3⟩, ⟨.string ⟨#[106, 117, 109, 112, 32, 110, 111, 119, 104, 101, 114, 101]⟩, .int .i64 155, 4⟩, ⟨.string ⟨#[106, 117, 109, 112, 32, 49, 120]⟩, .int .i64 153, 5⟩, ⟨.string ⟨#[97, 58]⟩, .int .i64 156, 6⟩, ⟨.string ⟨#[109, 111, 118, 101, 32, 114, 49, 32, 114, 50]⟩, .int .i64 143, 7⟩] (MapEntry.mk (.string ⟨#[115, 101, 116, 32, 114, 49]⟩) (.int .i64 151) r)) /\ Ct Tryd.prog (fnv 17) #[.string ⟨#[115, 101, 116, 32, 114, 49]⟩] p fun (r : Value) (s : Mem) => ∃ (t : Option Addr) (u w : Nat) (y z : Int), r = .tuple #[.slice t u w, .int .i64 y, .int .i64 z] /\ Br (y != 1) (Value.bool false = .bool true) (Br (z != 151) (Value.bool false = .bool true) (Rf (Ent.mk (.raw (.map #[⟨.string ⟨#[115, 101, 116, 32, 114, 49]⟩, .int .i64 151, 0⟩, ⟨.string ⟨#[115, 101, 116, 32, 114, 56, 32, 49]⟩, .int .i64 152, 1⟩, ⟨.string ⟨#[115, 101, 116, 32, 114, 49, 32, 48, 49]⟩, .int .i64 152, 2⟩, ⟨.string ⟨#[102, 111, 111]⟩, .int .i64 150, 3⟩, ⟨.string ⟨#[106, 117, 109, 112, 32, 110, 111, 119, 104, 101, 114, 101]⟩, .int .i64 155, 4⟩, ⟨.string ⟨#[106, 117, 109, 112, 32, 49, 120]⟩, .int .i64 153, 5⟩, ⟨.string ⟨#[97, 58]⟩, .int .i64 156, 6⟩, ⟨.string ⟨#[109, 111, 118, 101, 32, 114, 49, 32, 114, 50]⟩, .int .i64 143, 7⟩] 8)) (some o)) /\ (Rf (some o) /\ (8 : Nat) = 8 /\ (8 : Nat) = 8 /\ Rf (none : Option Nat)) /\ Rf (SV.ptr 2 0) /\ True /\ (leftOf #[⟨.string ⟨#[115, 101, 116, 32, 114, 49]⟩, .int .i64 151, 0⟩, ⟨.string ⟨#[115, 101, 116, 32, 114, 56, 32, 49]⟩, .int .i64 152, 1⟩, ⟨.string ⟨#[115, 101, 116, 32, 114, 49, 32, 48, 49]⟩, .int .i64 152, 2⟩, ⟨.string ⟨#[102, 111, 111]⟩, .int .i64 150, 3⟩, ⟨.string ⟨#[106, 117, 109, 112, 32, 110, 111, 119, 104, 101, 114, 101]⟩, .int .i64 155, 4⟩, ⟨.string ⟨#[106, 117, 109, 112, 32, 49, 120]⟩, .int .i64 153, 5⟩, ⟨.string ⟨#[97, 58]⟩, .int .i64 156, 6⟩, ⟨.string ⟨#[109, 111, 118, 101, 32, 114, 49, 32, 114, 50]⟩, .int .i64 143, 7⟩] (decI (encI ((decI x).toList.concat (0 : Nat)).toArray))).size < (leftOf #[⟨.string ⟨#[115, 101, 116, 32, 114, 49]⟩, .int .i64 151, 0⟩, ⟨.string ⟨#[115, 101, 116, 32, 114, 56, 32, 49]⟩, .int .i64 152, 1⟩, ⟨.string ⟨#[115, 101, 116, 32, 114, 49, 32, 48, 49]⟩, .int .i64 152, 2⟩, ⟨.string ⟨#[102, 111, 111]⟩, .int .i64 150, 3⟩, ⟨.string ⟨#[106, 117, 109, 112, 32, 110, 111, 119, 104, 101, 114, 101]⟩, .int .i64 155, 4⟩, ⟨.string ⟨#[106, 117, 109, 112, 32, 49, 120]⟩, .int .i64 153, 5⟩, ⟨.string ⟨#[97, 58]⟩, .int .i64 156, 6⟩, ⟨.string ⟨#[109, 111, 118, 101, 32, 114, 49, 32, 114, 50]⟩, .int .i64 143, 7⟩] (decI x)).size))) /\ ((decI x).contains (1 : Nat) = false -> o = o /\ (8 : Nat) = 8 /\ List.Nodup [(0 : Nat), 1, 2, 3, 4, 5, 6, 7] /\ (∃ (s : Array Nat) (r : Nat), ((decI x).toList.concat (1 : Nat)).toArray = s.push r /\ Membership.mem [MapEntry.mk (.string ⟨#[115, 101, 116, 32, 114, 49]⟩) (.int .i64 151) 0, ⟨.string ⟨#[115, 101, 116, 32, 114, 56, 32, 49]⟩, .int .i64 152, 1⟩, ⟨.string ⟨#[115, 101, 116, 32, 114, 49, 32, 48, 49]⟩, .int .i64 152, 2⟩, ⟨.string ⟨#[102, 111, 111]⟩, .int .i64 150, 3⟩, ⟨.string ⟨#[106, 117, 109, 112, 32, 110, 111, 119, 104, 101, 114, 101]⟩, .int .i64 155, 4⟩, ⟨.string ⟨#[106, 117, 109, 112, 32, 49, 120]⟩, .int .i64 153, 5⟩, ⟨.string ⟨#[97, 58]⟩, .int .i64 156, 6⟩, ⟨.string ⟨#[109, 111, 118, 101, 32, 114, 49, 32, 114, 50]⟩, .int .i64 143, 7⟩] (MapEntry.mk (.string ⟨#[115, 101, 116, 32, 114, 56, 32, 49]⟩) (.int .i64 152) r)) /\ Ct Tryd.prog (fnv 17) #[.string ⟨#[115, 101, 116, 32, 114, 56, 32, 49]⟩] p fun (r : Value) (s : Mem) => ∃ (t : Option Addr) (u w : Nat) (y z : Int), r = .tuple #[.slice t u w, .int .i64 y, .int .i64 z] /\ Br (y != 1) (Value.bool false = .bool true) (Br (z != 152) (Value.bool false = .bool true) (Rf (Ent.mk (.raw (.map #[⟨.string ⟨#[115, 101, 116, 32, 114, 49]⟩, .int .i64 151, 0⟩, ⟨.string ⟨#[115, 101, 116, 32, 114, 56, 32, 49]⟩, .int .i64 152, 1⟩, ⟨.string ⟨#[115, 101, 116, 32, 114, 49, 32, 48, 49]⟩, .int .i64 152, 2⟩, ⟨.string ⟨#[102, 111, 111]⟩, .int .i64 150, 3⟩, ⟨.string ⟨#[106, 117, 109, 112, 32, 110, 111, 119, 104, 101, 114, 101]⟩, .int .i64 155, 4⟩, ⟨.string ⟨#[106, 117, 109, 112, 32, 49, 120]⟩, .int .i64 153, 5⟩, ⟨.string ⟨#[97, 58]⟩, .int .i64 156, 6⟩, ⟨.string ⟨#[109, 111, 118, 101, 32, 114, 49, 32, 114, 50]⟩, .int .i64 143, 7⟩] 8)) (some o)) /\ (Rf (some o) /\ (8 : Nat) = 8 /\ (8 : Nat) = 8 /\ Rf (none : Option Nat)) /\ Rf (SV.ptr 2 0) /\ True /\ (leftOf #[⟨.string ⟨#[115, 101, 116, 32, 114, 49]⟩, .int .i64 151, 0⟩, ⟨.string ⟨#[115, 101, 116, 32, 114, 56, 32, 49]⟩, .int .i64 152, 1⟩, ⟨.string ⟨#[115, 101, 116, 32, 114, 49, 32, 48, 49]⟩, .int .i64 152, 2⟩, ⟨.string ⟨#[102, 111, 111]⟩, .int .i64 150, 3⟩, ⟨.string ⟨#[106, 117, 109, 112, 32, 110, 111, 119, 104, 101, 114, 101]⟩, .int .i64 155, 4⟩, ⟨.string ⟨#[106, 117, 109, 112, 32, 49, 120]⟩, .int .i64 153, 5⟩, ⟨.string ⟨#[97, 58]⟩, .int .i64 156, 6⟩, ⟨.string ⟨#[109, 111, 118, 101, 32, 114, 49, 32, 114, 50]⟩, .int .i64 143, 7⟩] (decI (encI ((decI x).toList.concat (1 : Nat)).toArray))).size < (leftOf #[⟨.string ⟨#[115, 101, 116, 32, 114, 49]⟩, .int .i64 151, 0⟩, ⟨.string ⟨#[115, 101, 116, 32, 114, 56, 32, 49]⟩, .int .i64 152, 1⟩, ⟨.string ⟨#[115, 101, 116, 32, 114, 49, 32, 48, 49]⟩, .int .i64 152, 2⟩, ⟨.string ⟨#[102, 111, 111]⟩, .int .i64 150, 3⟩, ⟨.string ⟨#[106, 117, 109, 112, 32, 110, 111, 119, 104, 101, 114, 101]⟩, .int .i64 155, 4⟩, ⟨.string ⟨#[106, 117, 109, 112, 32, 49, 120]⟩, .int .i64 153, 5⟩, ⟨.string ⟨#[97, 58]⟩, .int .i64 156, 6⟩, ⟨.string ⟨#[109, 111, 118, 101, 32, 114, 49, 32, 114, 50]⟩, .int .i64 143, 7⟩] (decI x)).size))) /\ ((decI x).contains (2 : Nat) = false -> o = o /\ (8 : Nat) = 8 /\ List.Nodup [(0 : Nat), 1, 2, 3, 4, 5, 6, 7] /\ (∃ (s : Array Nat) (r : Nat), ((decI x).toList.concat (2 : Nat)).toArray = s.push r /\ Membership.mem [MapEntry.mk (.string ⟨#[115, 101, 116, 32, 114, 49]⟩) (.int .i64 151) 0, ⟨.string ⟨#[115, 101, 116, 32, 114, 56, 32, 49]⟩, .int .i64 152, 1⟩, ⟨.string ⟨#[115, 101, 116, 32, 114, 49, 32, 48, 49]⟩, .int .i64 152, 2⟩, ⟨.string ⟨#[102, 111, 111]⟩, .int .i64 150, 3⟩, ⟨.string ⟨#[106, 117, 109, 112, 32, 110, 111, 119, 104, 101, 114, 101]⟩, .int .i64 155, 4⟩, ⟨.string ⟨#[106, 117, 109, 112, 32, 49, 120]⟩, .int .i64 153, 5⟩, ⟨.string ⟨#[97, 58]⟩, .int .i64 156, 6⟩, ⟨.string ⟨#[109, 111, 118, 101, 32, 114, 49, 32, 114, 50]⟩, .int .i64 143, 7⟩] (MapEntry.mk (.string ⟨#[115, 101, 116, 32, 114, 49, 32, 48, 49]⟩) (.int .i64 152) r)) /\ Ct Tryd.prog (fnv 17) #[.string ⟨#[115, 101, 116, 32, 114, 49, 32, 48, 49]⟩] p fun (r : Value) (s : Mem) => ∃ (t : Option Addr) (u w : Nat) (y z : Int), r = .tuple #[.slice t u w, .int .i64 y, .int .i64 z] /\ Br (y != 1) (Value.bool false = .bool true) (Br (z != 152) (Value.bool false = .bool true) (Rf (Ent.mk (.raw (.map #[⟨.string ⟨#[115, 101, 116, 32, 114, 49]⟩, .int .i64 151, 0⟩, ⟨.string ⟨#[115, 101, 116, 32, 114, 56, 32, 49]⟩, .int .i64 152, 1⟩, ⟨.string ⟨#[115, 101, 116, 32, 114, 49, 32, 48, 49]⟩, .int .i64 152, 2⟩, ⟨.string ⟨#[102, 111, 111]⟩, .int .i64 150, 3⟩, ⟨.string ⟨#[106, 117, 109, 112, 32, 110, 111, 119, 104, 101, 114, 101]⟩, .int .i64 155, 4⟩, ⟨.string ⟨#[106, 117, 109, 112, 32, 49, 120]⟩, .int .i64 153, 5⟩, ⟨.string ⟨#[97, 58]⟩, .int .i64 156, 6⟩, ⟨.string ⟨#[109, 111, 118, 101, 32, 114, 49, 32, 114, 50]⟩, .int .i64 143, 7⟩] 8)) (some o)) /\ (Rf (some o) /\ (8 : Nat) = 8 /\ (8 : Nat) = 8 /\ Rf (none : Option Nat)) /\ Rf (SV.ptr 2 0) /\ True /\ (leftOf #[⟨.string ⟨#[115, 101, 116, 32, 114, 49]⟩, .int .i64 151, 0⟩, ⟨.string ⟨#[115, 101, 116, 32, 114, 56, 32, 49]⟩, .int .i64 152, 1⟩, ⟨.string ⟨#[115, 101, 116, 32, 114, 49, 32, 48, 49]⟩, .int .i64 152, 2⟩, ⟨.string ⟨#[102, 111, 111]⟩, .int .i64 150, 3⟩, ⟨.string ⟨#[106, 117, 109, 112, 32, 110, 111, 119, 104, 101, 114, 101]⟩, .int .i64 155, 4⟩, ⟨.string ⟨#[106, 117, 109, 112, 32, 49, 120]⟩, .int .i64 153, 5⟩, ⟨.string ⟨#[97, 58]⟩, .int .i64 156, 6⟩, ⟨.string ⟨#[109, 111, 118, 101, 32, 114, 49, 32, 114, 50]⟩, .int .i64 143, 7⟩] (decI (encI ((decI x).toList.concat (2 : Nat)).toArray))).size < (leftOf #[⟨.string ⟨#[115, 101, 116, 32, 114, 49]⟩, .int .i64 151, 0⟩, ⟨.string ⟨#[115, 101, 116, 32, 114, 56, 32, 49]⟩, .int .i64 152, 1⟩, ⟨.string ⟨#[115, 101, 116, 32, 114, 49, 32, 48, 49]⟩, .int .i64 152, 2⟩, ⟨.string ⟨#[102, 111, 111]⟩, .int .i64 150, 3⟩, ⟨.string ⟨#[106, 117, 109, 112, 32, 110, 111, 119, 104, 101, 114, 101]⟩, .int .i64 155, 4⟩, ⟨.string ⟨#[106, 117, 109, 112, 32, 49, 120]⟩, .int .i64 153, 5⟩, ⟨.string ⟨#[97, 58]⟩, .int .i64 156, 6⟩, ⟨.string ⟨#[109, 111, 118, 101, 32, 114, 49, 32, 114, 50]⟩, .int .i64 143, 7⟩] (decI x)).size))) /\ ((decI x).contains (3 : Nat) = false -> o = o /\ (8 : Nat) = 8 /\ List.Nodup [(0 : Nat), 1, 2, 3, 4, 5, 6, 7] /\ (∃ (s : Array Nat) (r : Nat), ((decI x).toList.concat (3 : Nat)).toArray = s.push r /\ Membership.mem [MapEntry.mk (.string ⟨#[115, 101, 116, 32, 114, 49]⟩) (.int .i64 151) 0, ⟨.string ⟨#[115, 101, 116, 32, 114, 56, 32, 49]⟩, .int .i64 152, 1⟩, ⟨.string ⟨#[115, 101, 116, 32, 114, 49, 32, 48, 49]⟩, .int .i64 152, 2⟩, ⟨.string ⟨#[102, 111, 111]⟩, .int .i64 150, 3⟩, ⟨.string ⟨#[106, 117, 109, 112, 32, 110, 111, 119, 104, 101, 114, 101]⟩, .int .i64 155, 4⟩, ⟨.string ⟨#[106, 117, 109, 112, 32, 49, 120]⟩, .int .i64 153, 5⟩, ⟨.string ⟨#[97, 58]⟩, .int .i64 156, 6⟩, ⟨.string ⟨#[109, 111, 118, 101, 32, 114, 49, 32, 114, 50]⟩, .int .i64 143, 7⟩] (MapEntry.mk (.string ⟨#[102, 111, 111]⟩) (.int .i64 150) r)) /\ Ct Tryd.prog (fnv 17) #[.string ⟨#[102, 111, 111]⟩] p fun (r : Value) (s : Mem) => ∃ (t : Option Addr) (u w : Nat) (y z : Int), r = .tuple #[.slice t u w, .int .i64 y, .int .i64 z] /\ Br (y != 1) (Value.bool false = .bool true) (Br (z != 150) (Value.bool false = .bool true) (Rf (Ent.mk (.raw (.map #[⟨.string ⟨#[115, 101, 116, 32, 114, 49]⟩, .int .i64 151, 0⟩, ⟨.string ⟨#[115, 101, 116, 32, 114, 56, 32, 49]⟩, .int .i64 152, 1⟩, ⟨.string ⟨#[115, 101, 116, 32, 114, 49, 32, 48, 49]⟩, .int .i64 152, 2⟩, ⟨.string ⟨#[102, 111, 111]⟩, .int .i64 150, 3⟩, ⟨.string ⟨#[106, 117, 109, 112, 32, 110, 111, 119, 104, 101, 114, 101]⟩, .int .i64 155, 4⟩, ⟨.string ⟨#[106, 117, 109, 112, 32, 49, 120]⟩, .int .i64 153, 5⟩, ⟨.string ⟨#[97, 58]⟩, .int .i64 156, 6⟩, ⟨.string ⟨#[109, 111, 118, 101, 32, 114, 49, 32, 114, 50]⟩, .int .i64 143, 7⟩] 8)) (some o)) /\ (Rf (some o) /\ (8 : Nat) = 8 /\ (8 : Nat) = 8 /\ Rf (none : Option Nat)) /\ Rf (SV.ptr 2 0) /\ True /\ (leftOf #[⟨.string ⟨#[115, 101, 116, 32, 114, 49]⟩, .int .i64 151, 0⟩, ⟨.string ⟨#[115, 101, 116, 32, 114, 56, 32, 49]⟩, .int .i64 152, 1⟩, ⟨.string ⟨#[115, 101, 116, 32, 114, 49, 32, 48, 49]⟩, .int .i64 152, 2⟩, ⟨.string ⟨#[102, 111, 111]⟩, .int .i64 150, 3⟩, ⟨.string ⟨#[106, 117, 109, 112, 32, 110, 111, 119, 104, 101, 114, 101]⟩, .int .i64 155, 4⟩, ⟨.string ⟨#[106, 117, 109, 112, 32, 49, 120]⟩, .int .i64 153, 5⟩, ⟨.string ⟨#[97, 58]⟩, .int .i64 156, 6⟩, ⟨.string ⟨#[109, 111, 118, 101, 32, 114, 49, 32, 114, 50]⟩, .int .i64 143, 7⟩] (decI (encI ((decI x).toList.concat (3 : Nat)).toArray))).size < (leftOf #[⟨.string ⟨#[115, 101, 116, 32, 114, 49]⟩, .int .i64 151, 0⟩, ⟨.string ⟨#[115, 101, 116, 32, 114, 56, 32, 49]⟩, .int .i64 152, 1⟩, ⟨.string ⟨#[115, 101, 116, 32, 114, 49, 32, 48, 49]⟩, .int .i64 152, 2⟩, ⟨.string ⟨#[102, 111, 111]⟩, .int .i64 150, 3⟩, ⟨.string ⟨#[106, 117, 109, 112, 32, 110, 111, 119, 104, 101, 114, 101]⟩, .int .i64 155, 4⟩, ⟨.string ⟨#[106, 117, 109, 112, 32, 49, 120]⟩, .int .i64 153, 5⟩, ⟨.string ⟨#[97, 58]⟩, .int .i64 156, 6⟩, ⟨.string ⟨#[109, 111, 118, 101, 32, 114, 49, 32, 114, 50]⟩, .int .i64 143, 7⟩] (decI x)).size))) /\ ((decI x).contains (4 : Nat) = false -> o = o /\ (8 : Nat) = 8 /\ List.Nodup [(0 : Nat), 1, 2, 3, 4, 5, 6, 7] /\ (∃ (s : Array Nat) (r : Nat), ((decI x).toList.concat (4 : Nat)).toArray = s.push r /\ Membership.mem [MapEntry.mk (.string ⟨#[115, 101, 116, 32, 114, 49]⟩) (.int .i64 151) 0, ⟨.string ⟨#[115, 101, 116, 32, 114, 56, 32, 49]⟩, .int .i64 152, 1⟩, ⟨.string ⟨#[115, 101, 116, 32, 114, 49, 32, 48, 49]⟩, .int .i64 152, 2⟩, ⟨.string ⟨#[102, 111, 111]⟩, .int .i64 150, 3⟩, ⟨.string ⟨#[106, 117, 109, 112, 32, 110, 111, 119, 104, 101, 114, 101]⟩, .int .i64 155, 4⟩, ⟨.string ⟨#[106, 117, 109, 112, 32, 49, 120]⟩, .int .i64 153, 5⟩, ⟨.string ⟨#[97, 58]⟩, .int .i64 156, 6⟩, ⟨.string ⟨#[109, 111, 118, 101, 32, 114, 49, 32, 114, 50]⟩, .int .i64 143, 7⟩] (MapEntry.mk (.string ⟨#[106, 117, 109, 112, 32, 110, 111, 119, 104, 101, 114, 101]⟩) (.int .i64 155) r)) /\ Ct Tryd.prog (fnv 17) #[.string ⟨#[106, 117, 109, 112, 32, 110, 111, 119, 104, 101, 114, 101]⟩] p fun (r : Value) (s : Mem) => ∃ (t : Option Addr) (u w : Nat) (y z : Int), r = .tuple #[.slice t u w, .int .i64 y, .int .i64 z] /\ Br (y != 1) (Value.bool false = .bool true) (Br (z != 155) (Value.bool false = .bool true) (Rf (Ent.mk (.raw (.map #[⟨.string ⟨#[115, 101, 116, 32, 114, 49]⟩, .int .i64 151, 0⟩, ⟨.string ⟨#[115, 101, 116, 32, 114, 56, 32, 49]⟩, .int .i64 152, 1⟩, ⟨.string ⟨#[115, 101, 116, 32, 114, 49, 32, 48, 49]⟩, .int .i64 152, 2⟩, ⟨.string ⟨#[102, 111, 111]⟩, .int .i64 150, 3⟩, ⟨.string ⟨#[106, 117, 109, 112, 32, 110, 111, 119, 104, 101, 114, 101]⟩, .int .i64 155, 4⟩, ⟨.string ⟨#[106, 117, 109, 112, 32, 49, 120]⟩, .int .i64 153, 5⟩, ⟨.string ⟨#[97, 58]⟩, .int .i64 156, 6⟩, ⟨.string ⟨#[109, 111, 118, 101, 32, 114, 49, 32, 114, 50]⟩, .int .i64 143, 7⟩] 8)) (some o)) /\ (Rf (some o) /\ (8 : Nat) = 8 /\ (8 : Nat) = 8 /\ Rf (none : Option Nat)) /\ Rf (SV.ptr 2 0) /\ True /\ (leftOf #[⟨.string ⟨#[115, 101, 116, 32, 114, 49]⟩, .int .i64 151, 0⟩, ⟨.string ⟨#[115, 101, 116, 32, 114, 56, 32, 49]⟩, .int .i64 152, 1⟩, ⟨.string ⟨#[115, 101, 116, 32, 114, 49, 32, 48, 49]⟩, .int .i64 152, 2⟩, ⟨.string ⟨#[102, 111, 111]⟩, .int .i64 150, 3⟩, ⟨.string ⟨#[106, 117, 109, 112, 32, 110, 111, 119, 104, 101, 114, 101]⟩, .int .i64 155, 4⟩, ⟨.string ⟨#[106, 117, 109, 112, 32, 49, 120]⟩, .int .i64 153, 5⟩, ⟨.string ⟨#[97, 58]⟩, .int .i64 156, 6⟩, ⟨.string ⟨#[109, 111, 118, 101, 32, 114, 49, 32, 114, 50]⟩, .int .i64 143, 7⟩] (decI (encI ((decI x).toList.concat (4 : Nat)).toArray))).size < (leftOf #[⟨.string ⟨#[115, 101, 116, 32, 114, 49]⟩, .int .i64 151, 0⟩, ⟨.string ⟨#[115, 101, 116, 32, 114, 56, 32, 49]⟩, .int .i64 152, 1⟩, ⟨.string ⟨#[115, 101, 116, 32, 114, 49, 32, 48, 49]⟩, .int .i64 152, 2⟩, ⟨.string ⟨#[102, 111, 111]⟩, .int .i64 150, 3⟩, ⟨.string ⟨#[106, 117, 109, 112, 32, 110, 111, 119, 104, 101, 114, 101]⟩, .int .i64 155, 4⟩, ⟨.string ⟨#[106, 117, 109, 112, 32, 49, 120]⟩, .int .i64 153, 5⟩, ⟨.string ⟨#[97, 58]⟩, .int .i64 156, 6⟩, ⟨.string ⟨#[109, 111, 118, 101, 32, 114, 49, 32, 114, 50]⟩, .int .i64 143, 7⟩] (decI x)).size))) /\ ((decI x).contains (5 : Nat) = false -> o = o /\ (8 : Nat) = 8 /\ List.Nodup [(0 : Nat), 1, 2, 3, 4, 5, 6, 7] /\ (∃ (s : Array Nat) (r : Nat), ((decI x).toList.concat (5 : Nat)).toArray = s.push r /\ Membership.mem [MapEntry.mk (.string ⟨#[115, 101, 116, 32, 114, 49]⟩) (.int .i64 151) 0, ⟨.string ⟨#[115, 101, 116, 32, 114, 56, 32, 49]⟩, .int .i64 152, 1⟩, ⟨.string ⟨#[115, 101, 116, 32, 114, 49, 32, 48, 49]⟩, .int .i64 152, 2⟩, ⟨.string ⟨#[102, 111, 111]⟩, .int .i64 150, 3⟩, ⟨.string ⟨#[106, 117, 109, 112, 32, 110, 111, 119, 104, 101, 114, 101]⟩, .int .i64 155, 4⟩, ⟨.string ⟨#[106, 117, 109, 112, 32, 49, 120]⟩, .int .i64 153, 5⟩, ⟨.string ⟨#[97, 58]⟩, .int .i64 156, 6⟩, ⟨.string ⟨#[109, 111, 118, 101, 32, 114, 49, 32, 114, 50]⟩, .int .i64 143, 7⟩] (MapEntry.mk (.string ⟨#[106, 117, 109, 112, 32, 49, 120]⟩) (.int .i64 153) r)) /\ Ct Tryd.prog (fnv 17) #[.string ⟨#[106, 117, 109, 112, 32, 49, 120]⟩] p fun (r : Value) (s : Mem) => ∃ (t : Option Addr) (u w : Nat) (y z : Int), r = .tuple #[.slice t u w, .int .i64 y, .int .i64 z] /\ Br (y != 1) (Value.bool false = .bool true) (Br (z != 153) (Value.bool false = .bool true) (Rf (Ent.mk (.raw (.map #[⟨.string ⟨#[115, 101, 116, 32, 114, 49]⟩, .int .i64 151, 0⟩, ⟨.string ⟨#[115, 101, 116, 32, 114, 56, 32, 49]⟩, .int .i64 152, 1⟩, ⟨.string ⟨#[115, 101, 116, 32, 114, 49, 32, 48, 49]⟩, .int .i64 152, 2⟩, ⟨.string ⟨#[102, 111, 111]⟩, .int .i64 150, 3⟩, ⟨.string ⟨#[106, 117, 109, 112, 32, 110, 111, 119, 104, 101, 114, 101]⟩, .int .i64 155, 4⟩, ⟨.string ⟨#[106, 117, 109, 112, 32, 49, 120]⟩, .int .i64 153, 5⟩, ⟨.string ⟨#[97, 58]⟩, .int .i64 156, 6⟩, ⟨.string ⟨#[109, 111, 118, 101, 32, 114, 49, 32, 114, 50]⟩, .int .i64 143, 7⟩] 8)) (some o)) /\ (Rf (some o) /\ (8 : Nat) = 8 /\ (8 : Nat) = 8 /\ Rf (none : Option Nat)) /\ Rf (SV.ptr 2 0) /\ True /\ (leftOf #[⟨.string ⟨#[115, 101, 116, 32, 114, 49]⟩, .int .i64 151, 0⟩, ⟨.string ⟨#[115, 101, 116, 32, 114, 56, 32, 49]⟩, .int .i64 152, 1⟩, ⟨.string ⟨#[115, 101, 116, 32, 114, 49, 32, 48, 49]⟩, .int .i64 152, 2⟩, ⟨.string ⟨#[102, 111, 111]⟩, .int .i64 150, 3⟩, ⟨.string ⟨#[106, 117, 109, 112, 32, 110, 111, 119, 104, 101, 114, 101]⟩, .int .i64 155, 4⟩, ⟨.string ⟨#[106, 117, 109, 112, 32, 49, 120]⟩, .int .i64 153, 5⟩, ⟨.string ⟨#[97, 58]⟩, .int .i64 156, 6⟩, ⟨.string ⟨#[109, 111, 118, 101, 32, 114, 49, 32, 114, 50]⟩, .int .i64 143, 7⟩] (decI (encI ((decI x).toList.concat (5 : Nat)).toArray))).size < (leftOf #[⟨.string ⟨#[115, 101, 116, 32, 114, 49]⟩, .int .i64 151, 0⟩, ⟨.string ⟨#[115, 101, 116, 32, 114, 56, 32, 49]⟩, .int .i64 152, 1⟩, ⟨.string ⟨#[115, 101, 116, 32, 114, 49, 32, 48, 49]⟩, .int .i64 152, 2⟩, ⟨.string ⟨#[102, 111, 111]⟩, .int .i64 150, 3⟩, ⟨.string ⟨#[106, 117, 109, 112, 32, 110, 111, 119, 104, 101, 114, 101]⟩, .int .i64 155, 4⟩, ⟨.string ⟨#[106, 117, 109, 112, 32, 49, 120]⟩, .int .i64 153, 5⟩, ⟨.string ⟨#[97, 58]⟩, .int .i64 156, 6⟩, ⟨.string ⟨#[109, 111, 118, 101, 32, 114, 49, 32, 114, 50]⟩, .int .i64 143, 7⟩] (decI x)).size))) /\ ((decI x).contains (6 : Nat) = false -> o = o /\ (8 : Nat) = 8 /\ List.Nodup [(0 : Nat), 1, 2, 3, 4, 5, 6, 7] /\ (∃ (s : Array Nat) (r : Nat), ((decI x).toList.concat (6 : Nat)).toArray = s.push r /\ Membership.mem [MapEntry.mk (.string ⟨#[115, 101, 116, 32, 114, 49]⟩) (.int .i64 151) 0, ⟨.string ⟨#[115, 101, 116, 32, 114, 56, 32, 49]⟩, .int .i64 152, 1⟩, ⟨.string ⟨#[115, 101, 116, 32, 114, 49, 32, 48, 49]⟩, .int .i64 152, 2⟩, ⟨.string ⟨#[102, 111, 111]⟩, .int .i64 150, 3⟩, ⟨.string ⟨#[106, 117, 109, 112, 32, 110, 111, 119, 104, 101, 114, 101]⟩, .int .i64 155, 4⟩, ⟨.string ⟨#[106, 117, 109, 112, 32, 49, 120]⟩, .int .i64 153, 5⟩, ⟨.string ⟨#[97, 58]⟩, .int .i64 156, 6⟩, ⟨.string ⟨#[109, 111, 118, 101, 32, 114, 49, 32, 114, 50]⟩, .int .i64 143, 7⟩] (MapEntry.mk (.string ⟨#[97, 58]⟩) (.int .i64 156) r)) /\ Ct Tryd.prog (fnv 17) #[.string ⟨#[97, 58]⟩] p fun (r : Value) (s : Mem) => ∃ (t : Option Addr) (u w : Nat) (y z : Int), r = .tuple #[.slice t u w, .int .i64 y, .int .i64 z] /\ Br (y != 1) (Value.bool false = .bool true) (Br (z != 156) (Value.bool false = .bool true) (Rf (Ent.mk (.raw (.map #[⟨.string ⟨#[115, 101, 116, 32, 114, 49]⟩, .int .i64 151, 0⟩, ⟨.string ⟨#[115, 101, 116, 32, 114, 56, 32, 49]⟩, .int .i64 152, 1⟩, ⟨.string ⟨#[115, 101, 116, 32, 114, 49, 32, 48, 49]⟩, .int .i64 152, 2⟩, ⟨.string ⟨#[102, 111, 111]⟩, .int .i64 150, 3⟩, ⟨.string ⟨#[106, 117, 109, 112, 32, 110, 111, 119, 104, 101, 114, 101]⟩, .int .i64 155, 4⟩, ⟨.string ⟨#[106, 117, 109, 112, 32, 49, 120]⟩, .int .i64 153, 5⟩, ⟨.string ⟨#[97, 58]⟩, .int .i64 156, 6⟩, ⟨.string ⟨#[109, 111, 118, 101, 32, 114, 49, 32, 114, 50]⟩, .int .i64 143, 7⟩] 8)) (some o)) /\ (Rf (some o) /\ (8 : Nat) = 8 /\ (8 : Nat) = 8 /\ Rf (none : Option Nat)) /\ Rf (SV.ptr 2 0) /\ True /\ (leftOf #[⟨.string ⟨#[115, 101, 116, 32, 114, 49]⟩, .int .i64 151, 0⟩, ⟨.string ⟨#[115, 101, 116, 32, 114, 56, 32, 49]⟩, .int .i64 152, 1⟩, ⟨.string ⟨#[115, 101, 116, 32, 114, 49, 32, 48, 49]⟩, .int .i64 152, 2⟩, ⟨.string ⟨#[102, 111, 111]⟩, .int .i64 150, 3⟩, ⟨.string ⟨#[106, 117, 109, 112, 32, 110, 111, 119, 104, 101, 114, 101]⟩, .int .i64 155, 4⟩, ⟨.string ⟨#[106, 117, 109, 112, 32, 49, 120]⟩, .int .i64 153, 5⟩, ⟨.string ⟨#[97, 58]⟩, .int .i64 156, 6⟩, ⟨.string ⟨#[109, 111, 118, 101, 32, 114, 49, 32, 114, 50]⟩, .int .i64 143, 7⟩] (decI (encI ((decI x).toList.concat (6 : Nat)).toArray))).size < (leftOf #[⟨.string ⟨#[115, 101, 116, 32, 114, 49]⟩, .int .i64 151, 0⟩, ⟨.string ⟨#[115, 101, 116, 32, 114, 56, 32, 49]⟩, .int .i64 152, 1⟩, ⟨.string ⟨#[115, 101, 116, 32, 114, 49, 32, 48, 49]⟩, .int .i64 152, 2⟩, ⟨.string ⟨#[102, 111, 111]⟩, .int .i64 150, 3⟩, ⟨.string ⟨#[106, 117, 109, 112, 32, 110, 111, 119, 104, 101, 114, 101]⟩, .int .i64 155, 4⟩, ⟨.string ⟨#[106, 117, 109, 112, 32, 49, 120]⟩, .int .i64 153, 5⟩, ⟨.string ⟨#[97, 58]⟩, .int .i64 156, 6⟩, ⟨.string ⟨#[109, 111, 118, 101, 32, 114, 49, 32, 114, 50]⟩, .int .i64 143, 7⟩] (decI x)).size))) /\ ((decI x).contains (7 : Nat) = false -> o = o /\ (8 : Nat) = 8 /\ List.Nodup [(0 : Nat), 1, 2, 3, 4, 5, 6, 7] /\ (∃ (s : Array Nat) (r : Nat), ((decI x).toList.concat (7 : Nat)).toArray = s.push r /\ Membership.mem [MapEntry.mk (.string ⟨#[115, 101, 116, 32, 114, 49]⟩) (.int .i64 151) 0, ⟨.string ⟨#[115, 101, 116, 32, 114, 56, 32, 49]⟩, .int .i64 152, 1⟩, ⟨.string ⟨#[115, 101, 116, 32, 114, 49, 32, 48, 49]⟩, .int .i64 152, 2⟩, ⟨.string ⟨#[102, 111, 111]⟩, .int .i64 150, 3⟩, ⟨.string ⟨#[106, 117, 109, 112, 32, 110, 111, 119, 104, 101, 114, 101]⟩, .int .i64 155, 4⟩, ⟨.string ⟨#[106, 117, 109, 112, 32, 49, 120]⟩, .int .i64 153, 5⟩, ⟨.string ⟨#[97, 58]⟩, .int .i64 156, 6⟩, ⟨.string ⟨#[109, 111, 118, 101, 32, 114, 49, 32, 114, 50]⟩, .int .i64 143, 7⟩] (MapEntry.mk (.string ⟨#[109, 111, 118, 101, 32, 114, 49, 32, 114, 50]⟩) (.int .i64 143) r)) /\ Ct Tryd.prog (fnv 17) #[.string ⟨#[109, 111, 118, 101, 32, 114, 49, 32, 114, 50]⟩] p fun (r : Value) (s : Mem) => ∃ (t : Option Addr) (u w : Nat) (y z : Int), r = .tuple #[.slice t u w, .int .i64 y, .int .i64 z] /\ Br (y != 1) (Value.bool false = .bool true) (Br (z != 143) (Value.bool false = .bool true) (Rf (Ent.mk (.raw (.map #[⟨.string ⟨#[115, 101, 116, 32, 114, 49]⟩, .int .i64 151, 0⟩, ⟨.string ⟨#[115, 101, 116, 32, 114, 56, 32, 49]⟩, .int .i64 152, 1⟩, ⟨.string ⟨#[115, 101, 116, 32, 114, 49, 32, 48, 49]⟩, .int .i64 152, 2⟩, ⟨.string ⟨#[102, 111, 111]⟩, .int .i64 150, 3⟩, ⟨.string ⟨#[106, 117, 109, 112, 32, 110, 111, 119, 104, 101, 114, 101]⟩, .int .i64 155, 4⟩, ⟨.string ⟨#[106, 117, 109, 112, 32, 49, 120]⟩, .int .i64 153, 5⟩, ⟨.string ⟨#[97, 58]⟩, .int .i64 156, 6⟩, ⟨.string ⟨#[109, 111, 118, 101, 32, 114, 49, 32, 114, 50]⟩, .int .i64 143, 7⟩] 8)) (some o)) /\ (Rf (some o) /\ (8 : Nat) = 8 /\ (8 : Nat) = 8 /\ Rf (none : Option Nat)) /\ Rf (SV.ptr 2 0) /\ True /\ (leftOf #[⟨.string ⟨#[115, 101, 116, 32, 114, 49]⟩, .int .i64 151, 0⟩, ⟨.string ⟨#[115, 101, 116, 32, 114, 56, 32, 49]⟩, .int .i64 152, 1⟩, ⟨.string ⟨#[115, 101, 116, 32, 114, 49, 32, 48, 49]⟩, .int .i64 152, 2⟩, ⟨.string ⟨#[102, 111, 111]⟩, .int .i64 150, 3⟩, ⟨.string ⟨#[106, 117, 109, 112, 32, 110, 111, 119, 104, 101, 114, 101]⟩, .int .i64 155, 4⟩, ⟨.string ⟨#[106, 117, 109, 112, 32, 49, 120]⟩, .int .i64 153, 5⟩, ⟨.string ⟨#[97, 58]⟩, .int .i64 156, 6⟩, ⟨.string ⟨#[109, 111, 118, 101, 32, 114, 49, 32, 114, 50]⟩, .int .i64 143, 7⟩] (decI (encI ((decI x).toList.concat (7 : Nat)).toArray))).size < (leftOf #[⟨.string ⟨#[115, 101, 116, 32, 114, 49]⟩, .int .i64 151, 0⟩, ⟨.string ⟨#[115, 101, 116, 32, 114, 56, 32, 49]⟩, .int .i64 152, 1⟩, ⟨.string ⟨#[115, 101, 116, 32, 114, 49, 32, 48, 49]⟩, .int .i64 152, 2⟩, ⟨.string ⟨#[102, 111, 111]⟩, .int .i64 150, 3⟩, ⟨.string ⟨#[106, 117, 109, 112, 32, 110, 111, 119, 104, 101, 114, 101]⟩, .int .i64 155, 4⟩, ⟨.string ⟨#[106, 117, 109, 112, 32, 49, 120]⟩, .int .i64 153, 5⟩, ⟨.string ⟨#[97, 58]⟩, .int .i64 156, 6⟩, ⟨.string ⟨#[109, 111, 118, 101, 32, 114, 49, 32, 114, 50]⟩, .int .i64 143, 7⟩] (decI x)).size)))))))))) (by kernel_rfl) ?_
 have hok : ∀ i ∈ awP, okI i := fun i hi => by
  simp only [awP, List.mem_cons, List.not_mem_nil, or_false] at hi
  rcases hi with rfl | rfl | rfl | rfl <;> exact ⟨by decide, by decide, by decide, by decide, by decide⟩
 refine (ct17 (strT awT1) (by rw [strT_size]; decide) I hG).mono fun v a la h => ?_
 rw [show tx (strT awT1) = awT1 from rfl, aw1] at h
 obtain ⟨b, n, c, hv, hp, h3, h4⟩ := h;refine ⟨b, n, c, 0, 0, hv, Br.f rfl (Br.f rfl fun f g lg hf => ?_)⟩
 have hins : InsM g (some ⟨f, 0, none⟩) 4 awP := ⟨insVs awP, sl_cells (n := 4) (sz := 5) hf rfl (by decide), rowR_ins g hok⟩
 refine (ct19 awP awP b (some ⟨f, 0, none⟩) n 4 c 4 g (hp.mono lg) hins).mono fun h i li hh => ⟨_, hh, Br.f (by simp) ?_⟩
 refine (ct16 awP b n c i (hG.mono (Mem.le_trans la (Mem.le_trans lg li))) (hp.mono (Mem.le_trans lg li))).mono fun k l lk hk => ?_;rw [aw2] at hk
 refine ⟨_, _, hk, Br.f rfl (Br.f (by show (!(strT awT2).toList == (strT awT2).toList) = false; rw [str_eq, decide_eq_true rfl]; rfl) fun o => ?_)⟩
 have hG : Globs l := hG.mono (Mem.le_trans la (Mem.le_trans lg (Mem.le_trans li lk)));simp only [Rf, eq_self, true_and, and_true, true_implies, decI_encI];intro I1 G1 hI1 xs
 refine ⟨by omega, fun hend => ?_, fun hs => ?_, fun hs => ?_, fun hs => ?_, fun hs => ?_, fun hs => ?_, fun hs => ?_, fun hs => ?_, fun hs => ?_⟩
 · refine (ct17 (strT []) (by rw [strT_size]; decide) I1 (hG.mono hI1)).mono fun v I2 hI2 ⟨b2, n2, c2, hv, _⟩ => ?_
   rw [show tx (strT []) = [] from rfl, aw4] at hv
   exact ⟨_, _, _, _, _, hv, Br.t rfl rfl⟩
 · refine ⟨by decide, ⟨decI xs, 0, rfl, by simp⟩, (ct17 (strT [115, 101, 116, 32, 114, 49]) (by rw [strT_size]; decide) I1 (hG.mono hI1)).mono fun v I2 hI2 ⟨b2, n2, c2, hv, _⟩ => ?_⟩
   rw [show tx (strT [115, 101, 116, 32, 114, 49]) = [115, 101, 116, 32, 114, 49] from rfl, aw3_0] at hv
   exact ⟨_, _, _, _, _, hv, Br.f rfl (Br.f rfl (left_lt (es := awL) (y := ⟨.string ⟨#[115, 101, 116, 32, 114, 49]⟩, .int .i64 151, 0⟩) (by simp [awL]) hs))⟩
 · refine ⟨by decide, ⟨decI xs, 1, rfl, by simp⟩, (ct17 (strT [115, 101, 116, 32, 114, 56, 32, 49]) (by rw [strT_size]; decide) I1 (hG.mono hI1)).mono fun v I2 hI2 ⟨b2, n2, c2, hv, _⟩ => ?_⟩
   rw [show tx (strT [115, 101, 116, 32, 114, 56, 32, 49]) = [115, 101, 116, 32, 114, 56, 32, 49] from rfl, aw3_1] at hv
   exact ⟨_, _, _, _, _, hv, Br.f rfl (Br.f rfl (left_lt (es := awL) (y := ⟨.string ⟨#[115, 101, 116, 32, 114, 56, 32, 49]⟩, .int .i64 152, 1⟩) (by simp [awL]) hs))⟩
 · refine ⟨by decide, ⟨decI xs, 2, rfl, by simp⟩, (ct17 (strT [115, 101, 116, 32, 114, 49, 32, 48, 49]) (by rw [strT_size]; decide) I1 (hG.mono hI1)).mono fun v I2 hI2 ⟨b2, n2, c2, hv, _⟩ => ?_⟩
   rw [show tx (strT [115, 101, 116, 32, 114, 49, 32, 48, 49]) = [115, 101, 116, 32, 114, 49, 32, 48, 49] from rfl, aw3_2] at hv
   exact ⟨_, _, _, _, _, hv, Br.f rfl (Br.f rfl (left_lt (es := awL) (y := ⟨.string ⟨#[115, 101, 116, 32, 114, 49, 32, 48, 49]⟩, .int .i64 152, 2⟩) (by simp [awL]) hs))⟩
 · refine ⟨by decide, ⟨decI xs, 3, rfl, by simp⟩, (ct17 (strT [102, 111, 111]) (by rw [strT_size]; decide) I1 (hG.mono hI1)).mono fun v I2 hI2 ⟨b2, n2, c2, hv, _⟩ => ?_⟩
   rw [show tx (strT [102, 111, 111]) = [102, 111, 111] from rfl, aw3_3] at hv
   exact ⟨_, _, _, _, _, hv, Br.f rfl (Br.f rfl (left_lt (es := awL) (y := ⟨.string ⟨#[102, 111, 111]⟩, .int .i64 150, 3⟩) (by simp [awL]) hs))⟩
 · refine ⟨by decide, ⟨decI xs, 4, rfl, by simp⟩, (ct17 (strT [106, 117, 109, 112, 32, 110, 111, 119, 104, 101, 114, 101]) (by rw [strT_size]; decide) I1 (hG.mono hI1)).mono fun v I2 hI2 ⟨b2, n2, c2, hv, _⟩ => ?_⟩
   rw [show tx (strT [106, 117, 109, 112, 32, 110, 111, 119, 104, 101, 114, 101]) = [106, 117, 109, 112, 32, 110, 111, 119, 104, 101, 114, 101] from rfl, aw3_4] at hv
   exact ⟨_, _, _, _, _, hv, Br.f rfl (Br.f rfl (left_lt (es := awL) (y := ⟨.string ⟨#[106, 117, 109, 112, 32, 110, 111, 119, 104, 101, 114, 101]⟩, .int .i64 155, 4⟩) (by simp [awL]) hs))⟩
 · refine ⟨by decide, ⟨decI xs, 5, rfl, by simp⟩, (ct17 (strT [106, 117, 109, 112, 32, 49, 120]) (by rw [strT_size]; decide) I1 (hG.mono hI1)).mono fun v I2 hI2 ⟨b2, n2, c2, hv, _⟩ => ?_⟩
   rw [show tx (strT [106, 117, 109, 112, 32, 49, 120]) = [106, 117, 109, 112, 32, 49, 120] from rfl, aw3_5] at hv
   exact ⟨_, _, _, _, _, hv, Br.f rfl (Br.f rfl (left_lt (es := awL) (y := ⟨.string ⟨#[106, 117, 109, 112, 32, 49, 120]⟩, .int .i64 153, 5⟩) (by simp [awL]) hs))⟩
 · refine ⟨by decide, ⟨decI xs, 6, rfl, by simp⟩, (ct17 (strT [97, 58]) (by rw [strT_size]; decide) I1 (hG.mono hI1)).mono fun v I2 hI2 ⟨b2, n2, c2, hv, _⟩ => ?_⟩
   rw [show tx (strT [97, 58]) = [97, 58] from rfl, aw3_6] at hv
   exact ⟨_, _, _, _, _, hv, Br.f rfl (Br.f rfl (left_lt (es := awL) (y := ⟨.string ⟨#[97, 58]⟩, .int .i64 156, 6⟩) (by simp [awL]) hs))⟩
 · refine ⟨by decide, ⟨decI xs, 7, rfl, by simp⟩, (ct17 (strT [109, 111, 118, 101, 32, 114, 49, 32, 114, 50]) (by rw [strT_size]; decide) I1 (hG.mono hI1)).mono fun v I2 hI2 ⟨b2, n2, c2, hv, _⟩ => ?_⟩
   rw [show tx (strT [109, 111, 118, 101, 32, 114, 49, 32, 114, 50]) = [109, 111, 118, 101, 32, 114, 49, 32, 114, 50] from rfl, aw3_7] at hv
   exact ⟨_, _, _, _, _, hv, Br.f rfl (Br.f rfl (left_lt (es := awL) (y := ⟨.string ⟨#[109, 111, 118, 101, 32, 114, 49, 32, 114, 50]⟩, .int .i64 143, 7⟩) (by simp [awL]) hs))⟩
def laidL : List (String × DataW Unit) := [("math/bits.deBruijn32tab", YtjjjbafnplmjoaaDoor.Rows.laid_math_bits_deBruijn32tab), ("math/bits.deBruijn64tab", YtjjjbafnplmjoaaDoor.Rows.laid_math_bits_deBruijn64tab), ("internal/strconv.uint64pow10", YtjjjbafnplmjoaaDoor.Rows.laid_internal_strconv_uint64pow10), ("strconv.ErrRange", YtjjjbafnplmjoaaDoor.Rows.laid_strconv_ErrRange), ("strconv.ErrSyntax", YtjjjbafnplmjoaaDoor.Rows.laid_strconv_ErrSyntax)]
theorem gPow : Tryd.prog.globalNamed "internal/strconv.uint64pow10" = some 1 := by kernel_rfl
theorem gSyn : Tryd.prog.globalNamed "strconv.ErrSyntax" = some 4 := by kernel_rfl
theorem gRng : Tryd.prog.globalNamed "strconv.ErrRange" = some 5 := by kernel_rfl
theorem cell_to {W w : World} (hw : (memW W).inW w) {a : Addr} {v : Value} (h : W.cell? a = some v) (hs : a.spot = none) : w.cell? a = some v := by
 refine cellM_world hw ?_;unfold World.cell? at h;unfold cellM memW;rw [hs] at h ⊢
 cases hb : W.heap[a.block]? with
 | none => rw [hb] at h; simp at h
 | some o =>
   rw [hb] at h
   cases o <;> simp_all
theorem var_to {W w : World} (hw : (memW W).inW w) {n : String} {cs : Array Value} (h : W.var? Tryd.prog n = some cs) : w.var? Tryd.prog n = some cs := by
 unfold World.var? at h ⊢
 cases hg : Tryd.prog.globalNamed n with
 | none => rw [hg] at h; cases h
 | some g =>
   rw [hg] at h;simp only [Option.bind_some] at h ⊢
   cases hb : W.heap[g]? with
   | none => rw [hb] at h; cases h
   | some o =>
     have := hw g o hb;rw [hb] at h
     rw [this]; exact h
theorem starS : "*errors.errorString" = "*" ++ "errors.errorString" := by decide +kernel
theorem rowS : ∀ u, Tryd.prog.typeName? 3 u = some "*errors.errorString" -> u = 190 := fun u h =>
 typeName_ptr_named (nm := "errors.errorString") (by rw [<- starS]; kernel_rfl) (by kernel_rfl) (by decide) u (by rw [<- starS]; exact h)
theorem sent {W : World} {n : String} {text : List UInt8} {r : List (String × DataW Unit)} {g : Nat} (hg : Tryd.prog.globalNamed n = some g) (ht : (Tryd.prog.globals[g]?).map (·.type) = some 84)
 (h : laidMet Tryd.prog ((n, .iface "*errors.errorString" (.ptr (.agg [.lit (.string text)]))) :: r) W) : ∃ tp p, W.cell? ⟨g, 0, none⟩ = some (.iface tp p) := by
 obtain ⟨a, s, hv, _⟩ := laid_sentinel h hg ht Tryd.underlying84 rowS Tryd.underlying190 Tryd.underlying192 rfl rfl Tryd.underlying9 (by kernel_rfl) (by kernel_rfl)
 have := World.var?_cell hg hv 0;exact ⟨_, _, this⟩
theorem globs_of {W : World} (hsh : W.ShapedOpen Tryd.prog) (hL : laidMetH Tryd.prog laidL W) : Globs (memW W) := by
 rw [MakeChecks.laidMetH_plain _ _ _ (by kernel_rfl)] at hL
 obtain ⟨m, hm⟩ := cell_of_shapedOpen_int (P := Tryd.prog) (g := 0) (t := 3) (zero := #[.int .i64 0]) (k := .i64) hsh (of_decide_eq_true (by kernel_rfl)) (by kernel_rfl) rfl (by kernel_rfl) (by kernel_rfl) Tryd.underlying3
 have h1 : laidMet Tryd.prog (laidL.drop 2) W := hL.tail.tail
 have hT : Lib.TabIs Tryd.prog W "internal/strconv.uint64pow10" .u64 Lib.pow10Tab := Lib.tabIs_of_head (t := 164) (e := 126) (n := 20) gPow (by kernel_rfl) (by kernel_rfl) (by kernel_rfl) (by kernel_rfl) (by kernel_rfl) h1
 have h2 : laidMet Tryd.prog (laidL.drop 3) W := hL.tail.tail.tail
 obtain ⟨t1, p1, hr⟩ := sent gRng (by kernel_rfl) h2
 obtain ⟨t2, p2, hs⟩ := sent gSyn (by kernel_rfl) h2.tail
 intro w hw;exact ⟨⟨m, cell_to hw hm rfl⟩, var_to hw hT, ⟨t2, p2, cell_to hw hs rfl⟩, ⟨t1, p1, cell_to hw hr rfl⟩⟩
def Q9 (I : Mem) (v : Value) : Prop := ∃ s : ByteArray, v = .string s /\ s.size <= reachBytes
section
variable {H : Type} {enc : TypeId × Value -> H} {W : World} {r : Reach} {b0 : Nat} {v : Value} {d : DataW H} {ps : List MemPlace}
theorem op9 (hval : Value.okWide Tryd.prog W r b0 9 v) (hd : DataW.Trod enc Tryd.prog W 0 (fun _ => true) true 9 v d ps) (hw : ∀ n ∈ d.weights Tryd.prog 9, n <= reachBytes) : Q9 (memW W) v := by
 obtain ⟨s, rfl⟩ := Go.WideShapes.okWide_string Tryd.underlying9 hval;obtain ⟨fuel, hf⟩ := hd;obtain ⟨s', h1, h2⟩ := opc_str Tryd.underlying9 H enc fuel _ d ps hf hw;cases h1;exact ⟨s, rfl, h2⟩
end
def wordsB (op : Int) : Bool :=
 ((formT op).isSome == decide (wordT op ≠ [])) && (((findT (wordT op)).2 == (formT op).isSome) && ((!(formT op).isSome || (decide ((findT (wordT op)).1 = op) && nameB (wordT op))) && ((formT op).isSome || decide ((findT (wordT op)).1 = 0))))
theorem words_all : ∀ k : Fin 256, wordsB (k.val : Int) = true := by decide +kernel
theorem words_of {op : Int} (h : 0 <= op /\ op <= 255) : wordsB op = true := by
 have := words_all ⟨op.toNat, by omega⟩
 rwa [show ((op.toNat : Nat) : Int) = op by omega] at this
theorem find_word {s : Tx} (h : (findT s).2 = true) : wordT (findT s).1 = s := by
 unfold findT at h ⊢;split
 · rename_i h1
   unfold opFind at h1 ⊢
   split at h1
   · rename_i k hk
     obtain ⟨hlt, he, _⟩ := List.findIdx?_eq_some_iff_getElem.1 hk;have he := of_decide_eq_true he;simp only [hk]
     rw [wordT, if_pos (by omega), opName, if_neg (by omega), show (32 + ((k : Int) + 1) - 32 - 1).toNat = k by omega, List.getElem?_eq_getElem hlt]
     exact he
   · cases h1
 · rename_i h1
   rw [if_neg h1] at h;unfold baseFind at h ⊢
   split at h
   · rename_i k hk
     obtain ⟨hlt, he, _⟩ := List.findIdx?_eq_some_iff_getElem.1 hk;have he := of_decide_eq_true he;have hl : baseNames.length = 11 := rfl;simp only [hk]
     rw [wordT, if_neg (by omega), if_neg (by omega), show (((k : Int) + 1) - 1).toNat = k by omega, List.getElem?_eq_getElem hlt]
     exact he
   · cases h
def shapeI (i : Ins) (l : Tx) : Prop :=
 (l = [] /\ i.a = 0 /\ i.b = 0 /\ i.c = 0 /\ i.n = 0) \/ (l = [114, 110] /\ i.a < 8 /\ i.b = 0 /\ i.c = 0) \/ (l = [114, 114] /\ i.a < 8 /\ i.b < 8 /\ i.c = 0 /\ i.n = 0) \/
 (l = [114, 114, 112] /\ i.a < 8 /\ i.b < 8 /\ i.c = 0 /\ 0 <= i.n /\ i.n < 16) \/ (l = [116] /\ i.a = 0 /\ i.b = 0 /\ i.c = 0 /\ 0 <= i.n /\ i.n < 256) \/
 (l = [114, 116] /\ i.a < 8 /\ i.b = 0 /\ i.c = 0 /\ 0 <= i.n /\ i.n < 256) \/ (l = [114, 114, 114] /\ i.a < 8 /\ i.b < 8 /\ i.c < 8 /\ i.n = 0)
set_option maxHeartbeats 8000000 in
theorem one_shape {i : Ins} (ho : okI i) (h : oneE i = 0) : ∃ l, formT i.op = some l /\ shapeI i l := by
 rw [oneE] at h
 have ha := ho.a; have hb := ho.b; have hc := ho.c
 rcases formT_cases i.op with hf | hf | hf | hf | hf | hf | hf | hf <;> rw [hf] at h <;> simp only at h
 · cases h
 · refine ⟨_, hf, .inl ⟨rfl, ?_⟩⟩
   rw [oneGo] at h
   split at h
   · rename_i hz; exact hz
   · cases h
 · refine ⟨_, hf, .inr (.inl ⟨rfl, ?_⟩)⟩
   simp only [oneGo, regAt, true_and] at h
   repeat' split at h
   all_goals simp_all
   all_goals omega
 · refine ⟨_, hf, .inr (.inr (.inl ⟨rfl, ?_⟩))⟩
   simp only [oneGo, regAt, true_and] at h
   repeat' split at h
   all_goals simp_all
   all_goals omega
 · refine ⟨_, hf, .inr (.inr (.inr (.inl ⟨rfl, ?_⟩)))⟩
   simp only [oneGo, regAt, true_and] at h
   repeat' split at h
   all_goals simp_all
   all_goals omega
 · refine ⟨_, hf, .inr (.inr (.inr (.inr (.inl ⟨rfl, ?_⟩))))⟩
   simp only [oneGo, regAt, true_and] at h
   repeat' split at h
   all_goals simp_all
   all_goals omega
 · refine ⟨_, hf, .inr (.inr (.inr (.inr (.inr (.inl ⟨rfl, ?_⟩)))))⟩
   simp only [oneGo, regAt, true_and] at h
   repeat' split at h
   all_goals simp_all
   all_goals omega
 · refine ⟨_, hf, .inr (.inr (.inr (.inr (.inr (.inr ⟨rfl, ?_⟩)))))⟩
   simp only [oneGo, regAt, true_and] at h
   repeat' split at h
   all_goals simp_all
   all_goals omega
theorem shape_one {i : Ins} {l : Tx} (hf : formT i.op = some l) (h : shapeI i l) : oneE i = 0 := by
 rw [oneE, hf]
 simp only
 unfold shapeI at h
 rcases h with ⟨rfl, h⟩ | ⟨rfl, h⟩ | ⟨rfl, h⟩ | ⟨rfl, h⟩ | ⟨rfl, h⟩ | ⟨rfl, h⟩ | ⟨rfl, h⟩ <;> simp_all [oneGo, regAt]
theorem reg_itoa {r : Int} (h0 : 0 <= r) (h1 : r < 8) : regT (114 :: Lib.itoa r) = some r := by
 have : ∀ k : Fin 8, regT (114 :: Lib.itoa (k.val : Int)) = some (k.val : Int) := by decide +kernel
 have h := this ⟨r.toNat, by omega⟩
 rwa [show ((r.toNat : Nat) : Int) = r by omega] at h
theorem lab_name {n : Int} (h0 : 0 <= n) (h1 : n < 256) : nameB (lab n) = true := by
 have : ∀ k : Fin 256, nameB (lab (k.val : Int)) = true := by decide +kernel
 have h := this ⟨n.toNat, by omega⟩
 rwa [show ((n.toNat : Nat) : Int) = n by omega] at h
theorem num_itoa {n : Int} (h : i64N n) : numT (Lib.itoa n) = some n := by
 rw [numT, itoa_parse h]; simp
def srcI (i : Ins) (line : Int) : Src := if 116 ∈ formL i.op then ⟨{ i with n := 0 }, line, lab i.n⟩ else ⟨i, line, []⟩
theorem find_form {op : Int} (ho : 0 <= op /\ op <= 255) {l : Tx} (h : formT op = some l) : findT (wordT op) = (op, true) := by
 have hw := words_of ho;simp only [wordsB, Bool.and_eq_true, beq_iff_eq, Bool.or_eq_true, Bool.not_eq_true', decide_eq_true_eq] at hw;obtain ⟨w1, w2, w3, w4⟩ := hw;rw [h] at w2 w3
 have w3 := w3.resolve_left (by simp)
 exact Prod.ext w3.1 w2
theorem instr_back {i : Ins} (ho : okI i) (h : oneE i = 0) (line : Int) : instrA (wordT i.op :: operands i) line = (0, srcI i line) := by
 obtain ⟨l, hf, hs⟩ := one_shape ho h
 have hfl : formL i.op = l := by rw [formL, hf]; rfl
 have hfd := find_form ho.op hf
 have ha := ho.a; have hb := ho.b; have hc := ho.c
 have hoper : operands i = operA l i 0 := by rw [operands, hfl]
 obtain ⟨op, a, b, c, n⟩ := i
 simp only at hf hs hfl hfd ha hb hc hoper ho
 have hol := (oper_len ho l 0).1
 rw [instrA, hfd, if_neg (by simp), if_neg (by rw [hoper, hol, hfl]; simp), hoper]
 simp only [hfl, srcI];unfold shapeI at hs
 simp only at hs
 rcases hs with ⟨rfl, rfl, rfl, rfl, rfl⟩ | ⟨rfl, h1, rfl, rfl⟩ | ⟨rfl, h1, h2, rfl, rfl⟩ | ⟨rfl, h1, h2, rfl, h3, h4⟩ | ⟨rfl, rfl, rfl, rfl, h3, h4⟩ | ⟨rfl, h1, rfl, rfl, h3, h4⟩ | ⟨rfl, h1, h2, h3, rfl⟩
 · rw [putGo_nil]; rfl
 · simp [operA, putGo, regAt, reg_itoa ha.1 h1, num_itoa ho.n, putR]
 · simp [operA, putGo, regAt, reg_itoa ha.1 h1, reg_itoa hb.1 h2, putR]
 · simp [operA, putGo, regAt, reg_itoa ha.1 h1, reg_itoa hb.1 h2, num_itoa ho.n, putR, h3, h4]
 · simp [operA, putGo, lab_name h3 h4]
 · simp [operA, putGo, regAt, reg_itoa ha.1 h1, lab_name h3 h4, putR]
 · simp [operA, putGo, regAt, reg_itoa ha.1 h1, reg_itoa hb.1 h2, reg_itoa hc.1 h3, putR]
def wdC (c : UInt8) : Prop := c ≠ 32 /\ c ≠ 9 /\ c ≠ 59 /\ c ≠ 10 /\ c ≠ 58
theorem itoa_wd (n : Int) : (∀ c ∈ Lib.itoa n, wdC c) /\ Lib.itoa n ≠ [] := by
 have key : ∀ u, (∀ c ∈ Lib.decDigits u, wdC c) /\ Lib.decDigits u ≠ [] := fun u => ⟨fun c hc => by
  have := (dec_digits u).2 c hc
  refine ⟨?_, ?_, ?_, ?_, ?_⟩ <;> (rintro rfl; revert this; decide), (dec_digits u).1⟩
 unfold Lib.itoa;split
 · refine ⟨fun c hc => ?_, by simp⟩
   rcases List.mem_cons.1 hc with rfl | hc
   · exact ⟨by decide, by decide, by decide, by decide, by decide⟩
   · exact (key _).1 c hc
 · exact key _
theorem cons_wd {a : UInt8} {t : Tx} (ha : wdC a) (h : ∀ c ∈ t, wdC c) : ∀ c ∈ a :: t, wdC c := fun c hc => by
 rcases List.mem_cons.1 hc with rfl | hc
 · exact ha
 · exact h c hc
theorem oper_wd (i : Ins) : ∀ (fs : Tx) (u : Nat), ∀ w ∈ operA fs i u, (∀ c ∈ w, wdC c) /\ w ≠ []
 | [], u, w, hw => by cases hw
 | f :: fs, u, w, hw => by
   rw [operA] at hw
   split at hw
   · rcases List.mem_cons.1 hw with rfl | hw
     · exact ⟨cons_wd ⟨by decide, by decide, by decide, by decide, by decide⟩ (itoa_wd _).1, by simp⟩
     · exact oper_wd i fs _ w hw
   · split at hw
     · rcases List.mem_cons.1 hw with rfl | hw
       · exact ⟨cons_wd ⟨by decide, by decide, by decide, by decide, by decide⟩ (itoa_wd _).1, by simp [lab]⟩
       · exact oper_wd i fs _ w hw
     · rcases List.mem_cons.1 hw with rfl | hw
       · exact itoa_wd _
       · exact oper_wd i fs _ w hw
theorem word_wd {op : Int} (ho : 0 <= op /\ op <= 255) : ∀ c ∈ wordT op, wdC c := by
 have : ∀ k : Fin 256, ((wordT (k.val : Int)).all fun c => c != 32 && (c != 9 && (c != 59 && (c != 10 && c != 58)))) = true := by decide +kernel
 have h := this ⟨op.toNat, by omega⟩
 rw [show ((op.toNat : Nat) : Int) = op by omega] at h
 intro c hc;have := List.all_eq_true.1 h c hc;simpa [wdC, bne, Bool.and_eq_true] using this
theorem fields_join : ∀ (ws : List Tx) (acc : Tx), (∀ w ∈ ws, (∀ c ∈ w, wdC c) /\ w ≠ []) -> (∀ c ∈ acc, wdC c) -> fieldsGo acc (joinC 32 ws) = (match ws with | [] => (if acc = [] then [] else [acc]) | w :: r => (acc ++ w) :: r)
 | [], acc, _, _ => by rw [joinC, fieldsGo]
 | [w], acc, h, ha => by
   have hw := h w (by simp)
   have e : w = w ++ [] := by simp
   rw [joinC]
   conv => lhs; rw [e]
   rw [fields_skip w acc [] (fun c hc => by have := hw.1 c hc; simp [blankB, this.1, this.2.1]), fieldsGo, if_neg (by simp [hw.2])]
 | w :: y :: r, acc, h, ha => by
   have hw := h w (by simp)
   have ih := fields_join (y :: r) [] (fun z hz => h z (List.mem_cons_of_mem _ hz)) (fun c hc => by cases hc)
   rw [joinC, fields_skip w acc _ (fun c hc => by have := hw.1 c hc; simp [blankB, this.1, this.2.1]), fieldsGo, if_pos (by decide), if_neg (by simp [hw.2]), ih]
   rfl
theorem join_wd59 : ∀ (ws : List Tx), (∀ w ∈ ws, (∀ c ∈ w, wdC c) /\ w ≠ []) -> ∀ c ∈ joinC 32 ws, c ≠ 59 /\ c ≠ 10
 | [], _, c, hc => by cases hc
 | [w], h, c, hc => by
   rw [joinC] at hc
   have := (h w (by simp)).1 c hc
   exact ⟨this.2.2.1, this.2.2.2.1⟩
 | w :: y :: r, h, c, hc => by
   rw [joinC] at hc
   rcases List.mem_append.1 hc with hc | hc
   · have := (h w (by simp)).1 c hc
     exact ⟨this.2.2.1, this.2.2.2.1⟩
   · rcases List.mem_cons.1 hc with rfl | hc
     · exact ⟨by decide, by decide⟩
     · exact join_wd59 (y :: r) (fun z hz => h z (List.mem_cons_of_mem _ hz)) c hc
theorem word_ne {i : Ins} (ho : okI i) (h : oneE i = 0) : wordT i.op ≠ [] := fun e => by
 obtain ⟨l, hf, _⟩ := one_shape ho h;have hw := words_of ho.op;simp only [wordsB, Bool.and_eq_true, beq_iff_eq] at hw;rw [hf, e] at hw;cases hw.1
theorem words_wd {i : Ins} (ho : okI i) (h : oneE i = 0) : ∀ w ∈ wordT i.op :: operands i, (∀ c ∈ w, wdC c) /\ w ≠ [] := fun w hw => by
 rcases List.mem_cons.1 hw with rfl | hw
 · exact ⟨word_wd ho.op, word_ne ho h⟩
 · exact oper_wd i _ _ w hw
def insL (i : Ins) : Tx := [32, 32] ++ joinC 32 (wordT i.op :: operands i)
theorem insT_eq (i : Ins) : insT i = insL i ++ [10] := rfl
theorem tw_self (c : UInt8) (t : Tx) (h : ∀ x ∈ t, x ≠ c) : t.takeWhile (· ≠ c) = t := (tw_all _ t fun x hx => decide_eq_true (h x hx)).1
theorem pieces_ins {i : Ins} (ho : okI i) (h : oneE i = 0) : piecesT (insL i) = wordT i.op :: operands i := by
 have hw := words_wd ho h;rw [piecesT, tw_self]
 · rw [insL, List.cons_append, List.cons_append, List.nil_append, fieldsGo, if_pos (by decide), if_pos rfl, fieldsGo, if_pos (by decide), if_pos rfl, fields_join _ _ hw (fun c hc => by cases hc)]
   rfl
 · intro x hx
   rw [insL] at hx
   rcases List.mem_append.1 hx with hx | hx
   · simp only [List.mem_cons, List.not_mem_nil, or_false] at hx
     rcases hx with rfl | rfl <;> decide
   · exact (join_wd59 _ hw x hx).1
theorem ins_no10 {i : Ins} (ho : okI i) (h : oneE i = 0) : (10 : UInt8) ∉ insL i := fun hx => by
 rw [insL] at hx
 rcases List.mem_append.1 hx with hx | hx
 · simp at hx
 · exact (join_wd59 _ (words_wd ho h) 10 hx).2 rfl
theorem lab_wd (n : Int) : (∀ c ∈ lab n, wdC c) /\ lab n ≠ [] := ⟨cons_wd ⟨by decide, by decide, by decide, by decide, by decide⟩ (itoa_wd _).1, by simp [lab]⟩
theorem fields_one {t : Tx} (h : ∀ c ∈ t, blankB c = false) (hne : t ≠ []) : fieldsGo [] t = [t] := by
 have e := fields_skip t [] [] h;rw [List.append_nil, List.nil_append] at e;rw [e, fieldsGo, if_neg hne]
theorem pieces_lab (n : Int) : piecesT (lab n ++ [58]) = [lab n ++ [58]] := by
 have hw := (lab_wd n).1
 have hall : ∀ c ∈ lab n ++ [58], c ≠ 32 /\ c ≠ 9 /\ c ≠ 59 := fun c hc => by
  rcases List.mem_append.1 hc with hc | hc
  · have := hw c hc; exact ⟨this.1, this.2.1, this.2.2.1⟩
  · simp only [List.mem_cons, List.not_mem_nil, or_false] at hc
    subst hc; decide
 rw [piecesT, tw_self _ _ fun x hx => (hall x hx).2.2]
 exact fields_one (fun c hc => by have := hall c hc; simp [blankB, this.1, this.2.1]) (by simp)
theorem lab_no10 (n : Int) : (10 : UInt8) ∉ lab n ++ [58] := fun hx => by
 rcases List.mem_append.1 hx with hx | hx
 · exact ((lab_wd n).1 10 hx).2.2.2.1 rfl
 · simp at hx
theorem line_ins {i : Ins} (ho : okI i) (h : oneE i = 0) (r : Rd) (line : Int) : lineA r (insL i) line = (0, ⟨r.ms, r.ss ++ [srcI i line]⟩) := by
 have hlab : labT (wordT i.op) = none := by
  rw [labT, if_neg];intro hl;have hm : (58 : UInt8) ∈ wordT i.op := List.mem_of_getLast? hl;exact ((words_wd ho h _ (List.mem_cons_self ..)).1 58 hm).2.2.2.2 rfl
 rw [lineA, pieces_ins ho h];simp only [hlab];rw [putI, instr_back ho h]
 · rfl
 · intro hh; cases hh
theorem line_lab {n : Int} (h0 : 0 <= n) (h1 : n < 256) (r : Rd) (line : Int) (hno : hasMk r.ms (lab n) = false) : lineA r (lab n ++ [58]) line = (0, ⟨r.ms ++ [⟨lab n, (r.ss.length : Int), line⟩], r.ss⟩) := by
 have hlab : labT (lab n ++ [58]) = some (lab n) := by rw [labT, if_pos (by simp)]; simp
 rw [lineA, pieces_lab];simp only [hlab]
 have hl : labelA r (lab n) line = (0, ⟨r.ms ++ [⟨lab n, (r.ss.length : Int), line⟩], r.ss⟩) := by rw [labelA, lab_name h0 h1, if_neg (by simp), if_neg (by rw [hno]; simp)]
 rw [hl]; rfl
theorem line_nil (r : Rd) (line : Int) : lineA r [] line = (0, r) := rfl
def outLines (p : List Ins) : List Ins -> Nat -> List Tx
 | [], _ => []
 | i :: r, k => (if isTo p k then [lab k ++ [58]] else []) ++ insL i :: outLines p r (k + 1)
theorem split_out (p : List Ins) : ∀ (l : List Ins) (k : Nat), (∀ i ∈ l, okI i /\ oneE i = 0) -> splitC 10 (outGo p l k) = outLines p l k ++ [[]]
 | [], k, _ => rfl
 | i :: r, k, h => by
   have hi := h i (by simp)
   have ih := split_out p r (k + 1) fun j hj => h j (List.mem_cons_of_mem _ hj);rw [outGo, outLines, insT_eq]
   have e : splitC 10 (insL i ++ [10] ++ outGo p r (k + 1)) = insL i :: (outLines p r (k + 1) ++ [[]]) := by
    rw [List.append_assoc, List.singleton_append, split_app (ins_no10 hi.1 hi.2), ih]
   split
   · rw [show lab (k : Int) ++ [58, 10] = (lab k ++ [58]) ++ [10] by simp, List.append_assoc, List.append_assoc, List.singleton_append, split_app (lab_no10 _), e]
     rfl
   · rw [List.nil_append, e]; rfl
def MsR (p : List Ins) (k : Nat) (ms : List Mk) : Prop := ms.map (fun m => (m.name, m.at_)) = ((List.range k).filter (isTo p)).map fun (j : Nat) => (lab j, (j : Int))
theorem lab_inj {a b : Nat} (ha : a < 100000) (hb : b < 100000) (h : lab a = lab b) : a = b := by
 simp only [lab, List.cons.injEq, true_and] at h
 have := itoa_inj (by omega) (by omega) h
 omega
theorem MsR.has {p : List Ins} {k : Nat} {ms : List Mk} (h : MsR p k ms) (hk : k <= 1000) {j : Nat} (hj : j < 1000) : hasMk ms (lab j) = (decide (j < k) && isTo p j) := by
 have e : hasMk ms (lab j) = (ms.map (fun m => (m.name, m.at_))).any fun x => decide (x.1 = lab j) := by
  rw [hasMk, List.any_map]; rfl
 rw [e, h, List.any_map]
 by_cases hh : j < k /\ isTo p j = true
 · rw [decide_eq_true hh.1, hh.2, List.any_eq_true.2]
   · rfl
   · exact ⟨j, List.mem_filter.2 ⟨List.mem_range.2 hh.1, hh.2⟩, by simp⟩
 · have : (decide (j < k) && isTo p j) = false := by
    rw [Bool.eq_false_iff];intro hb;simp only [Bool.and_eq_true, decide_eq_true_eq] at hb;exact hh hb
   rw [this, Bool.eq_false_iff];intro hb;obtain ⟨x, hx, he⟩ := List.any_eq_true.1 hb;obtain ⟨h1, h2⟩ := List.mem_filter.1 hx;have h1 := List.mem_range.1 h1;simp only [Function.comp, decide_eq_true_eq] at he
   have := lab_inj (by omega) (by omega) he
   subst this;exact hh ⟨h1, h2⟩
theorem lines_back (p : List Ins) : ∀ (l : List Ins) (k : Nat) (n : Int) (r : Rd), (∀ i ∈ l, okI i /\ oneE i = 0) -> r.ss.length = k -> MsR p k r.ms -> k + l.length <= 256 ->
 ∃ r', linesA (outLines p l k ++ [[]]) n r = (0, 0, r') /\ MsR p (k + l.length) r'.ms /\ ∃ ss', r'.ss = r.ss ++ ss' /\ ss'.map (fun x => (x.ins, x.target)) = l.map fun i => ((srcI i 0).ins, (srcI i 0).target)
 | [], k, n, r, _, h1, h2, _ => ⟨r, by rw [outLines, List.nil_append, linesA, line_nil]; rfl, h2, [], by simp, rfl⟩
 | i :: l, k, n, r, h, h1, h2, h3 => by
   have hi := h i (by simp)
   simp only [List.length_cons] at h3
   have hsrc : ∀ line, ((srcI i line).ins, (srcI i line).target) = ((srcI i 0).ins, (srcI i 0).target) := fun line => by
    unfold srcI; split <;> rfl
   have step : ∀ (ms : List Mk) (line : Int), MsR p (k + 1) ms -> ∃ r', linesA (insL i :: (outLines p l (k + 1) ++ [[]])) line ⟨ms, r.ss⟩ = (0, 0, r') /\ MsR p (k + (l.length + 1)) r'.ms /\ ∃ ss', r'.ss = r.ss ++ ss' /\ ss'.map (fun x => (x.ins, x.target)) = (i :: l).map fun i => ((srcI i 0).ins, (srcI i 0).target) := by
    intro ms line hms
    obtain ⟨r', g1, g2, ss', g3, g4⟩ := lines_back p l (k + 1) (line + 1) ⟨ms, r.ss ++ [srcI i line]⟩ (fun j hj => h j (List.mem_cons_of_mem _ hj)) (by simp [h1]) hms (by omega)
    refine ⟨r', ?_, by rw [show k + (l.length + 1) = k + 1 + l.length by omega]; exact g2, srcI i line :: ss', by rw [g3]; simp, ?_⟩
    · rw [linesA, line_ins hi.1 hi.2, if_neg (by simp)]
      exact g1
    · rw [List.map_cons, List.map_cons, g4, hsrc]
   have hfilt : ∀ b, isTo p k = b -> (List.range (k + 1)).filter (isTo p) = (List.range k).filter (isTo p) ++ if b then [k] else [] := fun b hb => by
    rw [List.range_succ, List.filter_append]
    congr 1
    rw [List.filter_cons, hb]
    cases b <;> rfl
   rw [outLines]
   cases ht : isTo p k with
   | true =>
     rw [if_pos rfl]
     have hno : hasMk r.ms (lab (k : Int)) = false := by
      rw [h2.has (by omega) (by omega), decide_eq_false (by omega)]; rfl
     obtain ⟨r', g1, g2, g3⟩ := step (r.ms ++ [⟨lab k, (r.ss.length : Int), n⟩]) (n + 1) (by
      rw [MsR, hfilt true ht, List.map_append, List.map_append, h2, if_pos rfl, h1]; rfl)
     refine ⟨r', ?_, g2, g3⟩
     rw [List.append_assoc, List.singleton_append, linesA, line_lab (by omega) (by omega) r n hno, if_neg (by simp)]
     exact g1
   | false =>
     rw [if_neg (by simp), List.nil_append]
     exact step r.ms n (by rw [MsR, hfilt false ht, List.map_append, h2]; simp)
theorem out_len (p : List Ins) : ∀ (l : List Ins) (k : Nat), (∀ i ∈ l, okI i) -> k + l.length <= 256 -> (outGo p l k).length <= 130 * l.length
 | [], _, _, _ => Nat.zero_le _
 | i :: l, k, h, hk => by
   have ih := out_len p l (k + 1) (fun j hj => h j (List.mem_cons_of_mem _ hj)) (by simp only [List.length_cons] at hk; omega)
   have h1 := insT_len (h i (by simp))
   have h2 : (lab (k : Int)).length <= 22 := by
    simp only [List.length_cons] at hk
    have := itoa_len (n := (k : Int)) ⟨by omega, by omega⟩
    simp only [lab, List.length_cons]; omega
   rw [outGo];simp only [List.length_append, List.length_cons];split
   · simp only [List.length_append, List.length_cons, List.length_nil]; omega
   · simp only [List.length_nil]; omega
theorem to_there {p : List Ins} {i : Ins} (hi : i ∈ p) (ht : (targetE i).2 = true) (hn : 0 <= (targetE i).1) : isTo p (targetE i).1.toNat = true := by
 rw [isTo, List.any_eq_true]
 exact ⟨i, hi, by rw [ht, Bool.true_and, decide_eq_true_eq]; omega⟩
theorem tgt_form {i : Ins} (ho : okI i) (h : oneE i = 0) : (116 ∈ formL i.op ↔ (targetE i).2 = true) /\ ((targetE i).2 = true -> (targetE i).1 = i.n) := by
 obtain ⟨l, hf, hs⟩ := one_shape ho h
 have hk : ∀ k : Fin 256, (decide (116 ∈ formL (k.val : Int))) = decide ((k.val : Int) = 9 \/ (k.val : Int) = 10 \/ (k.val : Int) = 11) := by decide +kernel
 have h2 := ho.op
 have h1 := hk ⟨i.op.toNat, by omega⟩
 rw [show ((i.op.toNat : Nat) : Int) = i.op by omega] at h1
 have h1 := decide_eq_decide.1 h1;unfold targetE;constructor
 · rw [h1]
   constructor
   · intro hh; rw [if_pos ⟨h, hh⟩]
   · intro hh
     split at hh
     · rename_i hc; exact hc.2
     · cases hh
 · intro hh
   split at hh
   · rename_i hc; rw [if_pos hc]
   · cases hh
theorem MsR.at_ {p : List Ins} {k : Nat} {ms : List Mk} (h : MsR p k ms) (hk : k <= 1000) {j : Nat} (hj : j < k) (ht : isTo p j = true) : atMk ms (lab j) = (j : Int) := by
 have hh := h.has hk (j := j) (by omega)
 rw [decide_eq_true hj, ht] at hh
 have hmem : ∀ m ∈ ms, ∃ j' : Nat, j' < k /\ m.name = lab j' /\ m.at_ = (j' : Int) := fun m hm => by
  have : (m.name, m.at_) ∈ ms.map (fun m => (m.name, m.at_)) := List.mem_map_of_mem hm;rw [h] at this;obtain ⟨j', hj', he⟩ := List.mem_map.1 this;have he := Prod.mk.inj he;exact ⟨j', List.mem_range.1 (List.mem_filter.1 hj').1, he.1.symm, he.2.symm⟩
 rw [atMk]
 cases hq : ms.find? fun m => decide (m.name = lab j) with
 | none =>
   have := List.find?_eq_none.1 hq;obtain ⟨m, hm, he⟩ := List.any_eq_true.1 hh;exact absurd he (this m hm)
 | some m =>
   have h1 := List.find?_some hq;have h1 := of_decide_eq_true h1;obtain ⟨j', g1, g2, g3⟩ := hmem m (List.mem_of_find?_eq_some hq)
   have := lab_inj (by omega) (by omega) (g2.symm.trans h1)
   simp only
   rw [g3, this]
theorem read_back {p : List Ins} (ho : ∀ i ∈ p, okI i) (h : (checkL p).2 = 0) :
 ∃ ms, readA (outGo p p 0) = (0, 0, ⟨ms, (readA (outGo p p 0)).2.2.ss⟩) /\ MsR p p.length ms /\ (readA (outGo p p 0)).2.2.ss.map (·.ins) = p := by
 obtain ⟨c1, c2, c3, c4⟩ := check_len h;have hck := checkGo_ok _ _ _ c3;have hall : ∀ i ∈ p, okI i /\ oneE i = 0 := fun i hi => ⟨ho i hi, (hck i hi).1⟩
 obtain ⟨r, g1, g2, ss, g3, g4⟩ := lines_back p p 0 1 ⟨[], []⟩ hall rfl rfl (by omega)
 simp only [List.nil_append] at g3;rw [Nat.zero_add] at g2
 have hlen := out_len p p 0 ho (by omega)
 have hss : r.ss.length = p.length := by
  have := congrArg List.length g4
  rw [g3]; simpa using this
 have hgo : ∀ x ∈ r.ss, ∃ i ∈ p, x.ins = (srcI i 0).ins /\ x.target = (srcI i 0).target := fun x hx => by
  have : (x.ins, x.target) ∈ ss.map (fun x => (x.ins, x.target)) := List.mem_map_of_mem (by rw [<- g3]; exact hx)
  rw [g4] at this;obtain ⟨i, hi, he⟩ := List.mem_map.1 this;have he := Prod.mk.inj he;exact ⟨i, hi, he.1.symm, he.2.symm⟩
 have hset : ∀ (x : Src) (i : Ins), i ∈ p -> x.ins = (srcI i 0).ins -> x.target = (srcI i 0).target -> (setTo r.ms x).ins = i /\ lostB r.ms x = false := by
  intro x i hi h1 h2;have hif := hall i hi;obtain ⟨t1, t2⟩ := tgt_form hif.1 hif.2;unfold srcI at h1 h2
  by_cases hm : 116 ∈ formL i.op
  · rw [if_pos hm] at h1 h2
    simp only at h1 h2
    have ht := t1.1 hm;have hn := t2 ht;have hrng := target_rng ht;have hlt := (hck i hi).2 ht;have hto := to_there hi ht hrng.1;rw [hn] at hrng hlt hto
    have e : lab i.n = lab ((i.n.toNat : Nat) : Int) := by rw [show ((i.n.toNat : Nat) : Int) = i.n by omega]
    have hat := g2.at_ (by omega) (j := i.n.toNat) (by omega) hto
    have hhas := g2.has (by omega) (j := i.n.toNat) (by omega)
    rw [decide_eq_true (by omega), hto] at hhas
    have hne : x.target ≠ [] := by rw [h2]; exact (lab_wd _).2
    refine ⟨?_, ?_⟩
    · rw [setTo, if_neg hne, h1, h2, e, hat]
      obtain ⟨o, a, b, c, n⟩ := i;simp only [Ins.mk.injEq, true_and] at *;omega
    · rw [lostB, h2, e, hhas]; simp
  · rw [if_neg hm] at h1 h2
    simp only at h1 h2
    refine ⟨by rw [setTo, if_pos h2, h1], by rw [lostB, h2]; rfl⟩
 have hmap : r.ss.map (fun x => (setTo r.ms x).ins) = p := by
  apply List.ext_getElem?;intro k;rw [List.getElem?_map]
  cases hq : r.ss[k]? with
  | none =>
    rw [Option.map_none];have := List.getElem?_eq_none_iff.1 hq
    rw [List.getElem?_eq_none (by omega)]
  | some x =>
    have hlt := (List.getElem?_eq_some_iff.1 hq).1
    have hx : (ss.map (fun x => (x.ins, x.target)))[k]? = some (x.ins, x.target) := by rw [List.getElem?_map, <- g3, hq]; rfl
    rw [g4, List.getElem?_map, Option.map_eq_some_iff] at hx;obtain ⟨i, hi, he⟩ := hx;have he := Prod.mk.inj he;rw [Option.map_some, (hset x i (List.mem_of_getElem? hi) he.1.symm he.2.symm).1, hi]
 have hend : endA r = (0, 0) := by
  rw [endA, if_neg (by omega)]
  have h1 : r.ss.find? (lostB r.ms) = none := List.find?_eq_none.2 fun x hx => by
   obtain ⟨i, hi, e1, e2⟩ := hgo x hx
   rw [(hset x i hi e1 e2).2]; simp
  have h2 : (r.ms.find? fun m => decide (m.at_ = (r.ss.length : Int))) = none := List.find?_eq_none.2 fun m hm => by
   have : (m.name, m.at_) ∈ r.ms.map (fun m => (m.name, m.at_)) := List.mem_map_of_mem hm;rw [g2] at this;obtain ⟨j', hj', he⟩ := List.mem_map.1 this;have he := (Prod.mk.inj he).2;have := List.mem_range.1 (List.mem_filter.1 hj').1;simp only [decide_eq_true_eq];omega
  rw [h1, h2]
  simp only
  have hlast : ((r.ss.map (setTo r.ms)).map (·.ins)).getLast? = p.getLast? := by rw [List.map_map]; exact congrArg List.getLast? hmap
  rw [List.getLast?_map] at hlast
  cases hq : (r.ss.map (setTo r.ms)).getLast? with
  | none =>
    have := List.getLast?_eq_none_iff.1 hq;have := congrArg List.length this
    simp at this; rw [this] at hss; simp at hss; omega
  | some x =>
    rw [hq, Option.map_some] at hlast
    simp only
    rw [lastGoes, <- hlast] at c4
    simp only at c4
    rw [c4]; rfl
 have hread : readA (outGo p p 0) = (0, 0, ⟨r.ms, r.ss.map (setTo r.ms)⟩) := by
  rw [readA, if_neg (by omega), split_out p p 0 hall, g1]
  simp only [ne_eq, not_true_eq_false, if_false, hend]
 refine ⟨r.ms, by rw [hread], g2, ?_⟩
 rw [hread];simp only [List.map_map];exact hmap
theorem parse_back {p : List Ins} (ho : ∀ i ∈ p, okI i) (h : (checkL p).2 = 0) : parseA (writeA p).1 = (p, 0, 0) /\ labelsA (writeA p).1 = (((List.range p.length).filter (isTo p)).map (fun (j : Nat) => (lab j, (j : Int))), 0, 0) := by
 obtain ⟨ms, h1, h2, h3⟩ := read_back ho h
 have e : (writeA p).1 = outGo p p 0 := by rw [writeA, if_neg (fun hh => hh h)]
 rw [e];refine ⟨?_, ?_⟩
 · rw [parseA, if_pos (by rw [h1]), h3]
 · rw [labelsA, if_pos (by rw [h1]), h1]
   exact congrArg (fun z => (z, (0 : Int), (0 : Int))) h2
def SrcOk (x : Src) : Prop := okI x.ins /\ ∃ l, formT x.ins.op = some l /\ ((x.target = [] /\ 116 ∉ l /\ shapeI x.ins l) \/ (x.target ≠ [] /\ ∀ n : Int, 0 <= n -> n < 256 -> shapeI { x.ins with n := n } l))
theorem nameB_ne {t : Tx} (h : nameB t = true) : t ≠ [] := fun e => by subst e; cases h
theorem put_shape {op : Int} {l : Tx} (hf : formT op = some l) {ts : List Tx} (hlen : ts.length = l.length) {line : Int} {x : Src} (h : putGo l ts ⟨⟨op, 0, 0, 0, 0⟩, line, []⟩ 0 = (0, x)) :
 x.ins.op = op /\ ((x.target = [] /\ 116 ∉ l /\ shapeI x.ins l) \/ (x.target ≠ [] /\ ∀ n : Int, 0 <= n -> n < 256 -> shapeI { x.ins with n := n } l)) := by
 have key : ∀ (f : UInt8) (fs : Tx) (s : Tx) (ss : List Tx) (y : Src) (u : Nat), putGo (f :: fs) (s :: ss) y u = (0, x) ->
  (f = 114 /\ ∃ r, regT s = some r /\ 0 <= r /\ r < 8 /\ putGo fs ss { y with ins := putR y.ins u r } (u + 1) = (0, x)) \/ (f = 116 /\ nameB s = true /\ putGo fs ss { y with target := s } u = (0, x)) \/
  (f ≠ 114 /\ f ≠ 116 /\ ∃ n, numT s = some n /\ (f = 112 -> 0 <= n /\ n < 16) /\ putGo fs ss { y with ins := { y.ins with n := n } } u = (0, x)) := by
  intro f fs s ss y u h;rw [putGo] at h
  split at h
  · rename_i hr
    split at h
    · rename_i r hq
      have := regT_rng hq
      exact .inl ⟨hr, r, hq, this.1, by omega, h⟩
    · cases h
  · rename_i hr
    split at h
    · rename_i ht
      split at h
      · rename_i hn; exact .inr (.inl ⟨ht, hn, h⟩)
      · cases h
    · rename_i ht
      split at h
      · cases h
      · rename_i n hn
        split at h
        · cases h
        · rename_i hp
          exact .inr (.inr ⟨hr, ht, n, hn, fun e => Decidable.not_not.1 fun hh => hp ⟨e, hh⟩, h⟩)
 have e1 : ¬ (114 : UInt8) = 116 := by decide
 have e2 : ¬ (110 : UInt8) = 114 := by decide
 have e3 : ¬ (110 : UInt8) = 116 := by decide
 have e4 : ¬ (112 : UInt8) = 114 := by decide
 have e5 : ¬ (112 : UInt8) = 116 := by decide
 have e6 : ¬ (116 : UInt8) = 114 := by decide
 have reg : ∀ {fs : Tx} {s : Tx} {ss : List Tx} {y : Src} {u : Nat}, putGo (114 :: fs) (s :: ss) y u = (0, x) -> ∃ r, 0 <= r /\ r < 8 /\ putGo fs ss { y with ins := putR y.ins u r } (u + 1) = (0, x) := fun h => by
  rcases key _ _ _ _ _ _ h with ⟨_, r, _, h1, h2, h3⟩ | ⟨h1, _⟩ | ⟨h1, _⟩
  · exact ⟨r, h1, h2, h3⟩
  · exact absurd h1 e1
  · exact absurd rfl h1
 have tgt : ∀ {fs : Tx} {s : Tx} {ss : List Tx} {y : Src} {u : Nat}, putGo (116 :: fs) (s :: ss) y u = (0, x) -> s ≠ [] /\ putGo fs ss { y with target := s } u = (0, x) := fun h => by
  rcases key _ _ _ _ _ _ h with ⟨h1, _⟩ | ⟨_, h1, h2⟩ | ⟨_, h1, _⟩
  · exact absurd h1 e6
  · exact ⟨nameB_ne h1, h2⟩
  · exact absurd rfl h1
 have fin : ∀ {ss : List Tx} {y : Src} {u : Nat}, putGo [] ss y u = (0, x) -> y = x := fun h => by
  rw [putGo_nil] at h; exact (Prod.mk.inj h).2
 rcases formT_cases op with hh | hh | hh | hh | hh | hh | hh | hh <;> rw [hh] at hf <;> cases hf
 · have := fin h; subst this
   exact ⟨rfl, .inl ⟨rfl, by decide, .inl ⟨rfl, rfl, rfl, rfl, rfl⟩⟩⟩
 · match ts, hlen with
   | [s1, s2], _ =>
     obtain ⟨r, r0, r1, h⟩ := reg h
     rcases key _ _ _ _ _ _ h with ⟨h1, _⟩ | ⟨h1, _⟩ | ⟨_, _, n, _, _, h⟩
     · exact absurd h1 e2
     · exact absurd h1 e3
     · have := fin h; subst this
       exact ⟨rfl, .inl ⟨rfl, by decide, .inr (.inl ⟨rfl, r1, rfl, rfl⟩)⟩⟩
 · match ts, hlen with
   | [s1, s2], _ =>
     obtain ⟨r, r0, r1, h⟩ := reg h;obtain ⟨q, q0, q1, h⟩ := reg h
     have := fin h; subst this
     exact ⟨rfl, .inl ⟨rfl, by decide, .inr (.inr (.inl ⟨rfl, r1, q1, rfl, rfl⟩))⟩⟩
 · match ts, hlen with
   | [s1, s2, s3], _ =>
     obtain ⟨r, r0, r1, h⟩ := reg h;obtain ⟨q, q0, q1, h⟩ := reg h
     rcases key _ _ _ _ _ _ h with ⟨h1, _⟩ | ⟨h1, _⟩ | ⟨_, _, n, _, hp, h⟩
     · exact absurd h1 e4
     · exact absurd h1 e5
     · have := fin h; subst this
       exact ⟨rfl, .inl ⟨rfl, by decide, .inr (.inr (.inr (.inl ⟨rfl, r1, q1, rfl, hp rfl⟩)))⟩⟩
 · match ts, hlen with
   | [s1], _ =>
     obtain ⟨hne, h⟩ := tgt h
     have := fin h; subst this
     exact ⟨rfl, .inr ⟨hne, fun n n0 n1 => .inr (.inr (.inr (.inr (.inl ⟨rfl, rfl, rfl, rfl, n0, n1⟩))))⟩⟩
 · match ts, hlen with
   | [s1, s2], _ =>
     obtain ⟨r, r0, r1, h⟩ := reg h;obtain ⟨hne, h⟩ := tgt h
     have := fin h; subst this
     exact ⟨rfl, .inr ⟨hne, fun n n0 n1 => .inr (.inr (.inr (.inr (.inr (.inl ⟨rfl, r1, rfl, rfl, n0, n1⟩)))))⟩⟩
 · match ts, hlen with
   | [s1, s2, s3], _ =>
     obtain ⟨r, r0, r1, h⟩ := reg h;obtain ⟨q, q0, q1, h⟩ := reg h;obtain ⟨w, w0, w1, h⟩ := reg h
     have := fin h; subst this
     exact ⟨rfl, .inl ⟨rfl, by decide, .inr (.inr (.inr (.inr (.inr (.inr ⟨rfl, r1, q1, w1, rfl⟩)))))⟩⟩
theorem findT_form {t : Tx} (h : (findT t).2 = true) : ∃ l, formT (findT t).1 = some l := by
 have hw := find_word h;have hrg := findT_rng t
 have hwd := words_of (op := (findT t).1) (by omega)
 simp only [wordsB, Bool.and_eq_true, beq_iff_eq] at hwd;have h2 := hwd.2.1;rw [hw, h] at h2
 cases hq : formT (findT t).1 with
 | none => rw [hq] at h2; cases h2
 | some l => exact ⟨l, rfl⟩
theorem instr_src {l : List Tx} {line : Int} (h : (instrA l line).1 = 0) : SrcOk (instrA l line).2 /\ (instrA l line).2.line = line := by
 have hok := instrA_ok l line;refine ⟨⟨hok.1, ?_⟩, hok.2⟩
 cases l with
 | nil => cases h
 | cons w r =>
   rw [instrA] at h ⊢
   split at h
   · cases h
   · rename_i h1
     rw [if_neg h1]
     split at h
     · cases h
     · rename_i h2
       rw [if_neg h2]
       have h1 : (findT w).2 = true := by simpa using h1
       obtain ⟨f, hf⟩ := findT_form h1
       have hfl : formL (findT w).1 = f := by rw [formL, hf]; rfl
       rw [hfl] at h h2 ⊢;obtain ⟨x, hx⟩ : ∃ x, putGo f r ⟨⟨(findT w).1, 0, 0, 0, 0⟩, line, []⟩ 0 = (0, x) := ⟨_, Prod.ext h rfl⟩;obtain ⟨g1, g2⟩ := put_shape hf (Decidable.not_not.1 h2) hx;rw [hx]
       exact ⟨f, by rw [g1]; exact hf, g2⟩
structure Rd2 (r : Rd) (k : Nat) : Prop where
 sok : ∀ x ∈ r.ss, SrcOk x /\ 1 <= x.line /\ x.line <= k
 mok : ∀ m ∈ r.ms, nameB m.name = true /\ 0 <= m.at_ /\ m.at_ <= r.ss.length /\ 1 <= m.line /\ m.line <= k
 srt : r.ms.Pairwise fun a b => a.at_ <= b.at_ /\ a.name ≠ b.name
theorem Rd2.mono {r : Rd} {k : Nat} (h : Rd2 r k) : Rd2 r (k + 1) := ⟨fun x hx => ⟨(h.sok x hx).1, (h.sok x hx).2.1, by have := (h.sok x hx).2.2; omega⟩,
 fun m hm => by obtain ⟨h1, h2, h3, h4, h5⟩ := h.mok m hm; exact ⟨h1, h2, h3, h4, by omega⟩, h.srt⟩
theorem label2 {r : Rd} {k : Nat} (h : Rd2 r k) (name : Tx) : Rd2 (labelA r name ((k : Int) + 1)).2 (k + 1) := by
 unfold labelA;split
 · exact h.mono
 · rename_i h1
   split
   · exact h.mono
   · rename_i h2
     refine ⟨h.mono.sok, fun m hm => ?_, ?_⟩
     · rcases List.mem_append.1 hm with hm | hm
       · exact h.mono.mok m hm
       · simp only [List.mem_cons, List.not_mem_nil, or_false] at hm
         subst hm
         exact ⟨by simpa using h1, Int.natCast_nonneg _, Int.le_refl _, by simp only; omega, by simp only; omega⟩
     · simp only
       rw [List.pairwise_append];refine ⟨h.srt, List.pairwise_singleton _ _, fun a ha b hb => ?_⟩;simp only [List.mem_cons, List.not_mem_nil, or_false] at hb;subst hb;refine ⟨(h.mok a ha).2.2.1, fun e => h2 ?_⟩;rw [hasMk, List.any_eq_true];exact ⟨a, ha, decide_eq_true e⟩
theorem puti2 {r : Rd} {k : Nat} (h : Rd2 r (k + 1)) (l : List Tx) : Rd2 (putI r l ((k : Int) + 1)).2 (k + 1) := by
 unfold putI;split
 · exact h
 · split
   · rename_i hq
     obtain ⟨h1, h2⟩ := instr_src hq;refine ⟨fun x hx => ?_, fun m hm => ?_, h.srt⟩
     · rcases List.mem_append.1 hx with hx | hx
       · exact h.sok x hx
       · simp only [List.mem_cons, List.not_mem_nil, or_false] at hx
         subst hx
         exact ⟨h1, by omega, by omega⟩
     · obtain ⟨h1, h2, h3, h4, h5⟩ := h.mok m hm
       exact ⟨h1, h2, by simp only [List.length_append, List.length_cons, List.length_nil]; omega, h4, h5⟩
   · exact h
theorem line2 {r : Rd} {k : Nat} (h : Rd2 r k) (s : Tx) : Rd2 (lineA r s ((k : Int) + 1)).2 (k + 1) := by
 unfold lineA;split
 · exact h.mono
 · split
   · split
     · exact label2 h _
     · exact puti2 (label2 h _) _
   · exact puti2 h.mono _
theorem lines2 : ∀ (L : List Tx) (k : Nat) (r : Rd), Rd2 r k -> Rd2 (linesA L ((k : Int) + 1) r).2.2 (k + L.length) /\ ((linesA L ((k : Int) + 1) r).1 ≠ 0 -> 1 <= (linesA L ((k : Int) + 1) r).2.1 /\ (linesA L ((k : Int) + 1) r).2.1 <= ((k + L.length : Nat) : Int))
 | [], k, r, h => ⟨h, fun hh => absurd rfl hh⟩
 | s :: L, k, r, h => by
   have h1 := line2 h s;rw [linesA];split
   · rename_i hq
     have up : ∀ n, Rd2 (lineA r s ((k : Int) + 1)).2 (k + 1 + n) := fun n => by
      induction n with
      | zero => exact h1
      | succ n ih => exact ih.mono
     refine ⟨by rw [List.length_cons, show k + (L.length + 1) = k + 1 + L.length by omega]; exact up _, fun _ => ⟨by simp only; omega, by simp only [List.length_cons]; omega⟩⟩
   · have := lines2 L (k + 1) _ h1
     rw [List.length_cons, show k + (L.length + 1) = k + 1 + L.length by omega]
     rw [show ((k : Int) + 1 + 1) = ((k + 1 : Nat) : Int) + 1 by omega]
     exact this
theorem rd2_zero : Rd2 ⟨[], []⟩ 0 := ⟨fun x hx => (by cases hx), fun x hx => (by cases hx), List.Pairwise.nil⟩
theorem read_right (t : Tx) : 0 <= (readA t).1 /\ (readA t).1 <= 1 + (t.count 10 : Nat) /\ ((readA t).2.1 = 0 -> (readA t).1 = 0 /\
 (∀ i ∈ (readA t).2.2.ss.map (·.ins), okI i) /\ checkL ((readA t).2.2.ss.map (·.ins)) = (-1, 0) /\ (∀ m ∈ (readA t).2.2.ms, nameB m.name = true /\ 0 <= m.at_ /\ m.at_ < (readA t).2.2.ss.length) /\ (readA t).2.2.ms.Pairwise fun a b => a.at_ <= b.at_ /\ a.name ≠ b.name) := by
 have hlen : ((splitC 10 t).length : Int) = 1 + (t.count 10 : Nat) := by rw [<- count_splitC]; omega
 obtain ⟨L2, L3⟩ := lines2 (splitC 10 t) 0 ⟨[], []⟩ rd2_zero
 rw [show ((0 : Nat) : Int) + 1 = 1 from rfl, Nat.zero_add] at L2 L3
 obtain ⟨R, hR⟩ : ∃ R, R = linesA (splitC 10 t) 1 ⟨[], []⟩ := ⟨_, rfl⟩
 have hread : readA t = if 65536 < t.length then (0, 3, ⟨[], []⟩) else if R.1 ≠ 0 then (R.2.1, R.1, ⟨[], []⟩) else if (endA R.2.2).2 ≠ 0 then ((endA R.2.2).1, (endA R.2.2).2, ⟨[], []⟩) else (0, 0, ⟨R.2.2.ms, R.2.2.ss.map (setTo R.2.2.ms)⟩) := by rw [readA, hR]
 rw [<- hR] at L2 L3;rw [hread];split
 · exact ⟨Int.le_refl _, by simp only; omega, fun h => by cases h⟩
 split
 · rename_i h1
   have := L3 h1
   exact ⟨by simp only; omega, by simp only; omega, fun h => absurd h h1⟩
 rename_i h1
 have hline : 0 <= (endA R.2.2).1 /\ (endA R.2.2).1 <= 1 + (t.count 10 : Nat) := by
  unfold endA;split
  · exact ⟨Int.le_refl _, by simp only; omega⟩
  · split
    · rename_i x hx
      have := L2.sok x (List.mem_of_find?_eq_some hx)
      exact ⟨by simp only; omega, by simp only; omega⟩
    · split
      · rename_i m hm
        have := L2.mok m (List.mem_of_find?_eq_some hm)
        exact ⟨by simp only; omega, by simp only; omega⟩
      · split
        · exact ⟨Int.le_refl _, by simp only; omega⟩
        · rename_i x hx
          obtain ⟨z, hz, rfl⟩ := List.mem_map.1 (List.mem_of_getLast? hx);have := L2.sok z hz
          have e : (setTo R.2.2.ms z).line = z.line := by unfold setTo; split <;> rfl
          split
          · simp only [e]; omega
          · exact ⟨Int.le_refl _, by simp only; omega⟩
 split
 · rename_i h2
   exact ⟨hline.1, hline.2, fun h => absurd h h2⟩
 rename_i h2
 refine ⟨Int.le_refl _, by simp only; omega, fun _ => ⟨rfl, ?_⟩⟩
 simp only [List.map_map];have h2 : (endA R.2.2).2 = 0 := Decidable.not_not.1 h2;unfold endA at h2
 split at h2
 · cases h2
 rename_i hbig
 split at h2
 · cases h2
 rename_i hlost
 split at h2
 · cases h2
 rename_i hafter
 split at h2
 · cases h2
 rename_i last hlast
 split at h2
 · cases h2
 rename_i hgoes
 have hat : ∀ m ∈ R.2.2.ms, 0 <= m.at_ /\ m.at_ < R.2.2.ss.length := fun m hm => by
  have h3 := L2.mok m hm;have h4 := List.find?_eq_none.1 hafter m hm;simp only [decide_eq_true_eq] at h4;omega
 have hins : ∀ x ∈ R.2.2.ss, okI (setTo R.2.2.ms x).ins /\ oneE (setTo R.2.2.ms x).ins = 0 /\ ((targetE (setTo R.2.2.ms x).ins).2 = true -> (targetE (setTo R.2.2.ms x).ins).1 < R.2.2.ss.length) := by
  intro x hx;obtain ⟨⟨ho, l, hf, hs⟩, _, _⟩ := L2.sok x hx;have hl := List.find?_eq_none.1 hlost x hx
  rcases hs with ⟨ht, hno, hs⟩ | ⟨ht, hs⟩
  · have e : setTo R.2.2.ms x = x := by rw [setTo, if_pos ht]
    rw [e];have h1 := shape_one hf hs;refine ⟨ho, h1, fun hh => ?_⟩;exfalso;obtain ⟨t1, _⟩ := tgt_form ho h1;have hm := t1.2 hh
    have hfl : formL x.ins.op = l := by rw [formL, hf]; rfl
    rw [hfl] at hm;exact hno hm
  · have hhas : hasMk R.2.2.ms x.target = true := by
     rw [lostB, decide_eq_true ht] at hl;simpa using hl
    obtain ⟨m, hm, he⟩ := List.any_eq_true.1 hhas
    have hatm : ∃ m ∈ R.2.2.ms, atMk R.2.2.ms x.target = m.at_ := by
     rw [atMk]
     cases hq : R.2.2.ms.find? fun m => decide (m.name = x.target) with
     | none => exact absurd he (List.find?_eq_none.1 hq m hm)
     | some m' => exact ⟨m', List.mem_of_find?_eq_some hq, rfl⟩
    obtain ⟨m', hm', ha⟩ := hatm;have hr := hat m' hm'
    have e : setTo R.2.2.ms x = { x with ins := { x.ins with n := atMk R.2.2.ms x.target } } := by rw [setTo, if_neg ht]
    have hn : 0 <= atMk R.2.2.ms x.target /\ atMk R.2.2.ms x.target < 256 := by rw [ha]; omega
    have h1 : oneE { x.ins with n := atMk R.2.2.ms x.target } = 0 := shape_one (l := l) hf (hs _ hn.1 hn.2)
    have ho' : okI { x.ins with n := atMk R.2.2.ms x.target } := ⟨ho.op, ho.a, ho.b, ho.c, by simp only; omega⟩
    rw [e];refine ⟨ho', h1, fun hh => ?_⟩;obtain ⟨_, t2⟩ := tgt_form ho' h1;rw [t2 hh]
    show atMk R.2.2.ms x.target < _
    rw [ha]; exact hr.2
 have hmap : (R.2.2.ss.map ((fun x => x.ins) ∘ setTo R.2.2.ms)).length = R.2.2.ss.length := List.length_map _
 have hall : ∀ i ∈ R.2.2.ss.map ((fun x => x.ins) ∘ setTo R.2.2.ms), okI i /\ oneE i = 0 /\ ((targetE i).2 = true -> (targetE i).1 < R.2.2.ss.length) := fun i hi => by
  obtain ⟨x, hx, rfl⟩ := List.mem_map.1 hi;exact hins x hx
 have hgo : ∀ (p : List Ins) (k : Int), (∀ i ∈ p, okI i /\ oneE i = 0 /\ ((targetE i).2 = true -> (targetE i).1 < R.2.2.ss.length)) -> checkGo R.2.2.ss.length p k = (-1, 0) := by
  intro p
  induction p with
  | nil => intro k _; rfl
  | cons i r ih =>
    intro k h
    obtain ⟨_, h1, h2⟩ := h i (by simp)
    rw [checkGo, if_neg (fun hh => hh h1), if_neg (fun hh => by have := h2 hh.1; omega)]
    exact ih _ fun j hj => h j (List.mem_cons_of_mem _ hj)
 refine ⟨fun i hi => (hall i hi).1, ?_, fun m hm => ⟨(L2.mok m hm).1, by rw [List.length_map]; exact hat m hm⟩, L2.srt⟩
 have hne : R.2.2.ss.length ≠ 0 := fun e => by
  have : R.2.2.ss = [] := List.eq_nil_of_length_eq_zero e;rw [this] at hlast;cases hlast
 have hlg : lastGoes (R.2.2.ss.map ((fun x => x.ins) ∘ setTo R.2.2.ms)) = false := by
  rw [lastGoes, <- List.map_map, List.getLast?_map, hlast];simpa using hgoes
 rw [checkL, hmap, if_neg hne, if_neg hbig, hgo _ _ hall, if_neg (fun hh => hh rfl), hlg];rfl
theorem ct_cap {P : Program} {f : FuncId} {first args cap : List Value} {I : Mem} {post : Value -> Mem -> Prop} (h : Ct P (fnv f) (first ++ args ++ cap).toArray I post) : Ct P (.func (.func f) first.toArray cap.toArray) args.toArray I post := by
 intro W h1 h2 h3;have h := h W h1 h2 h3;unfold CallV fnv at *;rw [run_semV_func] at *;simpa using h
def labsV (L : List (Tx × Int)) : List Value := L.flatMap fun x => [.string (strT x.1), .int .i64 x.2]
theorem labs_len (L : List (Tx × Int)) : (labsV L).length = L.length * 2 := by
 induction L with
 | nil => rfl
 | cons m r ih => simp only [labsV, List.flatMap_cons, List.length_append, List.length_cons, List.length_nil] at ih ⊢; omega
theorem labs_at {l : List (Tx × Int)} {k : Nat} {x : Tx × Int} (h : l[k]? = some x) (i : Nat) (hi : i < 2) : (labsV l)[k * 2 + i]? = ([.string (strT x.1), .int .i64 x.2] : List Value)[i]? := flat_at (n := 2) (f := fun x : Tx × Int => ([.string (strT x.1), .int .i64 x.2] : List Value)) (fun _ => rfl) h i hi
theorem ct26 (x y : Tx × Int) (b : Nat) (I : Mem) (h : I b = some (.cells #[.string (strT y.1), .int .i64 y.2] 49)) : Ct Tryd.prog (fnv 26) #[.agg #[.string (strT x.1), .int .i64 x.2], .pointer (some ⟨b, 0, none⟩)] I (fun v _ => v = .bool (decide (x.1 = y.1))) := by
 obtain ⟨Q, hQ⟩ : ∃ q : Bool, q = decide (x.1 = y.1) := ⟨_, rfl⟩;rw [<- hQ]
 refine viaR (ct_via (A := { }) Tryd.func26 rfl Tryd.call26 rfl rfl) (true = true /\ ∃ q, atI I (some ⟨b, 0, none⟩) 0 = some (.string q) /\ Value.bool ((strT x.1).toList == q.toList) = .bool Q) (by kernel_rfl) ?_
 have hc : atI I (some ⟨b, 0, none⟩) 0 = some (.string (strT y.1)) := by simp [atI, cellM, Addr.add, h]
 refine ⟨rfl, _, hc, ?_⟩;rw [str_eq, hQ]
 congr 1
 exact decide_eq_decide.2 ⟨fun e => strT_inj e, fun e => by rw [e]⟩
theorem ct51 (L : List (Tx × Int)) (fv : Value) (f : Tx × Int -> Bool) (a : Option Addr) (n c : Nat) (I : Mem) (h : SlM I a n 2 (labsV L)) (hf : ∀ x ∈ L, ∀ J : Mem, I.le J -> Ct Tryd.prog fv #[.agg #[.string (strT x.1), .int .i64 x.2]] J (fun v _ => v = .bool (f x))) :
 Ct Tryd.prog (fnv 51) #[.slice a n c, fv] I (fun v _ => v = .int .i64 (match L.findIdx? f with | some k => (k : Int) | none => -1)) := by
 obtain ⟨Q, hQ⟩ : ∃ q : Int, q = (match L.findIdx? f with | some k => (k : Int) | none => -1) := ⟨_, rfl⟩
 obtain ⟨N, hN⟩ : ∃ g : Int -> Prop, g = fun j : Int => 0 <= j /\ j <= n /\ ∀ x ∈ L.take j.toNat, f x = false := ⟨_, rfl⟩;rw [<- hQ]
 refine viaR (ct_via (A := { loops := [(2, ⟨[(0, .keep), (1, .keep), (7, .keep), (8, .sh (.int .i64))], [], [], fun vals _ _ _ => match vals with | [.int .i64 j] => N j | _ => False, fun vals _ => match vals with | [.int .i64 j] => (n - j).toNat | _ => 0⟩)] }) Tryd.func51 rfl Tryd.call51 rfl rfl) ((Rf (SV.v (.slice a n c)) /\ Rf (SV.v fv) /\ Rf (SV.v (.int .i64 (n : Int))) /\ N 0) /\ ∀ (b : Mem), Mem -> I.le b -> ∀ (d : Int), N d -> Br (decide (d < (n : Int))) (0 <= d /\ d < (n : Int) /\ a.isSome = true /\ (2 : Nat) = 2 /\ ∃ q, atI b a (d.toNat * 2 + 0) = some (.string q) /\ ∃ e, atI b a (d.toNat * 2 + 1) = some (.int .i64 e) /\ Ct Tryd.prog fv #[.agg #[.string q, .int .i64 e]] b fun v g => ∃ i, v = .bool i /\ Br i (Value.int .i64 d = .int .i64 Q) (Wr .i64 (d + 1) (fun j => Rf (SV.v (.slice a n c)) /\ Rf (SV.v fv) /\ Rf (SV.v (.int .i64 (n : Int))) /\ N j /\ Int.toNat ((n : Int) - j) < Int.toNat ((n : Int) - d)))) (Value.int .i64 (-1) = .int .i64 Q)) (by kernel_rfl) ?_
 have hl : L.length = n := by have h1 := h.len; have h2 := labs_len L; omega
 have hmx : n <= maxLen := h.max
 have hmx2 : maxLen <= 9223372036854775807 := by decide
 refine ⟨⟨rfl, rfl, rfl, by rw [hN]; exact ⟨by omega, by omega, by simp⟩⟩, fun b G lb d hd => ?_⟩
 rw [hN] at hd ⊢;obtain ⟨h1, h2, h3⟩ := hd;refine Br.mk (fun h4 => ?_) (fun h4 => ?_)
 · have h4 := of_decide_eq_true h4
   obtain ⟨x, hx⟩ : ∃ x, L[d.toNat]? = some x := ⟨_, List.getElem?_eq_getElem (by omega)⟩
   have hs := h.mono lb
   have htk : L.take (d + 1).toNat = L.take d.toNat ++ [x] := by rw [show (d + 1).toNat = d.toNat + 1 by omega, List.take_add_one, hx]; rfl
   refine ⟨h1, h4, hs.isSome (by omega), rfl, _, hs.at_ _ _ (labs_at hx 0 (by omega)), _, hs.at_ _ _ (labs_at hx 1 (by omega)), (hf x (List.mem_of_getElem? hx) b lb).mono fun v g lg hv => ⟨_, hv, Br.mk (fun h5 => ?_) (fun h5 => ?_)⟩⟩
   · have : L.findIdx? f = some d.toNat := by
      rw [List.findIdx?_eq_some_iff_getElem];obtain ⟨hlt, he⟩ := List.getElem?_eq_some_iff.1 hx
      refine ⟨hlt, by rw [he]; exact h5, fun j hj => ?_⟩
      have : L[j]'(by omega) ∈ L.take d.toNat := List.mem_take_iff_getElem.2 ⟨j, by omega, rfl⟩
      rw [h3 _ this]; decide
     rw [hQ, this]
     simp only
     rw [Int.toNat_of_nonneg h1]
   · refine wr_i64 (by omega) (by omega) ⟨rfl, rfl, rfl, ⟨by omega, by omega, fun y hy => ?_⟩, by omega⟩
     rw [htk] at hy
     rcases List.mem_append.1 hy with hy | hy
     · exact h3 y hy
     · simp only [List.mem_cons, List.not_mem_nil, or_false] at hy
       rw [hy]; exact h5
 · have h4 := of_decide_eq_false h4
   have : L.findIdx? f = none := by
    rw [List.findIdx?_eq_none_iff];intro x hx
    rw [h3 x (by rw [List.take_of_length_le (by omega)]; exact hx)]
   rw [hQ, this]
theorem ct25 (L : List (Tx × Int)) (fv : Value) (f : Tx × Int -> Bool) (a : Option Addr) (n c : Nat) (I : Mem) (h : SlM I a n 2 (labsV L)) (hf : ∀ x ∈ L, ∀ J : Mem, I.le J -> Ct Tryd.prog fv #[.agg #[.string (strT x.1), .int .i64 x.2]] J (fun v _ => v = .bool (f x))) :
 Ct Tryd.prog (fnv 25) #[.slice a n c, fv] I (fun v _ => v = .bool (L.any f)) := by
 obtain ⟨Q, hQ⟩ : ∃ q : Bool, q = L.any f := ⟨_, rfl⟩;rw [<- hQ]
 refine viaR (ct_via (A := { }) Tryd.func25 rfl Tryd.call25 rfl rfl) (Ct Tryd.prog (fnv 51) #[.slice a n c, fv] I fun v b => ∃ d, v = .int .i64 d /\ Value.bool (decide (0 <= d)) = .bool Q) (by kernel_rfl) ?_
 refine (ct51 L fv f a n c I h hf).mono fun v b lb hv => ⟨_, hv, ?_⟩;rw [hQ]
 congr 1
 cases hq : L.findIdx? f with
 | none =>
   have := List.findIdx?_eq_none_iff.1 hq
   have e : L.any f = false := by
    rw [Bool.eq_false_iff];intro ha;obtain ⟨x, hx, hfx⟩ := List.any_eq_true.1 ha
    rw [this x hx] at hfx; cases hfx
   rw [e]; rfl
 | some k =>
   obtain ⟨hlt, he, _⟩ := List.findIdx?_eq_some_iff_getElem.1 hq;rw [List.any_eq_true.2 ⟨_, List.getElem_mem hlt, he⟩]
   simp
theorem labels_right (t : Tx) : (labelsA t).2 = (parseA t).2 /\ 0 <= (parseA t).2.1 /\ (parseA t).2.1 <= 1 + (t.count 10 : Nat) /\ ((parseA t).2.2 ≠ 0 -> (parseA t).1 = [] /\ (labelsA t).1 = []) /\ ((parseA t).2.2 = 0 -> (parseA t).2.1 = 0 /\ (∀ i ∈ (parseA t).1, okI i) /\ checkL (parseA t).1 = (-1, 0) /\
 (∀ x ∈ (labelsA t).1, nameB x.1 = true /\ 0 <= x.2 /\ x.2 < (parseA t).1.length) /\ (labelsA t).1.Pairwise fun a b => a.2 <= b.2 /\ a.1 ≠ b.1) := by
 obtain ⟨h1, h2, h3⟩ := read_right t;unfold parseA labelsA
 by_cases he : (readA t).2.1 = 0
 · rw [if_pos he, if_pos he]
   obtain ⟨g1, g2, g3, g4, g5⟩ := h3 he
   refine ⟨rfl, Int.le_refl _, by simp only; omega, fun hh => absurd rfl hh, fun _ => ⟨rfl, g2, g3, fun x hx => ?_, ?_⟩⟩
   · obtain ⟨m, hm, rfl⟩ := List.mem_map.1 hx
     have := g4 m hm;rw [List.length_map];exact this
   · rw [List.pairwise_map]; exact g5
 · rw [if_neg he, if_neg he]
   exact ⟨rfl, h1, h2, fun _ => ⟨rfl, rfl⟩, fun hh => absurd hh he⟩
set_option maxHeartbeats 2000000 in
theorem ct7 (text : ByteArray) (I : Mem) (hG : Globs I) : Ct Tryd.prog (fnv 7) #[.string text] I (fun v _ => v = .bool true) := by
 obtain ⟨N, hN⟩ : ∃ g : Int -> Prop, g = fun j : Int => 0 <= j /\ j <= (labelsA (tx text)).1.length := ⟨_, rfl⟩;obtain ⟨M, hM⟩ : ∃ q : Nat, q = (labelsA (tx text)).1.length := ⟨_, rfl⟩
 refine viaR (ct_via (A := { loops := [(17, ⟨[(3, .keep), (6, .keep), (100, .keep), (101, .keep), (102, .sh (.int .i64))], [], [], fun vals _ _ _ => match vals with | [.int .i64 j] => N j | _ => False, fun vals _ => match vals with | [.int .i64 j] => (M - j).toNat | _ => 0⟩)] }) Tryd.func7 rfl Tryd.call7 rfl rfl) (let E1 := fun (x : Int) (a : Nat) (b : Mem) (c : ByteArray) (d : Int) (e : Option Addr) (f : Option Addr) (g : Nat) (h : Nat) (i : Nat) => 0 <= x /\ x <= (a : Int) /\ ∀ (j : Nat) (k : Mem), b.le k -> k j = some (.cells #[.string c, .int .i64 d] 49 (0, 0)) -> Ct Tryd.prog (fnv 25) #[.slice e x.toNat a, .func (.func 26) #[] #[.pointer (some ⟨j, 0, none⟩)]] k fun v l => ∃ m, v = .bool m /\ Br m (Value.bool false = .bool true) (Wr .i64 (x + 1) (fun n => Rf (SV.v (.slice f g h)) /\ Rf (SV.v (.slice e i a)) /\ Rf (SV.v (.slice e i a)) /\ Rf (SV.v (.int .i64 (i : Int))) /\ N n /\ Int.toNat ((M : Int) - n) < Int.toNat ((M : Int) - x)))
  Ct Tryd.prog (fnv 8) #[] I fun v a => ∃ b, v = .bool b /\ Br (!b) (Value.bool false = .bool true) (Br (decide (3000 < (text.size : Int))) (Rf (Value.bool true)) (Ct Tryd.prog (fnv 17) #[.string text] a (fun c d => ∃ e n f g h, c = .tuple #[.slice e n f, .int .i64 g, .int .i64 h] /\ Ct Tryd.prog (fnv 18) #[.string text] d fun i j => ∃ k l m o p, i = .tuple #[.slice k l m, .int .i64 o, .int .i64 p] /\ Br (h != p) (Value.bool false = .bool true) (Br (g != o) (Value.bool false = .bool true) (Br (h != 0) (Wr .i64 ((n : Int) + (l : Int)) (fun q => Br (q == 0) (Br (decide (0 <= g)) (Ct Tryd.prog (fnv 23) #[.string text, .string ⟨#[10]⟩] j (fun r s => ∃ t, r = .int .i64 t /\ Wr .i64 (1 + t) fun u => Value.bool (decide (g <= u)) = .bool true)) (Value.bool false = .bool true)) (Value.bool false = .bool true))) (Ct Tryd.prog (fnv 16) #[.slice e n f] j (fun q r => ∃ s t, q = .tuple #[.string s, .int .i64 t] /\ Ct Tryd.prog (fnv 17) #[.string s] r fun u w => ∃ x y z n1 n2, u = .tuple #[.slice x y z, .int .i64 n1, .int .i64 n2] /\ Ct Tryd.prog (fnv 24) #[.slice e n f] w fun v1 I1 => ∃ n3 n4, v1 = .tuple #[.int .i64 n3, .int .i64 n4] /\ Br (g != 0) (Value.bool false = .bool true) (Wr .i64 (t + n2) (fun c1 => Br (c1 != 0) (Value.bool false = .bool true) (Ct Tryd.prog (fnv 19) #[.slice e n f, .slice x y z] I1 (fun v2 I2 => ∃ b1, v2 = .bool b1 /\ Br (!b1) (Value.bool false = .bool true) (Br (n3 != -1) (Value.bool false = .bool true) (Br (n4 != 0) (Value.bool false = .bool true) ((Rf (SV.v (.slice e n f)) /\ Rf (SV.v (.slice k l m)) /\ Rf (SV.v (.slice k l m)) /\ Rf (SV.v (.int .i64 (l : Int))) /\ N 0) /\ ∀ (I3 : Mem), Mem -> I2.le I3 -> ∀ (n5 : Int), N n5 -> Br (decide (n5 < (l : Int))) (0 <= n5 /\ n5 < (l : Int) /\ k.isSome = true /\ (2 : Nat) = 2 /\ ∃ q1, atI I3 k (n5.toNat * 2 + 0) = some (.string q1) /\ ∃ n6, atI I3 k (n5.toNat * 2 + 1) = some (.int .i64 n6) /\ Ct Tryd.prog (fnv 12) #[.string q1] I3 fun v3 I4 => ∃ b2, v3 = .bool b2 /\ Br (!b2) (Value.bool false = .bool true) (Br (decide (n6 < 0)) (Value.bool false = .bool true) (Br (decide ((n : Int) <= n6)) (Value.bool false = .bool true) (Br (decide (0 < n5)) (Wr .i64 (n5 - 1) (fun c2 => 0 <= c2 /\ c2 < (l : Int) /\ k.isSome = true /\ k.isSome = true /\ ∃ n7, atI I4 k (c2.toNat * 2 + 1 + 0) = some (.int .i64 n7) /\ Br (decide (n6 < n7)) (Value.bool false = .bool true) (E1 n5 m I4 q1 n6 k e n f l))) (E1 n5 m I4 q1 n6 k e n f l))))) (Rf (Value.bool true))))))))))))))))) (by kernel_rfl) ?_
 intro E1;have htl : (tx text).length = text.size := Array.length_toList;obtain ⟨r0, r1, r2, r3, r4⟩ := labels_right (tx text);have hcnt := List.count_le_length (a := (10 : UInt8)) (l := tx text);refine (ct8 I hG).mono fun v a la hv => ⟨_, hv, Br.f rfl (Br.mk (fun _ => rfl) (fun h1 => ?_))⟩;have h1 := of_decide_eq_false h1
 refine (ct17 text (by omega) a (hG.mono la)).mono fun c d ld ⟨e, n, f, hc, hp, p1, p2⟩ => ⟨_, _, _, _, _, hc, (ct18 text (by omega) d (hG.mono (Mem.le_trans la ld))).mono fun i j lj ⟨k, l, m, hi, hs, hl, l1, l2⟩ => ⟨_, _, _, _, _, hi, ?_⟩⟩
 have hG : Globs j := hG.mono (Mem.le_trans la (Mem.le_trans ld lj));have hpl := hp.len;have hp := hp.mono lj;rw [r0]
 refine Br.f (by simp) (Br.f (by simp) (Br.mk (fun h2 => ?_) (fun h2 => ?_)))
 · have h2 : (parseA (tx text)).2.2 ≠ 0 := by simpa using h2
   obtain ⟨q1, q2⟩ := r3 h2;rw [q1] at hpl;rw [q2] at hl;simp at hpl hl
   subst hpl; subst hl
   refine wr_i64 (by omega) (by omega) (Br.t rfl (Br.t (decide_eq_true r1) ((ct23 text 10 j).mono fun r s ls hr => ⟨_, hr, wr_i64 (by omega) (by omega) ?_⟩)))
   rw [decide_eq_true r2]
 have h2 : (parseA (tx text)).2.2 = 0 := by simpa using h2
 obtain ⟨q1, q2, q3, q4, q5⟩ := r4 h2
 have hck : (checkL (parseA (tx text)).1).2 = 0 := by rw [q3]
 have hw : (writeA (parseA (tx text)).1).2 = 0 := by rw [writeA, if_neg (fun hh => hh hck)]
 obtain ⟨b1, _⟩ := parse_back q2 hck;obtain ⟨c1, c2, _, _⟩ := check_len hck
 have hwl : (writeA (parseA (tx text)).1).1.length <= 40000 := by
  rw [writeA, if_neg (fun hh => hh hck)]
  show (outGo _ _ 0).length <= _
  have := out_len (parseA (tx text)).1 (parseA (tx text)).1 0 q2 (by omega)
  omega
 have hll : (labelsA (tx text)).1.length <= 9223372036854775807 := Nat.le_trans (by omega : _ <= maxLen) (by decide)
 rw [q1]
 refine (ct16 _ e n f j hG hp).mono fun q r lr hq => ⟨_, _, hq, (ct17 (strT (writeA (parseA (tx text)).1).1) (by rw [strT_size]; omega) r (hG.mono lr)).mono fun u w lw ⟨x, y, z, hu, hx, _, _⟩ => ⟨_, _, _, _, _, hu, ?_⟩⟩
 rw [tx_strT, b1] at hx ⊢;refine (ct24 _ e n f w (hp.mono (Mem.le_trans lr lw))).mono fun v1 I1 lI hv1 => ⟨_, _, hv1, Br.f rfl ?_⟩;rw [hw, q3]
 show Wr .i64 0 _
 refine wr_i64 (by decide) (by decide) (Br.f rfl ((ct19 _ _ e x n y f z I1 (hp.mono (Mem.le_trans lr (Mem.le_trans lw lI))) (hx.mono lI)).mono fun v2 I2 l2 hv2 => ⟨_, hv2, Br.f (by simp) (Br.f rfl (Br.f rfl ⟨⟨rfl, rfl, rfl, rfl, ?_⟩, fun I3 G3 l3 n5 hn => ?_⟩))⟩))
 · rw [hN]; exact ⟨Int.le_refl _, Int.natCast_nonneg _⟩
 rw [hN] at hn;obtain ⟨n1, n2⟩ := hn;have hs3 := hs.mono (Mem.le_trans lr (Mem.le_trans lw (Mem.le_trans lI (Mem.le_trans l2 l3))));refine Br.mk (fun h3 => ?_) (fun _ => rfl);have h3 := of_decide_eq_true h3
 obtain ⟨lb, hlb⟩ : ∃ y, (labelsA (tx text)).1[n5.toNat]? = some y := ⟨_, List.getElem?_eq_getElem (by omega)⟩
 obtain ⟨w1, w2, w3⟩ := q4 lb (List.mem_of_getElem? hlb)
 have hle : nameB lb.1 = true -> lb.1.length <= 32 := fun hh => by
  unfold nameB at hh;simp only [Bool.and_eq_true, decide_eq_true_eq] at hh;exact hh.2.2
 refine ⟨n1, h3, hs3.isSome (by omega), rfl, _, hs3.at_ _ _ (labs_at hlb 0 (by omega)), _, hs3.at_ _ _ (labs_at hlb 1 (by omega)), (ct12 (strT lb.1) (by rw [strT_size]; have := hle w1; omega) I3).mono fun v3 I4 l4 hv3 => ⟨_, hv3, ?_⟩⟩
 rw [tx_strT, w1]
 have fin : E1 n5 m I4 (strT lb.1) lb.2 k e n f l := by
  refine ⟨n1, by omega, fun jb K lK hK => ?_⟩
  have hpre : SlM K k n5.toNat 2 (labsV ((labelsA (tx text)).1.take n5.toNat)) := by
   have hh := (hs3.mono l4).mono lK
   refine ⟨by rw [labs_len, List.length_take, Nat.min_eq_left (by omega)], fun hk => ?_, by have := hh.max; omega, fun j v hj => hh.at_ j v ?_⟩
   · have := hh.isSome (by omega)
     rw [hk] at this; cases this
   · have e1 : labsV (labelsA (tx text)).1 = labsV ((labelsA (tx text)).1.take n5.toNat) ++ labsV ((labelsA (tx text)).1.drop n5.toNat) := by
      unfold labsV;rw [<- List.flatMap_append, List.take_append_drop]
     have hlt := (List.getElem?_eq_some_iff.1 hj).1
     show (labsV (labelsA (tx text)).1)[j]? = some v
     rw [e1, List.getElem?_append_left hlt]; exact hj
  refine (ct25 ((labelsA (tx text)).1.take n5.toNat) _ (fun x => decide (x.1 = lb.1)) k n5.toNat m K hpre (fun x _ J lJ => ?_)).mono fun v l5 ll hv => ⟨_, hv, ?_⟩
  · exact ct_cap (first := []) (args := [.agg #[.string (strT x.1), .int .i64 x.2]]) (cap := [.pointer (some ⟨jb, 0, none⟩)]) (ct26 x lb jb J (lJ jb _ hK))
  · have hno : ((labelsA (tx text)).1.take n5.toNat).any (fun x => decide (x.1 = lb.1)) = false := by
     rw [Bool.eq_false_iff];intro hh;obtain ⟨y, hy, he⟩ := List.any_eq_true.1 hh;have he := of_decide_eq_true he;obtain ⟨t, ht, rfl⟩ := List.mem_take_iff_getElem.1 hy
     have := List.pairwise_iff_getElem.1 q5 t n5.toNat (by omega) (by omega) (by omega)
     rw [List.getElem?_eq_getElem (by omega)] at hlb
     have hlb := Option.some.inj hlb;rw [hlb] at this;exact this.2 he
    refine Br.f hno (wr_i64 (by omega) (by omega) ⟨rfl, rfl, rfl, rfl, ?_, by omega⟩)
    rw [hN]; exact ⟨by omega, by omega⟩
 refine Br.f rfl (Br.f (decide_eq_false (by omega)) (Br.f (decide_eq_false (by omega)) (Br.mk (fun h4 => ?_) (fun _ => fin))))
 have h4 := of_decide_eq_true h4
 obtain ⟨lc, hlc⟩ : ∃ y, (labelsA (tx text)).1[(n5 - 1).toNat]? = some y := ⟨_, List.getElem?_eq_getElem (by omega)⟩
 have hs4 := hs3.mono l4
 refine wr_i64 (by omega) (by omega) ⟨by omega, by omega, hs4.isSome (by omega), hs4.isSome (by omega), _, hs4.at_ _ _ (labs_at hlc 1 (by omega)), Br.f (decide_eq_false ?_) fin⟩
 have := List.pairwise_iff_getElem.1 q5 (n5 - 1).toNat n5.toNat (by omega) (by omega) (by omega)
 rw [List.getElem?_eq_getElem (by omega)] at hlb hlc
 rw [Option.some.inj hlb, Option.some.inj hlc] at this;omega
theorem ct7Q (I : Mem) (hG : Globs I) (v0 : Value) (h0 : Q9 I v0) : Ct Tryd.prog (fnv 7) #[v0] I (fun v _ => v = .bool true) := by
 obtain ⟨s, rfl, _⟩ := h0;exact ct7 s I hG
