/- Part of a proof by the rules of the symbolic walk (see the law's own text): contracts of functions of the program. -/
import Derived.Test.YtjjjbafnplmjoaaGreatDoorse4
import Derived.Test.YtjjjbafnplmjoaaGreatDoorRows
import Derived.Lib.LaidTab
import Derived.Lib.LaidU8
import Derived.Stop.LaidErr
import Derived.Stop.Joined
import Derived.Shelf.Vars
import Derived.Lay
import Derived.MakeChecks
import Derived.ProofKit
import Derived.Test.YtjjjbafnplmjoaaGreatDoorse3
set_option linter.unusedVariables false
set_option linter.unusedSimpArgs false
open Go Go.Proofs Go.SE Go.RowKit
set_option linter.unusedVariables false
set_option maxRecDepth 100000
theorem target_rng {i : Ins} (h : (targetE i).2 = true) : 0 <= (targetE i).1 /\ (targetE i).1 < 256 := by
 unfold targetE at h ⊢
 split at h
 · rename_i hc
   obtain ⟨h1, h2⟩ := hc;rw [if_pos ⟨h1, h2⟩]
   have key : ∀ l, formT i.op = some l -> l.getLast? = some 116 -> l.length <= 2 -> 0 <= i.n /\ i.n < 256 := fun l hl hlast hlen => by
    rw [oneE, hl] at h1
    simp only at h1
    match l, hlast, hlen with
    | [x], hlast, _ =>
      simp at hlast; subst hlast
      by_cases hr : 0 <= i.n /\ i.n < 256
      · exact hr
      · rw [oneGo, if_neg (by simp), if_neg (by simp; omega), oneGo] at h1
        split at h1
        · rename_i hz; omega
        · cases h1
    | [x, y], hlast, _ =>
      simp at hlast; subst hlast
      by_cases hr : 0 <= i.n /\ i.n < 256
      · exact hr
      · rw [oneGo.eq_def] at h1
        simp only at h1
        have tail : ∀ a b c n u, n = i.n \/ n = 0 -> oneGo [116] a b c n u = 0 -> n = 0 := fun a b c n u hn hh => by
         rw [oneGo, if_neg (by simp)] at hh
         split at hh
         · rename_i hz
           rcases hn with rfl | rfl
           · simp at hz; omega
           · rfl
         · rw [oneGo] at hh
           split at hh
           · rename_i hz; exact hz.2.2.2
           · cases hh
        split at h1
        · have := tail _ _ _ _ _ (.inl rfl) h1; omega
        · split at h1
          · rename_i hx
            have : x = 114 \/ x = 110 \/ x = 112 \/ x = 116 := by
             have := (formL_mem i.op).1 x (by rw [formL, hl]; simp)
             rcases this with h | h | h | h <;> simp [h]
            exfalso
            rcases formT_cases i.op with hh | hh | hh | hh | hh | hh | hh | hh <;> rw [hh] at hl <;> simp at hl
            all_goals (obtain ⟨rfl, _⟩ := hl; simp at hx)
          · have := tail _ _ _ _ _ (.inl rfl) h1; omega
   rcases h2 with h2 | h2 | h2
   · exact key [116] (by rw [h2]; rfl) rfl (by decide)
   · exact key [114, 116] (by rw [h2]; rfl) rfl (by decide)
   · exact key [114, 116] (by rw [h2]; rfl) rfl (by decide)
 · cases h
theorem checkGo_ok (n : Nat) : ∀ (p : List Ins) (k : Int), (checkGo n p k).2 = 0 -> ∀ i ∈ p, oneE i = 0 /\ ((targetE i).2 = true -> (targetE i).1 < n)
 | [], _, _, i, hi => by cases hi
 | x :: r, k, h, i, hi => by
   rw [checkGo] at h
   split at h
   · rename_i h1; exact absurd h h1
   · rename_i h1
     split at h
     · cases h
     · rename_i h2
       rcases List.mem_cons.1 hi with rfl | hi
       · exact ⟨Decidable.not_not.1 h1, fun ht => by
          by_cases hh : (targetE i).1 < n
          · exact hh
          · exact absurd ⟨ht, by omega⟩ h2⟩
       · exact checkGo_ok n r (k + 1) h i hi
theorem check_len {p : List Ins} (h : (checkL p).2 = 0) : 0 < p.length /\ p.length <= 256 /\ (checkGo p.length p 0).2 = 0 /\ lastGoes p = false := by
 unfold checkL at h
 split at h
 · cases h
 · split at h
   · cases h
   · split at h
     · rename_i h3; exact absurd h h3
     · rename_i h3
       split at h
       · cases h
       · rename_i h4
         exact ⟨by omega, by omega, Decidable.not_not.1 h3, by simpa using h4⟩
theorem word_len (op : Int) : (wordT op).length <= 5 := by
 have h1 : ∀ t ∈ opNames, t.length <= 5 := by decide
 have h2 : ∀ t ∈ baseNames, t.length <= 5 := by decide
 have g : ∀ (l : List Tx) (k : Nat), (∀ t ∈ l, t.length <= 5) -> ((l[k]?).getD []).length <= 5 := fun l k hl => by
  cases hq : l[k]? with
  | none => simp
  | some t => exact hl t (List.mem_of_getElem? hq)
 unfold wordT opName;split
 · split
   · simp
   · exact g _ _ h1
 · split
   · simp
   · exact g _ _ h2
theorem oper_len {i : Ins} (h : okI i) : ∀ (fs : Tx) (u : Nat), (operA fs i u).length = fs.length /\ ∀ x ∈ operA fs i u, x.length <= 22
 | [], u => ⟨rfl, fun x hx => by cases hx⟩
 | f :: fs, u => by
   have hrn : i64N (regAt i.a i.b i.c u) := by
    have h1 := h.a; have h2 := h.b; have h3 := h.c
    unfold regAt i64N
    split <;> omega
   have l1 := itoa_len hrn;have l2 := itoa_len h.n;rw [operA];split
   · obtain ⟨g1, g2⟩ := oper_len h fs (u + 1)
     refine ⟨by simp [g1], fun x hx => ?_⟩
     rcases List.mem_cons.1 hx with rfl | hx
     · simp only [List.length_cons]; omega
     · exact g2 x hx
   · obtain ⟨g1, g2⟩ := oper_len h fs u
     split
     · refine ⟨by simp [g1], fun x hx => ?_⟩
       rcases List.mem_cons.1 hx with rfl | hx
       · simp only [lab, List.length_cons]; omega
       · exact g2 x hx
     · refine ⟨by simp [g1], fun x hx => ?_⟩
       rcases List.mem_cons.1 hx with rfl | hx
       · omega
       · exact g2 x hx
theorem insT_len {i : Ins} (h : okI i) : (insT i).length <= 100 := by
 obtain ⟨g1, g2⟩ := oper_len h (formL i.op) 0;have h3 := (formL_mem i.op).2.1
 have h4 := joinC_len 32 22 (wordT i.op :: operands i) (fun w hw => by
  rcases List.mem_cons.1 hw with rfl | hw
  · have := word_len i.op; omega
  · exact g2 w hw)
 have h5 : (wordT i.op :: operands i).length <= 4 := by simp only [List.length_cons, operands, g1]; omega
 have h6 : (wordT i.op :: operands i).length * (22 + 1) <= 4 * (22 + 1) := Nat.mul_le_mul_right _ h5
 have h7 : (insT i).length = 2 + (joinC 32 (wordT i.op :: operands i)).length + 1 := by
  simp only [insT, List.length_append, List.length_cons, List.length_nil]
 omega
theorem str_add (a b : Tx) : strT a ++ strT b = strT (a ++ b) := by apply ByteArray.ext; simp [strT]
def MarkN (p : List Ins) (j : Int) (xs : List Value) : Prop := 0 <= j /\ j <= p.length /\ xs = (List.range 256).map fun k => Value.bool (isTo (p.take j.toNat) k)
def outI (p : List Ins) (G : Mem) (v : Value) (j : Int) : Prop := ∃ b bs, v = .pointer (some ⟨b, 0, none⟩) /\ BldG G b bs /\ 0 <= j /\ j <= p.length /\ outGo p p 0 = bs ++ outGo p (p.drop j.toNat) j.toNat /\ bs.length <= 300 * j.toNat
set_option maxHeartbeats 4000000 in
theorem ct12 (p : List Ins) (a : Option Addr) (n c : Nat) (I : Mem) (hG : Globs I) (h : InsM I a n p) :
 Ct Tryz.prog (fnv 12) #[.slice a n c] I (fun v _ => v = .tuple #[.string (strT (writeA p).1), .int .i64 (writeA p).2]) := by
 obtain ⟨Q, hQ⟩ : ∃ q : Value, q = .tuple #[.string (strT (writeA p).1), .int .i64 (writeA p).2] := ⟨_, rfl⟩;obtain ⟨N, hN⟩ : ∃ f, f = MarkN p := ⟨_, rfl⟩;obtain ⟨M, hM⟩ : ∃ f, f = outI p := ⟨_, rfl⟩;rw [<- hQ]
 refine viaR (ct_via (A := { gives := [(13, [1])], calls := [(50, .g), (61, .g), (63, .g)], loops := [(6, ⟨[(0, .keep), (6, .keep), (22, .keep), (23, .keep), (24, .sh (.int .i64))], [(0, .vec)], [], fun vals xss _ G' => match vals, xss with | [.int .i64 j], [xs] => N j xs /\ G' = Mem.emp | _, _ => False, fun vals _ => match vals with | [.int .i64 j] => (n - j).toNat | _ => 0⟩), (14, ⟨[(6, .keep), (11, .kv), (37, .keep), (38, .keep), (39, .sh (.int .i64))], [(0, .keep)], [], fun vals _ _ G' => match vals with | [pv, .int .i64 j] => M G' pv j | _ => False, fun vals _ => match vals with | [_, .int .i64 j] => (n - j).toNat | _ => 0⟩)] }) Tryz.func12 rfl Tryz.call12 rfl rfl) (let E1 := fun (x : Int) (b : Int) (d : Int) (e : Int) (f : Int) (g : Mem) (i : ByteArray) (j : Nat) (k : Mem) (l : Int) (m : List Value) => Ct Tryz.prog (fnv 46) #[.agg #[.int .u8 x, .int .u8 b, .int .u8 d, .int .u8 e, .int .i64 f]] g fun v o => ∃ q r s, v = .slice q r s /\ ∃ y, y.length = r * 1 /\ (q = none -> r = 0) /\ (∀ (t : Nat) (u : Value), y[t]? = some u -> atI o q t = some u) /\ (∀ (t : Value), Membership.mem y t -> t.oneCell' = true) /\ (1 : Nat) = 1 /\ 1 + r <= 9223372036854775807 /\ (1 + r) * 16 <= 140737488355328 /\ ∀ (t : Option Addr) (u : Nat) (w : Mem), o.le w -> RowM w t u 1 (.string i :: y) -> Ct Tryz.prog (fnv 17) #[.slice t (1 + r) u, .string ⟨#[32]⟩] w fun z I1 => ∃ q1, z = .string q1 /\ 2 + q1.size <= 4611686018427387904 /\ ByteArray.size (⟨#[32, 32]⟩ ++ q1) + 1 <= 4611686018427387904 /\ CtH Tryz.prog (fnv 24) #[.pointer (some ⟨j, 0, none⟩), .string (⟨#[32, 32]⟩ ++ q1 ++ ⟨#[10]⟩)] I1 k fun v1 I2 G => ∃ n1 x1, v1 = .tuple #[.int .i64 n1, x1] /\ Wr .i64 (l + 1) fun c1 => Rf (Ent.mk (.vec m 88) none) /\ Rf (SV.ptr 0 0) /\ Rf (SV.v (.pointer (some ⟨j, 0, none⟩))) /\ Rf (SV.v (.slice a n c)) /\ Rf (SV.v (.int .i64 (n : Int))) /\ M G (.pointer (some ⟨j, 0, none⟩)) c1 /\ Int.toNat ((n : Int) - c1) < Int.toNat ((n : Int) - l)
  Ct Tryz.prog (fnv 43) #[.slice a n c] I fun v b => ∃ d e, v = .tuple #[.int .i64 d, .int .i64 e] /\ Br (e != 0) (Value.tuple #[.string ⟨#[]⟩, .int .i64 e] = Q) ((Rf (none : Option Nat) /\ Rf (SV.v (.slice a n c)) /\ Rf (SV.ptr 0 0) /\ Rf (SV.v (.slice a n c)) /\ Rf (SV.v (.int .i64 (n : Int))) /\ N 0 [.bool false, .bool false, .bool false, .bool false, .bool false, .bool false, .bool false, .bool false, .bool false, .bool false, .bool false, .bool false, .bool false, .bool false, .bool false, .bool false, .bool false, .bool false, .bool false, .bool false, .bool false, .bool false, .bool false, .bool false, .bool false, .bool false, .bool false, .bool false, .bool false, .bool false, .bool false, .bool false, .bool false, .bool false, .bool false, .bool false, .bool false, .bool false, .bool false, .bool false, .bool false, .bool false, .bool false, .bool false, .bool false, .bool false, .bool false, .bool false, .bool false, .bool false, .bool false, .bool false, .bool false, .bool false, .bool false, .bool false, .bool false, .bool false, .bool false, .bool false, .bool false, .bool false, .bool false, .bool false, .bool false, .bool false, .bool false, .bool false, .bool false, .bool false, .bool false, .bool false, .bool false, .bool false, .bool false, .bool false, .bool false, .bool false, .bool false, .bool false, .bool false, .bool false, .bool false, .bool false, .bool false, .bool false, .bool false, .bool false, .bool false, .bool false, .bool false, .bool false, .bool false, .bool false, .bool false, .bool false, .bool false, .bool false, .bool false, .bool false, .bool false, .bool false, .bool false, .bool false, .bool false, .bool false, .bool false, .bool false, .bool false, .bool false, .bool false, .bool false, .bool false, .bool false, .bool false, .bool false, .bool false, .bool false, .bool false, .bool false, .bool false, .bool false, .bool false, .bool false, .bool false, .bool false, .bool false, .bool false, .bool false, .bool false, .bool false, .bool false, .bool false, .bool false, .bool false, .bool false, .bool false, .bool false, .bool false, .bool false, .bool false, .bool false, .bool false, .bool false, .bool false, .bool false, .bool false, .bool false, .bool false, .bool false, .bool false, .bool false, .bool false, .bool false, .bool false, .bool false, .bool false, .bool false, .bool false, .bool false, .bool false, .bool false, .bool false, .bool false, .bool false, .bool false, .bool false, .bool false, .bool false, .bool false, .bool false, .bool false, .bool false, .bool false, .bool false, .bool false, .bool false, .bool false, .bool false, .bool false, .bool false, .bool false, .bool false, .bool false, .bool false, .bool false, .bool false, .bool false, .bool false, .bool false, .bool false, .bool false, .bool false, .bool false, .bool false, .bool false, .bool false, .bool false, .bool false, .bool false, .bool false, .bool false, .bool false, .bool false, .bool false, .bool false, .bool false, .bool false, .bool false, .bool false, .bool false, .bool false, .bool false, .bool false, .bool false, .bool false, .bool false, .bool false, .bool false, .bool false, .bool false, .bool false, .bool false, .bool false, .bool false, .bool false, .bool false, .bool false, .bool false, .bool false, .bool false, .bool false, .bool false, .bool false, .bool false, .bool false, .bool false, .bool false, .bool false, .bool false, .bool false, .bool false, .bool false, .bool false, .bool false, .bool false, .bool false, .bool false, .bool false, .bool false, .bool false, .bool false, .bool false, .bool false, .bool false, .bool false] /\ Mem.emp = Mem.emp) /\ ∀ (f G : Mem), b.le f -> ∀ (x : List Value) (g : Int), N g x /\ G = Mem.emp -> Br (decide (g < (n : Int))) (0 <= g /\ g < (n : Int) /\ a.isSome = true /\ (5 : Nat) = 5 /\ ∃ i, atI f a (g.toNat * 5 + 0) = some (.int .u8 i) /\ ∃ j, atI f a (g.toNat * 5 + 1) = some (.int .u8 j) /\ ∃ k, atI f a (g.toNat * 5 + 2) = some (.int .u8 k) /\ ∃ l, atI f a (g.toNat * 5 + 3) = some (.int .u8 l) /\ ∃ m, atI f a (g.toNat * 5 + 4) = some (.int .i64 m) /\ Ct Tryz.prog (fnv 44) #[.agg #[.int .u8 i, .int .u8 j, .int .u8 k, .int .u8 l, .int .i64 m]] f fun o q => ∃ r s, o = .tuple #[.int .i64 r, .bool s] /\ Br s (0 <= r /\ r < 256 /\ 0 + r.toNat * 1 + 1 <= x.length /\ Wr .i64 (g + 1) fun t => Rf (none : Option Nat) /\ Rf (SV.v (.slice a n c)) /\ Rf (SV.ptr 0 0) /\ Rf (SV.v (.slice a n c)) /\ Rf (SV.v (.int .i64 (n : Int))) /\ (N t (splice x (0 + r.toNat * 1) [.bool true]) /\ G = Mem.emp) /\ Int.toNat ((n : Int) - t) < Int.toNat ((n : Int) - g)) (Wr .i64 (g + 1) (fun t => Rf (none : Option Nat) /\ Rf (SV.v (.slice a n c)) /\ Rf (SV.ptr 0 0) /\ Rf (SV.v (.slice a n c)) /\ Rf (SV.v (.int .i64 (n : Int))) /\ (N t x /\ G = Mem.emp) /\ Int.toNat ((n : Int) - t) < Int.toNat ((n : Int) - g)))) (∀ (i : Nat), f i = none -> G i = none -> (Rf (Ent.mk (.vec x 88) none) /\ Rf (SV.ptr 0 0) /\ Rf (SV.v (.pointer (some ⟨i, 0, none⟩))) /\ Rf (SV.v (.slice a n c)) /\ Rf (SV.v (.int .i64 (n : Int))) /\ M (addB G i (.cells #[.pointer none, .slice none 0 0] 48 (0, 0))) (.pointer (some ⟨i, 0, none⟩)) 0) /\ ∀ (j k : Mem), f.le j -> ∀ (l : Int), M k (.pointer (some ⟨i, 0, none⟩)) l -> Br (decide (l < (n : Int))) (0 <= l /\ l < (n : Int) /\ a.isSome = true /\ (5 : Nat) = 5 /\ ∃ m, atI j a (l.toNat * 5 + 0) = some (.int .u8 m) /\ ∃ o, atI j a (l.toNat * 5 + 1) = some (.int .u8 o) /\ ∃ q, atI j a (l.toNat * 5 + 2) = some (.int .u8 q) /\ ∃ r, atI j a (l.toNat * 5 + 3) = some (.int .u8 r) /\ ∃ s, atI j a (l.toNat * 5 + 4) = some (.int .i64 s) /\ 0 <= l /\ l < 256 /\ ∃ t, x[0 + l.toNat * 1 + 0]? = some (.bool t) /\ Br t (Ct Tryz.prog (fnv 45) #[.int .i64 l] j (fun u w => ∃ y, u = .string y /\ y.size + 2 <= 4611686018427387904 /\ CtH Tryz.prog (fnv 24) #[.pointer (some ⟨i, 0, none⟩), .string (y ++ ⟨#[58, 10]⟩)] w k fun z I1 G1 => ∃ n1 x1, z = .tuple #[.int .i64 n1, x1] /\ Ct Tryz.prog (fnv 36) #[.int .u8 m] I1 fun v1 I2 => ∃ q1, v1 = .string q1 /\ E1 m o q r s I2 q1 i G1 l x /\ E1 m o q r s I2 q1 i G1 l x)) (Ct Tryz.prog (fnv 36) #[.int .u8 m] j (fun u w => ∃ y, u = .string y /\ E1 m o q r s w y i k l x /\ E1 m o q r s w y i k l x))) (CtH Tryz.prog (fnv 23) #[.pointer (some ⟨i, 0, none⟩)] j k (fun m o q => ∃ r, m = .string r /\ Value.tuple #[.string r, .int .i64 0] = Q))))) (by kernel_rfl) ?_
 intro E1;have hl := h.len;have hmx : n <= maxLen := SlR.max h
 have hmx2 : maxLen <= 9223372036854775807 := by decide
 refine (ct43 p a n c I h).mono fun v b lb hv => ⟨_, _, hv, Br.mk (fun h1 => ?_) (fun h1 => ?_)⟩
 · have h1 : (checkL p).2 ≠ 0 := by simpa using h1
   rw [hQ, writeA, if_pos h1]; rfl
 have h1 : (checkL p).2 = 0 := by simpa using h1
 obtain ⟨c1, c2, c3, c4⟩ := check_len h1;have hck := checkGo_ok _ _ _ c3;refine ⟨⟨rfl, rfl, rfl, rfl, rfl, ?_⟩, fun f G lf x g hg => ?_⟩
 · rw [hN]
   exact ⟨⟨Int.le_refl _, Int.natCast_nonneg _, rfl⟩, rfl⟩
 obtain ⟨hg, rfl⟩ := hg;have hf := h.mono (Mem.le_trans lb lf);rw [hN] at hg;obtain ⟨g1, g2, g3⟩ := hg;refine Br.mk (fun h2 => ?_) (fun h2 => ?_)
 · have h2 := of_decide_eq_true h2
   obtain ⟨i, q1, q2, e0, e1, e2, e3, e4⟩ := hf.get g1 h2
   have htake : p.take (g + 1).toNat = p.take g.toNat ++ [i] := by rw [show (g + 1).toNat = g.toNat + 1 by omega, List.take_add_one, q1]; rfl
   have hi := hck i (List.mem_of_getElem? q1)
   refine ⟨g1, h2, SlR.isSome hf (by omega), rfl, _, e0, _, e1, _, e2, _, e3, _, e4, (ct44 i q2 f).mono fun o q lo ho => ⟨_, _, ho, Br.mk (fun h3 => ?_) (fun h3 => ?_)⟩⟩
   · obtain ⟨t1, t2⟩ := target_rng h3
     refine ⟨t1, t2, by rw [g3, List.length_map, List.length_range]; omega, wr_i64 (by omega) (by omega) ⟨rfl, rfl, rfl, rfl, rfl, ?_, by omega⟩⟩
     rw [hN]
     refine ⟨⟨by omega, by omega, ?_⟩, rfl⟩
     show x.set (0 + (targetE i).1.toNat * 1) (.bool true) = _
     rw [Nat.zero_add, Nat.mul_one, g3];apply List.ext_getElem?;intro k;rw [List.getElem?_set];simp only [List.length_map, List.length_range, List.getElem?_map]
     by_cases hk : (targetE i).1.toNat = k
     · subst hk
       rw [if_pos rfl, if_pos (by omega), List.getElem?_range (by omega), Option.map_some, htake, isTo, List.any_append, List.any_cons, h3]
       rw [decide_eq_true (by omega)]
       simp
     · rw [if_neg hk]
       cases hq : (List.range 256)[k]? with
       | none => rfl
       | some k' =>
         obtain ⟨hlt, hkk⟩ := List.getElem?_eq_some_iff.1 hq;rw [List.getElem_range] at hkk;subst hkk;rw [Option.map_some, Option.map_some, htake];simp only [isTo, List.any_append, List.any_cons, List.any_nil, h3, Bool.true_and, Bool.or_false]
         rw [decide_eq_false (p := (targetE i).1 = (k : Int)) (by omega), Bool.or_false]
   · refine wr_i64 (by omega) (by omega) ⟨rfl, rfl, rfl, rfl, rfl, ?_, by omega⟩
     rw [hN]
     refine ⟨⟨by omega, by omega, ?_⟩, rfl⟩
     rw [g3, htake];refine List.map_congr_left fun k hk => ?_;simp only [isTo, List.any_append, List.any_cons, List.any_nil, h3, Bool.false_and, Bool.or_false]
 · have h2 := of_decide_eq_false h2
   rw [List.take_of_length_le (by omega)] at g3
   intro B hB _;refine ⟨⟨rfl, rfl, rfl, rfl, rfl, ?_⟩, fun j k lj l hM0 => ?_⟩
   · rw [hM]
     refine ⟨B, [], rfl, ⟨⟨fun _ => B, fun _ => 0, fun _ => false⟩, _, ?_, .inl ⟨rfl, rfl⟩⟩, by omega, by omega, by simp, by simp⟩
     refine ⟨fun id x hx hal => ?_, fun i j x y hi hj _ _ _ _ hij => ?_, fun k hk => ?_, fun id x k hx hnm => ?_⟩
     · match id, hx with
       | 0, hx =>
         cases hx
         refine ⟨rfl, _, by simp [addB]; rfl, rfl, fun k sv hk hj => ?_⟩
         match k, hk with
         | 0, hk => cases hk; simp [den]
         | 1, hk => cases hk; simp [den]
     · match i, j, hi, hj with
       | 0, 0, _, _ => exact absurd rfl hij
     · by_cases hkb : k = B
       · exact ⟨0, _, rfl, rfl, rfl, hkb.symm⟩
       · simp [addB, hkb, Mem.emp] at hk
     · match id, hx with
       | 0, hx => cases hx; cases hnm; exact ⟨rfl, rfl⟩
   rw [hM] at hM0;obtain ⟨B', bs, hv, hBG, m1, m2, m3, m4⟩ := hM0;cases hv;have hj := hf.mono lj;have hGj := hG.mono (Mem.le_trans lb (Mem.le_trans lf lj));refine Br.mk (fun h3 => ?_) (fun h3 => ?_)
   · have h3 := of_decide_eq_true h3
     obtain ⟨i, q1, q2, e0, e1, e2, e3, e4⟩ := hj.get m1 h3
     have hdr : p.drop l.toNat = i :: p.drop (l.toNat + 1) := by
      have hlt : l.toNat < p.length := by omega
      rw [List.drop_eq_getElem_cons hlt]
      congr 1
      rw [List.getElem?_eq_getElem hlt] at q1;exact Option.some.inj q1
     rw [hdr, outGo] at m3
     have hx : x[0 + l.toNat * 1 + 0]? = some (.bool (isTo p l.toNat)) := by
      rw [g3, Nat.zero_add, Nat.mul_one, Nat.add_zero, List.getElem?_map, List.getElem?_range (by omega)]; rfl
     have hit := insT_len q2
     have hll : (lab l).length <= 22 := by
      have := itoa_len (n := l) ⟨by omega, by omega⟩
      simp only [lab, List.length_cons]; omega
     have hw : ∀ (I1 : Mem) (G1 : Mem) (bs1 : Tx), I.le I1 -> BldG G1 B bs1 -> bs1 = bs ++ (if isTo p l.toNat then lab l ++ [58, 10] else []) -> E1 i.op i.a i.b i.c i.n I1 (strT (wordT i.op)) B G1 l x := by
      intro I1 G1 bs1 l1 hB1 hbs1
      have hbl : bs1.length <= bs.length + 24 := by
       rw [hbs1, List.length_append];split
       · simp only [List.length_append, List.length_cons, List.length_nil]; omega
       · simp
      refine (ct46 i q2 I1 (hG.mono l1)).mono fun v o lo ⟨ol, oa, on, oc, hv, o1, o2, o3, o4, o5⟩ => ⟨_, _, _, hv, strs ol, ?_, fun ha => by subst ha; exact o2.nil rfl, fun t u hu => o2.at_ _ _ hu, fun t ht => ?_, rfl, by omega, by omega, fun t u w lw hrow => ?_⟩
      · rw [o2.len]
      · obtain ⟨y, _, rfl⟩ := List.mem_map.1 ht; rfl
      · have e : (Value.string (strT (wordT i.op)) :: strs ol) = strs (strT (wordT i.op) :: ol) := rfl
        rw [e] at hrow
        have hlen : (strT (wordT i.op) :: ol).length = 1 + on := by
         have := o2.len;simp [strs] at this
         simp only [List.length_cons]; omega
        have hjb : joinB (strT (wordT i.op) :: ol) = strT (joinC 32 (wordT i.op :: operands i)) := by
         rw [joinB, List.map_cons, o1, tx_strT]
        have hjl : (joinC 32 (wordT i.op :: operands i)).length + 3 = (insT i).length := by
         simp only [insT, List.length_append, List.length_cons, List.length_nil]; omega
        have hct := ct17 (strT (wordT i.op) :: ol) t u w hrow (by rw [hjb, strT_size]; omega) (by omega)
        rw [hlen] at hct;refine hct.mono fun z J2 l2 hz => ⟨_, hz, ?_⟩;rw [hjb];have e32 : (⟨#[32, 32]⟩ : ByteArray) = strT [32, 32] := rfl;have e10 : (⟨#[10]⟩ : ByteArray) = strT [10] := rfl;rw [e32, e10, str_add, str_add, strT_size, strT_size]
        refine ⟨by omega, by simp only [List.length_append, List.length_cons, List.length_nil]; omega, CtH.mono (ch39 G1 B bs1 (strT (insT i)) (by rw [strT_size]; omega) J2 hB1) fun v1 J3 G2 l3 ⟨hv1, hB2⟩ => ⟨_, _, hv1, wr_i64 (by omega) (by omega) ⟨rfl, rfl, rfl, rfl, rfl, ?_, by omega⟩⟩⟩
        rw [hM]
        refine ⟨B, _, rfl, hB2, by omega, by omega, ?_, ?_⟩
        · rw [m3, hbs1, tx_strT, show (l + 1).toNat = l.toNat + 1 by omega, show ((l.toNat : Nat) : Int) = l by omega]
          simp [List.append_assoc]
        · rw [List.length_append, tx_strT]; omega
     refine ⟨m1, h3, SlR.isSome hj (by omega), rfl, _, e0, _, e1, _, e2, _, e3, _, e4, m1, by omega, _, hx, Br.mk (fun h4 => ?_) (fun h4 => ?_)⟩
     · refine (ct45 l ⟨by omega, by omega⟩ j hGj).mono fun u w lw hu => ⟨_, hu, by rw [strT_size]; omega, ?_⟩
       rw [show (⟨#[58, 10]⟩ : ByteArray) = strT [58, 10] from rfl, str_add]
       refine CtH.mono (ch39 k B bs (strT (lab l ++ [58, 10])) (by rw [strT_size, List.length_append]; simp only [List.length_cons, List.length_nil]; omega) w hBG) fun z I1 G1 lz ⟨hz, hB1⟩ => ⟨_, _, hz, (ct36 i.op q2.op I1).mono fun v1 I2 l2 hv1 => ⟨_, hv1, ?_⟩⟩
       have := hw I2 G1 _ (Mem.le_trans lb (Mem.le_trans lf (Mem.le_trans lj (Mem.le_trans lw (Mem.le_trans lz l2))))) hB1 (by rw [h4, tx_strT]; rfl)
       exact ⟨this, this⟩
     · refine (ct36 i.op q2.op j).mono fun u w lw hu => ⟨_, hu, ?_⟩
       have := hw w k bs (Mem.le_trans lb (Mem.le_trans lf (Mem.le_trans lj lw))) hBG (by rw [h4]; simp)
       exact ⟨this, this⟩
   · have h3 := of_decide_eq_false h3
     rw [List.drop_eq_nil_of_le (by omega), outGo, List.append_nil] at m3
     refine CtH.mono (ch43 k B bs j hBG) fun m o q lo hm => ⟨_, hm, ?_⟩;rw [hQ, writeA, if_neg (fun hh => hh h1), <- m3]
theorem ct27 (p q : List Ins) (a b : Option Addr) (n m c d : Nat) (I : Mem) (h : InsM I a n p) (h' : InsM I b m q) : Ct Tryz.prog (fnv 27) #[.slice a n c, .slice b m d] I (fun v _ => v = .bool (decide (p = q))) := by
 obtain ⟨Q, hQ⟩ : ∃ w : Bool, w = decide (p = q) := ⟨_, rfl⟩;obtain ⟨N, hN⟩ : ∃ f : Int -> Prop, f = fun j : Int => 0 <= j /\ j <= n /\ n = m /\ p.take j.toNat = q.take j.toNat := ⟨_, rfl⟩;rw [<- hQ]
 refine viaR (ct_via (A := { loops := [(4, ⟨[(0, .keep), (1, .keep), (12, .keep), (13, .sh (.int .i64))], [], [], fun vals _ _ _ => match vals with | [.int .i64 j] => N j | _ => False, fun vals _ => match vals with | [.int .i64 j] => (n - j).toNat | _ => 0⟩)] }) Tryz.func27 rfl Tryz.call27 rfl rfl) (Br ((n : Int) != (m : Int)) (Value.bool false = .bool Q) ((Rf (SV.v (.slice a n c)) /\ Rf (SV.v (.slice b m d)) /\ Rf (SV.v (.int .i64 (n : Int))) /\ N 0) /\ ∀ (e : Mem), Mem -> I.le e -> ∀ (f : Int), N f -> Br (decide (f < (n : Int))) (0 <= f /\ f < (n : Int) /\ a.isSome = true /\ (5 : Nat) = 5 /\ ∃ g, atI e a (f.toNat * 5 + 0) = some (.int .u8 g) /\ ∃ i, atI e a (f.toNat * 5 + 1) = some (.int .u8 i) /\ ∃ j, atI e a (f.toNat * 5 + 2) = some (.int .u8 j) /\ ∃ k, atI e a (f.toNat * 5 + 3) = some (.int .u8 k) /\ ∃ l, atI e a (f.toNat * 5 + 4) = some (.int .i64 l) /\ 0 <= f /\ f < (m : Int) /\ b.isSome = true /\ (5 : Nat) = 5 /\ ∃ o, atI e b (f.toNat * 5 + 0) = some (.int .u8 o) /\ ∃ r, atI e b (f.toNat * 5 + 1) = some (.int .u8 r) /\ ∃ s, atI e b (f.toNat * 5 + 2) = some (.int .u8 s) /\ ∃ t, atI e b (f.toNat * 5 + 3) = some (.int .u8 t) /\ ∃ u, atI e b (f.toNat * 5 + 4) = some (.int .i64 u) /\ Br (!(g == o && (i == r && (j == s && (k == t && (l == u && true)))))) (Value.bool false = .bool Q) (Wr .i64 (f + 1) (fun v => Rf (SV.v (.slice a n c)) /\ Rf (SV.v (.slice b m d)) /\ Rf (SV.v (.int .i64 (n : Int))) /\ N v /\ Int.toNat ((n : Int) - v) < Int.toNat ((n : Int) - f)))) (Value.bool true = .bool Q))) (by kernel_rfl) ?_
 have hl := h.len;have hl' := h'.len;have hmx : n <= maxLen := SlR.max h
 have hmx2 : maxLen <= 9223372036854775807 := by decide
 refine Br.mk (fun h1 => ?_) (fun h1 => ⟨⟨rfl, rfl, rfl, by rw [hN]; exact ⟨by omega, by omega, Int.natCast_inj.1 (by simpa using h1), rfl⟩⟩, fun e G le f hf => ?_⟩)
 · rw [hQ, decide_eq_false]
   rintro rfl;have : n = m := hl.symm.trans hl';subst this;simp at h1
 rw [hN] at hf ⊢;obtain ⟨h2, h3, h4, h5⟩ := hf;refine Br.mk (fun h6 => ?_) (fun h6 => ?_)
 · have h6 := of_decide_eq_true h6
   obtain ⟨i, g1, g2, e0, e1, e2, e3, e4⟩ := (h.mono le).get h2 h6
   obtain ⟨j, k1, k2, d0, d1, d2, d3, d4⟩ := (h'.mono le).get h2 (by omega)
   have t1 : p.take (f + 1).toNat = p.take f.toNat ++ [i] := by rw [show (f + 1).toNat = f.toNat + 1 by omega, List.take_add_one, g1]; rfl
   have t2 : q.take (f + 1).toNat = q.take f.toNat ++ [j] := by rw [show (f + 1).toNat = f.toNat + 1 by omega, List.take_add_one, k1]; rfl
   refine ⟨h2, h6, SlR.isSome (h.mono le) (by omega), rfl, _, e0, _, e1, _, e2, _, e3, _, e4, h2, by omega, SlR.isSome (h'.mono le) (by omega), rfl, _, d0, _, d1, _, d2, _, d3, _, d4, Br.mk (fun h7 => ?_) (fun h7 => ?_)⟩
   · rw [hQ, decide_eq_false]
     rintro rfl;rw [g1] at k1;cases k1;simp at h7
   · have hij : i = j := by
      obtain ⟨o, a1, b1, c1, n1⟩ := i;obtain ⟨o2, a2, b2, c2, n2⟩ := j;simp only [Bool.not_eq_false', Bool.and_eq_true, beq_iff_eq, and_true] at h7;obtain ⟨rfl, rfl, rfl, rfl, rfl⟩ := h7;rfl
     exact wr_i64 (by omega) (by omega) ⟨rfl, rfl, rfl, ⟨by omega, by omega, h4, by rw [t1, t2, h5, hij]⟩, by omega⟩
 · have h6 := of_decide_eq_false h6
   rw [List.take_of_length_le (by omega), List.take_of_length_le (by omega)] at h5
   rw [hQ, decide_eq_true h5]
def awT1 : Tx := [108, 111, 111, 112, 58, 32, 115, 117, 98, 32, 114, 49, 32, 114, 49, 32, 114, 50, 32, 59, 32, 100, 111, 119, 110, 10, 32, 32, 106, 122, 32, 114, 49, 32, 101, 110, 100, 10, 32, 32, 106, 117, 109, 112, 32, 108, 111, 111, 112, 10, 101, 110, 100, 58, 10, 32, 32, 104, 97, 108, 116, 10]
def awT2 : Tx := [108, 48, 58, 10, 32, 32, 115, 117, 98, 32, 114, 49, 32, 114, 49, 32, 114, 50, 10, 32, 32, 106, 122, 32, 114, 49, 32, 108, 51, 10, 32, 32, 106, 117, 109, 112, 32, 108, 48, 10, 108, 51, 58, 10, 32, 32, 104, 97, 108, 116, 10]
def awP : List Ins := [⟨34, 1, 1, 2, 0⟩, ⟨10, 1, 0, 0, 3⟩, ⟨9, 0, 0, 0, 0⟩, ⟨1, 0, 0, 0, 0⟩]
def awL : Array MapEntry := #[⟨.string ⟨#[115, 101, 116, 32, 114, 49]⟩, .int .i64 151, 0⟩, ⟨.string ⟨#[115, 101, 116, 32, 114, 56, 32, 49]⟩, .int .i64 152, 1⟩, ⟨.string ⟨#[115, 101, 116, 32, 114, 49, 32, 48, 49]⟩, .int .i64 152, 2⟩, ⟨.string ⟨#[102, 111, 111]⟩, .int .i64 150, 3⟩, ⟨.string ⟨#[106, 117, 109, 112, 32, 110, 111, 119, 104, 101, 114, 101]⟩, .int .i64 155, 4⟩, ⟨.string ⟨#[106, 117, 109, 112, 32, 49, 120]⟩, .int .i64 153, 5⟩, ⟨.string ⟨#[97, 58]⟩, .int .i64 156, 6⟩, ⟨.string ⟨#[109, 111, 118, 101, 32, 114, 49, 32, 114, 50]⟩, .int .i64 143, 7⟩]
theorem aw1 : parseA awT1 = (awP, 0, 0) := by decide +kernel
theorem aw2 : writeA awP = (awT2, 0) := by decide +kernel
theorem aw3_0 : parseA [115, 101, 116, 32, 114, 49] = ([], 1, 151) := by decide +kernel
theorem aw3_1 : parseA [115, 101, 116, 32, 114, 56, 32, 49] = ([], 1, 152) := by decide +kernel
theorem aw3_2 : parseA [115, 101, 116, 32, 114, 49, 32, 48, 49] = ([], 1, 152) := by decide +kernel
theorem aw3_3 : parseA [102, 111, 111] = ([], 1, 150) := by decide +kernel
theorem aw3_4 : parseA [106, 117, 109, 112, 32, 110, 111, 119, 104, 101, 114, 101] = ([], 1, 155) := by decide +kernel
theorem aw3_5 : parseA [106, 117, 109, 112, 32, 49, 120] = ([], 1, 153) := by decide +kernel
theorem aw3_6 : parseA [97, 58] = ([], 1, 156) := by decide +kernel
theorem aw3_7 : parseA [109, 111, 118, 101, 32, 114, 49, 32, 114, 50] = ([], 1, 143) := by decide +kernel
theorem aw4 : parseA [] = ([], 0, 6) := by decide +kernel
set_option maxHeartbeats 2000000 in
theorem ct11 (I : Mem) (hG : Globs I) : Ct Tryz.prog (fnv 11) #[] I (fun v _ => v = .bool true) := by
 refine viaR (ct_via (A := { loops := [(8, ⟨[(45, .keep)], [(1, .keep), (2, .iter)], [], fun vals xss _ _ => match vals, xss with | [], [_] => True | _, _ => False, fun vals xss => match xss with | [x] => (leftOf awL (decI x)).size | _ => 0⟩)] }) Tryz.func11 rfl Tryz.call11 rfl rfl) (Ct Tryz.prog (fnv 16) #[.string ⟨#[108, 111, 111, 112, 58, 32, 115, 117, 98, 32, 114, 49, 32, 114, 49, 32, 114, 50, 32, 59, 32, 100, 111, 119, 110, 10, 32, 32, 106, 122, 32, 114, 49, 32, 101, 110, 100, 10, 32, 32, 106, 117, 109, 112, 32, 108, 111, 111, 112, 10, 101, 110, 100, 58, 10, 32, 32, 104, 97, 108, 116, 10]⟩] I fun (v : Value) (a : Mem) => ∃ (b : Option Addr) (n c : Nat) (d e : Int), v = .tuple #[.slice b n c, .int .i64 d, .int .i64 e] /\ Br (e != 0) (Value.bool false = .bool true) (Br (d != 0) (Value.bool false = .bool true) (∀ (f : Nat) (g : Mem), a.le g -> g f = some (.cells #[.int .u8 34, .int .u8 1, .int .u8 1, .int .u8 2, .int .i64 0, .int .u8 10, .int .u8 1, .int .u8 0, .int .u8 0, .int .i64 3, .int .u8 9, .int .u8 0, .int .u8 0, .int .u8 0, .int .i64 0, .int .u8 1, .int .u8 0, .int .u8 0, .int .u8 0, .int .i64 0] 27 (0, 0)) -> Ct Tryz.prog (fnv 27) #[.slice b n c, .slice (some ⟨f, 0, none⟩) 4 4] g fun (h : Value) (i : Mem) => ∃ (j : Bool), h = .bool j /\ Br (!j) (Value.bool false = .bool true) (Ct Tryz.prog (fnv 12) #[.slice b n c] i (fun (k : Value) (l : Mem) => ∃ (q : ByteArray) (m : Int), k = .tuple #[.string q, .int .i64 m] /\ Br (m != 0) (Value.bool false = .bool true) (Br (!(q.toList == (ByteArray.mk #[108, 48, 58, 10, 32, 32, 115, 117, 98, 32, 114, 49, 32, 114, 49, 32, 114, 50, 10, 32, 32, 106, 122, 32, 114, 49, 32, 108, 51, 10, 32, 32, 106, 117, 109, 112, 32, 108, 48, 10, 108, 51, 58, 10, 32, 32, 104, 97, 108, 116, 10]).toList)) (Value.bool false = .bool true) (∀ (o : Nat), o = o /\ true = true /\ Rf (some (none : Option (Prod Nat Value))) /\ o = o /\ true = true /\ Rf (some (none : Option (Prod Nat Value))) /\ o = o /\ true = true /\ Rf (some (none : Option (Prod Nat Value))) /\ o = o /\ true = true /\ Rf (some (none : Option (Prod Nat Value))) /\ o = o /\ true = true /\ Rf (some (none : Option (Prod Nat Value))) /\ o = o /\ true = true /\ Rf (some (none : Option (Prod Nat Value))) /\ o = o /\ true = true /\ Rf (some (none : Option (Prod Nat Value))) /\ o = o /\ true = true /\ Rf (some (none : Option (Prod Nat Value))) /\ o = o /\ (Rf (Ent.mk (.raw (.map #[⟨.string ⟨#[115, 101, 116, 32, 114, 49]⟩, .int .i64 151, 0⟩, ⟨.string ⟨#[115, 101, 116, 32, 114, 56, 32, 49]⟩, .int .i64 152, 1⟩, ⟨.string ⟨#[115, 101, 116, 32, 114, 49, 32, 48, 49]⟩, .int .i64 152, 2⟩, ⟨.string ⟨#[102, 111, 111]⟩, .int .i64 150, 3⟩, ⟨.string ⟨#[106, 117, 109, 112, 32, 110, 111, 119, 104, 101, 114, 101]⟩, .int .i64 155, 4⟩, ⟨.string ⟨#[106, 117, 109, 112, 32, 49, 120]⟩, .int .i64 153, 5⟩, ⟨.string ⟨#[97, 58]⟩, .int .i64 156, 6⟩, ⟨.string ⟨#[109, 111, 118, 101, 32, 114, 49, 32, 114, 50]⟩, .int .i64 143, 7⟩] 8)) (some o)) /\ (Rf (some o) /\ (8 : Nat) = 8 /\ (8 : Nat) = 8 /\ Rf (none : Option Nat)) /\ Rf (SV.ptr 2 0) /\ True) /\ ∀ (p : Mem), Mem -> l.le p -> ∀ (x : List Value), True -> o = o /\ true = true /\ (8 : Nat) <= 8 /\ ((leftOf #[⟨.string ⟨#[115, 101, 116, 32, 114, 49]⟩, .int .i64 151, 0⟩, ⟨.string ⟨#[115, 101, 116, 32, 114, 56, 32, 49]⟩, .int .i64 152, 1⟩, ⟨.string ⟨#[115, 101, 116, 32, 114, 49, 32, 48, 49]⟩, .int .i64 152, 2⟩, ⟨.string ⟨#[102, 111, 111]⟩, .int .i64 150, 3⟩, ⟨.string ⟨#[106, 117, 109, 112, 32, 110, 111, 119, 104, 101, 114, 101]⟩, .int .i64 155, 4⟩, ⟨.string ⟨#[106, 117, 109, 112, 32, 49, 120]⟩, .int .i64 153, 5⟩, ⟨.string ⟨#[97, 58]⟩, .int .i64 156, 6⟩, ⟨.string ⟨#[109, 111, 118, 101, 32, 114, 49, 32, 114, 50]⟩, .int .i64 143, 7⟩] (decI x)).size = 0 -> Ct Tryz.prog (fnv 16) #[.string ⟨#[]⟩] p fun (r : Value) (s : Mem) => ∃ (t : Option Addr) (u w : Nat) (y z : Int), r = .tuple #[.slice t u w, .int .i64 y, .int .i64 z] /\ Br (y == 0) (Value.bool (z == 6) = .bool true) (Value.bool false = .bool true)) /\ ((decI x).contains (0 : Nat) = false -> o = o /\ (8 : Nat) = 8 /\ List.Nodup [(0 : Nat), 1, 2, 3, 4, 5, 6, 7] /\ (∃ (s : Array Nat) (r : Nat), ((decI x).toList.concat (0 : Nat)).toArray = s.push r /\ Membership.mem [MapEntry.mk (.string ⟨#[115, 101, 116, 32, 114, 49]⟩) (.int .i64 151) 0, ⟨.string ⟨#[115, 101, 116, 32, 114, 56, 32, 49]⟩, .int .i64 152, 1⟩, ⟨.string ⟨#[115, 101, 116, 32, 114, 49, 32, 48, 49]⟩, .int .i64 152, 2⟩, ⟨.string ⟨#[102, 111, 111]⟩, .int .i64 150, 3⟩, ⟨.string ⟨#[106, 117, 109, 112, 32, 110, 111, 119, 104, 101, 114, 101]⟩, .int .i64 155, 4⟩, ⟨.string ⟨#[106, 117, 109, 112, 32, 49, 120]⟩, .int .i64 153, 5⟩, ⟨.string ⟨#[97, 58]⟩, .int .i64 156, 6⟩, ⟨.string ⟨#[109, 111, 118, 101, 32, 114, 49, 32, 114, 50]⟩, .int .i64 143, 7⟩] (MapEntry.mk (.string ⟨#[115, 101, 116, 32, 114, 49]⟩) (.int .i64 151) r)) /\ Ct Tryz.prog (fnv 16) #[.string ⟨#[115, 101, 116, 32, 114, 49]⟩] p fun (r : Value) (s : Mem) => ∃ (t : Option Addr) (u w : Nat) (y z : Int), r = .tuple #[.slice t u w, .int .i64 y, .int .i64 z] /\ Br (y != 1) (Value.bool false = .bool true) (Br (z != 151) (Value.bool false = .bool true) (Rf (Ent.mk (.raw (.map #[⟨.string ⟨#[115, 101, 116, 32, 114, 49]⟩, .int .i64 151, 0⟩, ⟨.string ⟨#[115, 101, 116, 32, 114, 56, 32, 49]⟩, .int .i64 152, 1⟩, ⟨.string ⟨#[115, 101, 116, 32, 114, 49, 32, 48, 49]⟩, .int .i64 152, 2⟩, ⟨.string ⟨#[102, 111, 111]⟩, .int .i64 150, 3⟩, ⟨.string ⟨#[106, 117, 109, 112, 32, 110, 111, 119, 104, 101, 114, 101]⟩, .int .i64 155, 4⟩, ⟨.string ⟨#[106, 117, 109, 112, 32, 49, 120]⟩, .int .i64 153, 5⟩, ⟨.string ⟨#[97, 58]⟩, .int .i64 156, 6⟩, ⟨.string ⟨#[109, 111, 118, 101, 32, 114, 49, 32, 114, 50]⟩, .int .i64 143, 7⟩] 8)) (some o)) /\ (Rf (some o) /\ (8 : Nat) = 8 /\ (8 : Nat) = 8 /\ Rf (none : Option Nat)) /\ Rf (SV.ptr 2 0) /\ True /\ (leftOf #[⟨.string ⟨#[115, 101, 116, 32, 114, 49]⟩, .int .i64 151, 0⟩, ⟨.string ⟨#[115, 101, 116, 32, 114, 56, 32, 49]⟩, .int .i64 152, 1⟩, ⟨.string ⟨#[115, 101, 116, 32, 114, 49, 32, 48, 49]⟩, .int .i64 152, 2⟩, ⟨.string ⟨#[102, 111, 111]⟩, .int .i64 150, 3⟩, ⟨.string ⟨#[106, 117, 109, 112, 32, 110, 111, 119, 104, 101, 114, 101]⟩, .int .i64 155, 4⟩, ⟨.string ⟨#[106, 117, 109, 112, 32, 49, 120]⟩, .int .i64 153, 5⟩, ⟨.string ⟨#[97, 58]⟩, .int .i64 156, 6⟩, ⟨.string ⟨#[109, 111, 118, 101, 32, 114, 49, 32, 114, 50]⟩, .int .i64 143, 7⟩] (decI (encI ((decI x).toList.concat (0 : Nat)).toArray))).size < (leftOf #[⟨.string ⟨#[115, 101, 116, 32, 114, 49]⟩, .int .i64 151, 0⟩, ⟨.string ⟨#[115, 101, 116, 32, 114, 56, 32, 49]⟩, .int .i64 152, 1⟩, ⟨.string ⟨#[115, 101, 116, 32, 114, 49, 32, 48, 49]⟩, .int .i64 152, 2⟩, ⟨.string ⟨#[102, 111, 111]⟩, .int .i64 150, 3⟩, ⟨.string ⟨#[106, 117, 109, 112, 32, 110, 111, 119, 104, 101, 114, 101]⟩, .int .i64 155, 4⟩, ⟨.string ⟨#[106, 117, 109, 112, 32, 49, 120]⟩, .int .i64 153, 5⟩, ⟨.string ⟨#[97, 58]⟩, .int .i64 156, 6⟩, ⟨.string ⟨#[109, 111, 118, 101, 32, 114, 49, 32, 114, 50]⟩, .int .i64 143, 7⟩] (decI x)).size))) /\ ((decI x).contains (1 : Nat) = false -> o = o /\ (8 : Nat) = 8 /\ List.Nodup [(0 : Nat), 1, 2, 3, 4, 5, 6, 7] /\ (∃ (s : Array Nat) (r : Nat), ((decI x).toList.concat (1 : Nat)).toArray = s.push r /\ Membership.mem [MapEntry.mk (.string ⟨#[115, 101, 116, 32, 114, 49]⟩) (.int .i64 151) 0, ⟨.string ⟨#[115, 101, 116, 32, 114, 56, 32, 49]⟩, .int .i64 152, 1⟩, ⟨.string ⟨#[115, 101, 116, 32, 114, 49, 32, 48, 49]⟩, .int .i64 152, 2⟩, ⟨.string ⟨#[102, 111, 111]⟩, .int .i64 150, 3⟩, ⟨.string ⟨#[106, 117, 109, 112, 32, 110, 111, 119, 104, 101, 114, 101]⟩, .int .i64 155, 4⟩, ⟨.string ⟨#[106, 117, 109, 112, 32, 49, 120]⟩, .int .i64 153, 5⟩, ⟨.string ⟨#[97, 58]⟩, .int .i64 156, 6⟩, ⟨.string ⟨#[109, 111, 118, 101, 32, 114, 49, 32, 114, 50]⟩, .int .i64 143, 7⟩] (MapEntry.mk (.string ⟨#[115, 101, 116, 32, 114, 56, 32, 49]⟩) (.int .i64 152) r)) /\ Ct Tryz.prog (fnv 16) #[.string ⟨#[115, 101, 116, 32, 114, 56, 32, 49]⟩] p fun (r : Value) (s : Mem) => ∃ (t : Option Addr) (u w : Nat) (y z : Int), r = .tuple #[.slice t u w, .int .i64 y, .int .i64 z] /\ Br (y != 1) (Value.bool false = .bool true) (Br (z != 152) (Value.bool false = .bool true) (Rf (Ent.mk (.raw (.map #[⟨.string ⟨#[115, 101, 116, 32, 114, 49]⟩, .int .i64 151, 0⟩, ⟨.string ⟨#[115, 101, 116, 32, 114, 56, 32, 49]⟩, .int .i64 152, 1⟩, ⟨.string ⟨#[115, 101, 116, 32, 114, 49, 32, 48, 49]⟩, .int .i64 152, 2⟩, ⟨.string ⟨#[102, 111, 111]⟩, .int .i64 150, 3⟩, ⟨.string ⟨#[106, 117, 109, 112, 32, 110, 111, 119, 104, 101, 114, 101]⟩, .int .i64 155, 4⟩, ⟨.string ⟨#[106, 117, 109, 112, 32, 49, 120]⟩, .int .i64 153, 5⟩, ⟨.string ⟨#[97, 58]⟩, .int .i64 156, 6⟩, ⟨.string ⟨#[109, 111, 118, 101, 32, 114, 49, 32, 114, 50]⟩, .int .i64 143, 7⟩] 8)) (some o)) /\ (Rf (some o) /\ (8 : Nat) = 8 /\ (8 : Nat) = 8 /\ Rf (none : Option Nat)) /\ Rf (SV.ptr 2 0) /\ True /\ (leftOf #[⟨.string ⟨#[115, 101, 116, 32, 114, 49]⟩, .int .i64 151, 0⟩, ⟨.string ⟨#[115, 101, 116, 32, 114, 56, 32, 49]⟩, .int .i64 152, 1⟩, ⟨.string ⟨#[115, 101, 116, 32, 114, 49, 32, 48, 49]⟩, .int .i64 152, 2⟩, ⟨.string ⟨#[102, 111, 111]⟩, .int .i64 150, 3⟩, ⟨.string ⟨#[106, 117, 109, 112, 32, 110, 111, 119, 104, 101, 114, 101]⟩, .int .i64 155, 4⟩, ⟨.string ⟨#[106, 117, 109, 112, 32, 49, 120]⟩, .int .i64 153, 5⟩, ⟨.string ⟨#[97, 58]⟩, .int .i64 156, 6⟩, ⟨.string ⟨#[109, 111, 118, 101, 32, 114, 49, 32, 114, 50]⟩, .int .i64 143, 7⟩] (decI (encI ((decI x).toList.concat (1 : Nat)).toArray))).size < (leftOf #[⟨.string ⟨#[115, 101, 116, 32, 114, 49]⟩, .int .i64 151, 0⟩, ⟨.string ⟨#[115, 101, 116, 32, 114, 56, 32, 49]⟩, .int .i64 152, 1⟩, ⟨.string ⟨#[115, 101, 116, 32, 114, 49, 32, 48, 49]⟩, .int .i64 152, 2⟩, ⟨.string ⟨#[102, 111, 111]⟩, .int .i64 150, 3⟩, ⟨.string ⟨#[106, 117, 109, 112, 32, 110, 111, 119, 104, 101, 114, 101]⟩, .int .i64 155, 4⟩, ⟨.string ⟨#[106, 117, 109, 112, 32, 49, 120]⟩, .int .i64 153, 5⟩, ⟨.string ⟨#[97, 58]⟩, .int .i64 156, 6⟩, ⟨.string ⟨#[109, 111, 118, 101, 32, 114, 49, 32, 114, 50]⟩, .int .i64 143, 7⟩] (decI x)).size))) /\ ((decI x).contains (2 : Nat) = false -> o = o /\ (8 : Nat) = 8 /\ List.Nodup [(0 : Nat), 1, 2, 3, 4, 5, 6, 7] /\ (∃ (s : Array Nat) (r : Nat), ((decI x).toList.concat (2 : Nat)).toArray = s.push r /\ Membership.mem [MapEntry.mk (.string ⟨#[115, 101, 116, 32, 114, 49]⟩) (.int .i64 151) 0, ⟨.string ⟨#[115, 101, 116, 32, 114, 56, 32, 49]⟩, .int .i64 152, 1⟩, ⟨.string ⟨#[115, 101, 116, 32, 114, 49, 32, 48, 49]⟩, .int .i64 152, 2⟩, ⟨.string ⟨#[102, 111, 111]⟩, .int .i64 150, 3⟩, ⟨.string ⟨#[106, 117, 109, 112, 32, 110, 111, 119, 104, 101, 114, 101]⟩, .int .i64 155, 4⟩, ⟨.string ⟨#[106, 117, 109, 112, 32, 49, 120]⟩, .int .i64 153, 5⟩, ⟨.string ⟨#[97, 58]⟩, .int .i64 156, 6⟩, ⟨.string ⟨#[109, 111, 118, 101, 32, 114, 49, 32, 114, 50]⟩, .int .i64 143, 7⟩] (MapEntry.mk (.string ⟨#[115, 101, 116, 32, 114, 49, 32, 48, 49]⟩) (.int .i64 152) r)) /\ Ct Tryz.prog (fnv 16) #[.string ⟨#[115, 101, 116, 32, 114, 49, 32, 48, 49]⟩] p fun (r : Value) (s : Mem) => ∃ (t : Option Addr) (u w : Nat) (y z : Int), r = .tuple #[.slice t u w, .int .i64 y, .int .i64 z] /\ Br (y != 1) (Value.bool false = .bool true) (Br (z != 152) (Value.bool false = .bool true) (Rf (Ent.mk (.raw (.map #[⟨.string ⟨#[115, 101, 116, 32, 114, 49]⟩, .int .i64 151, 0⟩, ⟨.string ⟨#[115, 101, 116, 32, 114, 56, 32, 49]⟩, .int .i64 152, 1⟩, ⟨.string ⟨#[115, 101, 116, 32, 114, 49, 32, 48, 49]⟩, .int .i64 152, 2⟩, ⟨.string ⟨#[102, 111, 111]⟩, .int .i64 150, 3⟩, ⟨.string ⟨#[106, 117, 109, 112, 32, 110, 111, 119, 104, 101, 114, 101]⟩, .int .i64 155, 4⟩, ⟨.string ⟨#[106, 117, 109, 112, 32, 49, 120]⟩, .int .i64 153, 5⟩, ⟨.string ⟨#[97, 58]⟩, .int .i64 156, 6⟩, ⟨.string ⟨#[109, 111, 118, 101, 32, 114, 49, 32, 114, 50]⟩, .int .i64 143, 7⟩] 8)) (some o)) /\ (Rf (some o) /\ (8 : Nat) = 8 /\ (8 : Nat) = 8 /\ Rf (none : Option Nat)) /\ Rf (SV.ptr 2 0) /\ True /\ (leftOf #[⟨.string ⟨#[115, 101, 116, 32, 114, 49]⟩, .int .i64 151, 0⟩, ⟨.string ⟨#[115, 101, 116, 32, 114, 56, 32, 49]⟩, .int .i64 152, 1⟩, ⟨.string ⟨#[115, 101, 116, 32, 114, 49, 32, 48, 49]⟩, .int .i64 152, 2⟩, ⟨.string ⟨#[102, 111, 111]⟩, .int .i64 150, 3⟩, ⟨.string ⟨#[106, 117, 109, 112, 32, 110, 111, 119, 104, 101, 114, 101]⟩, .int .i64 155, 4⟩, ⟨.string ⟨#[106, 117, 109, 112, 32, 49, 120]⟩, .int .i64 153, 5⟩, ⟨.string ⟨#[97, 58]⟩, .int .i64 156, 6⟩, ⟨.string ⟨#[109, 111, 118, 101, 32, 114, 49, 32, 114, 50]⟩, .int .i64 143, 7⟩] (decI (encI ((decI x).toList.concat (2 : Nat)).toArray))).size < (leftOf #[⟨.string ⟨#[115, 101, 116, 32, 114, 49]⟩, .int .i64 151, 0⟩, ⟨.string ⟨#[115, 101, 116, 32, 114, 56, 32, 49]⟩, .int .i64 152, 1⟩, ⟨.string ⟨#[115, 101, 116, 32, 114, 49, 32, 48, 49]⟩, .int .i64 152, 2⟩, ⟨.string ⟨#[102, 111, 111]⟩, .int .i64 150, 3⟩, ⟨.string ⟨#[106, 117, 109, 112, 32, 110, 111, 119, 104, 101, 114, 101]⟩, .int .i64 155, 4⟩, ⟨.string ⟨#[106, 117, 109, 112, 32, 49, 120]⟩, .int .i64 153, 5⟩, ⟨.string ⟨#[97, 58]⟩, .int .i64 156, 6⟩, ⟨.string ⟨#[109, 111, 118, 101, 32, 114, 49, 32, 114, 50]⟩, .int .i64 143, 7⟩] (decI x)).size))) /\ ((decI x).contains (3 : Nat) = false -> o = o /\ (8 : Nat) = 8 /\ List.Nodup [(0 : Nat), 1, 2, 3, 4, 5, 6, 7] /\ (∃ (s : Array Nat) (r : Nat), ((decI x).toList.concat (3 : Nat)).toArray = s.push r /\ Membership.mem [MapEntry.mk (.string ⟨#[115, 101, 116, 32, 114, 49]⟩) (.int .i64 151) 0, ⟨.string ⟨#[115, 101, 116, 32, 114, 56, 32, 49]⟩, .int .i64 152, 1⟩, ⟨.string ⟨#[115, 101, 116, 32, 114, 49, 32, 48, 49]⟩, .int .i64 152, 2⟩, ⟨.string ⟨#[102, 111, 111]⟩, .int .i64 150, 3⟩, ⟨.string ⟨#[106, 117, 109, 112, 32, 110, 111, 119, 104, 101, 114, 101]⟩, .int .i64 155, 4⟩, ⟨.string ⟨#[106, 117, 109, 112, 32, 49, 120]⟩, .int .i64 153, 5⟩, ⟨.string ⟨#[97, 58]⟩, .int .i64 156, 6⟩, ⟨.string ⟨#[109, 111, 118, 101, 32, 114, 49, 32, 114, 50]⟩, .int .i64 143, 7⟩] (MapEntry.mk (.string ⟨#[102, 111, 111]⟩) (.int .i64 150) r)) /\ Ct Tryz.prog (fnv 16) #[.string ⟨#[102, 111, 111]⟩] p fun (r : Value) (s : Mem) => ∃ (t : Option Addr) (u w : Nat) (y z : Int), r = .tuple #[.slice t u w, .int .i64 y, .int .i64 z] /\ Br (y != 1) (Value.bool false = .bool true) (Br (z != 150) (Value.bool false = .bool true) (Rf (Ent.mk (.raw (.map #[⟨.string ⟨#[115, 101, 116, 32, 114, 49]⟩, .int .i64 151, 0⟩, ⟨.string ⟨#[115, 101, 116, 32, 114, 56, 32, 49]⟩, .int .i64 152, 1⟩, ⟨.string ⟨#[115, 101, 116, 32, 114, 49, 32, 48, 49]⟩, .int .i64 152, 2⟩, ⟨.string ⟨#[102, 111, 111]⟩, .int .i64 150, 3⟩, ⟨.string ⟨#[106, 117, 109, 112, 32, 110, 111, 119, 104, 101, 114, 101]⟩, .int .i64 155, 4⟩, ⟨.string ⟨#[106, 117, 109, 112, 32, 49, 120]⟩, .int .i64 153, 5⟩, ⟨.string ⟨#[97, 58]⟩, .int .i64 156, 6⟩, ⟨.string ⟨#[109, 111, 118, 101, 32, 114, 49, 32, 114, 50]⟩, .int .i64 143, 7⟩] 8)) (some o)) /\ (Rf (some o) /\ (8 : Nat) = 8 /\ (8 : Nat) = 8 /\ Rf (none : Option Nat)) /\ Rf (SV.ptr 2 0) /\ True /\ (leftOf #[⟨.string ⟨#[115, 101, 116, 32, 114, 49]⟩, .int .i64 151, 0⟩, ⟨.string ⟨#[115, 101, 116, 32, 114, 56, 32, 49]⟩, .int .i64 152, 1⟩, ⟨.string ⟨#[115, 101, 116, 32, 114, 49, 32, 48, 49]⟩, .int .i64 152, 2⟩, ⟨.string ⟨#[102, 111, 111]⟩, .int .i64 150, 3⟩, ⟨.string ⟨#[106, 117, 109, 112, 32, 110, 111, 119, 104, 101, 114, 101]⟩, .int .i64 155, 4⟩, ⟨.string ⟨#[106, 117, 109, 112, 32, 49, 120]⟩, .int .i64 153, 5⟩, ⟨.string ⟨#[97, 58]⟩, .int .i64 156, 6⟩, ⟨.string ⟨#[109, 111, 118, 101, 32, 114, 49, 32, 114, 50]⟩, .int .i64 143, 7⟩] (decI (encI ((decI x).toList.concat (3 : Nat)).toArray))).size < (leftOf #[⟨.string ⟨#[115, 101, 116, 32, 114, 49]⟩, .int .i64 151, 0⟩, ⟨.string ⟨#[115, 101, 116, 32, 114, 56, 32, 49]⟩, .int .i64 152, 1⟩, ⟨.string ⟨#[115, 101, 116, 32, 114, 49, 32, 48, 49]⟩, .int .i64 152, 2⟩, ⟨.string ⟨#[102, 111, 111]⟩, .int .i64 150, 3⟩, ⟨.string ⟨#[106, 117, 109, 112, 32, 110, 111, 119, 104, 101, 114, 101]⟩, .int .i64 155, 4⟩, ⟨.string ⟨#[106, 117, 109, 112, 32, 49, 120]⟩, .int .i64 153, 5⟩, ⟨.string ⟨#[97, 58]⟩, .int .i64 156, 6⟩, ⟨.string ⟨#[109, 111, 118, 101, 32, 114, 49, 32, 114, 50]⟩, .int .i64 143, 7⟩] (decI x)).size))) /\ ((decI x).contains (4 : Nat) = false -> o = o /\ (8 : Nat) = 8 /\ List.Nodup [(0 : Nat), 1, 2, 3, 4, 5, 6, 7] /\ (∃ (s : Array Nat) (r : Nat), ((decI x).toList.concat (4 : Nat)).toArray = s.push r /\ Membership.mem [MapEntry.mk (.string ⟨#[115, 101, 116, 32, 114, 49]⟩) (.int .i64 151) 0, ⟨.string ⟨#[115, 101, 116, 32, 114, 56, 32, 49]⟩, .int .i64 152, 1⟩, ⟨.string ⟨#[115, 101, 116, 32, 114, 49, 32, 48, 49]⟩, .int .i64 152, 2⟩, ⟨.string ⟨#[102, 111, 111]⟩, .int .i64 150, 3⟩, ⟨.string ⟨#[106, 117, 109, 112, 32, 110, 111, 119, 104, 101, 114, 101]⟩, .int .i64 155, 4⟩, ⟨.string ⟨#[106, 117, 109, 112, 32, 49, 120]⟩, .int .i64 153, 5⟩, ⟨.string ⟨#[97, 58]⟩, .int .i64 156, 6⟩, ⟨.string ⟨#[109, 111, 118, 101, 32, 114, 49, 32, 114, 50]⟩, .int .i64 143, 7⟩] (MapEntry.mk (.string ⟨#[106, 117, 109, 112, 32, 110, 111, 119, 104, 101, 114, 101]⟩) (.int .i64 155) r)) /\ Ct Tryz.prog (fnv 16) #[.string ⟨#[106, 117, 109, 112, 32, 110, 111, 119, 104, 101, 114, 101]⟩] p fun (r : Value) (s : Mem) => ∃ (t : Option Addr) (u w : Nat) (y z : Int), r = .tuple #[.slice t u w, .int .i64 y, .int .i64 z] /\ Br (y != 1) (Value.bool false = .bool true) (Br (z != 155) (Value.bool false = .bool true) (Rf (Ent.mk (.raw (.map #[⟨.string ⟨#[115, 101, 116, 32, 114, 49]⟩, .int .i64 151, 0⟩, ⟨.string ⟨#[115, 101, 116, 32, 114, 56, 32, 49]⟩, .int .i64 152, 1⟩, ⟨.string ⟨#[115, 101, 116, 32, 114, 49, 32, 48, 49]⟩, .int .i64 152, 2⟩, ⟨.string ⟨#[102, 111, 111]⟩, .int .i64 150, 3⟩, ⟨.string ⟨#[106, 117, 109, 112, 32, 110, 111, 119, 104, 101, 114, 101]⟩, .int .i64 155, 4⟩, ⟨.string ⟨#[106, 117, 109, 112, 32, 49, 120]⟩, .int .i64 153, 5⟩, ⟨.string ⟨#[97, 58]⟩, .int .i64 156, 6⟩, ⟨.string ⟨#[109, 111, 118, 101, 32, 114, 49, 32, 114, 50]⟩, .int .i64 143, 7⟩] 8)) (some o)) /\ (Rf (some o) /\ (8 : Nat) = 8 /\ (8 : Nat) = 8 /\ Rf (none : Option Nat)) /\ Rf (SV.ptr 2 0) /\ True /\ (leftOf #[⟨.string ⟨#[115, 101, 116, 32, 114, 49]⟩, .int .i64 151, 0⟩, ⟨.string ⟨#[115, 101, 116, 32, 114, 56, 32, 49]⟩, .int .i64 152, 1⟩, ⟨.string ⟨#[115, 101, 116, 32, 114, 49, 32, 48, 49]⟩, .int .i64 152, 2⟩, ⟨.string ⟨#[102, 111, 111]⟩, .int .i64 150, 3⟩, ⟨.string ⟨#[106, 117, 109, 112, 32, 110, 111, 119, 104, 101, 114, 101]⟩, .int .i64 155, 4⟩, ⟨.string ⟨#[106, 117, 109, 112, 32, 49, 120]⟩, .int .i64 153, 5⟩, ⟨.string ⟨#[97, 58]⟩, .int .i64 156, 6⟩, ⟨.string ⟨#[109, 111, 118, 101, 32, 114, 49, 32, 114, 50]⟩, .int .i64 143, 7⟩] (decI (encI ((decI x).toList.concat (4 : Nat)).toArray))).size < (leftOf #[⟨.string ⟨#[115, 101, 116, 32, 114, 49]⟩, .int .i64 151, 0⟩, ⟨.string ⟨#[115, 101, 116, 32, 114, 56, 32, 49]⟩, .int .i64 152, 1⟩, ⟨.string ⟨#[115, 101, 116, 32, 114, 49, 32, 48, 49]⟩, .int .i64 152, 2⟩, ⟨.string ⟨#[102, 111, 111]⟩, .int .i64 150, 3⟩, ⟨.string ⟨#[106, 117, 109, 112, 32, 110, 111, 119, 104, 101, 114, 101]⟩, .int .i64 155, 4⟩, ⟨.string ⟨#[106, 117, 109, 112, 32, 49, 120]⟩, .int .i64 153, 5⟩, ⟨.string ⟨#[97, 58]⟩, .int .i64 156, 6⟩, ⟨.string ⟨#[109, 111, 118, 101, 32, 114, 49, 32, 114, 50]⟩, .int .i64 143, 7⟩] (decI x)).size))) /\ ((decI x).contains (5 : Nat) = false -> o = o /\ (8 : Nat) = 8 /\ List.Nodup [(0 : Nat), 1, 2, 3, 4, 5, 6, 7] /\ (∃ (s : Array Nat) (r : Nat), ((decI x).toList.concat (5 : Nat)).toArray = s.push r /\ Membership.mem [MapEntry.mk (.string ⟨#[115, 101, 116, 32, 114, 49]⟩) (.int .i64 151) 0, ⟨.string ⟨#[115, 101, 116, 32, 114, 56, 32, 49]⟩, .int .i64 152, 1⟩, ⟨.string ⟨#[115, 101, 116, 32, 114, 49, 32, 48, 49]⟩, .int .i64 152, 2⟩, ⟨.string ⟨#[102, 111, 111]⟩, .int .i64 150, 3⟩, ⟨.string ⟨#[106, 117, 109, 112, 32, 110, 111, 119, 104, 101, 114, 101]⟩, .int .i64 155, 4⟩, ⟨.string ⟨#[106, 117, 109, 112, 32, 49, 120]⟩, .int .i64 153, 5⟩, ⟨.string ⟨#[97, 58]⟩, .int .i64 156, 6⟩, ⟨.string ⟨#[109, 111, 118, 101, 32, 114, 49, 32, 114, 50]⟩, .int .i64 143, 7⟩] (MapEntry.mk (.string ⟨#[106, 117, 109, 112, 32, 49, 120]⟩) (.int .i64 153) r)) /\ Ct Tryz.prog (fnv 16) #[.string ⟨#[106, 117, 109, 112, 32, 49, 120]⟩] p fun (r : Value) (s : Mem) => ∃ (t : Option Addr) (u w : Nat) (y z : Int), r = .tuple #[.slice t u w, .int .i64 y, .int .i64 z] /\ Br (y != 1) (Value.bool false = .bool true) (Br (z != 153) (Value.bool false = .bool true) (Rf (Ent.mk (.raw (.map #[⟨.string ⟨#[115, 101, 116, 32, 114, 49]⟩, .int .i64 151, 0⟩, ⟨.string ⟨#[115, 101, 116, 32, 114, 56, 32, 49]⟩, .int .i64 152, 1⟩, ⟨.string ⟨#[115, 101, 116, 32, 114, 49, 32, 48, 49]⟩, .int .i64 152, 2⟩, ⟨.string ⟨#[102, 111, 111]⟩, .int .i64 150, 3⟩, ⟨.string ⟨#[106, 117, 109, 112, 32, 110, 111, 119, 104, 101, 114, 101]⟩, .int .i64 155, 4⟩, ⟨.string ⟨#[106, 117, 109, 112, 32, 49, 120]⟩, .int .i64 153, 5⟩, ⟨.string ⟨#[97, 58]⟩, .int .i64 156, 6⟩, ⟨.string ⟨#[109, 111, 118, 101, 32, 114, 49, 32, 114, 50]⟩, .int .i64 143, 7⟩] 8)) (some o)) /\ (Rf (some o) /\ (8 : Nat) = 8 /\ (8 : Nat) = 8 /\ Rf (none : Option Nat)) /\ Rf (SV.ptr 2 0) /\ True /\ (leftOf #[⟨.string ⟨#[115, 101, 116, 32, 114, 49]⟩, .int .i64 151, 0⟩, ⟨.string ⟨#[115, 101, 116, 32, 114, 56, 32, 49]⟩, .int .i64 152, 1⟩, ⟨.string ⟨#[115, 101, 116, 32, 114, 49, 32, 48, 49]⟩, .int .i64 152, 2⟩, ⟨.string ⟨#[102, 111, 111]⟩, .int .i64 150, 3⟩, ⟨.string ⟨#[106, 117, 109, 112, 32, 110, 111, 119, 104, 101, 114, 101]⟩, .int .i64 155, 4⟩, ⟨.string ⟨#[106, 117, 109, 112, 32, 49, 120]⟩, .int .i64 153, 5⟩, ⟨.string ⟨#[97, 58]⟩, .int .i64 156, 6⟩, ⟨.string ⟨#[109, 111, 118, 101, 32, 114, 49, 32, 114, 50]⟩, .int .i64 143, 7⟩] (decI (encI ((decI x).toList.concat (5 : Nat)).toArray))).size < (leftOf #[⟨.string ⟨#[115, 101, 116, 32, 114, 49]⟩, .int .i64 151, 0⟩, ⟨.string ⟨#[115, 101, 116, 32, 114, 56, 32, 49]⟩, .int .i64 152, 1⟩, ⟨.string ⟨#[115, 101, 116, 32, 114, 49, 32, 48, 49]⟩, .int .i64 152, 2⟩, ⟨.string ⟨#[102, 111, 111]⟩, .int .i64 150, 3⟩, ⟨.string ⟨#[106, 117, 109, 112, 32, 110, 111, 119, 104, 101, 114, 101]⟩, .int .i64 155, 4⟩, ⟨.string ⟨#[106, 117, 109, 112, 32, 49, 120]⟩, .int .i64 153, 5⟩, ⟨.string ⟨#[97, 58]⟩, .int .i64 156, 6⟩, ⟨.string ⟨#[109, 111, 118, 101, 32, 114, 49, 32, 114, 50]⟩, .int .i64 143, 7⟩] (decI x)).size))) /\ ((decI x).contains (6 : Nat) = false -> o = o /\ (8 : Nat) = 8 /\ List.Nodup [(0 : Nat), 1, 2, 3, 4, 5, 6, 7] /\ (∃ (s : Array Nat) (r : Nat), ((decI x).toList.concat (6 : Nat)).toArray = s.push r /\ Membership.mem [MapEntry.mk (.string ⟨#[115, 101, 116, 32, 114, 49]⟩) (.int .i64 151) 0, ⟨.string ⟨#[115, 101, 116, 32, 114, 56, 32, 49]⟩, .int .i64 152, 1⟩, ⟨.string ⟨#[115, 101, 116, 32, 114, 49, 32, 48, 49]⟩, .int .i64 152, 2⟩, ⟨.string ⟨#[102, 111, 111]⟩, .int .i64 150, 3⟩, ⟨.string ⟨#[106, 117, 109, 112, 32, 110, 111, 119, 104, 101, 114, 101]⟩, .int .i64 155, 4⟩, ⟨.string ⟨#[106, 117, 109, 112, 32, 49, 120]⟩, .int .i64 153, 5⟩, ⟨.string ⟨#[97, 58]⟩, .int .i64 156, 6⟩, ⟨.string ⟨#[109, 111, 118, 101, 32, 114, 49, 32, 114, 50]⟩, .int .i64 143, 7⟩] (MapEntry.mk (.string ⟨#[97, 58]⟩) (.int .i64 156) r)) /\ Ct Tryz.prog (fnv 16) #[.string ⟨#[97, 58]⟩] p fun (r : Value) (s : Mem) => ∃ (t : Option Addr) (u w : Nat) (y z : Int), r = .tuple #[.slice t u w, .int .i64 y, .int .i64 z] /\ Br (y != 1) (Value.bool false = .bool true) (Br (z != 156) (Value.bool false = .bool true) (Rf (Ent.mk (.raw (.map #[⟨.string ⟨#[115, 101, 116, 32, 114, 49]⟩, .int .i64 151, 0⟩, ⟨.string ⟨#[115, 101, 116, 32, 114, 56, 32, 49]⟩, .int .i64 152, 1⟩, ⟨.string ⟨#[115, 101, 116, 32, 114, 49, 32, 48, 49]⟩, .int .i64 152, 2⟩, ⟨.string ⟨#[102, 111, 111]⟩, .int .i64 150, 3⟩, ⟨.string ⟨#[106, 117, 109, 112, 32, 110, 111, 119, 104, 101, 114, 101]⟩, .int .i64 155, 4⟩, ⟨.string ⟨#[106, 117, 109, 112, 32, 49, 120]⟩, .int .i64 153, 5⟩, ⟨.string ⟨#[97, 58]⟩, .int .i64 156, 6⟩, ⟨.string ⟨#[109, 111, 118, 101, 32, 114, 49, 32, 114, 50]⟩, .int .i64 143, 7⟩] 8)) (some o)) /\ (Rf (some o) /\ (8 : Nat) = 8 /\ (8 : Nat) = 8 /\ Rf (none : Option Nat)) /\ Rf (SV.ptr 2 0) /\ True /\ (leftOf #[⟨.string ⟨#[115, 101, 116, 32, 114, 49]⟩, .int .i64 151, 0⟩, ⟨.string ⟨#[115, 101, 116, 32, 114, 56, 32, 49]⟩, .int .i64 152, 1⟩, ⟨.string ⟨#[115, 101, 116, 32, 114, 49, 32, 48, 49]⟩, .int .i64 152, 2⟩, ⟨.string ⟨#[102, 111, 111]⟩, .int .i64 150, 3⟩, ⟨.string ⟨#[106, 117, 109, 112, 32, 110, 111, 119, 104, 101, 114, 101]⟩, .int .i64 155, 4⟩, ⟨.string ⟨#[106, 117, 109, 112, 32, 49, 120]⟩, .int .i64 153, 5⟩, ⟨.string ⟨#[97, 58]⟩, .int .i64 156, 6⟩, ⟨.string ⟨#[109, 111, 118, 101, 32, 114, 49, 32, 114, 50]⟩, .int .i64 143, 7⟩] (decI (encI ((decI x).toList.concat (6 : Nat)).toArray))).size < (leftOf #[⟨.string ⟨#[115, 101, 116, 32, 114, 49]⟩, .int .i64 151, 0⟩, ⟨.string ⟨#[115, 101, 116, 32, 114, 56, 32, 49]⟩, .int .i64 152, 1⟩, ⟨.string ⟨#[115, 101, 116, 32, 114, 49, 32, 48, 49]⟩, .int .i64 152, 2⟩, ⟨.string ⟨#[102, 111, 111]⟩, .int .i64 150, 3⟩, ⟨.string ⟨#[106, 117, 109, 112, 32, 110, 111, 119, 104, 101, 114, 101]⟩, .int .i64 155, 4⟩, ⟨.string ⟨#[106, 117, 109, 112, 32, 49, 120]⟩, .int .i64 153, 5⟩, ⟨.string ⟨#[97, 58]⟩, .int .i64 156, 6⟩, ⟨.string ⟨#[109, 111, 118, 101, 32, 114, 49, 32, 114, 50]⟩, .int .i64 143, 7⟩] (decI x)).size))) /\ ((decI x).contains (7 : Nat) = false -> o = o /\ (8 : Nat) = 8 /\ List.Nodup [(0 : Nat), 1, 2, 3, 4, 5, 6, 7] /\ (∃ (s : Array Nat) (r : Nat), ((decI x).toList.concat (7 : Nat)).toArray = s.push r /\ Membership.mem [MapEntry.mk (.string ⟨#[115, 101, 116, 32, 114, 49]⟩) (.int .i64 151) 0, ⟨.string ⟨#[115, 101, 116, 32, 114, 56, 32, 49]⟩, .int .i64 152, 1⟩, ⟨.string ⟨#[115, 101, 116, 32, 114, 49, 32, 48, 49]⟩, .int .i64 152, 2⟩, ⟨.string ⟨#[102, 111, 111]⟩, .int .i64 150, 3⟩, ⟨.string ⟨#[106, 117, 109, 112, 32, 110, 111, 119, 104, 101, 114, 101]⟩, .int .i64 155, 4⟩, ⟨.string ⟨#[106, 117, 109, 112, 32, 49, 120]⟩, .int .i64 153, 5⟩, ⟨.string ⟨#[97, 58]⟩, .int .i64 156, 6⟩, ⟨.string ⟨#[109, 111, 118, 101, 32, 114, 49, 32, 114, 50]⟩, .int .i64 143, 7⟩] (MapEntry.mk (.string ⟨#[109, 111, 118, 101, 32, 114, 49, 32, 114, 50]⟩) (.int .i64 143) r)) /\ Ct Tryz.prog (fnv 16) #[.string ⟨#[109, 111, 118, 101, 32, 114, 49, 32, 114, 50]⟩] p fun (r : Value) (s : Mem) => ∃ (t : Option Addr) (u w : Nat) (y z : Int), r = .tuple #[.slice t u w, .int .i64 y, .int .i64 z] /\ Br (y != 1) (Value.bool false = .bool true) (Br (z != 143) (Value.bool false = .bool true) (Rf (Ent.mk (.raw (.map #[⟨.string ⟨#[115, 101, 116, 32, 114, 49]⟩, .int .i64 151, 0⟩, ⟨.string ⟨#[115, 101, 116, 32, 114, 56, 32, 49]⟩, .int .i64 152, 1⟩, ⟨.string ⟨#[115, 101, 116, 32, 114, 49, 32, 48, 49]⟩, .int .i64 152, 2⟩, ⟨.string ⟨#[102, 111, 111]⟩, .int .i64 150, 3⟩, ⟨.string ⟨#[106, 117, 109, 112, 32, 110, 111, 119, 104, 101, 114, 101]⟩, .int .i64 155, 4⟩, ⟨.string ⟨#[106, 117, 109, 112, 32, 49, 120]⟩, .int .i64 153, 5⟩, ⟨.string ⟨#[97, 58]⟩, .int .i64 156, 6⟩, ⟨.string ⟨#[109, 111, 118, 101, 32, 114, 49, 32, 114, 50]⟩, .int .i64 143, 7⟩] 8)) (some o)) /\ (Rf (some o) /\ (8 : Nat) = 8 /\ (8 : Nat) = 8 /\ Rf (none : Option Nat)) /\ Rf (SV.ptr 2 0) /\ True /\ (leftOf #[⟨.string ⟨#[115, 101, 116, 32, 114, 49]⟩, .int .i64 151, 0⟩, ⟨.string ⟨#[115, 101, 116, 32, 114, 56, 32, 49]⟩, .int .i64 152, 1⟩, ⟨.string ⟨#[115, 101, 116, 32, 114, 49, 32, 48, 49]⟩, .int .i64 152, 2⟩, ⟨.string ⟨#[102, 111, 111]⟩, .int .i64 150, 3⟩, ⟨.string ⟨#[106, 117, 109, 112, 32, 110, 111, 119, 104, 101, 114, 101]⟩, .int .i64 155, 4⟩, ⟨.string ⟨#[106, 117, 109, 112, 32, 49, 120]⟩, .int .i64 153, 5⟩, ⟨.string ⟨#[97, 58]⟩, .int .i64 156, 6⟩, ⟨.string ⟨#[109, 111, 118, 101, 32, 114, 49, 32, 114, 50]⟩, .int .i64 143, 7⟩] (decI (encI ((decI x).toList.concat (7 : Nat)).toArray))).size < (leftOf #[⟨.string ⟨#[115, 101, 116, 32, 114, 49]⟩, .int .i64 151, 0⟩, ⟨.string ⟨#[115, 101, 116, 32, 114, 56, 32, 49]⟩, .int .i64 152, 1⟩, ⟨.string ⟨#[115, 101, 116, 32, 114, 49, 32, 48, 49]⟩, .int .i64 152, 2⟩, ⟨.string ⟨#[102, 111, 111]⟩, .int .i64 150, 3⟩, ⟨.string ⟨#[106, 117, 109, 112, 32, 110, 111, 119, 104, 101, 114, 101]⟩, .int .i64 155, 4⟩, ⟨.string ⟨#[106, 117, 109, 112, 32, 49, 120]⟩, .int .i64 153, 5⟩, ⟨.string ⟨#[97, 58]⟩, .int .i64 156, 6⟩, ⟨.string ⟨#[109, 111, 118, 101, 32, 114, 49, 32, 114, 50]⟩, .int .i64 143, 7⟩] (decI x)).size)))))))))) (by kernel_rfl) ?_
 have hok : ∀ i ∈ awP, okI i := fun i hi => by
  simp only [awP, List.mem_cons, List.not_mem_nil, or_false] at hi
  rcases hi with rfl | rfl | rfl | rfl <;> exact ⟨by decide, by decide, by decide, by decide, by decide⟩
 refine (ct16 (strT awT1) (by rw [strT_size]; decide) I hG).mono fun v a la h => ?_
 rw [show tx (strT awT1) = awT1 from rfl, aw1] at h
 obtain ⟨b, n, c, hv, hp, h3, h4⟩ := h;refine ⟨b, n, c, 0, 0, hv, Br.f rfl (Br.f rfl fun f g lg hf => ?_)⟩
 have hins : InsM g (some ⟨f, 0, none⟩) 4 awP := ⟨insVs awP, sl_cells (n := 4) (sz := 5) hf rfl (by decide), rowR_ins g hok⟩
 refine (ct27 awP awP b (some ⟨f, 0, none⟩) n 4 c 4 g (hp.mono lg) hins).mono fun h i li hh => ⟨_, hh, Br.f (by simp) ?_⟩
 refine (ct12 awP b n c i (hG.mono (Mem.le_trans la (Mem.le_trans lg li))) (hp.mono (Mem.le_trans lg li))).mono fun k l lk hk => ?_;rw [aw2] at hk
 refine ⟨_, _, hk, Br.f rfl (Br.f (by show (!(strT awT2).toList == (strT awT2).toList) = false; rw [str_eq, decide_eq_true rfl]; rfl) fun o => ?_)⟩
 have hG : Globs l := hG.mono (Mem.le_trans la (Mem.le_trans lg (Mem.le_trans li lk)));simp only [Rf, eq_self, true_and, and_true, true_implies, decI_encI];intro I1 G1 hI1 xs
 refine ⟨by omega, fun hend => ?_, fun hs => ?_, fun hs => ?_, fun hs => ?_, fun hs => ?_, fun hs => ?_, fun hs => ?_, fun hs => ?_, fun hs => ?_⟩
 · refine (ct16 (strT []) (by rw [strT_size]; decide) I1 (hG.mono hI1)).mono fun v I2 hI2 ⟨b2, n2, c2, hv, _⟩ => ?_
   rw [show tx (strT []) = [] from rfl, aw4] at hv
   exact ⟨_, _, _, _, _, hv, Br.t rfl rfl⟩
 · refine ⟨by decide, ⟨decI xs, 0, rfl, by simp⟩, (ct16 (strT [115, 101, 116, 32, 114, 49]) (by rw [strT_size]; decide) I1 (hG.mono hI1)).mono fun v I2 hI2 ⟨b2, n2, c2, hv, _⟩ => ?_⟩
   rw [show tx (strT [115, 101, 116, 32, 114, 49]) = [115, 101, 116, 32, 114, 49] from rfl, aw3_0] at hv
   exact ⟨_, _, _, _, _, hv, Br.f rfl (Br.f rfl (left_lt (es := awL) (y := ⟨.string ⟨#[115, 101, 116, 32, 114, 49]⟩, .int .i64 151, 0⟩) (by simp [awL]) hs))⟩
 · refine ⟨by decide, ⟨decI xs, 1, rfl, by simp⟩, (ct16 (strT [115, 101, 116, 32, 114, 56, 32, 49]) (by rw [strT_size]; decide) I1 (hG.mono hI1)).mono fun v I2 hI2 ⟨b2, n2, c2, hv, _⟩ => ?_⟩
   rw [show tx (strT [115, 101, 116, 32, 114, 56, 32, 49]) = [115, 101, 116, 32, 114, 56, 32, 49] from rfl, aw3_1] at hv
   exact ⟨_, _, _, _, _, hv, Br.f rfl (Br.f rfl (left_lt (es := awL) (y := ⟨.string ⟨#[115, 101, 116, 32, 114, 56, 32, 49]⟩, .int .i64 152, 1⟩) (by simp [awL]) hs))⟩
 · refine ⟨by decide, ⟨decI xs, 2, rfl, by simp⟩, (ct16 (strT [115, 101, 116, 32, 114, 49, 32, 48, 49]) (by rw [strT_size]; decide) I1 (hG.mono hI1)).mono fun v I2 hI2 ⟨b2, n2, c2, hv, _⟩ => ?_⟩
   rw [show tx (strT [115, 101, 116, 32, 114, 49, 32, 48, 49]) = [115, 101, 116, 32, 114, 49, 32, 48, 49] from rfl, aw3_2] at hv
   exact ⟨_, _, _, _, _, hv, Br.f rfl (Br.f rfl (left_lt (es := awL) (y := ⟨.string ⟨#[115, 101, 116, 32, 114, 49, 32, 48, 49]⟩, .int .i64 152, 2⟩) (by simp [awL]) hs))⟩
 · refine ⟨by decide, ⟨decI xs, 3, rfl, by simp⟩, (ct16 (strT [102, 111, 111]) (by rw [strT_size]; decide) I1 (hG.mono hI1)).mono fun v I2 hI2 ⟨b2, n2, c2, hv, _⟩ => ?_⟩
   rw [show tx (strT [102, 111, 111]) = [102, 111, 111] from rfl, aw3_3] at hv
   exact ⟨_, _, _, _, _, hv, Br.f rfl (Br.f rfl (left_lt (es := awL) (y := ⟨.string ⟨#[102, 111, 111]⟩, .int .i64 150, 3⟩) (by simp [awL]) hs))⟩
 · refine ⟨by decide, ⟨decI xs, 4, rfl, by simp⟩, (ct16 (strT [106, 117, 109, 112, 32, 110, 111, 119, 104, 101, 114, 101]) (by rw [strT_size]; decide) I1 (hG.mono hI1)).mono fun v I2 hI2 ⟨b2, n2, c2, hv, _⟩ => ?_⟩
   rw [show tx (strT [106, 117, 109, 112, 32, 110, 111, 119, 104, 101, 114, 101]) = [106, 117, 109, 112, 32, 110, 111, 119, 104, 101, 114, 101] from rfl, aw3_4] at hv
   exact ⟨_, _, _, _, _, hv, Br.f rfl (Br.f rfl (left_lt (es := awL) (y := ⟨.string ⟨#[106, 117, 109, 112, 32, 110, 111, 119, 104, 101, 114, 101]⟩, .int .i64 155, 4⟩) (by simp [awL]) hs))⟩
 · refine ⟨by decide, ⟨decI xs, 5, rfl, by simp⟩, (ct16 (strT [106, 117, 109, 112, 32, 49, 120]) (by rw [strT_size]; decide) I1 (hG.mono hI1)).mono fun v I2 hI2 ⟨b2, n2, c2, hv, _⟩ => ?_⟩
   rw [show tx (strT [106, 117, 109, 112, 32, 49, 120]) = [106, 117, 109, 112, 32, 49, 120] from rfl, aw3_5] at hv
   exact ⟨_, _, _, _, _, hv, Br.f rfl (Br.f rfl (left_lt (es := awL) (y := ⟨.string ⟨#[106, 117, 109, 112, 32, 49, 120]⟩, .int .i64 153, 5⟩) (by simp [awL]) hs))⟩
 · refine ⟨by decide, ⟨decI xs, 6, rfl, by simp⟩, (ct16 (strT [97, 58]) (by rw [strT_size]; decide) I1 (hG.mono hI1)).mono fun v I2 hI2 ⟨b2, n2, c2, hv, _⟩ => ?_⟩
   rw [show tx (strT [97, 58]) = [97, 58] from rfl, aw3_6] at hv
   exact ⟨_, _, _, _, _, hv, Br.f rfl (Br.f rfl (left_lt (es := awL) (y := ⟨.string ⟨#[97, 58]⟩, .int .i64 156, 6⟩) (by simp [awL]) hs))⟩
 · refine ⟨by decide, ⟨decI xs, 7, rfl, by simp⟩, (ct16 (strT [109, 111, 118, 101, 32, 114, 49, 32, 114, 50]) (by rw [strT_size]; decide) I1 (hG.mono hI1)).mono fun v I2 hI2 ⟨b2, n2, c2, hv, _⟩ => ?_⟩
   rw [show tx (strT [109, 111, 118, 101, 32, 114, 49, 32, 114, 50]) = [109, 111, 118, 101, 32, 114, 49, 32, 114, 50] from rfl, aw3_7] at hv
   exact ⟨_, _, _, _, _, hv, Br.f rfl (Br.f rfl (left_lt (es := awL) (y := ⟨.string ⟨#[109, 111, 118, 101, 32, 114, 49, 32, 114, 50]⟩, .int .i64 143, 7⟩) (by simp [awL]) hs))⟩
def laidO : List (String × DataW Unit) := [("math/bits.deBruijn32tab", YtjjjbafnplmjoaaGreatDoor.Rows.laid_math_bits_deBruijn32tab), ("math/bits.deBruijn64tab", YtjjjbafnplmjoaaGreatDoor.Rows.laid_math_bits_deBruijn64tab), ("internal/strconv.uint64pow10", YtjjjbafnplmjoaaGreatDoor.Rows.laid_internal_strconv_uint64pow10), ("unicode/utf8.acceptRanges", YtjjjbafnplmjoaaGreatDoor.Rows.laid_unicode_utf8_acceptRanges), ("strconv.ErrRange", YtjjjbafnplmjoaaGreatDoor.Rows.laid_strconv_ErrRange), ("strconv.ErrSyntax", YtjjjbafnplmjoaaGreatDoor.Rows.laid_strconv_ErrSyntax), ("unicode.White_Space", YtjjjbafnplmjoaaGreatDoor.Rows.laid_unicode_White_Space), ("strings.asciiSpace", YtjjjbafnplmjoaaGreatDoor.Rows.laid_strings_asciiSpace), ("unicode/utf8.first", YtjjjbafnplmjoaaGreatDoor.Rows.laid_unicode_utf8_first)]
theorem gPow : Tryz.prog.globalNamed "internal/strconv.uint64pow10" = some 3 := by kernel_rfl
theorem gSyn : Tryz.prog.globalNamed "strconv.ErrSyntax" = some 8 := by kernel_rfl
theorem gRng : Tryz.prog.globalNamed "strconv.ErrRange" = some 9 := by kernel_rfl
theorem cell_to {W w : World} (hw : (memW W).inW w) {a : Addr} {v : Value} (h : W.cell? a = some v) (hs : a.spot = none) : w.cell? a = some v := by
 refine cellM_world hw ?_;unfold World.cell? at h;unfold cellM memW;rw [hs] at h ⊢
 cases hb : W.heap[a.block]? with
 | none => rw [hb] at h; simp at h
 | some o =>
   rw [hb] at h
   cases o <;> simp_all
theorem var_to {W w : World} (hw : (memW W).inW w) {n : String} {cs : Array Value} (h : W.var? Tryz.prog n = some cs) : w.var? Tryz.prog n = some cs := by
 unfold World.var? at h ⊢
 cases hg : Tryz.prog.globalNamed n with
 | none => rw [hg] at h; cases h
 | some g =>
   rw [hg] at h;simp only [Option.bind_some] at h ⊢
   cases hb : W.heap[g]? with
   | none => rw [hb] at h; cases h
   | some o =>
     have := hw g o hb;rw [hb] at h
     rw [this]; exact h
theorem starS : "*errors.errorString" = "*" ++ "errors.errorString" := by decide +kernel
theorem rowS : ∀ u, Tryz.prog.typeName? 3 u = some "*errors.errorString" -> u = 224 := fun u h =>
 typeName_ptr_named (nm := "errors.errorString") (by rw [<- starS]; kernel_rfl) (by kernel_rfl) (by decide) u (by rw [<- starS]; exact h)
theorem sent {W : World} {n : String} {text : List UInt8} {r : List (String × DataW Unit)} {g : Nat} (hg : Tryz.prog.globalNamed n = some g) (ht : (Tryz.prog.globals[g]?).map (·.type) = some 53)
 (h : laidMet Tryz.prog ((n, .iface "*errors.errorString" (.ptr (.agg [.lit (.string text)]))) :: r) W) : ∃ tp p, W.cell? ⟨g, 0, none⟩ = some (.iface tp p) := by
 obtain ⟨a, s, hv, _⟩ := laid_sentinel h hg ht Tryz.underlying53 rowS Tryz.underlying224 Tryz.underlying226 rfl rfl Tryz.underlying9 (by kernel_rfl) (by kernel_rfl)
 have := World.var?_cell hg hv 0;exact ⟨_, _, this⟩
theorem globs_mk {W : World} {r r2 : List (String × DataW Unit)} (hsh : W.ShapedOpen Tryz.prog)
 (h1 : laidMet Tryz.prog (("internal/strconv.uint64pow10", YtjjjbafnplmjoaaGreatDoor.Rows.laid_internal_strconv_uint64pow10) :: r) W)
 (h2 : laidMet Tryz.prog (("strconv.ErrRange", YtjjjbafnplmjoaaGreatDoor.Rows.laid_strconv_ErrRange) :: ("strconv.ErrSyntax", YtjjjbafnplmjoaaGreatDoor.Rows.laid_strconv_ErrSyntax) :: r2) W) : Globs (memW W) := by
 obtain ⟨m, hm⟩ := cell_of_shapedOpen_int (P := Tryz.prog) (g := 2) (t := 3) (zero := #[.int .i64 0]) (k := .i64) hsh (of_decide_eq_true (by kernel_rfl)) (by kernel_rfl) rfl (by kernel_rfl) (by kernel_rfl) Tryz.underlying3
 have hT : Lib.TabIs Tryz.prog W "internal/strconv.uint64pow10" .u64 Lib.pow10Tab := Lib.tabIs_of_head (t := 201) (e := 129) (n := 20) gPow (by kernel_rfl) (by kernel_rfl) (by kernel_rfl) (by kernel_rfl) (by kernel_rfl) h1
 obtain ⟨t1, p1, hr⟩ := sent gRng (by kernel_rfl) h2
 obtain ⟨t2, p2, hs⟩ := sent gSyn (by kernel_rfl) h2.tail
 intro w hw;exact ⟨⟨m, cell_to hw hm rfl⟩, var_to hw hT, ⟨t2, p2, cell_to hw hs rfl⟩, ⟨t1, p1, cell_to hw hr rfl⟩⟩
theorem cells5 : Tryz.prog.cellsOf 5 = 1 := by kernel_rfl
section
variable {H : Type} {enc : TypeId × Value -> H} {W : World} {r : Reach} {b0 : Nat} {v : Value} {d : DataW H} {ps : List MemPlace}
end
def wordsB (op : Int) : Bool :=
 ((formT op).isSome == decide (wordT op ≠ [])) && (((findT (wordT op)).2 == (formT op).isSome) && ((!(formT op).isSome || (decide ((findT (wordT op)).1 = op) && nameB (wordT op))) && ((formT op).isSome || decide ((findT (wordT op)).1 = 0))))
theorem words_all : ∀ k : Fin 256, wordsB (k.val : Int) = true := by decide +kernel
theorem words_of {op : Int} (h : 0 <= op /\ op <= 255) : wordsB op = true := by
 have := words_all ⟨op.toNat, by omega⟩
 rwa [show ((op.toNat : Nat) : Int) = op by omega] at this
def shapeI (i : Ins) (l : Tx) : Prop :=
 (l = [] /\ i.a = 0 /\ i.b = 0 /\ i.c = 0 /\ i.n = 0) \/ (l = [114, 110] /\ i.a < 8 /\ i.b = 0 /\ i.c = 0) \/ (l = [114, 114] /\ i.a < 8 /\ i.b < 8 /\ i.c = 0 /\ i.n = 0) \/
 (l = [114, 114, 112] /\ i.a < 8 /\ i.b < 8 /\ i.c = 0 /\ 0 <= i.n /\ i.n < 16) \/ (l = [116] /\ i.a = 0 /\ i.b = 0 /\ i.c = 0 /\ 0 <= i.n /\ i.n < 256) \/
 (l = [114, 116] /\ i.a < 8 /\ i.b = 0 /\ i.c = 0 /\ 0 <= i.n /\ i.n < 256) \/ (l = [114, 114, 114] /\ i.a < 8 /\ i.b < 8 /\ i.c < 8 /\ i.n = 0)
set_option maxHeartbeats 8000000 in
theorem one_shape {i : Ins} (ho : okI i) (h : oneE i = 0) : ∃ l, formT i.op = some l /\ shapeI i l := by
 rw [oneE] at h
 have ha := ho.a; have hb := ho.b; have hc := ho.c
 rcases formT_cases i.op with hf | hf | hf | hf | hf | hf | hf | hf <;> rw [hf] at h <;> simp only at h
 · cases h
 · refine ⟨_, hf, .inl ⟨rfl, ?_⟩⟩
   rw [oneGo] at h
   split at h
   · rename_i hz; exact hz
   · cases h
 · refine ⟨_, hf, .inr (.inl ⟨rfl, ?_⟩)⟩
   simp only [oneGo, regAt, true_and] at h
   repeat' split at h
   all_goals simp_all
   all_goals omega
 · refine ⟨_, hf, .inr (.inr (.inl ⟨rfl, ?_⟩))⟩
   simp only [oneGo, regAt, true_and] at h
   repeat' split at h
   all_goals simp_all
   all_goals omega
 · refine ⟨_, hf, .inr (.inr (.inr (.inl ⟨rfl, ?_⟩)))⟩
   simp only [oneGo, regAt, true_and] at h
   repeat' split at h
   all_goals simp_all
   all_goals omega
 · refine ⟨_, hf, .inr (.inr (.inr (.inr (.inl ⟨rfl, ?_⟩))))⟩
   simp only [oneGo, regAt, true_and] at h
   repeat' split at h
   all_goals simp_all
   all_goals omega
 · refine ⟨_, hf, .inr (.inr (.inr (.inr (.inr (.inl ⟨rfl, ?_⟩)))))⟩
   simp only [oneGo, regAt, true_and] at h
   repeat' split at h
   all_goals simp_all
   all_goals omega
 · refine ⟨_, hf, .inr (.inr (.inr (.inr (.inr (.inr ⟨rfl, ?_⟩)))))⟩
   simp only [oneGo, regAt, true_and] at h
   repeat' split at h
   all_goals simp_all
   all_goals omega
theorem shape_one {i : Ins} {l : Tx} (hf : formT i.op = some l) (h : shapeI i l) : oneE i = 0 := by
 rw [oneE, hf]
 simp only
 unfold shapeI at h
 rcases h with ⟨rfl, h⟩ | ⟨rfl, h⟩ | ⟨rfl, h⟩ | ⟨rfl, h⟩ | ⟨rfl, h⟩ | ⟨rfl, h⟩ | ⟨rfl, h⟩ <;> simp_all [oneGo, regAt]
theorem reg_itoa {r : Int} (h0 : 0 <= r) (h1 : r < 8) : regT (114 :: Lib.itoa r) = some r := by
 have : ∀ k : Fin 8, regT (114 :: Lib.itoa (k.val : Int)) = some (k.val : Int) := by decide +kernel
 have h := this ⟨r.toNat, by omega⟩
 rwa [show ((r.toNat : Nat) : Int) = r by omega] at h
theorem lab_name {n : Int} (h0 : 0 <= n) (h1 : n < 256) : nameB (lab n) = true := by
 have : ∀ k : Fin 256, nameB (lab (k.val : Int)) = true := by decide +kernel
 have h := this ⟨n.toNat, by omega⟩
 rwa [show ((n.toNat : Nat) : Int) = n by omega] at h
theorem num_itoa {n : Int} (h : i64N n) : numT (Lib.itoa n) = some n := by
 rw [numT, itoa_parse h]; simp
def srcI (i : Ins) (line : Int) : Src := if 116 ∈ formL i.op then ⟨{ i with n := 0 }, line, lab i.n⟩ else ⟨i, line, []⟩
theorem find_form {op : Int} (ho : 0 <= op /\ op <= 255) {l : Tx} (h : formT op = some l) : findT (wordT op) = (op, true) := by
 have hw := words_of ho;simp only [wordsB, Bool.and_eq_true, beq_iff_eq, Bool.or_eq_true, Bool.not_eq_true', decide_eq_true_eq] at hw;obtain ⟨w1, w2, w3, w4⟩ := hw;rw [h] at w2 w3
 have w3 := w3.resolve_left (by simp)
 exact Prod.ext w3.1 w2
theorem instr_back {i : Ins} (ho : okI i) (h : oneE i = 0) (line : Int) : instrA (wordT i.op :: operands i) line = (0, srcI i line) := by
 obtain ⟨l, hf, hs⟩ := one_shape ho h
 have hfl : formL i.op = l := by rw [formL, hf]; rfl
 have hfd := find_form ho.op hf
 have ha := ho.a; have hb := ho.b; have hc := ho.c
 have hoper : operands i = operA l i 0 := by rw [operands, hfl]
 obtain ⟨op, a, b, c, n⟩ := i
 simp only at hf hs hfl hfd ha hb hc hoper ho
 have hol := (oper_len ho l 0).1
 rw [instrA, hfd, if_neg (by simp), if_neg (by rw [hoper, hol, hfl]; simp), hoper]
 simp only [hfl, srcI];unfold shapeI at hs
 simp only at hs
 rcases hs with ⟨rfl, rfl, rfl, rfl, rfl⟩ | ⟨rfl, h1, rfl, rfl⟩ | ⟨rfl, h1, h2, rfl, rfl⟩ | ⟨rfl, h1, h2, rfl, h3, h4⟩ | ⟨rfl, rfl, rfl, rfl, h3, h4⟩ | ⟨rfl, h1, rfl, rfl, h3, h4⟩ | ⟨rfl, h1, h2, h3, rfl⟩
 · rw [putGo_nil]; rfl
 · simp [operA, putGo, regAt, reg_itoa ha.1 h1, num_itoa ho.n, putR]
 · simp [operA, putGo, regAt, reg_itoa ha.1 h1, reg_itoa hb.1 h2, putR]
 · simp [operA, putGo, regAt, reg_itoa ha.1 h1, reg_itoa hb.1 h2, num_itoa ho.n, putR, h3, h4]
 · simp [operA, putGo, lab_name h3 h4]
 · simp [operA, putGo, regAt, reg_itoa ha.1 h1, lab_name h3 h4, putR]
 · simp [operA, putGo, regAt, reg_itoa ha.1 h1, reg_itoa hb.1 h2, reg_itoa hc.1 h3, putR]
def wdC (c : UInt8) : Prop := c ≠ 32 /\ c ≠ 9 /\ c ≠ 59 /\ c ≠ 10 /\ c ≠ 58
theorem itoa_wd (n : Int) : (∀ c ∈ Lib.itoa n, wdC c) /\ Lib.itoa n ≠ [] := by
 have key : ∀ u, (∀ c ∈ Lib.decDigits u, wdC c) /\ Lib.decDigits u ≠ [] := fun u => ⟨fun c hc => by
  have := (dec_digits u).2 c hc
  refine ⟨?_, ?_, ?_, ?_, ?_⟩ <;> (rintro rfl; revert this; decide), (dec_digits u).1⟩
 unfold Lib.itoa;split
 · refine ⟨fun c hc => ?_, by simp⟩
   rcases List.mem_cons.1 hc with rfl | hc
   · exact ⟨by decide, by decide, by decide, by decide, by decide⟩
   · exact (key _).1 c hc
 · exact key _
theorem cons_wd {a : UInt8} {t : Tx} (ha : wdC a) (h : ∀ c ∈ t, wdC c) : ∀ c ∈ a :: t, wdC c := fun c hc => by
 rcases List.mem_cons.1 hc with rfl | hc
 · exact ha
 · exact h c hc
theorem oper_wd (i : Ins) : ∀ (fs : Tx) (u : Nat), ∀ w ∈ operA fs i u, (∀ c ∈ w, wdC c) /\ w ≠ []
 | [], u, w, hw => by cases hw
 | f :: fs, u, w, hw => by
   rw [operA] at hw
   split at hw
   · rcases List.mem_cons.1 hw with rfl | hw
     · exact ⟨cons_wd ⟨by decide, by decide, by decide, by decide, by decide⟩ (itoa_wd _).1, by simp⟩
     · exact oper_wd i fs _ w hw
   · split at hw
     · rcases List.mem_cons.1 hw with rfl | hw
       · exact ⟨cons_wd ⟨by decide, by decide, by decide, by decide, by decide⟩ (itoa_wd _).1, by simp [lab]⟩
       · exact oper_wd i fs _ w hw
     · rcases List.mem_cons.1 hw with rfl | hw
       · exact itoa_wd _
       · exact oper_wd i fs _ w hw
theorem word_wd {op : Int} (ho : 0 <= op /\ op <= 255) : ∀ c ∈ wordT op, wdC c := by
 have : ∀ k : Fin 256, ((wordT (k.val : Int)).all fun c => c != 32 && (c != 9 && (c != 59 && (c != 10 && c != 58)))) = true := by decide +kernel
 have h := this ⟨op.toNat, by omega⟩
 rw [show ((op.toNat : Nat) : Int) = op by omega] at h
 intro c hc;have := List.all_eq_true.1 h c hc;simpa [wdC, bne, Bool.and_eq_true] using this
theorem fields_join : ∀ (ws : List Tx) (acc : Tx), (∀ w ∈ ws, (∀ c ∈ w, wdC c) /\ w ≠ []) -> (∀ c ∈ acc, wdC c) -> fieldsGo acc (joinC 32 ws) = (match ws with | [] => (if acc = [] then [] else [acc]) | w :: r => (acc ++ w) :: r)
 | [], acc, _, _ => by rw [joinC, fieldsGo]
 | [w], acc, h, ha => by
   have hw := h w (by simp)
   have e : w = w ++ [] := by simp
   rw [joinC]
   conv => lhs; rw [e]
   rw [fields_skip w acc [] (fun c hc => by have := hw.1 c hc; simp [blankB, this.1, this.2.1]), fieldsGo, if_neg (by simp [hw.2])]
 | w :: y :: r, acc, h, ha => by
   have hw := h w (by simp)
   have ih := fields_join (y :: r) [] (fun z hz => h z (List.mem_cons_of_mem _ hz)) (fun c hc => by cases hc)
   rw [joinC, fields_skip w acc _ (fun c hc => by have := hw.1 c hc; simp [blankB, this.1, this.2.1]), fieldsGo, if_pos (by decide), if_neg (by simp [hw.2]), ih]
   rfl
theorem join_wd59 : ∀ (ws : List Tx), (∀ w ∈ ws, (∀ c ∈ w, wdC c) /\ w ≠ []) -> ∀ c ∈ joinC 32 ws, c ≠ 59 /\ c ≠ 10
 | [], _, c, hc => by cases hc
 | [w], h, c, hc => by
   rw [joinC] at hc
   have := (h w (by simp)).1 c hc
   exact ⟨this.2.2.1, this.2.2.2.1⟩
 | w :: y :: r, h, c, hc => by
   rw [joinC] at hc
   rcases List.mem_append.1 hc with hc | hc
   · have := (h w (by simp)).1 c hc
     exact ⟨this.2.2.1, this.2.2.2.1⟩
   · rcases List.mem_cons.1 hc with rfl | hc
     · exact ⟨by decide, by decide⟩
     · exact join_wd59 (y :: r) (fun z hz => h z (List.mem_cons_of_mem _ hz)) c hc
theorem word_ne {i : Ins} (ho : okI i) (h : oneE i = 0) : wordT i.op ≠ [] := fun e => by
 obtain ⟨l, hf, _⟩ := one_shape ho h;have hw := words_of ho.op;simp only [wordsB, Bool.and_eq_true, beq_iff_eq] at hw;rw [hf, e] at hw;cases hw.1
theorem words_wd {i : Ins} (ho : okI i) (h : oneE i = 0) : ∀ w ∈ wordT i.op :: operands i, (∀ c ∈ w, wdC c) /\ w ≠ [] := fun w hw => by
 rcases List.mem_cons.1 hw with rfl | hw
 · exact ⟨word_wd ho.op, word_ne ho h⟩
 · exact oper_wd i _ _ w hw
def insL (i : Ins) : Tx := [32, 32] ++ joinC 32 (wordT i.op :: operands i)
theorem insT_eq (i : Ins) : insT i = insL i ++ [10] := rfl
theorem tw_self (c : UInt8) (t : Tx) (h : ∀ x ∈ t, x ≠ c) : t.takeWhile (· ≠ c) = t := (tw_all _ t fun x hx => decide_eq_true (h x hx)).1
theorem pieces_ins {i : Ins} (ho : okI i) (h : oneE i = 0) : piecesT (insL i) = wordT i.op :: operands i := by
 have hw := words_wd ho h;rw [piecesT, tw_self]
 · rw [insL, List.cons_append, List.cons_append, List.nil_append, fieldsGo, if_pos (by decide), if_pos rfl, fieldsGo, if_pos (by decide), if_pos rfl, fields_join _ _ hw (fun c hc => by cases hc)]
   rfl
 · intro x hx
   rw [insL] at hx
   rcases List.mem_append.1 hx with hx | hx
   · simp only [List.mem_cons, List.not_mem_nil, or_false] at hx
     rcases hx with rfl | rfl <;> decide
   · exact (join_wd59 _ hw x hx).1
theorem ins_no10 {i : Ins} (ho : okI i) (h : oneE i = 0) : (10 : UInt8) ∉ insL i := fun hx => by
 rw [insL] at hx
 rcases List.mem_append.1 hx with hx | hx
 · simp at hx
 · exact (join_wd59 _ (words_wd ho h) 10 hx).2 rfl
theorem lab_wd (n : Int) : (∀ c ∈ lab n, wdC c) /\ lab n ≠ [] := ⟨cons_wd ⟨by decide, by decide, by decide, by decide, by decide⟩ (itoa_wd _).1, by simp [lab]⟩
theorem fields_one {t : Tx} (h : ∀ c ∈ t, blankB c = false) (hne : t ≠ []) : fieldsGo [] t = [t] := by
 have e := fields_skip t [] [] h;rw [List.append_nil, List.nil_append] at e;rw [e, fieldsGo, if_neg hne]
theorem pieces_lab (n : Int) : piecesT (lab n ++ [58]) = [lab n ++ [58]] := by
 have hw := (lab_wd n).1
 have hall : ∀ c ∈ lab n ++ [58], c ≠ 32 /\ c ≠ 9 /\ c ≠ 59 := fun c hc => by
  rcases List.mem_append.1 hc with hc | hc
  · have := hw c hc; exact ⟨this.1, this.2.1, this.2.2.1⟩
  · simp only [List.mem_cons, List.not_mem_nil, or_false] at hc
    subst hc; decide
 rw [piecesT, tw_self _ _ fun x hx => (hall x hx).2.2]
 exact fields_one (fun c hc => by have := hall c hc; simp [blankB, this.1, this.2.1]) (by simp)
theorem lab_no10 (n : Int) : (10 : UInt8) ∉ lab n ++ [58] := fun hx => by
 rcases List.mem_append.1 hx with hx | hx
 · exact ((lab_wd n).1 10 hx).2.2.2.1 rfl
 · simp at hx
theorem line_ins {i : Ins} (ho : okI i) (h : oneE i = 0) (r : Rd) (line : Int) : lineA r (insL i) line = (0, ⟨r.ms, r.ss ++ [srcI i line]⟩) := by
 have hlab : labT (wordT i.op) = none := by
  rw [labT, if_neg];intro hl;have hm : (58 : UInt8) ∈ wordT i.op := List.mem_of_getLast? hl;exact ((words_wd ho h _ (List.mem_cons_self ..)).1 58 hm).2.2.2.2 rfl
 rw [lineA, pieces_ins ho h];simp only [hlab];rw [putI, instr_back ho h]
 · rfl
 · intro hh; cases hh
theorem line_lab {n : Int} (h0 : 0 <= n) (h1 : n < 256) (r : Rd) (line : Int) (hno : hasMk r.ms (lab n) = false) : lineA r (lab n ++ [58]) line = (0, ⟨r.ms ++ [⟨lab n, (r.ss.length : Int), line⟩], r.ss⟩) := by
 have hlab : labT (lab n ++ [58]) = some (lab n) := by rw [labT, if_pos (by simp)]; simp
 rw [lineA, pieces_lab];simp only [hlab]
 have hl : labelA r (lab n) line = (0, ⟨r.ms ++ [⟨lab n, (r.ss.length : Int), line⟩], r.ss⟩) := by rw [labelA, lab_name h0 h1, if_neg (by simp), if_neg (by rw [hno]; simp)]
 rw [hl]; rfl
theorem line_nil (r : Rd) (line : Int) : lineA r [] line = (0, r) := rfl
def outLines (p : List Ins) : List Ins -> Nat -> List Tx
 | [], _ => []
 | i :: r, k => (if isTo p k then [lab k ++ [58]] else []) ++ insL i :: outLines p r (k + 1)
theorem split_out (p : List Ins) : ∀ (l : List Ins) (k : Nat), (∀ i ∈ l, okI i /\ oneE i = 0) -> splitC 10 (outGo p l k) = outLines p l k ++ [[]]
 | [], k, _ => rfl
 | i :: r, k, h => by
   have hi := h i (by simp)
   have ih := split_out p r (k + 1) fun j hj => h j (List.mem_cons_of_mem _ hj);rw [outGo, outLines, insT_eq]
   have e : splitC 10 (insL i ++ [10] ++ outGo p r (k + 1)) = insL i :: (outLines p r (k + 1) ++ [[]]) := by
    rw [List.append_assoc, List.singleton_append, split_app (ins_no10 hi.1 hi.2), ih]
   split
   · rw [show lab (k : Int) ++ [58, 10] = (lab k ++ [58]) ++ [10] by simp, List.append_assoc, List.append_assoc, List.singleton_append, split_app (lab_no10 _), e]
     rfl
   · rw [List.nil_append, e]; rfl
def MsR (p : List Ins) (k : Nat) (ms : List Mk) : Prop := ms.map (fun m => (m.name, m.at_)) = ((List.range k).filter (isTo p)).map fun (j : Nat) => (lab j, (j : Int))
theorem lab_inj {a b : Nat} (ha : a < 100000) (hb : b < 100000) (h : lab a = lab b) : a = b := by
 simp only [lab, List.cons.injEq, true_and] at h
 have := itoa_inj (by omega) (by omega) h
 omega
theorem MsR.has {p : List Ins} {k : Nat} {ms : List Mk} (h : MsR p k ms) (hk : k <= 1000) {j : Nat} (hj : j < 1000) : hasMk ms (lab j) = (decide (j < k) && isTo p j) := by
 have e : hasMk ms (lab j) = (ms.map (fun m => (m.name, m.at_))).any fun x => decide (x.1 = lab j) := by
  rw [hasMk, List.any_map]; rfl
 rw [e, h, List.any_map]
 by_cases hh : j < k /\ isTo p j = true
 · rw [decide_eq_true hh.1, hh.2, List.any_eq_true.2]
   · rfl
   · exact ⟨j, List.mem_filter.2 ⟨List.mem_range.2 hh.1, hh.2⟩, by simp⟩
 · have : (decide (j < k) && isTo p j) = false := by
    rw [Bool.eq_false_iff];intro hb;simp only [Bool.and_eq_true, decide_eq_true_eq] at hb;exact hh hb
   rw [this, Bool.eq_false_iff];intro hb;obtain ⟨x, hx, he⟩ := List.any_eq_true.1 hb;obtain ⟨h1, h2⟩ := List.mem_filter.1 hx;have h1 := List.mem_range.1 h1;simp only [Function.comp, decide_eq_true_eq] at he
   have := lab_inj (by omega) (by omega) he
   subst this;exact hh ⟨h1, h2⟩
theorem lines_back (p : List Ins) : ∀ (l : List Ins) (k : Nat) (n : Int) (r : Rd), (∀ i ∈ l, okI i /\ oneE i = 0) -> r.ss.length = k -> MsR p k r.ms -> k + l.length <= 256 ->
 ∃ r', linesA (outLines p l k ++ [[]]) n r = (0, 0, r') /\ MsR p (k + l.length) r'.ms /\ ∃ ss', r'.ss = r.ss ++ ss' /\ ss'.map (fun x => (x.ins, x.target)) = l.map fun i => ((srcI i 0).ins, (srcI i 0).target)
 | [], k, n, r, _, h1, h2, _ => ⟨r, by rw [outLines, List.nil_append, linesA, line_nil]; rfl, h2, [], by simp, rfl⟩
 | i :: l, k, n, r, h, h1, h2, h3 => by
   have hi := h i (by simp)
   simp only [List.length_cons] at h3
   have hsrc : ∀ line, ((srcI i line).ins, (srcI i line).target) = ((srcI i 0).ins, (srcI i 0).target) := fun line => by
    unfold srcI; split <;> rfl
   have step : ∀ (ms : List Mk) (line : Int), MsR p (k + 1) ms -> ∃ r', linesA (insL i :: (outLines p l (k + 1) ++ [[]])) line ⟨ms, r.ss⟩ = (0, 0, r') /\ MsR p (k + (l.length + 1)) r'.ms /\ ∃ ss', r'.ss = r.ss ++ ss' /\ ss'.map (fun x => (x.ins, x.target)) = (i :: l).map fun i => ((srcI i 0).ins, (srcI i 0).target) := by
    intro ms line hms
    obtain ⟨r', g1, g2, ss', g3, g4⟩ := lines_back p l (k + 1) (line + 1) ⟨ms, r.ss ++ [srcI i line]⟩ (fun j hj => h j (List.mem_cons_of_mem _ hj)) (by simp [h1]) hms (by omega)
    refine ⟨r', ?_, by rw [show k + (l.length + 1) = k + 1 + l.length by omega]; exact g2, srcI i line :: ss', by rw [g3]; simp, ?_⟩
    · rw [linesA, line_ins hi.1 hi.2, if_neg (by simp)]
      exact g1
    · rw [List.map_cons, List.map_cons, g4, hsrc]
   have hfilt : ∀ b, isTo p k = b -> (List.range (k + 1)).filter (isTo p) = (List.range k).filter (isTo p) ++ if b then [k] else [] := fun b hb => by
    rw [List.range_succ, List.filter_append]
    congr 1
    rw [List.filter_cons, hb]
    cases b <;> rfl
   rw [outLines]
   cases ht : isTo p k with
   | true =>
     rw [if_pos rfl]
     have hno : hasMk r.ms (lab (k : Int)) = false := by
      rw [h2.has (by omega) (by omega), decide_eq_false (by omega)]; rfl
     obtain ⟨r', g1, g2, g3⟩ := step (r.ms ++ [⟨lab k, (r.ss.length : Int), n⟩]) (n + 1) (by
      rw [MsR, hfilt true ht, List.map_append, List.map_append, h2, if_pos rfl, h1]; rfl)
     refine ⟨r', ?_, g2, g3⟩
     rw [List.append_assoc, List.singleton_append, linesA, line_lab (by omega) (by omega) r n hno, if_neg (by simp)]
     exact g1
   | false =>
     rw [if_neg (by simp), List.nil_append]
     exact step r.ms n (by rw [MsR, hfilt false ht, List.map_append, h2]; simp)
theorem out_len (p : List Ins) : ∀ (l : List Ins) (k : Nat), (∀ i ∈ l, okI i) -> k + l.length <= 256 -> (outGo p l k).length <= 130 * l.length
 | [], _, _, _ => Nat.zero_le _
 | i :: l, k, h, hk => by
   have ih := out_len p l (k + 1) (fun j hj => h j (List.mem_cons_of_mem _ hj)) (by simp only [List.length_cons] at hk; omega)
   have h1 := insT_len (h i (by simp))
   have h2 : (lab (k : Int)).length <= 22 := by
    simp only [List.length_cons] at hk
    have := itoa_len (n := (k : Int)) ⟨by omega, by omega⟩
    simp only [lab, List.length_cons]; omega
   rw [outGo];simp only [List.length_append, List.length_cons];split
   · simp only [List.length_append, List.length_cons, List.length_nil]; omega
   · simp only [List.length_nil]; omega
theorem to_there {p : List Ins} {i : Ins} (hi : i ∈ p) (ht : (targetE i).2 = true) (hn : 0 <= (targetE i).1) : isTo p (targetE i).1.toNat = true := by
 rw [isTo, List.any_eq_true]
 exact ⟨i, hi, by rw [ht, Bool.true_and, decide_eq_true_eq]; omega⟩
theorem tgt_form {i : Ins} (ho : okI i) (h : oneE i = 0) : (116 ∈ formL i.op ↔ (targetE i).2 = true) /\ ((targetE i).2 = true -> (targetE i).1 = i.n) := by
 obtain ⟨l, hf, hs⟩ := one_shape ho h
 have hk : ∀ k : Fin 256, (decide (116 ∈ formL (k.val : Int))) = decide ((k.val : Int) = 9 \/ (k.val : Int) = 10 \/ (k.val : Int) = 11) := by decide +kernel
 have h2 := ho.op
 have h1 := hk ⟨i.op.toNat, by omega⟩
 rw [show ((i.op.toNat : Nat) : Int) = i.op by omega] at h1
 have h1 := decide_eq_decide.1 h1;unfold targetE;constructor
 · rw [h1]
   constructor
   · intro hh; rw [if_pos ⟨h, hh⟩]
   · intro hh
     split at hh
     · rename_i hc; exact hc.2
     · cases hh
 · intro hh
   split at hh
   · rename_i hc; rw [if_pos hc]
   · cases hh
theorem MsR.at_ {p : List Ins} {k : Nat} {ms : List Mk} (h : MsR p k ms) (hk : k <= 1000) {j : Nat} (hj : j < k) (ht : isTo p j = true) : atMk ms (lab j) = (j : Int) := by
 have hh := h.has hk (j := j) (by omega)
 rw [decide_eq_true hj, ht] at hh
 have hmem : ∀ m ∈ ms, ∃ j' : Nat, j' < k /\ m.name = lab j' /\ m.at_ = (j' : Int) := fun m hm => by
  have : (m.name, m.at_) ∈ ms.map (fun m => (m.name, m.at_)) := List.mem_map_of_mem hm;rw [h] at this;obtain ⟨j', hj', he⟩ := List.mem_map.1 this;have he := Prod.mk.inj he;exact ⟨j', List.mem_range.1 (List.mem_filter.1 hj').1, he.1.symm, he.2.symm⟩
 rw [atMk]
 cases hq : ms.find? fun m => decide (m.name = lab j) with
 | none =>
   have := List.find?_eq_none.1 hq;obtain ⟨m, hm, he⟩ := List.any_eq_true.1 hh;exact absurd he (this m hm)
 | some m =>
   have h1 := List.find?_some hq;have h1 := of_decide_eq_true h1;obtain ⟨j', g1, g2, g3⟩ := hmem m (List.mem_of_find?_eq_some hq)
   have := lab_inj (by omega) (by omega) (g2.symm.trans h1)
   simp only
   rw [g3, this]
theorem read_back {p : List Ins} (ho : ∀ i ∈ p, okI i) (h : (checkL p).2 = 0) :
 ∃ ms, readA (outGo p p 0) = (0, 0, ⟨ms, (readA (outGo p p 0)).2.2.ss⟩) /\ MsR p p.length ms /\ (readA (outGo p p 0)).2.2.ss.map (·.ins) = p := by
 obtain ⟨c1, c2, c3, c4⟩ := check_len h;have hck := checkGo_ok _ _ _ c3;have hall : ∀ i ∈ p, okI i /\ oneE i = 0 := fun i hi => ⟨ho i hi, (hck i hi).1⟩
 obtain ⟨r, g1, g2, ss, g3, g4⟩ := lines_back p p 0 1 ⟨[], []⟩ hall rfl rfl (by omega)
 simp only [List.nil_append] at g3;rw [Nat.zero_add] at g2
 have hlen := out_len p p 0 ho (by omega)
 have hss : r.ss.length = p.length := by
  have := congrArg List.length g4
  rw [g3]; simpa using this
 have hgo : ∀ x ∈ r.ss, ∃ i ∈ p, x.ins = (srcI i 0).ins /\ x.target = (srcI i 0).target := fun x hx => by
  have : (x.ins, x.target) ∈ ss.map (fun x => (x.ins, x.target)) := List.mem_map_of_mem (by rw [<- g3]; exact hx)
  rw [g4] at this;obtain ⟨i, hi, he⟩ := List.mem_map.1 this;have he := Prod.mk.inj he;exact ⟨i, hi, he.1.symm, he.2.symm⟩
 have hset : ∀ (x : Src) (i : Ins), i ∈ p -> x.ins = (srcI i 0).ins -> x.target = (srcI i 0).target -> (setTo r.ms x).ins = i /\ lostB r.ms x = false := by
  intro x i hi h1 h2;have hif := hall i hi;obtain ⟨t1, t2⟩ := tgt_form hif.1 hif.2;unfold srcI at h1 h2
  by_cases hm : 116 ∈ formL i.op
  · rw [if_pos hm] at h1 h2
    simp only at h1 h2
    have ht := t1.1 hm;have hn := t2 ht;have hrng := target_rng ht;have hlt := (hck i hi).2 ht;have hto := to_there hi ht hrng.1;rw [hn] at hrng hlt hto
    have e : lab i.n = lab ((i.n.toNat : Nat) : Int) := by rw [show ((i.n.toNat : Nat) : Int) = i.n by omega]
    have hat := g2.at_ (by omega) (j := i.n.toNat) (by omega) hto
    have hhas := g2.has (by omega) (j := i.n.toNat) (by omega)
    rw [decide_eq_true (by omega), hto] at hhas
    have hne : x.target ≠ [] := by rw [h2]; exact (lab_wd _).2
    refine ⟨?_, ?_⟩
    · rw [setTo, if_neg hne, h1, h2, e, hat]
      obtain ⟨o, a, b, c, n⟩ := i;simp only [Ins.mk.injEq, true_and] at *;omega
    · rw [lostB, h2, e, hhas]; simp
  · rw [if_neg hm] at h1 h2
    simp only at h1 h2
    refine ⟨by rw [setTo, if_pos h2, h1], by rw [lostB, h2]; rfl⟩
 have hmap : r.ss.map (fun x => (setTo r.ms x).ins) = p := by
  apply List.ext_getElem?;intro k;rw [List.getElem?_map]
  cases hq : r.ss[k]? with
  | none =>
    rw [Option.map_none];have := List.getElem?_eq_none_iff.1 hq
    rw [List.getElem?_eq_none (by omega)]
  | some x =>
    have hlt := (List.getElem?_eq_some_iff.1 hq).1
    have hx : (ss.map (fun x => (x.ins, x.target)))[k]? = some (x.ins, x.target) := by rw [List.getElem?_map, <- g3, hq]; rfl
    rw [g4, List.getElem?_map, Option.map_eq_some_iff] at hx;obtain ⟨i, hi, he⟩ := hx;have he := Prod.mk.inj he;rw [Option.map_some, (hset x i (List.mem_of_getElem? hi) he.1.symm he.2.symm).1, hi]
 have hend : endA r = (0, 0) := by
  rw [endA, if_neg (by omega)]
  have h1 : r.ss.find? (lostB r.ms) = none := List.find?_eq_none.2 fun x hx => by
   obtain ⟨i, hi, e1, e2⟩ := hgo x hx
   rw [(hset x i hi e1 e2).2]; simp
  have h2 : (r.ms.find? fun m => decide (m.at_ = (r.ss.length : Int))) = none := List.find?_eq_none.2 fun m hm => by
   have : (m.name, m.at_) ∈ r.ms.map (fun m => (m.name, m.at_)) := List.mem_map_of_mem hm;rw [g2] at this;obtain ⟨j', hj', he⟩ := List.mem_map.1 this;have he := (Prod.mk.inj he).2;have := List.mem_range.1 (List.mem_filter.1 hj').1;simp only [decide_eq_true_eq];omega
  rw [h1, h2]
  simp only
  have hlast : ((r.ss.map (setTo r.ms)).map (·.ins)).getLast? = p.getLast? := by rw [List.map_map]; exact congrArg List.getLast? hmap
  rw [List.getLast?_map] at hlast
  cases hq : (r.ss.map (setTo r.ms)).getLast? with
  | none =>
    have := List.getLast?_eq_none_iff.1 hq;have := congrArg List.length this
    simp at this; rw [this] at hss; simp at hss; omega
  | some x =>
    rw [hq, Option.map_some] at hlast
    simp only
    rw [lastGoes, <- hlast] at c4
    simp only at c4
    rw [c4]; rfl
 have hread : readA (outGo p p 0) = (0, 0, ⟨r.ms, r.ss.map (setTo r.ms)⟩) := by
  rw [readA, if_neg (by omega), split_out p p 0 hall, g1]
  simp only [ne_eq, not_true_eq_false, if_false, hend]
 refine ⟨r.ms, by rw [hread], g2, ?_⟩
 rw [hread];simp only [List.map_map];exact hmap
theorem parse_back {p : List Ins} (ho : ∀ i ∈ p, okI i) (h : (checkL p).2 = 0) : parseA (writeA p).1 = (p, 0, 0) /\ labelsA (writeA p).1 = (((List.range p.length).filter (isTo p)).map (fun (j : Nat) => (lab j, (j : Int))), 0, 0) := by
 obtain ⟨ms, h1, h2, h3⟩ := read_back ho h
 have e : (writeA p).1 = outGo p p 0 := by rw [writeA, if_neg (fun hh => hh h)]
 rw [e];refine ⟨?_, ?_⟩
 · rw [parseA, if_pos (by rw [h1]), h3]
 · rw [labelsA, if_pos (by rw [h1]), h1]
   exact congrArg (fun z => (z, (0 : Int), (0 : Int))) h2
structure Sm where
 op : Int
 a : Int
 b : Int
 c : Int
 n : Int
def smV (x : Sm) : List Value := [.int .u8 x.op, .int .u8 x.a, .int .u8 x.b, .int .u8 x.c, .int .i64 x.n]
structure okSm (x : Sm) : Prop where
 op : 0 <= x.op /\ x.op <= 255
 a : 0 <= x.a /\ x.a <= 255
 b : 0 <= x.b /\ x.b <= 255
 c : 0 <= x.c /\ x.c <= 255
 n : i64N x.n
def opTab : List Int := [3, 3, 3, 3, 3, 4, 5, 5, 5, 6, 6, 6, 7, 8, 8, 9, 10, 10, 10, 11, 11, 1, 2]
def opSm (x : Sm) : Int := if x.op % 40 < 17 then 33 + x.op % 40 else (opTab[(x.op % 40 - 17).toNat]?).getD 0
theorem ct76 (x : Sm) (h : okSm x) (I : Mem) : Ct Tryz.prog (fnv 76) #[.agg (smV x).toArray] I (fun v _ => v = .int .u8 (opSm x)) := by
 obtain ⟨Q, hQ⟩ : ∃ q : Int, q = opSm x := ⟨_, rfl⟩;rw [<- hQ]
 refine viaR (ct_via (A := { }) Tryz.func76 rfl Tryz.call76 rfl rfl) ((40 : Int) ≠ 0 /\ Br (decide (x.op.tmod 40 < 17)) (Wr .u8 (33 + x.op.tmod 40) (fun c => Value.int .u8 c = .int .u8 Q)) (Wr .u8 (x.op.tmod 40 - 17) (fun c => 0 <= c /\ c < 23 /\ ∃ n, [SV.v (.int .u8 3), .v (.int .u8 3), .v (.int .u8 3), .v (.int .u8 3), .v (.int .u8 3), .v (.int .u8 4), .v (.int .u8 5), .v (.int .u8 5), .v (.int .u8 5), .v (.int .u8 6), .v (.int .u8 6), .v (.int .u8 6), .v (.int .u8 7), .v (.int .u8 8), .v (.int .u8 8), .v (.int .u8 9), .v (.int .u8 10), .v (.int .u8 10), .v (.int .u8 10), .v (.int .u8 11), .v (.int .u8 11), .v (.int .u8 1), .v (.int .u8 2)][0 + c.toNat * 1 + 0]?.bind (fun (a : SV) => (match a with
  | SV.v x => some x
  | x => none)) = some (.int .u8 n) /\ Value.int .u8 n = .int .u8 Q))) (by kernel_rfl) ?_
 have ho := h.op;have e : x.op.tmod 40 = x.op % 40 := Int.tmod_eq_emod_of_nonneg ho.1;rw [e]
 refine ⟨by decide, Br.mk (fun h1 => ?_) (fun h1 => ?_)⟩
 · have h1 := of_decide_eq_true h1
   refine wr_u8 (by omega) (by omega) ?_
   rw [hQ, opSm, if_pos h1]
 · have h1 := of_decide_eq_false h1
   refine wr_u8 (by omega) (by omega) ⟨by omega, by omega, ?_⟩
   rw [hQ, opSm, if_neg h1];obtain ⟨c, hc⟩ : ∃ c, c = x.op % 40 - 17 := ⟨_, rfl⟩;rw [<- hc]
   have hcs : c = 0 \/ c = 1 \/ c = 2 \/ c = 3 \/ c = 4 \/ c = 5 \/ c = 6 \/ c = 7 \/ c = 8 \/ c = 9 \/ c = 10 \/ c = 11 \/ c = 12 \/ c = 13 \/ c = 14 \/ c = 15 \/ c = 16 \/ c = 17 \/ c = 18 \/ c = 19 \/ c = 20 \/ c = 21 \/ c = 22 := by omega
   clear hc h1 e
   rcases hcs with rfl | rfl | rfl | rfl | rfl | rfl | rfl | rfl | rfl | rfl | rfl | rfl | rfl | rfl | rfl | rfl | rfl | rfl | rfl | rfl | rfl | rfl | rfl <;> exact ⟨_, rfl, rfl⟩
theorem opSm_rng {x : Sm} (h : okSm x) : 0 <= opSm x /\ opSm x <= 49 := by
 have ho := h.op;unfold opSm;split
 · omega
 · have : ∀ t ∈ opTab, 0 <= t /\ t <= 49 := by decide
   cases hq : opTab[(x.op % 40 - 17).toNat]? with
   | none => decide
   | some t => exact this t (List.mem_of_getElem? hq)
def umod (n : Int) (m : Int) : Int := (n % 18446744073709551616) % m
def goS : Tx -> Sm -> Int -> Ins -> Nat -> Ins
 | [], _, _, i, _ => i
 | f :: r, x, m, i, u => if f = 114 then goS r x m (if u < 3 then putR i u (regAt x.a x.b x.c u % 8) else i) (u + 1)
   else if f = 110 then goS r x m { i with n := x.n } u
   else if f = 112 then goS r x m { i with n := umod x.n 16 } u
   else goS r x m { i with n := umod x.n (max m 1) } u
def oneS (x : Sm) (m : Int) : Ins := goS (formL (opSm x)) x m ⟨opSm x, 0, 0, 0, 0⟩ 0
def SmN (x : Sm) (m : Int) (p : Nat) (u : Int) (cs : List Value) : Prop := ∃ i : Ins, cs = insV i /\ okI i /\ oneS x m = goS ((formL (opSm x)).drop p) x m i u.toNat /\ 0 <= u /\ u <= p /\ p <= (formL (opSm x)).length
set_option maxHeartbeats 4000000 in
theorem ct47 (x : Sm) (h : okSm x) (m : Int) (hm : 1 <= m /\ m <= 1000) (I : Mem) : Ct Tryz.prog (fnv 47) #[.agg (smV x).toArray, .int .i64 m] I (fun v _ => v = .agg (insV (oneS x m)).toArray /\ okI (oneS x m)) := by
 obtain ⟨Q, hQ⟩ : ∃ q : Value -> Prop, q = fun v => v = .agg (insV (oneS x m)).toArray /\ okI (oneS x m) := ⟨_, rfl⟩
 rw [show (fun (v : Value) (_ : Mem) => v = .agg (insV (oneS x m)).toArray /\ okI (oneS x m)) = fun v _ => Q v from by rw [hQ]]
 obtain ⟨N, hN⟩ : ∃ f, f = SmN x m := ⟨_, rfl⟩;obtain ⟨F, hF⟩ : ∃ q : Nat, q = (formL (opSm x)).length := ⟨_, rfl⟩
 refine viaR (ct_via (A := { calls := [(46, .cs [0, 1, 2])], loops := [(6, ⟨[(1, .keep), (2, .keep), (4, .keep), (8, .keep), (9, .keep), (10, .sh (.int .i64)), (27, .keep)], [(0, .keep), (1, .keep), (2, .cells [.sh (.int .u8), .sh (.int .u8), .sh (.int .u8), .sh (.int .u8), .sh (.int .i64)]), (3, .keep), (4, .iter)], [], fun vals xss _ _ => match vals, xss with | .int .i64 u :: cs, [it] => N (posL it) u cs | _, _ => False, fun _ xss => match xss with | [it] => F - posL it | _ => 0⟩)] }) Tryz.func47 rfl Tryz.call47 rfl rfl) (let E2 := Ent.mk (.cells [.v (.int .u8 0), .v (.int .u8 0), .v (.int .u8 0), .v (.int .u8 0), .v (.int .i64 0)] 27) none
  let E3 := Ent.mk (.cells [.ptr 2 1, .ptr 2 2, .ptr 2 3] 110) none
  let E4 := Ent.mk (.cells [.v (.int .u8 x.op), .v (.int .u8 x.a), .v (.int .u8 x.b), .v (.int .u8 x.c), .v (.int .i64 x.n)] 92) none
  let E1 := fun (a : ByteArray) (b : List Value) (c : Int) (d : Int) (e : Int) (f : Int) (g : Int) (i : Int) => Rf E4 /\ Rf E2 /\ Rf E3 /\ (a = a /\ Rf (none : Option Nat)) /\ Rf (SV.v (.int .i64 m)) /\ Rf (SV.ptr 0 0) /\ Rf (SV.ptr 1 0) /\ Rf (SV.ptr 2 0) /\ Rf (SV.xsl 3 0 3 3) /\ Rf (SV.ptr 4 0) /\ Rf (none : Option Nat) /\ N (posL [.int .i64 ((posL b + (Utf8.decode a (posL b)).2 : Nat) : Int)]) c [.int .u8 d, .int .u8 e, .int .u8 f, .int .u8 g, .int .i64 i] /\ F - posL [.int .i64 ((posL b + (Utf8.decode a (posL b)).2 : Nat) : Int)] < F - posL b
  Ct Tryz.prog (fnv 76) #[.agg #[.int .u8 x.op, .int .u8 x.a, .int .u8 x.b, .int .u8 x.c, .int .i64 x.n]] I fun v a => ∃ n, v = .int .u8 n /\ Ct Tryz.prog (fnv 74) #[.int .u8 n] a fun b c => ∃ q d, b = .tuple #[.string q, .bool d] /\ (Rf E4 /\ Rf E2 /\ Rf E3 /\ (q = q /\ Rf (none : Option Nat)) /\ Rf (SV.v (.int .i64 m)) /\ Rf (SV.ptr 0 0) /\ Rf (SV.ptr 1 0) /\ Rf (SV.ptr 2 0) /\ Rf (SV.xsl 3 0 3 3) /\ Rf (SV.ptr 4 0) /\ Rf (none : Option Nat) /\ N 0 0 [.int .u8 n, .int .u8 0, .int .u8 0, .int .u8 0, .int .i64 0]) /\ ∀ (e : Mem), Mem -> c.le e -> ∀ (f : List Value) (g i j k l o : Int), N (posL f) g [.int .u8 i, .int .u8 j, .int .u8 k, .int .u8 l, .int .i64 o] -> Br ((posL f).blt q.size) (Br (((Utf8.decode q (posL f)).1 : Int) == 114) (Br (decide (g < 3)) ((g = 0 \/ g = 1 \/ g = 2) /\ (g = 0 -> (0 : Int) <= 0 /\ (0 : Int) < 3 /\ 0 <= g /\ g < 3 /\ ∃ p, [SV.v (.int .u8 x.a), .v (.int .u8 x.b), .v (.int .u8 x.c)][0 + g.toNat * 1 + 0]?.bind (fun (r : SV) => (match r with
  | SV.v x => some x
  | x => none)) = some (.int .u8 p) /\ (8 : Int) ≠ 0 /\ Wr .i64 (g + 1) fun r => Rf E4 /\ Rf E2 /\ Rf E3 /\ (q = q /\ Rf (none : Option Nat)) /\ Rf (SV.v (.int .i64 m)) /\ Rf (SV.ptr 0 0) /\ Rf (SV.ptr 1 0) /\ Rf (SV.ptr 2 0) /\ Rf (SV.xsl 3 0 3 3) /\ Rf (SV.ptr 4 0) /\ Rf (none : Option Nat) /\ N (posL [.int .i64 ((posL f + (Utf8.decode q (posL f)).2 : Nat) : Int)]) r [.int .u8 i, .int .u8 (p.tmod 8), .int .u8 k, .int .u8 l, .int .i64 o] /\ F - posL [.int .i64 ((posL f + (Utf8.decode q (posL f)).2 : Nat) : Int)] < F - posL f) /\ (g = 1 -> (0 : Int) <= 1 /\ (1 : Int) < 3 /\ 0 <= g /\ g < 3 /\ ∃ p, [SV.v (.int .u8 x.a), .v (.int .u8 x.b), .v (.int .u8 x.c)][0 + g.toNat * 1 + 0]?.bind (fun (r : SV) => (match r with
  | SV.v x => some x
  | x => none)) = some (.int .u8 p) /\ (8 : Int) ≠ 0 /\ Wr .i64 (g + 1) fun r => Rf E4 /\ Rf E2 /\ Rf E3 /\ (q = q /\ Rf (none : Option Nat)) /\ Rf (SV.v (.int .i64 m)) /\ Rf (SV.ptr 0 0) /\ Rf (SV.ptr 1 0) /\ Rf (SV.ptr 2 0) /\ Rf (SV.xsl 3 0 3 3) /\ Rf (SV.ptr 4 0) /\ Rf (none : Option Nat) /\ N (posL [.int .i64 ((posL f + (Utf8.decode q (posL f)).2 : Nat) : Int)]) r [.int .u8 i, .int .u8 j, .int .u8 (p.tmod 8), .int .u8 l, .int .i64 o] /\ F - posL [.int .i64 ((posL f + (Utf8.decode q (posL f)).2 : Nat) : Int)] < F - posL f) /\ (g = 2 -> (0 : Int) <= 2 /\ (2 : Int) < 3 /\ 0 <= g /\ g < 3 /\ ∃ p, [SV.v (.int .u8 x.a), .v (.int .u8 x.b), .v (.int .u8 x.c)][0 + g.toNat * 1 + 0]?.bind (fun (r : SV) => (match r with
  | SV.v x => some x
  | x => none)) = some (.int .u8 p) /\ (8 : Int) ≠ 0 /\ Wr .i64 (g + 1) fun r => Rf E4 /\ Rf E2 /\ Rf E3 /\ (q = q /\ Rf (none : Option Nat)) /\ Rf (SV.v (.int .i64 m)) /\ Rf (SV.ptr 0 0) /\ Rf (SV.ptr 1 0) /\ Rf (SV.ptr 2 0) /\ Rf (SV.xsl 3 0 3 3) /\ Rf (SV.ptr 4 0) /\ Rf (none : Option Nat) /\ N (posL [.int .i64 ((posL f + (Utf8.decode q (posL f)).2 : Nat) : Int)]) r [.int .u8 i, .int .u8 j, .int .u8 k, .int .u8 (p.tmod 8), .int .i64 o] /\ F - posL [.int .i64 ((posL f + (Utf8.decode q (posL f)).2 : Nat) : Int)] < F - posL f)) (Wr .i64 (g + 1) (fun p => E1 q f p i j k l o))) (Br (((Utf8.decode q (posL f)).1 : Int) == 110) (Rf E4 /\ Rf E2 /\ Rf E3 /\ (q = q /\ Rf (none : Option Nat)) /\ Rf (SV.v (.int .i64 m)) /\ Rf (SV.ptr 0 0) /\ Rf (SV.ptr 1 0) /\ Rf (SV.ptr 2 0) /\ Rf (SV.xsl 3 0 3 3) /\ Rf (SV.ptr 4 0) /\ Rf (none : Option Nat) /\ N (posL [.int .i64 ((posL f + (Utf8.decode q (posL f)).2 : Nat) : Int)]) g [.int .u8 i, .int .u8 j, .int .u8 k, .int .u8 l, .int .i64 x.n] /\ F - posL [.int .i64 ((posL f + (Utf8.decode q (posL f)).2 : Nat) : Int)] < F - posL f) (Br (((Utf8.decode q (posL f)).1 : Int) == 112) (Wr .u64 x.n (fun p => (16 : Int) ≠ 0 /\ Wr .i64 (p.tmod 16) fun r => E1 q f g i j k l r)) (Wr .u64 x.n (fun p => Wr .u64 (bif true then imax m 1 else imin m 1) fun r => r ≠ 0 /\ Wr .i64 (p.tmod r) fun s => E1 q f g i j k l s))))) (Q (.agg #[.int .u8 i, .int .u8 j, .int .u8 k, .int .u8 l, .int .i64 o]))) (by kernel_rfl) ?_
 intro E2 E3 E4 E1;have hop := opSm_rng h;obtain ⟨hmem, hlen, hcnt⟩ := formL_mem (opSm x)
 have hreg : ∀ u, 0 <= regAt x.a x.b x.c u /\ regAt x.a x.b x.c u <= 255 := fun u => by
  unfold regAt;split
  · exact h.a
  · exact h.b
  · exact h.c
 refine (ct76 x h I).mono fun v a la hv => ⟨_, hv, (ct74 _ (by omega) a).mono fun b c lc hb => ⟨_, _, hb, ⟨rfl, rfl, rfl, ⟨rfl, rfl⟩, rfl, rfl, rfl, rfl, rfl, rfl, rfl, ?_⟩, fun e G le f g i j k l o hn => ?_⟩⟩
 · rw [hN]
   exact ⟨⟨opSm x, 0, 0, 0, 0⟩, rfl, ⟨by simp only; omega, (by decide : 0 <= (0 : Int) /\ (0 : Int) <= 255), (by decide : 0 <= (0 : Int) /\ (0 : Int) <= 255), (by decide : 0 <= (0 : Int) /\ (0 : Int) <= 255), (by decide : -9223372036854775808 <= (0 : Int) /\ (0 : Int) <= 9223372036854775807)⟩, rfl, Int.le_refl _, Int.le_refl _, Nat.zero_le _⟩
 rw [hN] at hn;obtain ⟨y, hy, ho, h2, h3, h4, h5⟩ := hn;simp only [insV, List.cons.injEq, Value.int.injEq, true_and, and_true] at hy;obtain ⟨rfl, rfl, rfl, rfl, rfl⟩ := hy;refine Br.mk (fun h7 => ?_) (fun h7 => ?_)
 · have hlt : posL f < (formL (opSm x)).length := by
    have : posL f < (strT (formL (opSm x))).size := by simpa using h7
    rwa [strT_size] at this
   obtain ⟨L, hL⟩ : ∃ L, (formL (opSm x))[posL f]? = some L := ⟨_, List.getElem?_eq_getElem hlt⟩;have hLm := hmem L (List.mem_of_getElem? hL)
   have hd : (formL (opSm x)).drop (posL f) = L :: (formL (opSm x)).drop (posL f + 1) := by
    rw [List.drop_eq_getElem_cons hlt]
    congr 1
    rw [List.getElem?_eq_getElem hlt] at hL;exact Option.some.inj hL
   have hdec : Utf8.decode (strT (formL (opSm x))) (posL f) = (L.toNat, 1) := dec_ascii hL (by rcases hLm with rfl | rfl | rfl | rfl <;> decide)
   have hpos : posL [Value.int .i64 ((posL f + 1 : Nat) : Int)] = posL f + 1 := by simp [posL, natV]
   have hF2 : F - (posL f + 1) < F - posL f := by omega
   rw [hd] at h2;simp only [E1, hdec, hpos, Rf, eq_self, true_and, and_true, hF2]
   have next : ∀ (y' : Ins) (u' : Int), okI y' -> 0 <= u' -> u' <= ((posL f + 1 : Nat) : Int) -> goS (L :: (formL (opSm x)).drop (posL f + 1)) x m y g.toNat = goS ((formL (opSm x)).drop (posL f + 1)) x m y' u'.toNat -> N (posL f + 1) u' [.int .u8 y'.op, .int .u8 y'.a, .int .u8 y'.b, .int .u8 y'.c, .int .i64 y'.n] := fun y' u' g1 g2 g3 g4 => by
    rw [hN]
    exact ⟨y', rfl, g1, by rw [h2, g4], g2, g3, by omega⟩
   by_cases hr : L = 114
   · subst hr
     refine Br.t rfl (Br.mk (fun h8 => ?_) (fun h8 => ?_))
     · have h8 := of_decide_eq_true h8
       have hcs : g = 0 \/ g = 1 \/ g = 2 := by omega
       have hrem : (regAt x.a x.b x.c g.toNat).tmod 8 = regAt x.a x.b x.c g.toNat % 8 := Int.tmod_eq_emod_of_nonneg (hreg _).1
       have hrg : 0 <= regAt x.a x.b x.c g.toNat % 8 /\ regAt x.a x.b x.c g.toNat % 8 <= 255 := by omega
       have hgo : goS (114 :: (formL (opSm x)).drop (posL f + 1)) x m y g.toNat = goS ((formL (opSm x)).drop (posL f + 1)) x m (putR y g.toNat (regAt x.a x.b x.c g.toNat % 8)) (g.toNat + 1) := by
        rw [goS, if_pos rfl, if_pos (by omega)]
       refine ⟨hcs, fun hg => ?_, fun hg => ?_, fun hg => ?_⟩
       all_goals subst hg
       · refine ⟨by omega, by omega, by omega, by omega, regAt x.a x.b x.c 0, rfl, by decide, wr_i64 (by omega) (by omega) ?_⟩
         have e0 : (regAt x.a x.b x.c 0).tmod 8 = regAt x.a x.b x.c 0 % 8 := hrem;rw [e0]
         exact next (putR y 0 (regAt x.a x.b x.c 0 % 8)) (0 + 1) ⟨ho.op, hrg, ho.b, ho.c, ho.n⟩ (by omega) (by omega) hgo
       · refine ⟨by omega, by omega, by omega, by omega, regAt x.a x.b x.c 1, rfl, by decide, wr_i64 (by omega) (by omega) ?_⟩
         have e0 : (regAt x.a x.b x.c 1).tmod 8 = regAt x.a x.b x.c 1 % 8 := hrem;rw [e0]
         exact next (putR y 1 (regAt x.a x.b x.c 1 % 8)) (1 + 1) ⟨ho.op, ho.a, hrg, ho.c, ho.n⟩ (by omega) (by omega) hgo
       · refine ⟨by omega, by omega, by omega, by omega, regAt x.a x.b x.c 2, rfl, by decide, wr_i64 (by omega) (by omega) ?_⟩
         have e0 : (regAt x.a x.b x.c 2).tmod 8 = regAt x.a x.b x.c 2 % 8 := hrem;rw [e0]
         exact next (putR y 2 (regAt x.a x.b x.c 2 % 8)) (2 + 1) ⟨ho.op, ho.a, ho.b, hrg, ho.n⟩ (by omega) (by omega) hgo
     · have h8 := of_decide_eq_false h8
       refine wr_i64 (by omega) (by omega) (next y (g + 1) ho (by omega) (by omega) ?_)
       rw [goS, if_pos rfl, if_neg (by omega), show (g + 1).toNat = g.toNat + 1 by omega]
   · refine Br.f (by simpa using fun e : (L.toNat : Int) = 114 => hr (UInt8.toNat_inj.1 (by rw [show (114 : UInt8).toNat = 114 by decide]; omega))) ?_
     have w64 : IntKind.u64.wrap x.n = x.n % 18446744073709551616 := by rw [IntKind.wrap_u64]
     have hnn : 0 <= x.n % 18446744073709551616 := Int.emod_nonneg _ (by decide)
     by_cases hnl : L = 110
     · subst hnl
       refine Br.t rfl (next { y with n := x.n } g ⟨ho.op, ho.a, ho.b, ho.c, h.n⟩ h3 (by omega) ?_)
       rw [goS, if_neg (by decide), if_pos rfl]
     · refine Br.f (by simpa using fun e : (L.toNat : Int) = 110 => hnl (UInt8.toNat_inj.1 (by rw [show (110 : UInt8).toNat = 110 by decide]; omega))) ?_
       by_cases hp : L = 112
       · subst hp
         refine Br.t rfl ⟨_, w64, by decide, ?_⟩
         rw [Int.tmod_eq_emod_of_nonneg hnn]
         have hu : 0 <= umod x.n 16 /\ umod x.n 16 < 16 := by unfold umod; omega
         refine wr_i64 (by unfold umod at hu; omega) (by unfold umod at hu; omega) (next { y with n := umod x.n 16 } g ⟨ho.op, ho.a, ho.b, ho.c, ⟨by simp only; omega, by simp only; omega⟩⟩ h3 (by omega) ?_)
         rw [goS, if_neg (by decide), if_neg (by decide), if_pos rfl]
       · refine Br.f (by simpa using fun e : (L.toNat : Int) = 112 => hp (UInt8.toNat_inj.1 (by rw [show (112 : UInt8).toNat = 112 by decide]; omega))) ⟨_, w64, ?_⟩
         have him : (bif true then imax m 1 else imin m 1) = m := by
          show imax m 1 = m
          unfold imax; split <;> omega
         rw [him]
         refine ⟨m, by rw [IntKind.wrap_u64]; omega, by omega, ?_⟩
         rw [Int.tmod_eq_emod_of_nonneg hnn]
         have hu : 0 <= umod x.n m /\ umod x.n m < m := ⟨Int.emod_nonneg _ (by omega), Int.emod_lt_of_pos _ (by omega)⟩
         have hmx : max m 1 = m := by omega
         refine wr_i64 (by unfold umod at hu; omega) (by unfold umod at hu; omega) (next { y with n := umod x.n m } g ⟨ho.op, ho.a, ho.b, ho.c, ⟨by simp only; omega, by simp only; omega⟩⟩ h3 (by omega) ?_)
         rw [goS, if_neg hr, if_neg hnl, if_neg hp, hmx]
 · have hge : (formL (opSm x)).length <= posL f := by
    have h7 : ¬ posL f < (strT (formL (opSm x))).size := fun hh => by
     have : (posL f).blt (strT (formL (opSm x))).size = true := by simpa using hh
     rw [this] at h7; cases h7
    rw [strT_size] at h7; omega
   rw [List.drop_eq_nil_of_le hge, goS] at h2;rw [hQ, h2];exact ⟨rfl, ho⟩
def SmC (I : Mem) (c : List Value) (x : Sm) : Prop := c = smV x /\ okSm x
theorem smC_mono (I J : Mem) (c : List Value) (e : Sm) (_ : I.le J) (h : SmC I c e) : SmC J c e := h
def SmM (I : Mem) (a : Option Addr) (n : Nat) (l : List Sm) : Prop := SlR 5 SmC I a n l
def madeS (l : List Sm) : List Ins := (l.take 40).map (fun x => oneS x ((l.take 40).length + 1)) ++ [⟨1, 0, 0, 0, 0⟩]
set_option maxHeartbeats 2000000 in
theorem ct13 (l : List Sm) (a : Option Addr) (n c : Nat) (hc : n <= c) (I : Mem) (h : SmM I a n l) : Ct Tryz.prog (fnv 13) #[.slice a n c] I (fun v I' => ∃ b m d, v = .slice b m d /\ InsM I' b m (madeS l) /\ m <= d /\ d <= maxLen) := by
 obtain ⟨Q, hQ⟩ : ∃ q : Value -> Mem -> Prop, q = fun v I' => ∃ b m d, v = .slice b m d /\ InsM I' b m (madeS l) /\ m <= d /\ d <= maxLen := ⟨_, rfl⟩;obtain ⟨N, hN⟩ : ∃ f : Int -> List Value -> Prop, f = fun (j : Int) xs => 0 <= j /\ j <= (l.take 40).length /\ xs = insVs (((l.take 40).take j.toNat).map fun x => oneS x ((l.take 40).length + 1)) /\ ∀ x ∈ (l.take 40).take j.toNat, okI (oneS x ((l.take 40).length + 1)) := ⟨_, rfl⟩;obtain ⟨M, hM⟩ : ∃ q : Nat, q = (l.take 40).length := ⟨_, rfl⟩;rw [<- hQ]
 refine viaR (ct_via (A := { loops := [(4, ⟨[(0, .keep), (3, .row 0), (11, .keep), (12, .keep), (13, .sh (.int .i64))], [(0, .row)], [(3, 5, 27)], fun vals xss _ _ => match vals, xss with | [.int .i64 j], [xs] => N j xs | _, _ => False, fun vals _ => match vals with | [.int .i64 j] => (M - j).toNat | _ => 0⟩)] }) Tryz.func13 rfl Tryz.call13 rfl rfl) (0 <= (bif false then imax (n : Int) 40 else imin (n : Int) 40) /\ (bif false then imax (n : Int) 40 else imin (n : Int) 40) <= (c : Int) /\ (Rf (SV.v (.slice a (bif false then imax (n : Int) 40 else imin (n : Int) 40).toNat c)) /\ (0 : Nat) = 0 /\ Rf (SV.v (.slice a (bif false then imax (n : Int) 40 else imin (n : Int) 40).toNat c)) /\ Rf (SV.v (.int .i64 ((bif false then imax (n : Int) 40 else imin (n : Int) 40).toNat : Int))) /\ N 0 []) /\ ∀ (b : Mem), Mem -> I.le b -> ∀ (x : List Value) (d : Int), N d x -> Br (decide (d < ((bif false then imax (n : Int) 40 else imin (n : Int) 40).toNat : Int))) (0 <= d /\ d < ((bif false then imax (n : Int) 40 else imin (n : Int) 40).toNat : Int) /\ a.isSome = true /\ (5 : Nat) = 5 /\ ∃ e, atI b a (d.toNat * 5 + 0) = some (.int .u8 e) /\ ∃ f, atI b a (d.toNat * 5 + 1) = some (.int .u8 f) /\ ∃ g, atI b a (d.toNat * 5 + 2) = some (.int .u8 g) /\ ∃ i, atI b a (d.toNat * 5 + 3) = some (.int .u8 i) /\ ∃ j, atI b a (d.toNat * 5 + 4) = some (.int .i64 j) /\ Wr .i64 (((bif false then imax (n : Int) 40 else imin (n : Int) 40).toNat : Int) + 1) fun k => Ct Tryz.prog (fnv 47) #[.agg #[.int .u8 e, .int .u8 f, .int .u8 g, .int .u8 i, .int .i64 j], .int .i64 k] b fun v m => ∃ o p q r s, v = .agg #[.int .u8 o, .int .u8 p, .int .u8 q, .int .u8 r, .int .i64 s] /\ x.length = x.length / 5 * 5 /\ x.length / 5 + 1 <= 9223372036854775807 /\ (x.length / 5 + 1) * 16 <= 140737488355328 /\ Wr .i64 (d + 1) fun t => Rf (SV.v (.slice a (bif false then imax (n : Int) 40 else imin (n : Int) 40).toNat c)) /\ x.length / 5 + 1 = List.length (x ++ [.int .u8 o, .int .u8 p, .int .u8 q, .int .u8 r, .int .i64 s]) / 5 /\ Rf (SV.v (.slice a (bif false then imax (n : Int) 40 else imin (n : Int) 40).toNat c)) /\ Rf (SV.v (.int .i64 ((bif false then imax (n : Int) 40 else imin (n : Int) 40).toNat : Int))) /\ N t (x ++ [.int .u8 o, .int .u8 p, .int .u8 q, .int .u8 r, .int .i64 s]) /\ Int.toNat ((M : Int) - t) < Int.toNat ((M : Int) - d)) (x.length = x.length / 5 * 5 /\ x.length / 5 + 1 <= 9223372036854775807 /\ (x.length / 5 + 1) * 16 <= 140737488355328 /\ ∀ (e : Option Addr) (f : Nat) (g : Mem), b.le g -> RowM g e f 5 (x ++ [.int .u8 1, .int .u8 0, .int .u8 0, .int .u8 0, .int .i64 0]) -> Q (.slice e (x.length / 5 + 1) f) g)) (by kernel_rfl) ?_
 have hl : l.length = n := SlR.len (by decide) h
 have hmx : n <= maxLen := SlR.max h
 have hmx2 : maxLen <= 9223372036854775807 := by decide
 have hM2 : M = min n 40 := by rw [hM, List.length_take, hl]; omega
 have him : (bif false then imax (n : Int) 40 else imin (n : Int) 40) = (M : Int) := by
  show imin (n : Int) 40 = _
  unfold imin; split <;> omega
 rw [him, Int.toNat_natCast]
 have ht := SlR.take (m := M) (by decide) h (by omega)
 have hlt : l.take M = l.take 40 := by
  rw [hM2]
  rcases Nat.le_total n 40 with hh | hh
  · rw [Nat.min_eq_left hh, List.take_of_length_le (by omega), List.take_of_length_le (by omega)]
  · rw [Nat.min_eq_right hh]
 rw [hlt] at ht;obtain ⟨T, hT⟩ : ∃ T, T = l.take 40 := ⟨_, rfl⟩;rw [<- hT] at ht hM hN;rw [<- hM] at hN
 refine ⟨by omega, by omega, ⟨rfl, rfl, rfl, rfl, ?_⟩, fun b G lb x d hd => ?_⟩
 · rw [hN]; exact ⟨Int.le_refl _, Int.natCast_nonneg _, rfl, fun x hx => by cases hx⟩
 rw [hN] at hd;obtain ⟨h1, h2, h3, h4⟩ := hd
 have hxl : x.length = d.toNat * 5 := by rw [h3, insVs_len, List.length_map, List.length_take]; omega
 have hx5 : x.length / 5 = d.toNat := by omega
 refine Br.mk (fun h5 => ?_) (fun h5 => ?_)
 · have h5 := of_decide_eq_true h5
   have htb := SlR.mono smC_mono ht lb
   obtain ⟨y, cs, g1, g2, ⟨rfl, g3⟩, g4⟩ := SlR.at_ (by decide) htb h1 h5
   have htk : T.take (d + 1).toNat = T.take d.toNat ++ [y] := by rw [show (d + 1).toNat = d.toNat + 1 by omega, List.take_add_one, g1]; rfl
   refine ⟨h1, h5, SlR.isSome htb (by omega), rfl, _, g4 0 _ rfl, _, g4 1 _ rfl, _, g4 2 _ rfl, _, g4 3 _ rfl, _, g4 4 _ rfl, wr_i64 (by omega) (by omega) ((ct47 y g3 ((M : Int) + 1) (by omega) b).mono fun v m lm ⟨hv, hok⟩ => ⟨_, _, _, _, _, hv, by omega, by omega, by omega, wr_i64 (by omega) (by omega) ⟨rfl, ?_, rfl, rfl, ?_, by omega⟩⟩)⟩
   · rw [List.length_append]; simp only [List.length_cons, List.length_nil]; omega
   · rw [hN]
     refine ⟨by omega, by omega, ?_, fun z hz => ?_⟩
     · rw [h3, htk]
       simp [insVs, insV]
     · rw [htk] at hz
       rcases List.mem_append.1 hz with hz | hz
       · exact h4 z hz
       · simp only [List.mem_cons, List.not_mem_nil, or_false] at hz
         rw [hz]; exact hok
 · have h5 := of_decide_eq_false h5
   refine ⟨by omega, by omega, by omega, fun e f g lg hrow => ?_⟩
   rw [List.take_of_length_le (by omega)] at h3 h4
   have hmade : madeS l = T.map (fun x => oneS x ((M : Int) + 1)) ++ [⟨1, 0, 0, 0, 0⟩] := by rw [madeS, <- hT, <- hM]
   have hx : x ++ [.int .u8 1, .int .u8 0, .int .u8 0, .int .u8 0, .int .i64 0] = insVs (madeS l) := by rw [hmade, h3]; simp [insVs, insV]
   have hokm : ∀ i ∈ madeS l, okI i := fun i hi => by
    rw [hmade] at hi
    rcases List.mem_append.1 hi with hi | hi
    · obtain ⟨z, hz, rfl⟩ := List.mem_map.1 hi
      exact h4 z hz
    · simp only [List.mem_cons, List.not_mem_nil, or_false] at hi
      subst hi
      exact ⟨by decide, by decide, by decide, by decide, by decide⟩
   rw [hx] at hrow
   have hsl := SlR.row (by decide) hrow (rowR_ins g hokm)
   have hln : (madeS l).length = x.length / 5 + 1 := by rw [hmade, List.length_append, List.length_map]; simp only [List.length_cons, List.length_nil]; omega
   obtain ⟨r1, r2, _⟩ := hrow;rw [insVs_len, hln] at r1;rw [hQ]
   refine ⟨e, _, f, rfl, ?_, by omega, r2⟩
   rw [<- hln]; exact hsl
theorem opSm_form {x : Sm} (h : okSm x) : ∃ l, formT (opSm x) = some l := by
 have ho := h.op;unfold opSm;split
 · refine ⟨[114, 114, 114], ?_⟩
   rw [formT, if_pos ⟨by omega, by omega⟩]
 · have : ∀ t ∈ opTab, (formT t).isSome = true := by decide
   have hl : opTab.length = 23 := rfl
   have hlt : (x.op % 40 - 17).toNat < opTab.length := by omega
   rw [List.getElem?_eq_getElem hlt];have := this _ (List.getElem_mem hlt);exact Option.isSome_iff_exists.1 this
theorem oneS_shape {x : Sm} (h : okSm x) {m : Int} (hm : 1 <= m /\ m <= 256) : ∃ l, formT (oneS x m).op = some l /\ shapeI (oneS x m) l /\ (116 ∈ l -> (oneS x m).n < m) := by
 obtain ⟨l, hl⟩ := opSm_form h
 have hop : ∀ (fs : Tx) (i : Ins) (u : Nat), (goS fs x m i u).op = i.op := by
  intro fs
  induction fs with
  | nil => intro i u; rfl
  | cons f r ih =>
    intro i u;rw [goS];split
    · rw [ih]
      split
      · unfold putR; split <;> rfl
      · rfl
    · split
      · rw [ih]
      · split <;> rw [ih]
 have hopx : (oneS x m).op = opSm x := by rw [oneS, hop]
 have hfl : formL (opSm x) = l := by rw [formL, hl]; rfl
 have ha := h.a; have hb := h.b; have hc := h.c
 have u1 : 0 <= umod x.n 16 /\ umod x.n 16 < 16 := by unfold umod; omega
 have u2 : 0 <= umod x.n (max m 1) /\ umod x.n (max m 1) < m := by
  have : max m 1 = m := by omega
  rw [this]
  exact ⟨Int.emod_nonneg _ (by omega), Int.emod_lt_of_pos _ (by omega)⟩
 refine ⟨l, by rw [hopx]; exact hl, ?_⟩
 rw [oneS, hfl]
 rcases formT_cases (opSm x) with hh | hh | hh | hh | hh | hh | hh | hh <;> rw [hh] at hl <;> cases hl
 · exact ⟨.inl ⟨rfl, rfl, rfl, rfl, rfl⟩, fun hh => by cases hh⟩
 · exact ⟨.inr (.inl ⟨rfl, by show x.a % 8 < 8; omega, rfl, rfl⟩), fun hh => by simp at hh⟩
 · exact ⟨.inr (.inr (.inl ⟨rfl, by show x.a % 8 < 8; omega, by show x.b % 8 < 8; omega, rfl, rfl⟩)), fun hh => by simp at hh⟩
 · exact ⟨.inr (.inr (.inr (.inl ⟨rfl, by show x.a % 8 < 8; omega, by show x.b % 8 < 8; omega, rfl, u1.1, u1.2⟩))), fun hh => by simp at hh⟩
 · exact ⟨.inr (.inr (.inr (.inr (.inl ⟨rfl, rfl, rfl, rfl, u2.1, by show umod x.n (max m 1) < 256; omega⟩)))), fun _ => u2.2⟩
 · exact ⟨.inr (.inr (.inr (.inr (.inr (.inl ⟨rfl, by show x.a % 8 < 8; omega, rfl, rfl, u2.1, by show umod x.n (max m 1) < 256; omega⟩))))), fun _ => u2.2⟩
 · exact ⟨.inr (.inr (.inr (.inr (.inr (.inr ⟨rfl, by show x.a % 8 < 8; omega, by show x.b % 8 < 8; omega, by show x.c % 8 < 8; omega, rfl⟩))))), fun hh => by simp at hh⟩
theorem check_of {p : List Ins} (hok : ∀ i ∈ p, okI i) (h : ∀ i ∈ p, oneE i = 0 /\ ((targetE i).2 = true -> (targetE i).1 < p.length)) (h0 : 0 < p.length) (h1 : p.length <= 256) (h2 : lastGoes p = false) : checkL p = (-1, 0) := by
 have hgo : ∀ (q : List Ins) (k : Int), (∀ i ∈ q, oneE i = 0 /\ ((targetE i).2 = true -> (targetE i).1 < p.length)) -> checkGo p.length q k = (-1, 0) := by
  intro q
  induction q with
  | nil => intro k _; rfl
  | cons i r ih =>
    intro k h
    obtain ⟨h1, h2⟩ := h i (by simp)
    rw [checkGo, if_neg (fun hh => hh h1), if_neg (fun hh => by have := h2 hh.1; omega)]
    exact ih _ fun j hj => h j (List.mem_cons_of_mem _ hj)
 rw [checkL, if_neg (by omega), if_neg (by omega), hgo p 0 h, if_neg (fun hh => hh rfl), h2]; rfl
theorem made_right {l : List Sm} (h : ∀ x ∈ l, okSm x) (hok : ∀ i ∈ madeS l, okI i) : checkL (madeS l) = (-1, 0) := by
 have hlen : (madeS l).length = (l.take 40).length + 1 := by rw [madeS, List.length_append, List.length_map]; rfl
 have h40 : (l.take 40).length <= 40 := by rw [List.length_take]; omega
 refine check_of hok (fun i hi => ?_) (by omega) (by omega) ?_
 · rw [madeS] at hi
   rcases List.mem_append.1 hi with hi | hi
   · obtain ⟨x, hx, rfl⟩ := List.mem_map.1 hi
     have hsx := h x (List.mem_of_mem_take hx)
     obtain ⟨f, h1, h2, h3⟩ := oneS_shape hsx (m := ((l.take 40).length : Int) + 1) ⟨by omega, by omega⟩
     have ho := hok _ (by rw [madeS]; exact List.mem_append_left _ (List.mem_map_of_mem hx))
     have h0 := shape_one h1 h2;refine ⟨h0, fun ht => ?_⟩;obtain ⟨t1, t2⟩ := tgt_form ho h0;have hm := t1.2 ht;rw [formL, h1] at hm;rw [t2 ht, hlen];have := h3 hm;omega
   · simp only [List.mem_cons, List.not_mem_nil, or_false] at hi
     subst hi
     exact ⟨by decide, fun hh => by cases hh⟩
 · rw [lastGoes, madeS, List.getLast?_concat]; rfl
theorem cells92 : Tryz.prog.cellsOf 92 = 5 := by kernel_rfl
theorem cells2 : Tryz.prog.cellsOf 2 = 1 := by kernel_rfl
def Q31 (I : Mem) (v : Value) : Prop := ∃ a n c l, v = .slice a n c /\ SmM I a n l /\ n <= c /\ c <= maxLen
theorem opc92 (W : World) : OpC Tryz.prog W 92 fun cs => ∃ x, SmC (memW W) cs x := by
 refine (opc_struct (P := Tryz.prog) (W := W) Tryz.underlying92 cells92 (.cons rfl cells5 (opc_int Tryz.underlying5) (.cons rfl cells5 (opc_int Tryz.underlying5) (.cons rfl cells5 (opc_int Tryz.underlying5) (.cons rfl cells5 (opc_int Tryz.underlying5) (.cons rfl cells2 (opc_int Tryz.underlying2) .nil)))))).mono ?_;rintro cs ⟨hl, ⟨k, h1, k1, k2⟩, ⟨a, h2, k3, k4⟩, ⟨b, h3, k5, k6⟩, ⟨c, h4, k7, k8⟩, ⟨n, h5, k9, k10⟩, _⟩
 match cs, hl with
 | [y0, y1, y2, y3, y4], _ =>
   simp only [List.drop_succ_cons, List.drop_zero, List.take_succ_cons, List.take_zero, List.cons.injEq, and_true] at h1 h2 h3 h4 h5
   subst h1; subst h2; subst h3; subst h4; subst h5
   exact ⟨⟨k, a, b, c, n⟩, rfl, ⟨k1, k2⟩, ⟨k3, k4⟩, ⟨k5, k6⟩, ⟨k7, k8⟩, ⟨k9, k10⟩⟩
section
variable {H : Type} {enc : TypeId × Value -> H} {W : World} {r : Reach} {b0 : Nat} {v : Value} {d : DataW H} {ps : List MemPlace}
theorem op31 (hval : Value.okWide Tryz.prog W r b0 31 v) (hd : DataW.Trod enc Tryz.prog W 0 (fun _ => true) true 31 v d ps) (hw : ∀ n ∈ d.weights Tryz.prog 31, n <= reachBytes) : Q31 (memW W) v := by
 obtain ⟨a, n, c, xs, h1, h2, h3, h4, _, h5⟩ := opc_top_slice (opc_slice (by decide) Tryz.underlying31 cells92 (opc92 W)) Tryz.underlying31 hval hd hw
 simp only [List.cons.injEq, and_true] at h1;obtain ⟨l, hl, hr⟩ := RowR.of (E := SmC) n xs h4.len h5;exact ⟨a, n, c, l, h1, ⟨xs, h4, hr⟩, h2, h3⟩
end
theorem SmM.ok {I : Mem} {a : Option Addr} {n : Nat} {l : List Sm} (h : SmM I a n l) : ∀ x ∈ l, okSm x := by
 obtain ⟨xs, _, h2⟩ := h;exact RowR.all (P := okSm) (fun h => h.2) h2
theorem InsM.ok {I : Mem} {a : Option Addr} {n : Nat} {p : List Ins} (h : InsM I a n p) : ∀ x ∈ p, okI x := by
 obtain ⟨xs, _, h2⟩ := h;exact RowR.all (P := okI) (fun h => h.2) h2
theorem out_count (p : List Ins) : ∀ (l : List Ins) (k : Nat), (outLines p l k).length = l.length + ((List.range' k l.length).filter (isTo p)).length
 | [], k => rfl
 | i :: r, k => by
   rw [outLines, List.length_append, List.length_cons, out_count p r (k + 1), List.length_cons, List.range'_succ, List.filter_cons]
   cases isTo p k <;> simp <;> omega
set_option maxHeartbeats 1000000
theorem ct15 (s : ByteArray) (hs : s.size <= 10000000) (I : Mem) : Ct Tryz.prog (fnv 15) #[.string s, .string ⟨#[10]⟩] I (fun v _ => v = .string (strT (Lib.trimSuffix (tx s) [10]))) := by
 refine ct_of_calls Tryz.call15 fun w hI => ?_
 refine (Tryz.strings_TrimSuffix s ⟨#[10]⟩ w (by omega)).mono fun e w' ⟨he, hw⟩ => ⟨⟨_, he, rfl⟩, hw ▸ Below.refl _ _⟩
theorem ct14 (s : ByteArray) (hs : s.size <= 1000000) (I : Mem) (hG : Globs I) :
 Ct Tryz.prog (fnv 14) #[.string s, .string ⟨#[10]⟩] I (fun v I' => ∃ (l : List ByteArray) (a : Option Addr) (n : Nat), v = .slice a n n /\ l.map tx = splitC 10 (tx s) /\ SlM I' a n 1 (strs l)) := by
 refine ct_of_callsN Tryz.call14 fun w hI => ?_;obtain ⟨⟨m, hm⟩, _⟩ := hG w hI
 refine (Tryz.strings_Split s ⟨#[10]⟩ m w (by omega) hm (Nat.le_refl 1)).mono fun e w' ⟨he, hw⟩ => ?_
 obtain ⟨L, hL⟩ : ∃ L, L = Lib.splitB ⟨#[10]⟩ 0 (Lib.countB s ⟨#[10]⟩) s := ⟨_, rfl⟩;have hlen := Lib.splitB_all ⟨#[10]⟩ (Nat.le_refl 1) 0 _ s rfl;have hcnt : Lib.countB s ⟨#[10]⟩ = (tx s).count 10 := Lib.count_one 10 (tx s)
 have hmap : L.map tx = splitC 10 (tx s) := by
  rw [hL, hcnt];have := Lib.splitB_data ⟨#[10]⟩ 0 ((tx s).count 10) s;exact this.trans (splitK_one 10 (tx s))
 rw [<- hL] at hw hlen;have hcle : Lib.countB s ⟨#[10]⟩ <= s.size := Lib.countB_le ⟨#[10]⟩ (Nat.le_refl 1) _ s (Nat.le_refl _);subst hw
 have hnew : I w.heap.size = none := by
  cases hb : I w.heap.size with
  | none => rfl
  | some o => exact absurd (Mem.inW_lt hI hb) (Nat.lt_irrefl _)
 refine ⟨_, fun b => if b = w.heap.size then some (.cells (L.map Value.string).toArray 9 (0, 0)) else I b, he, fun b o hb => ?_, fun b o hb => ?_, fun b hb hn => ?_, ⟨L, some ⟨w.heap.size, 0, none⟩, _, rfl, hmap, ?_⟩, (Below.refl _ _).alloc (Nat.le_refl _) _⟩
 · simp only at hb
   split at hb
   · rename_i h; subst h; cases hb; exact Array.getElem?_push_size
   · rw [Below.heap_alloc w _ b (Mem.inW_lt hI hb)]; exact hI b o hb
 · simp only
   rw [if_neg (fun h => by subst h; rw [hnew] at hb; cases hb)]; exact hb
 · simp only
   rw [if_neg (by omega)]; exact hn
 · exact sl_cells (if_pos rfl) (by simp; omega) (by simp only [maxLen]; omega)
theorem len_sum : ∀ O : List Tx, O.length <= (O.map (fun w => w.length + 1)).sum
 | [] => Nat.le_refl _
 | a :: r => by
   have := len_sum r
   simp only [List.length_cons, List.map_cons, List.sum_cons]; omega
theorem join_app (c : UInt8) : ∀ {ws vs : List Tx}, ws ≠ [] -> vs ≠ [] -> joinC c (ws ++ vs) = joinC c ws ++ c :: joinC c vs
 | [], _, h, _ => absurd rfl h
 | [x], [], _, h => absurd rfl h
 | [x], y :: r, _, _ => by rw [List.cons_append, List.nil_append, joinC]; rfl
 | x :: y :: r, vs, _, h => by
   rw [List.cons_append, List.cons_append, joinC, <- List.cons_append, join_app c (by simp) h, joinC]
   simp
theorem lines_app : ∀ (l1 l2 : List Tx) (n : Int) (r : Rd), (linesA l1 n r).1 = 0 -> linesA (l1 ++ l2) n r = linesA l2 (n + l1.length) (linesA l1 n r).2.2
 | [], l2, n, r, _ => by simp [linesA]
 | s :: l1, l2, n, r, h => by
   rw [linesA] at h
   by_cases hs : (lineA r s n).1 = 0
   · rw [if_neg (fun hh => hh hs)] at h
     rw [List.cons_append, linesA, if_neg (fun hh => hh hs), lines_app l1 l2 (n + 1) _ h, linesA, if_neg (fun hh => hh hs), List.length_cons]
     congr 1; omega
   · rw [if_pos hs] at h; exact absurd h hs
theorem out_no10 {p : List Ins} (hall : ∀ i ∈ p, okI i /\ oneE i = 0) : ∀ x ∈ outLines p p 0, (10 : UInt8) ∉ x := fun x hx => by
 have h := splitC_free 10 (outGo p p 0) x;rw [split_out p p 0 hall] at h;exact h (List.mem_append_left _ hx)
theorem out_ne {p : List Ins} (h : 0 < p.length) : outLines p p 0 ≠ [] := by
 obtain ⟨i, r, rfl⟩ : ∃ i r, p = i :: r := by
  cases p with
  | nil => simp at h
  | cons i r => exact ⟨i, r, rfl⟩
 rw [outLines]
 simp
theorem out_join {p : List Ins} (hall : ∀ i ∈ p, okI i /\ oneE i = 0) (h : 0 < p.length) : outGo p p 0 = joinC 10 (outLines p p 0) ++ [10] := by
 rw [<- join_split 10 (outGo p p 0), split_out p p 0 hall, join_app 10 (out_ne h) (by simp)]
 rfl
theorem trim_nl (x : Tx) : Lib.trimSuffix (x ++ [10]) [10] = x := by
 have h : Lib.hasSuffix (x ++ [10]) [10] = true := by simp [Lib.hasSuffix]
 rw [Lib.trimSuffix, if_pos h]
 simp
theorem join_len (c : UInt8) : ∀ (ws : List Tx), (joinC c ws).length + 1 = (ws.map (fun w => w.length + 1)).sum + if ws = [] then 1 else 0
 | [] => rfl
 | [x] => by simp [joinC]
 | x :: y :: r => by
   have := join_len c (y :: r)
   rw [if_neg (by simp)] at this ⊢
   rw [joinC, List.length_append, List.length_cons, List.map_cons, List.sum_cons];omega
section
variable {p : List Ins} (ho : ∀ i ∈ p, okI i) (h : (checkL p).2 = 0) (h41 : p.length <= 41)
include ho h h41
theorem text_len : (joinC 10 (outLines p p 0)).length <= 6000 /\ outLines p p 0 ≠ [] /\ (∀ x ∈ outLines p p 0, (10 : UInt8) ∉ x) /\ outGo p p 0 = joinC 10 (outLines p p 0) ++ [10] := by
 obtain ⟨c1, c2, c3, c4⟩ := check_len h;have hck := checkGo_ok _ _ _ c3;have hall : ∀ i ∈ p, okI i /\ oneE i = 0 := fun i hi => ⟨ho i hi, (hck i hi).1⟩;have hj := out_join hall c1
 have hl := out_len p p 0 ho (by omega)
 rw [hj, List.length_append] at hl;simp only [List.length_cons, List.length_nil] at hl
 exact ⟨by omega, out_ne c1, out_no10 hall, hj⟩
end
set_option maxHeartbeats 1000000
def GlobsF (I : Mem) : Prop := ∀ w : World, I.inW w -> Lib.TabIs Tryz.prog w "strings.asciiSpace" .u8 Lib.asciiSpaceTab
theorem GlobsF.mono {I J : Mem} (h : GlobsF I) (hle : I.le J) : GlobsF J := fun w hw => h w (Mem.inW_of_le hle hw)
theorem ct15c (c : UInt8) (s : ByteArray) (hs : s.size <= 10000000) (I : Mem) : Ct Tryz.prog (fnv 15) #[.string s, .string ⟨#[c]⟩] I (fun v _ => v = .string (strT (Lib.trimSuffix (tx s) [c]))) := by
 refine ct_of_calls Tryz.call15 fun w hI => ?_
 refine (Tryz.strings_TrimSuffix s ⟨#[c]⟩ w (by omega)).mono fun e w' ⟨he, hw⟩ => ⟨⟨_, he, rfl⟩, hw ▸ Below.refl _ _⟩
theorem ct22c (s p : ByteArray) (hs : s.size <= 100000000) (I : Mem) : Ct Tryz.prog (fnv 22) #[.string s, .string p] I (fun v _ => v = .bool (Lib.hasSuffix (tx s) (tx p))) := by
 refine ct_of_calls Tryz.call22 fun w hI => ?_
 refine (Tryz.strings_HasSuffix s p w (by omega)).mono fun e w' ⟨he, hw⟩ => ⟨⟨_, he, rfl⟩, hw ▸ Below.refl _ _⟩
theorem cntF_len : ∀ (l : Tx) (ws : Bool), Lib.cntF ws l <= l.length
 | [], _ => Nat.le_refl _
 | b :: l, ws => by
   have := cntF_len l (Lib.isSp b);rw [Lib.cntF, List.length_cons]
   split <;> omega
theorem sp_len (s : Tx) : (Lib.fields s).length <= s.length := by rw [Lib.fields_length]; exact cntF_len s true
theorem ct20 (s : ByteArray) (hs : s.size <= 1000000) (ha : ∀ b ∈ tx s, b.toNat < 128) (I : Mem) (hF : GlobsF I) :
 Ct Tryz.prog (fnv 20) #[.string s] I (fun v I' => RowN 1 9 I I' v (strs ((Lib.fields (tx s)).map strT))) := by
 refine ct_of_callsN Tryz.call20 fun w hI => ?_
 refine (Tryz.strings_Fields s w (by omega) (fun j b hb => ha b (List.mem_of_getElem? hb)) (hF w hI)).mono fun e w' ⟨he, hw⟩ => ?_
 obtain ⟨L, hL⟩ : ∃ L, L = (Lib.fields (tx s)).map strT := ⟨_, rfl⟩
 have hlen : L.length = (Lib.fields s.data.toList).length := by rw [hL, List.length_map]; rfl
 have hcs : ((Lib.fields s.data.toList).map fun l => Value.string ⟨l.toArray⟩).toArray = (L.map Value.string).toArray := by rw [hL, List.map_map]; rfl
 rw [hcs] at hw;rw [<- hlen] at he;rw [<- hL];subst hw
 have hb : (Lib.fields s.data.toList).length <= 1000001 := by
  have := sp_len s.data.toList;have : s.data.toList.length = s.size := Array.length_toList;omega
 have hnew : I w.heap.size = none := by
  cases hb : I w.heap.size with
  | none => rfl
  | some o => exact absurd (Mem.inW_lt hI hb) (Nat.lt_irrefl _)
 refine ⟨_, fun b => if b = w.heap.size then some (.cells (L.map Value.string).toArray 9 (0, 0)) else I b, he, fun b o hb => ?_, fun b o hb => ?_, fun b hb hn => ?_, ⟨some ⟨w.heap.size, 0, none⟩, L.length, L.length, rfl, by simp [strs], .inr ?_⟩, (Below.refl _ _).alloc (Nat.le_refl _) _⟩
 · simp only at hb
   split at hb
   · rename_i h; subst h; cases hb; exact Array.getElem?_push_size
   · rw [Below.heap_alloc w _ b (Mem.inW_lt hI hb)]; exact hI b o hb
 · simp only
   rw [if_neg (fun h => by subst h; rw [hnew] at hb; cases hb)]; exact hb
 · simp only
   rw [if_neg (by omega)]; exact hn
 · have hk : (fun b => if b = w.heap.size then some (Obj.cells (L.map Value.string).toArray 9 (0, 0)) else I b) w.heap.size = some (.cells (L.map Value.string).toArray 9 (0, 0)) := if_pos rfl
   refine ⟨⟨by simp [strs], by simp only [maxLen]; omega, (fun e => by cases e), fun j v hj => ?_⟩, fun ad had => ?_⟩
   · have hsl : ∀ M : Mem, M w.heap.size = some (.cells (L.map Value.string).toArray 9 (0, 0)) -> SlM M (some ⟨w.heap.size, 0, none⟩) L.length 1 (L.map Value.string) := fun M hM => sl_cells hM (by simp) (by simp only [maxLen]; omega)
     exact (hsl _ hk).at_ j v hj
   · cases had
     exact ⟨hnew, rfl, rfl, _, (0, 0), hk, thaw_zero _, by simp⟩
def digB (c : UInt8) : Bool := decide (48 <= c.toNat /\ c.toNat <= 57)
def targB (s : Tx) : Bool := match Lib.trimSuffix s [58] with
 | c :: d :: r => decide (c = 108) && (d :: r).all digB
 | _ => false
theorem ct21 (s : ByteArray) (hs : s.size <= 1000000) (ha : ∀ b ∈ tx s, b.toNat < 128) (I : Mem) : Ct Tryz.prog (fnv 21) #[.string s] I (fun v _ => v = .bool (targB (tx s))) := by
 obtain ⟨Q, hQ⟩ : ∃ q : Bool, q = targB (tx s) := ⟨_, rfl⟩;obtain ⟨N, hN⟩ : ∃ f : Nat -> Prop, f = fun k => (((Lib.trimSuffix (tx s) [58]).drop 1).take k).all digB = true := ⟨_, rfl⟩;rw [<- hQ]
 refine viaR (ct_via (A := { loops := [(5, ⟨[(17, .keep)], [(0, .iter)], [], fun _ xss _ _ => match xss with | [it] => N (posL it) | _ => False, fun _ xss => match xss with | [it] => s.size - posL it | _ => 0⟩)] }) Tryz.func21 rfl Tryz.call21 rfl rfl) (Ct Tryz.prog (fnv 15) #[.string s, .string ⟨#[58]⟩] I fun v a => ∃ q, v = .string q /\ Br (decide ((q.size : Int) < 2)) (Value.bool false = .bool Q) (∃ c, q.data.toList[0]? = some c /\ (0 : Int) <= 0 /\ Br ((c.toNat : Int) != 108) (Value.bool false = .bool Q) ((0 : Int) <= 1 /\ 1 <= (q.size : Int) /\ ((Rf (q.extract (Int.toNat 1) q.size) /\ Rf (none : Option Nat)) /\ Rf (SV.ptr 0 0) /\ N 0) /\ ∀ (b : Mem), Mem -> a.le b -> ∀ (x : List Value), N (posL x) -> Br ((posL x).blt (q.extract (Int.toNat 1) q.size).size) (Br (decide (((Utf8.decode (q.extract (Int.toNat 1) q.size) (posL x)).1 : Int) < 48)) (Value.bool false = .bool Q) (Br (decide (57 < ((Utf8.decode (q.extract (Int.toNat 1) q.size) (posL x)).1 : Int))) (Value.bool false = .bool Q) ((Rf (q.extract (Int.toNat 1) q.size) /\ Rf (none : Option Nat)) /\ Rf (SV.ptr 0 0) /\ N (posL [.int .i64 ((posL x + (Utf8.decode (q.extract (Int.toNat 1) q.size) (posL x)).2 : Nat) : Int)]) /\ s.size - posL [.int .i64 ((posL x + (Utf8.decode (q.extract (Int.toNat 1) q.size) (posL x)).2 : Nat) : Int)] < s.size - posL x))) (Value.bool true = .bool Q)))) (by kernel_rfl) ?_
 have hle : (Lib.trimSuffix (tx s) [58]).length <= (tx s).length := Lib.trimSuffix_le _ _;have hts : (tx s).length = s.size := Array.length_toList
 have hmem : ∀ b ∈ Lib.trimSuffix (tx s) [58], b.toNat < 128 := fun b hb => by
  refine ha b ?_;unfold Lib.trimSuffix at hb
  split at hb
  · exact List.mem_of_mem_take hb
  · exact hb
 refine (ct15c 58 s (by omega) I).mono fun v I1 l1 hv => ⟨_, hv, ?_⟩
 rw [targB] at hQ;obtain ⟨T, hT⟩ : ∃ T, T = Lib.trimSuffix (tx s) [58] := ⟨_, rfl⟩;rw [<- hT] at hQ hN hle hmem ⊢
 match T, hQ, hN, hle, hmem with
 | [], hQ, _, _, _ => exact Br.t rfl (by rw [hQ])
 | [c], hQ, _, _, _ => exact Br.t rfl (by rw [hQ])
 | c :: d :: r, hQ, hN, hle, hmem =>
   have hQ : Q = (decide (c = 108) && (d :: r).all digB) := hQ
   refine Br.f (decide_eq_false (by rw [strT_size]; simp only [List.length_cons]; omega)) ⟨c, rfl, Int.le_refl _, Br.mk (fun h1 => ?_) (fun h1 => ?_)⟩
   · have : c ≠ 108 := fun e => by subst e; simp at h1
     rw [hQ, decide_eq_false this]; rfl
   have hc : c = 108 := by
    have : (c.toNat : Int) = 108 := by simpa using h1
    exact UInt8.toNat_inj.1 (by rw [show (108 : UInt8).toNat = 108 by decide]; omega)
   rw [decide_eq_true hc, Bool.true_and] at hQ;obtain ⟨U, hU⟩ : ∃ U, U = (strT (c :: d :: r)).extract (Int.toNat 1) (strT (c :: d :: r)).size := ⟨_, rfl⟩
   have hUt : tx U = d :: r := by
    rw [hU, tx_extract, tx_strT, strT_size]
    simp
   have hUs : U.size = (d :: r).length := by rw [<- hUt]; exact Array.length_toList.symm
   rw [<- hU];simp only [List.drop_succ_cons, List.drop_zero] at hN;rw [<- hUt] at hN hQ
   have hUm : ∀ b ∈ tx U, b.toNat < 128 := fun b hb => hmem b (by rw [hUt] at hb; exact List.mem_cons_of_mem _ hb)
   refine ⟨by omega, by rw [strT_size]; simp only [List.length_cons]; omega, ⟨⟨rfl, rfl⟩, rfl, by rw [hN]; rfl⟩, fun I2 _ l2 x hx => ?_⟩
   rw [hN] at hx;have hUl : (tx U).length = U.size := Array.length_toList;refine Br.mk (fun h2 => ?_) (fun h2 => ?_)
   · have h2 : posL x < U.size := by simpa [Nat.blt_eq] using h2
     obtain ⟨y, hy⟩ : ∃ y, (tx U)[posL x]? = some y := ⟨_, List.getElem?_eq_getElem (by omega)⟩
     have hdec : Utf8.decode U (posL x) = (y.toNat, 1) := dec_ascii hy (hUm y (List.mem_of_getElem? hy))
     have bad : digB y = false -> Value.bool false = .bool Q := fun hb => by
      have : (tx U).all digB = false := by
       rw [Bool.eq_false_iff];intro hh;have := List.all_eq_true.1 hh y (List.mem_of_getElem? hy)
       rw [hb] at this; cases this
      rw [hQ, this]
     rw [hdec];refine Br.mk (fun h3 => bad ?_) (fun h3 => Br.mk (fun h4 => bad ?_) (fun h4 => ⟨⟨rfl, rfl⟩, rfl, ?_, ?_⟩))
     · have h3 := of_decide_eq_true h3
       rw [digB, decide_eq_false]; simp only at h3; omega
     · have h4 := of_decide_eq_true h4
       rw [digB, decide_eq_false]; simp only at h4; omega
     · have h3 := of_decide_eq_false h3
       have h4 := of_decide_eq_false h4
       simp only at h3 h4
       rw [hN]
       show ((tx U).take (posL x + 1)).all digB = true
       rw [List.take_add_one, hy, List.all_append, hx];simp only [Option.toList_some, List.all_cons, List.all_nil, Bool.and_true, Bool.true_and, digB]
       exact decide_eq_true (by omega)
     · show s.size - (posL x + 1) < s.size - posL x
       rw [List.length_cons, List.length_cons] at hle;rw [List.length_cons] at hUs;omega
   · have h2 : ¬ posL x < U.size := fun hh => by
      have : (posL x).blt U.size = true := by simpa using hh
      rw [this] at h2; cases h2
     rw [List.take_of_length_le (by omega)] at hx
     rw [hQ, hx]
def blankT (x : Int) : Tx := (([[32], [9], [32, 32], [32, 9, 32]] : List Tx)[(x % 4).toNat]?).getD []
def renT (w : Tx) : Tx := if targB w then [110, 97, 109, 101, 95] ++ w else w
def wordsL (line : Tx) : List Tx := (Lib.fields line).map renT
def isLab (ws : List Tx) : Bool := match ws with
 | [w] => Lib.hasSuffix w [58]
 | _ => false
def joinL (ws : List Tx) (sep : Tx) : Tx := Lib.join ws sep
def addO (x : Int) (lab : Bool) (bs : Tx) : Bool := !lab && (decide (x / 4 % 4 = 0) && !Lib.hasSuffix bs [58, 32])
def otherT (at_ : Int) : Tx := [111, 116, 104, 101, 114] ++ Lib.itoa at_ ++ [58]
def mid1 (x : Int) (line : Tx) (s : Tx × Int × Int) : Tx × Int := if addO x (isLab (wordsL line)) s.1 then (s.1 ++ otherT s.2.1 ++ blankT x, s.2.2 + 1) else (s.1, s.2.2)
def mid2 (x : Int) (line : Tx) (s : Tx × Int × Int) : Tx := (mid1 x line s).1 ++ Lib.repeatL (blankT x) (x / 16 % 3).toNat ++ joinL (wordsL line) (blankT x)
def tailT (x : Int) (line : Tx) : Tx := if x % 3 = 0 then blankT x ++ [59] ++ line ++ [58, 59] else if x % 3 = 1 then [10, 10, 59, 120] else []
def stepL (x : Int) (line : Tx) (s : Tx × Int × Int) : Tx × Int × Int :=
 if isLab (wordsL line) && decide (x / 64 % 2 = 0) then (mid2 x line s ++ [32], s.2.1, (mid1 x line s).2)
 else (mid2 x line s ++ tailT x line ++ [10], s.2.1 + 1, (mid1 x line s).2)
def runL (O : List Tx) (how : List Int) : Nat -> Tx × Int × Int
 | 0 => ([], 0, 0)
 | k + 1 => stepL ((how[k % how.length]?).getD 0) ((O[k]?).getD []) (runL O how k)
def blanks (t : Tx) : Prop := ∀ c ∈ t, c = 32 \/ c = 9
theorem blanks_b {t : Tx} (h : blanks t) : ∀ c ∈ t, blankB c = true := fun c hc => by rcases h c hc with rfl | rfl <;> decide
theorem fg_blank : ∀ (bs t : Tx), blanks bs -> fieldsGo [] (bs ++ t) = fieldsGo [] t
 | [], t, _ => rfl
 | c :: bs, t, h => by
   rw [List.cons_append, fieldsGo, if_pos (blanks_b h c (by simp)), if_pos rfl]
   exact fg_blank bs t (fun x hx => h x (List.mem_cons_of_mem _ hx))
theorem fg_word {w bs t : Tx} (hw : ∀ c ∈ w, blankB c = false) (hn : w ≠ []) (hb : blanks bs) (hbn : bs ≠ []) : fieldsGo [] (w ++ (bs ++ t)) = w :: fieldsGo [] t := by
 rw [fields_skip w [] _ hw, List.nil_append]
 cases bs with
 | nil => exact absurd rfl hbn
 | cons c bs =>
   rw [List.cons_append, fieldsGo, if_pos (blanks_b hb c (by simp)), if_neg hn, fg_blank bs t (fun x hx => hb x (List.mem_cons_of_mem _ hx))]
theorem fg_end {w bs : Tx} (hw : ∀ c ∈ w, blankB c = false) (hn : w ≠ []) (hb : blanks bs) : fieldsGo [] (w ++ bs) = [w] := by
 cases bs with
 | nil => rw [List.append_nil]; exact fields_one hw hn
 | cons c bs =>
   have := fg_word (t := []) hw hn hb (by simp)
   rw [List.append_nil] at this
   rw [this]; rfl
theorem join_cons (w y : Tx) (r : List Tx) (sep : Tx) : Lib.join (w :: y :: r) sep = w ++ (sep ++ Lib.join (y :: r) sep) := rfl
theorem join_one (w sep : Tx) : Lib.join [w] sep = w := by simp [Lib.join, List.intercalate]
theorem fg_join {sep tl : Tx} (hs : blanks sep) (hsn : sep ≠ []) (ht : blanks tl) : ∀ ws : List Tx, (∀ w ∈ ws, (∀ c ∈ w, blankB c = false) /\ w ≠ []) -> fieldsGo [] (Lib.join ws sep ++ tl) = ws
 | [], _ => by
   have := fg_blank tl [] ht;rw [List.append_nil] at this
   show fieldsGo [] ([] ++ tl) = []
   rw [List.nil_append, this]; rfl
 | [w], h => by
   rw [join_one]
   exact fg_end (h w (by simp)).1 (h w (by simp)).2 ht
 | w :: y :: r, h => by
   rw [join_cons, List.append_assoc, List.append_assoc, fg_word (h w (by simp)).1 (h w (by simp)).2 hs hsn, fg_join hs hsn ht (y :: r) (fun z hz => h z (List.mem_cons_of_mem _ hz))]
theorem join_mem {sep : Tx} {c : UInt8} : ∀ ws : List Tx, c ∈ Lib.join ws sep -> c ∈ sep \/ ∃ w ∈ ws, c ∈ w
 | [], h => by cases h
 | [w], h => by rw [join_one] at h; exact .inr ⟨w, by simp, h⟩
 | w :: y :: r, h => by
   rw [join_cons] at h
   rcases List.mem_append.1 h with h | h
   · exact .inr ⟨w, by simp, h⟩
   · rcases List.mem_append.1 h with h | h
     · exact .inl h
     · rcases join_mem (y :: r) h with h | ⟨z, h1, h2⟩
       · exact .inl h
       · exact .inr ⟨z, List.mem_cons_of_mem _ h1, h2⟩
theorem repeat_mem {l : Tx} {c : UInt8} : ∀ n, c ∈ Lib.repeatL l n -> c ∈ l
 | 0, h => by cases h
 | n + 1, h => by
   rw [Lib.repeatL] at h
   rcases List.mem_append.1 h with h | h
   · exact h
   · exact repeat_mem n h
theorem blank_ok (x : Int) : blanks (blankT x) /\ blankT x ≠ [] /\ (blankT x).length <= 3 := by
 rw [blankT]
 rcases (by omega : x % 4 = 0 \/ x % 4 = 1 \/ x % 4 = 2 \/ x % 4 = 3) with h | h | h | h <;> rw [h] <;> refine ⟨?_, by decide, by decide⟩ <;> unfold blanks <;> decide
def repT (x : Int) : Tx := Lib.repeatL (blankT x) (x / 16 % 3).toNat
theorem rep_ok (x : Int) : blanks (repT x) /\ (repT x).length <= 6 := by
 refine ⟨fun c hc => (blank_ok x).1 c (repeat_mem _ hc), ?_⟩;rw [repT, Lib.repeatL_length];have := (blank_ok x).2.2
 have h2 : (x / 16 % 3).toNat <= 2 := by omega
 calc _ <= 2 * 3 := Nat.mul_le_mul h2 this
  _ = 6 := rfl
def wC (c : UInt8) : Prop := 45 <= c.toNat /\ c.toNat <= 122 /\ c.toNat ≠ 58 /\ c.toNat ≠ 59
theorem wC.ne {c : UInt8} (h : wC c) (d : UInt8) (hd : d.toNat < 45 \/ d.toNat = 58 \/ d.toNat = 59) : c ≠ d := by
 rintro rfl;obtain ⟨h1, h2, h3, h4⟩ := h;omega
theorem wC.blank {c : UInt8} (h : wC c) : blankB c = false := by
 simp [blankB, h.ne 32 (by decide), h.ne 9 (by decide)]
theorem wC.sp {c : UInt8} (h : wC c) : Lib.isSp c = false := by
 simp [Lib.isSp, h.ne 32 (by decide), h.ne 9 (by decide), h.ne 10 (by decide), h.ne 11 (by decide), h.ne 12 (by decide), h.ne 13 (by decide)]
theorem cons_wC {a : UInt8} {t : Tx} (ha : wC a) (h : ∀ c ∈ t, wC c) : ∀ c ∈ a :: t, wC c := fun c hc => by
 rcases List.mem_cons.1 hc with rfl | hc
 · exact ha
 · exact h c hc
instance (c : UInt8) : Decidable (wC c) := inferInstanceAs (Decidable (_ /\ _))
theorem itoa_wC (n : Int) : ∀ c ∈ Lib.itoa n, wC c := by
 have key : ∀ u, ∀ c ∈ Lib.decDigits u, wC c := fun u c hc => by
  have := (dec_digits u).2 c hc
  exact ⟨by omega, by omega, by omega, by omega⟩
 unfold Lib.itoa;split
 · exact cons_wC (by decide) (key _)
 · exact key _
theorem lab_wC (n : Int) : ∀ c ∈ lab n, wC c := cons_wC (by decide) (itoa_wC n)
theorem word_wC {op : Int} (ho : 0 <= op /\ op <= 255) : ∀ c ∈ wordT op, wC c := by
 have : ∀ k : Fin 256, ((wordT (k.val : Int)).all fun c => decide (wC c)) = true := by decide +kernel
 have h := this ⟨op.toNat, by omega⟩
 rw [show ((op.toNat : Nat) : Int) = op by omega] at h
 intro c hc;exact of_decide_eq_true (List.all_eq_true.1 h c hc)
theorem oper_wC (i : Ins) : ∀ (fs : Tx) (u : Nat), ∀ w ∈ operA fs i u, ∀ c ∈ w, wC c
 | [], u, w, hw => by cases hw
 | f :: fs, u, w, hw => by
   rw [operA] at hw
   split at hw
   · rcases List.mem_cons.1 hw with rfl | hw
     · exact cons_wC (by decide) (itoa_wC _)
     · exact oper_wC i fs _ w hw
   · split at hw
     · rcases List.mem_cons.1 hw with rfl | hw
       · exact lab_wC _
       · exact oper_wC i fs _ w hw
     · rcases List.mem_cons.1 hw with rfl | hw
       · exact itoa_wC _
       · exact oper_wC i fs _ w hw
def nm (t : Tx) : Tx := [110, 97, 109, 101, 95] ++ t
theorem name_wC : ∀ c ∈ ([110, 97, 109, 101, 95] : Tx), wC c := by decide
theorem other_wC : ∀ c ∈ ([111, 116, 104, 101, 114] : Tx), wC c := by decide
theorem nm_wC {t : Tx} (h : ∀ c ∈ t, wC c) : ∀ c ∈ nm t, wC c := fun c hc => by
 rcases List.mem_append.1 hc with hc | hc
 · exact name_wC c hc
 · exact h c hc
theorem lf_skip : ∀ (w cur t : Tx), (∀ c ∈ w, Lib.isSp c = false) -> Lib.fieldsGo cur (w ++ t) = Lib.fieldsGo (cur ++ w) t
 | [], cur, t, _ => by simp
 | c :: w, cur, t, h => by
   rw [List.cons_append, Lib.fieldsGo_more _ _ _ (h c (by simp)), lf_skip w _ t (fun x hx => h x (List.mem_cons_of_mem _ hx))]
   simp
theorem lf_one {w : Tx} (h : ∀ c ∈ w, Lib.isSp c = false) (hn : w ≠ []) : Lib.fieldsGo [] w = [w] := by
 have e := lf_skip w [] [] h;rw [List.append_nil, List.nil_append] at e;rw [e, Lib.fieldsGo]
 cases w with
 | nil => exact absurd rfl hn
 | cons _ _ => rfl
theorem lf_join : ∀ ws : List Tx, (∀ w ∈ ws, (∀ c ∈ w, Lib.isSp c = false) /\ w ≠ []) -> Lib.fieldsGo [] (joinC 32 ws) = ws
 | [], _ => rfl
 | [w], h => by rw [joinC]; exact lf_one (h w (by simp)).1 (h w (by simp)).2
 | w :: y :: r, h => by
   rw [joinC, lf_skip w [] _ (h w (by simp)).1, List.nil_append, Lib.fieldsGo_end _ _ _ (by decide) (h w (by simp)).2, lf_join (y :: r) (fun z hz => h z (List.mem_cons_of_mem _ hz))]
theorem ins_wC {i : Ins} (ho : okI i) (h : oneE i = 0) : ∀ w ∈ wordT i.op :: operands i, (∀ c ∈ w, wC c) /\ w ≠ [] := fun w hw => by
 refine ⟨?_, (words_wd ho h w hw).2⟩
 rcases List.mem_cons.1 hw with rfl | hw
 · exact word_wC ho.op
 · exact oper_wC i _ _ w hw
theorem fields_ins {i : Ins} (ho : okI i) (h : oneE i = 0) : Lib.fields (insL i) = wordT i.op :: operands i := by
 rw [Lib.fields, insL, List.cons_append, List.cons_append, List.nil_append, Lib.fieldsGo_sp _ _ (by decide), Lib.fieldsGo_sp _ _ (by decide)]
 exact lf_join _ fun w hw => ⟨fun c hc => ((ins_wC ho h w hw).1 c hc).sp, (ins_wC ho h w hw).2⟩
theorem fields_lab (n : Int) : Lib.fields (lab n ++ [58]) = [lab n ++ [58]] := by
 refine lf_one (fun c hc => ?_) (by simp)
 rcases List.mem_append.1 hc with hc | hc
 · exact (lab_wC n c hc).sp
 · rw [List.mem_singleton.1 hc]; decide
theorem trim_no {s : Tx} (h : ∀ c ∈ s, wC c) : Lib.trimSuffix s [58] = s := by
 rw [Lib.trimSuffix, if_neg];intro hh
 have hm : (58 : UInt8) ∈ s := by
  rw [Lib.hasSuffix, List.isSuffixOf_iff_suffix] at hh;obtain ⟨t, rfl⟩ := hh
  simp
 exact (h 58 hm).2.2.1 rfl
theorem trim_yes (s : Tx) : Lib.trimSuffix (s ++ [58]) [58] = s := by
 rw [Lib.trimSuffix, if_pos (by simp [Lib.hasSuffix])]
 simp
theorem has_yes (s : Tx) : Lib.hasSuffix (s ++ [58]) [58] = true := by simp [Lib.hasSuffix]
theorem has_no {s : Tx} (h : ∀ c ∈ s, wC c) : Lib.hasSuffix s [58] = false := by
 rw [Bool.eq_false_iff];intro hh
 have hm : (58 : UInt8) ∈ s := by
  rw [Lib.hasSuffix, List.isSuffixOf_iff_suffix] at hh;obtain ⟨t, rfl⟩ := hh
  simp
 exact (h 58 hm).2.2.1 rfl
theorem lab_all {n : Int} (h0 : 0 <= n) : ∃ d r, lab n = 108 :: d :: r /\ (d :: r).all digB = true := by
 have hd : Lib.itoa n = Lib.decDigits n.toNat := by unfold Lib.itoa; rw [if_neg (by omega)]
 obtain ⟨h1, h2⟩ := dec_digits n.toNat;rw [lab, hd]
 cases hq : Lib.decDigits n.toNat with
 | nil => exact absurd hq h1
 | cons d r =>
   refine ⟨d, r, rfl, List.all_eq_true.2 fun c hc => ?_⟩;rw [<- hq] at hc;exact decide_eq_true (h2 c hc)
theorem ren_lab {n : Int} (h0 : 0 <= n) : renT (lab n) = nm (lab n) /\ renT (lab n ++ [58]) = nm (lab n) ++ [58] := by
 obtain ⟨d, r, h1, h2⟩ := lab_all h0
 have t1 : targB (lab n) = true := by rw [targB, trim_no (lab_wC n), h1]; simp only [h2]; rfl
 have t2 : targB (lab n ++ [58]) = true := by rw [targB, trim_yes, h1]; simp only [h2]; rfl
 rw [renT, if_pos t1, renT, if_pos t2]
 exact ⟨rfl, by simp [nm]⟩
theorem ren_not {c : UInt8} {t : Tx} (h : ∀ x ∈ c :: t, wC x) (hc : c ≠ 108) : renT (c :: t) = c :: t := by
 rw [renT, if_neg];rw [targB, trim_no h]
 cases t with
 | nil => simp
 | cons d r => simp [hc]
theorem ren_num (n : Int) : renT (Lib.itoa n) = Lib.itoa n := by
 have h1 := itoa_wC n
 cases hq : Lib.itoa n with
 | nil => decide
 | cons c t =>
   rw [hq] at h1;refine ren_not h1 fun hc => ?_
   have hk : ∀ u, ∀ c ∈ Lib.decDigits u, c ≠ 108 := fun u c hc e => by
    have := (dec_digits u).2 c hc;subst e
    revert this; decide
   unfold Lib.itoa at hq
   split at hq
   · have := (List.cons.inj hq).1
     rw [hc] at this
     revert this; decide
   · exact hk _ c (by rw [hq]; simp) hc
theorem ren_reg (n : Int) : renT (114 :: Lib.itoa n) = 114 :: Lib.itoa n := ren_not (cons_wC (by decide) (itoa_wC n)) (by decide)
theorem ren_word {op : Int} (ho : 0 <= op /\ op <= 255) : renT (wordT op) = wordT op := by
 have : ∀ k : Fin 256, renT (wordT (k.val : Int)) = wordT (k.val : Int) := by decide +kernel
 have h := this ⟨op.toNat, by omega⟩
 rwa [show ((op.toNat : Nat) : Int) = op by omega] at h
theorem nm_name {n : Int} (h0 : 0 <= n) (h1 : n < 256) : nameB (nm (lab n)) = true := by
 have : ∀ k : Fin 256, nameB (nm (lab (k.val : Int))) = true := by decide +kernel
 have h := this ⟨n.toNat, by omega⟩
 rwa [show ((n.toNat : Nat) : Int) = n by omega] at h
def oth (j : Int) : Tx := [111, 116, 104, 101, 114] ++ Lib.itoa j
theorem oth_name {n : Int} (h0 : 0 <= n) (h1 : n < 256) : nameB (oth n) = true := by
 have : ∀ k : Fin 256, nameB (oth (k.val : Int)) = true := by decide +kernel
 have h := this ⟨n.toNat, by omega⟩
 rwa [show ((n.toNat : Nat) : Int) = n by omega] at h
theorem oth_wC (n : Int) : ∀ c ∈ oth n, wC c := fun c hc => by
 rcases List.mem_append.1 hc with hc | hc
 · exact other_wC c hc
 · exact itoa_wC n c hc
theorem oth_inj {a b : Int} (ha : i64N a) (hb : i64N b) (h : oth a = oth b) : a = b := by
 have h := List.append_cancel_left h;have h1 := itoa_parse ha;rw [h, itoa_parse hb] at h1
 cases h1; rfl
theorem oth_nm (a : Int) (t : Tx) : oth a ≠ nm t := by
 intro h;have := (List.cons.inj h).1
 revert this; decide
def srcN (i : Ins) (line : Int) : Src := if 116 ∈ formL i.op then ⟨{ i with n := 0 }, line, nm (lab i.n)⟩ else ⟨i, line, []⟩
def wsI (i : Ins) : List Tx := wordT i.op :: (operands i).map renT
theorem instr_ren {i : Ins} (ho : okI i) (h : oneE i = 0) (line : Int) : instrA (wsI i) line = (0, srcN i line) := by
 obtain ⟨l, hf, hs⟩ := one_shape ho h
 have hfl : formL i.op = l := by rw [formL, hf]; rfl
 have hfd := find_form ho.op hf
 have ha := ho.a; have hb := ho.b; have hc := ho.c
 have hoper : operands i = operA l i 0 := by rw [operands, hfl]
 rw [wsI];obtain ⟨op, a, b, c, n⟩ := i
 simp only at hf hs hfl hfd ha hb hc hoper ho
 have hol := (oper_len ho l 0).1
 rw [instrA, hfd, if_neg (by simp), if_neg (by rw [hoper, List.length_map, hol, hfl]; simp), hoper]
 simp only [hfl, srcN];unfold shapeI at hs
 simp only at hs
 rcases hs with ⟨rfl, rfl, rfl, rfl, rfl⟩ | ⟨rfl, h1, rfl, rfl⟩ | ⟨rfl, h1, h2, rfl, rfl⟩ | ⟨rfl, h1, h2, rfl, h3, h4⟩ | ⟨rfl, rfl, rfl, rfl, h3, h4⟩ | ⟨rfl, h1, rfl, rfl, h3, h4⟩ | ⟨rfl, h1, h2, h3, rfl⟩
 · rw [operA, List.map_nil, putGo_nil]; rfl
 · simp [operA, putGo, regAt, reg_itoa ha.1 h1, num_itoa ho.n, putR, ren_reg, ren_num]
 · simp [operA, putGo, regAt, reg_itoa ha.1 h1, reg_itoa hb.1 h2, putR, ren_reg]
 · simp [operA, putGo, regAt, reg_itoa ha.1 h1, reg_itoa hb.1 h2, num_itoa ho.n, putR, h3, h4, ren_reg, ren_num]
 · simp [operA, putGo, nm_name h3 h4, (ren_lab h3).1]
 · simp [operA, putGo, regAt, reg_itoa ha.1 h1, nm_name h3 h4, putR, (ren_lab h3).1, ren_reg]
 · simp [operA, putGo, regAt, reg_itoa ha.1 h1, reg_itoa hb.1 h2, reg_itoa hc.1 h3, putR, ren_reg]
theorem ren_wC {w : Tx} (h : ∀ c ∈ w, wC c) (hn : w ≠ []) : (∀ c ∈ renT w, wC c) /\ renT w ≠ [] := by
 rw [renT];split
 · exact ⟨nm_wC h, by simp⟩
 · exact ⟨h, hn⟩
theorem words_ins {i : Ins} (ho : okI i) (h : oneE i = 0) : wordsL (insL i) = wsI i /\ isLab (wsI i) = false /\ ∀ w ∈ wsI i, (∀ c ∈ w, wC c) /\ w ≠ [] := by
 have h1 := ins_wC ho h
 refine ⟨by rw [wordsL, fields_ins ho h, List.map_cons, ren_word ho.op]; rfl, ?_, fun w hw => ?_⟩
 · unfold isLab
   split
   · rename_i w hw
     have : w = wordT i.op := by rw [wsI] at hw; exact (List.cons.inj hw).1.symm
     rw [this]; exact has_no (word_wC ho.op)
   · rfl
 · rcases List.mem_cons.1 hw with rfl | hw
   · exact h1 _ (by simp)
   · obtain ⟨v, hv, rfl⟩ := List.mem_map.1 hw
     exact ren_wC (h1 v (List.mem_cons_of_mem _ hv)).1 (h1 v (List.mem_cons_of_mem _ hv)).2
theorem words_lab {n : Int} (h0 : 0 <= n) : wordsL (lab n ++ [58]) = [nm (lab n) ++ [58]] /\ isLab [nm (lab n) ++ [58]] = true := by
 refine ⟨by rw [wordsL, fields_lab, List.map_cons, List.map_nil, (ren_lab h0).2], has_yes _⟩
theorem has_app (ms : List Mk) (m : Mk) (s : Tx) : hasMk (ms ++ [m]) s = (hasMk ms s || decide (m.name = s)) := by
 rw [hasMk, List.any_append]; simp [hasMk]
theorem at_app (ms : List Mk) (m : Mk) (s : Tx) : atMk (ms ++ [m]) s = if hasMk ms s = true then atMk ms s else if m.name = s then m.at_ else 0 := by
 rw [atMk, List.find?_append, atMk]
 cases hf : ms.find? fun m => decide (m.name = s) with
 | some x =>
   have : hasMk ms s = true := by
    have h2 := List.find?_some hf;exact List.any_eq_true.2 ⟨x, List.mem_of_find?_eq_some hf, h2⟩
   rw [if_pos this]; rfl
 | none =>
   have : ¬ hasMk ms s = true := fun hh => by
    obtain ⟨x, hx, he⟩ := List.any_eq_true.1 hh;exact List.find?_eq_none.1 hf x hx he
   rw [if_neg this, Option.none_or, List.find?_cons]
   by_cases hm : m.name = s
   · rw [decide_eq_true hm, if_pos hm]
   · rw [decide_eq_false hm, if_neg hm]; rfl
structure Qr (p : List Ins) (kl ks : Nat) (q : Rd) (a o : Int) : Prop where
 ss : q.ss.map (fun x => (x.ins, x.target)) = (p.take ks).map (fun i => ((srcN i 0).ins, (srcN i 0).target))
 has : ∀ j : Nat, j < 1000 -> hasMk q.ms (nm (lab j)) = (decide (j < kl) && isTo p j)
 at_ : ∀ j : Nat, j < kl -> isTo p j = true -> atMk q.ms (nm (lab j)) = j
 oth : ∀ j : Int, a <= j -> j <= 1000 -> hasMk q.ms (oth j) = false
 cnt : (q.ms.length : Int) = (((List.range kl).filter (isTo p)).length : Int) + o
 end_ : ∀ m ∈ q.ms, m.at_ < kl
theorem Qr.len {p : List Ins} {kl ks : Nat} {q : Rd} {a o : Int} (h : Qr p kl ks q a o) (hk : ks <= p.length) : q.ss.length = ks := by
 have := congrArg List.length h.ss;simp only [List.length_map, List.length_take] at this;omega
theorem filt_succ (p : List Ins) (k : Nat) : (List.range (k + 1)).filter (isTo p) = (List.range k).filter (isTo p) ++ if isTo p k then [k] else [] := by
 rw [List.range_succ, List.filter_append]
 congr 1
 rw [List.filter_cons]
 cases isTo p k <;> rfl
theorem Qr.skip {p : List Ins} {k ks : Nat} {q : Rd} {a o : Int} (h : Qr p k ks q a o) (ht : isTo p k = false) : Qr p (k + 1) ks q a o := by
 refine ⟨h.ss, fun j hj => ?_, fun j hj hto => ?_, h.oth, ?_, fun m hm => by have := h.end_ m hm; omega⟩
 · rw [h.has j hj]
   by_cases hjk : j = k
   · subst hjk; rw [ht, Bool.and_false, Bool.and_false]
   · congr 1
     exact decide_eq_decide.2 (by omega)
 · have : j ≠ k := fun e => by subst e; rw [ht] at hto; cases hto
   exact h.at_ j (by omega) hto
 · rw [h.cnt, filt_succ, ht]; simp
theorem Qr.lab {p : List Ins} {k : Nat} {q : Rd} {a o : Int} (h : Qr p k k q a o) (ht : isTo p k = true) (hk : k < 256) (hl : q.ss.length = k) (n : Int) : Qr p (k + 1) k ⟨q.ms ++ [⟨nm (lab k), (q.ss.length : Int), n⟩], q.ss⟩ a o := by
 have hinj : ∀ j : Nat, j < 1000 -> (nm (_root_.lab (k : Int)) = nm (_root_.lab (j : Int)) ↔ j = k) := fun j hj =>
  ⟨fun e => (lab_inj (by omega) (by omega) (List.append_cancel_left e)).symm, fun e => by rw [e]⟩
 refine ⟨h.ss, fun j hj => ?_, fun j hj hto => ?_, fun j h1 h2 => ?_, ?_, fun m hm => ?_⟩
 · simp only
   rw [has_app, h.has j hj]
   by_cases hjk : j = k
   · subst hjk
     simp [ht]
   · simp only
     rw [decide_eq_false (fun e => hjk ((hinj j hj).1 e)), Bool.or_false]
     congr 1
     exact decide_eq_decide.2 (by omega)
 · simp only
   rw [at_app]
   by_cases hjk : j = k
   · subst hjk
     rw [h.has j (by omega), decide_eq_false (Nat.lt_irrefl _), Bool.false_and, if_neg (by simp), if_pos rfl, hl]
   · rw [h.has j (by omega), decide_eq_true (by omega : j < k), hto, Bool.and_self, if_pos rfl, h.at_ j (by omega) hto]
 · simp only
   rw [has_app, h.oth j h1 h2, Bool.false_or];exact decide_eq_false (fun e => oth_nm j _ e.symm)
 · simp only
   rw [filt_succ, ht, List.length_append, List.length_append];have := h.cnt;simp only [List.length_cons, List.length_nil, if_true];omega
 · simp only at hm
   rcases List.mem_append.1 hm with hm | hm
   · have := h.end_ m hm; omega
   · rw [List.mem_singleton.1 hm]; simp only; omega
theorem Qr.other {p : List Ins} {k ks : Nat} {q : Rd} {a o : Int} (h : Qr p k ks q a o) (ha : 0 <= a /\ a <= 1000) (hl : q.ss.length < k) (n : Int) : Qr p k ks ⟨q.ms ++ [⟨_root_.oth a, (q.ss.length : Int), n⟩], q.ss⟩ (a + 1) (o + 1) := by
 refine ⟨h.ss, fun j hj => ?_, fun j hj hto => ?_, fun j h1 h2 => ?_, ?_, fun m hm => ?_⟩
 · simp only
   rw [has_app, h.has j hj, decide_eq_false (oth_nm a _), Bool.or_false]
 · simp only
   rw [at_app]
   by_cases hh : hasMk q.ms (nm (_root_.lab (j : Int))) = true
   · rw [if_pos hh]; exact h.at_ j hj hto
   · have := h.at_ j hj hto
     rw [if_neg hh, if_neg (oth_nm a _)]
     have h2 : atMk q.ms (nm (_root_.lab (j : Int))) = 0 := by
      rw [atMk]
      cases hf : q.ms.find? fun m => decide (m.name = nm (_root_.lab (j : Int))) with
      | none => rfl
      | some x =>
        have h2 := List.find?_some hf;exact absurd (List.any_eq_true.2 ⟨x, List.mem_of_find?_eq_some hf, h2⟩) hh
     rw [<- this, h2]
 · simp only
   rw [has_app, h.oth j (by omega) h2, Bool.false_or]
   refine decide_eq_false fun e => ?_
   have := oth_inj (a := a) (b := j) ⟨by omega, by omega⟩ ⟨by omega, by omega⟩ e
   omega
 · simp only
   rw [List.length_append];have := h.cnt;simp only [List.length_cons, List.length_nil];omega
 · simp only at hm
   rcases List.mem_append.1 hm with hm | hm
   · exact h.end_ m hm
   · rw [List.mem_singleton.1 hm]; simp only; omega
theorem Qr.mono {p : List Ins} {k ks : Nat} {q : Rd} {a b o : Int} (h : Qr p k ks q a o) (hab : a <= b) : Qr p k ks q b o :=
 ⟨h.ss, h.has, h.at_, fun j h1 h2 => h.oth j (by omega) h2, h.cnt, h.end_⟩
theorem Qr.put {p : List Ins} {kl k : Nat} {q : Rd} {a o : Int} (h : Qr p kl k q a o) {i : Ins} (hi : p[k]? = some i) (n : Int) : Qr p kl (k + 1) ⟨q.ms, q.ss ++ [srcN i n]⟩ a o := by
 refine ⟨?_, h.has, h.at_, h.oth, h.cnt, h.end_⟩
 have e : ((srcN i n).ins, (srcN i n).target) = ((srcN i 0).ins, (srcN i 0).target) := by
  unfold srcN; split <;> rfl
 rw [List.map_append, h.ss, List.take_add_one, hi, List.map_append, List.map_cons, List.map_nil, e];rfl
def flat (L : List Tx) : Tx := L.flatMap (· ++ [10])
theorem flat_join : ∀ L : List Tx, flat L = joinC 10 (L ++ [[]])
 | [] => rfl
 | [x] => by simp [flat, joinC]
 | x :: y :: r => by
   have := flat_join (y :: r);unfold flat at this ⊢;rw [List.flatMap_cons, this];simp [joinC]
theorem flat_split {L : List Tx} (h : ∀ x ∈ L, (10 : UInt8) ∉ x) : splitC 10 (flat L) = L ++ [[]] := by
 rw [flat_join, split_join (by simp) ?_]
 intro x hx
 rcases List.mem_append.1 hx with hx | hx
 · exact h x hx
 · rw [List.mem_singleton.1 hx]; simp
def tlL (x : Int) : List Tx := if x % 3 = 1 then [[], [59, 120]] else []
def tl0 (x : Int) (line : Tx) : Tx := if x % 3 = 0 then blankT x ++ [59] ++ line ++ [58, 59] else []
theorem tail_flat (x : Int) (line b : Tx) : b ++ tailT x line ++ [10] = flat ((b ++ tl0 x line) :: tlL x) := by
 unfold tailT tl0 tlL flat;split
 · rename_i h; rw [if_neg (by omega)]; simp
 · split <;> simp
theorem lines_tl (x n : Int) (r : Rd) : linesA (tlL x) n r = (0, 0, r) := by
 unfold tlL;split
 · rw [linesA, line_nil, if_neg (by simp), linesA, show lineA r [59, 120] (n + 1) = (0, r) from rfl, if_neg (by simp)]; rfl
 · rfl
theorem fg_rep {t : Tx} (x : Int) : fieldsGo [] (repT x ++ t) = fieldsGo [] t := fg_blank _ _ (rep_ok x).1
theorem fin_step {L : List Tx} {q : Rd} (h10 : ∀ y ∈ L, (10 : UInt8) ∉ y) (hl : linesA L 1 ⟨[], []⟩ = (0, 0, q)) {pre : Tx} {P ws : List Tx} (hp : ∀ t, fieldsGo [] (pre ++ t) = P ++ fieldsGo [] t) (hp59 : ∀ c ∈ pre, c ≠ 59 /\ c ≠ 10)
 (hw : ∀ w ∈ ws, (∀ c ∈ w, blankB c = false /\ c ≠ 59 /\ c ≠ 10) /\ w ≠ []) (x : Int) {line : Tx} (hline : (10 : UInt8) ∉ line) {q' : Int -> Rd} (hq : ∀ n s', piecesT s' = P ++ ws -> lineA q s' n = (0, q' n)) :
 ∃ L' n, flat L ++ pre ++ repT x ++ Lib.join ws (blankT x) ++ tailT x line ++ [10] = flat L' /\ (∀ y ∈ L', (10 : UInt8) ∉ y) /\ linesA L' 1 ⟨[], []⟩ = (0, 0, q' n) := by
 obtain ⟨b, hb⟩ : ∃ b, b = pre ++ repT x ++ Lib.join ws (blankT x) := ⟨_, rfl⟩
 have hb59 : ∀ c ∈ b, c ≠ 59 /\ c ≠ 10 := fun c hc => by
  rw [hb] at hc
  rcases List.mem_append.1 hc with hc | hc
  · rcases List.mem_append.1 hc with hc | hc
    · exact hp59 c hc
    · rcases (rep_ok x).1 c hc with rfl | rfl <;> decide
  · rcases join_mem ws hc with hc | ⟨w, h1, h2⟩
    · rcases (blank_ok x).1 c hc with rfl | rfl <;> decide
    · exact ((hw w h1).1 c h2).2
 have hpc : piecesT (b ++ tl0 x line) = P ++ ws := by
  have key : ∃ tl, blanks tl /\ (b ++ tl0 x line).takeWhile (· ≠ 59) = b ++ tl := by
   unfold tl0;split
   · refine ⟨blankT x, (blank_ok x).1, ?_⟩
     have hall : ∀ c ∈ b ++ blankT x, decide (c ≠ 59) = true := fun c hc => by
      rcases List.mem_append.1 hc with hc | hc
      · exact decide_eq_true (hb59 c hc).1
      · rcases (blank_ok x).1 c hc with rfl | rfl <;> decide
     rw [show b ++ (blankT x ++ [59] ++ line ++ [58, 59]) = (b ++ blankT x) ++ (59 :: (line ++ [58, 59])) by simp, List.takeWhile_append_of_pos hall, List.takeWhile_cons_of_neg (by decide), List.append_nil]
   · refine ⟨[], fun c hc => (by cases hc), ?_⟩
     rw [List.append_nil];exact tw_self 59 b fun c hc => (hb59 c hc).1
  obtain ⟨tl, h1, h2⟩ := key;rw [piecesT, h2, hb, List.append_assoc, List.append_assoc, hp, fg_rep, fg_join (blank_ok x).1 (blank_ok x).2.1 h1 ws fun w hw' => ⟨fun c hc => ((hw w hw').1 c hc).1, (hw w hw').2⟩]
 have ht10 : (10 : UInt8) ∉ b ++ tl0 x line := fun hc => by
  rcases List.mem_append.1 hc with hc | hc
  · exact (hb59 10 hc).2 rfl
  · unfold tl0 at hc
    split at hc
    · simp only [List.mem_append, List.mem_cons, List.not_mem_nil, or_false] at hc
      rcases hc with ((hc | hc) | hc) | hc
      · rcases (blank_ok x).1 10 hc with e | e <;> revert e <;> decide
      · revert hc; decide
      · exact hline hc
      · revert hc; decide
    · cases hc
 refine ⟨L ++ (b ++ tl0 x line) :: tlL x, 1 + L.length, ?_, fun y hy => ?_, ?_⟩
 · have e := tail_flat x line b
   rw [show flat L ++ pre ++ repT x ++ Lib.join ws (blankT x) ++ tailT x line ++ [10] = flat L ++ (b ++ tailT x line ++ [10]) by rw [hb]; simp, e]
   simp [flat]
 · rcases List.mem_append.1 hy with hy | hy
   · exact h10 y hy
   · rcases List.mem_cons.1 hy with rfl | hy
     · exact ht10
     · unfold tlL at hy
       split at hy
       · simp only [List.mem_cons, List.not_mem_nil, or_false] at hy
         rcases hy with rfl | rfl <;> decide
       · cases hy
 · rw [lines_app _ _ _ _ (by rw [hl]), hl, linesA, hq _ _ hpc, if_neg (by simp)]
   exact lines_tl x _ _
theorem ins_line {i : Ins} (ho : okI i) (h : oneE i = 0) (q : Rd) (n : Int) {s : Tx} (hp : piecesT s = wsI i) : lineA q s n = (0, ⟨q.ms, q.ss ++ [srcN i n]⟩) := by
 have hlab : labT (wordT i.op) = none := by
  rw [labT, if_neg];intro hl;have hm : (58 : UInt8) ∈ wordT i.op := List.mem_of_getLast? hl;exact (word_wC ho.op 58 hm).2.2.1 rfl
 have hi := instr_ren ho h n;rw [wsI] at hp hi;rw [lineA, hp];simp only [hlab];rw [putI, hi, if_pos rfl]
 intro hh; cases hh
theorem labT_yes (w : Tx) : labT (w ++ [58]) = some w := by
 rw [labT, if_pos (by simp)]; simp
theorem lab_ins_line {i : Ins} (ho : okI i) (h : oneE i = 0) (q : Rd) (n : Int) {s name : Tx} (hn : nameB name = true) (hno : hasMk q.ms name = false) (hp : piecesT s = [name ++ [58]] ++ wsI i) : lineA q s n = (0, ⟨q.ms ++ [⟨name, (q.ss.length : Int), n⟩], q.ss ++ [srcN i n]⟩) := by
 have hi := instr_ren ho h n;rw [List.singleton_append] at hp;rw [wsI] at hp hi;rw [lineA, hp];simp only [labT_yes]
 have el : labelA q name n = (0, ⟨q.ms ++ [⟨name, (q.ss.length : Int), n⟩], q.ss⟩) := by rw [labelA, if_neg (by rw [hn]; simp), if_neg (by rw [hno]; simp)]
 rw [el, if_neg (by simp)]
 rw [putI, hi, if_pos rfl]
 intro hh; cases hh
theorem lab_line (q : Rd) (n : Int) {s name : Tx} (hn : nameB name = true) (hno : hasMk q.ms name = false) (hp : piecesT s = [] ++ [name ++ [58]]) : lineA q s n = (0, ⟨q.ms ++ [⟨name, (q.ss.length : Int), n⟩], q.ss⟩) := by
 rw [List.nil_append] at hp;rw [lineA, hp];simp only [labT_yes]
 have el : labelA q name n = (0, ⟨q.ms ++ [⟨name, (q.ss.length : Int), n⟩], q.ss⟩) := by rw [labelA, if_neg (by rw [hn]; simp), if_neg (by rw [hno]; simp)]
 rw [el, if_neg (by simp)]
 rw [putI]
def InvT (p : List Ins) (k : Nat) (s : Tx × Int × Int) : Prop := ∃ L q, s.1 = flat L /\ (∀ y ∈ L, (10 : UInt8) ∉ y) /\ linesA L 1 ⟨[], []⟩ = (0, 0, q) /\ Qr p k k q s.2.1 s.2.2
theorem wC3 {c : UInt8} (h : wC c) : blankB c = false /\ c ≠ 59 /\ c ≠ 10 := ⟨h.blank, h.ne 59 (by decide), h.ne 10 (by decide)⟩
theorem lab58 {w : Tx} (h : ∀ c ∈ w, wC c) : ∀ c ∈ w ++ [58], blankB c = false /\ c ≠ 59 /\ c ≠ 10 := fun c hc => by
 rcases List.mem_append.1 hc with hc | hc
 · exact wC3 (h c hc)
 · rw [List.mem_singleton.1 hc]; decide
theorem ins_step {p : List Ins} {k : Nat} {i : Ins} (ho : okI i) (h1 : oneE i = 0) (hi : p[k]? = some i) {L : List Tx} {q : Rd} {at_ ot : Int} (h10 : ∀ y ∈ L, (10 : UInt8) ∉ y) (hl : linesA L 1 ⟨[], []⟩ = (0, 0, q)) (hq : Qr p (k + 1) k q at_ ot) (ha : 0 <= at_ /\ at_ < 256) (x : Int) :
 InvT p (k + 1) (stepL x (insL i) (flat L, at_, ot)) := by
 obtain ⟨w1, w2, w3⟩ := words_ins ho h1;have hk := (List.getElem?_eq_some_iff.1 hi).1
 have hlen := hq.len (by omega)
 have hws : ∀ w ∈ wsI i, (∀ c ∈ w, blankB c = false /\ c ≠ 59 /\ c ≠ 10) /\ w ≠ [] := fun w hw => ⟨fun c hc => wC3 ((w3 w hw).1 c hc), (w3 w hw).2⟩;unfold stepL
 rw [w1, w2, Bool.false_and, if_neg (by simp)]
 unfold mid2 mid1;rw [w1, w2]
 by_cases hadd : addO x false (flat L) = true
 · rw [if_pos hadd]
   obtain ⟨L', n, e1, e2, e3⟩ := fin_step h10 hl (pre := otherT at_ ++ blankT x) (P := [oth at_ ++ [58]]) (ws := wsI i) (fun t => by
    rw [show otherT at_ = oth at_ ++ [58] from rfl, List.append_assoc]
    exact fg_word (fun c hc => (lab58 (oth_wC at_) c hc).1) (by simp) (blank_ok x).1 (blank_ok x).2.1) (fun c hc => by
    rcases List.mem_append.1 hc with hc | hc
    · exact (lab58 (oth_wC at_) c hc).2
    · rcases (blank_ok x).1 c hc with rfl | rfl <;> decide) hws x (line := insL i) (ins_no10 ho h1) (q' := fun n => ⟨q.ms ++ [⟨oth at_, (q.ss.length : Int), n⟩], q.ss ++ [srcN i n]⟩) (fun n s' hp => lab_ins_line ho h1 q n (oth_name ha.1 ha.2) (hq.oth at_ (Int.le_refl _) (by omega)) hp)
   refine ⟨L', _, ?_, e2, e3, (hq.other ⟨by omega, by omega⟩ (by omega) n).put hi n⟩
   simp only
   rw [<- e1];simp [repT, joinL]
 · rw [if_neg hadd]
   obtain ⟨L', n, e1, e2, e3⟩ := fin_step h10 hl (pre := []) (P := []) (ws := wsI i) (fun t => rfl) (fun c hc => by cases hc) hws x (line := insL i) (ins_no10 ho h1) (q' := fun n => ⟨q.ms, q.ss ++ [srcN i n]⟩) (fun n s' hp => ins_line ho h1 q n hp)
   refine ⟨L', _, ?_, e2, e3, (hq.mono (by simp only; omega)).put hi n⟩
   simp only
   rw [<- e1];simp [repT, joinL]
theorem lab_step {p : List Ins} {k : Nat} {i : Ins} (ho : okI i) (h1 : oneE i = 0) (hi : p[k]? = some i) (hk : k < 256) (ht : isTo p k = true) {s : Tx × Int × Int} (hs : InvT p k s) (ha : 0 <= s.2.1 /\ s.2.1 < 255) (x y : Int) :
 InvT p (k + 1) (stepL y (insL i) (stepL x (lab k ++ [58]) s)) := by
 obtain ⟨L, q, s1, h10, hl, hq⟩ := hs;obtain ⟨t, at_, ot⟩ := s
 simp only at s1 hq ha
 subst s1;have hk2 := (List.getElem?_eq_some_iff.1 hi).1
 have hlen := hq.len (by omega)
 obtain ⟨v1, v2⟩ := words_lab (n := (k : Int)) (by omega)
 have hno : hasMk q.ms (nm (lab (k : Int))) = false := by
  rw [hq.has k (by omega), decide_eq_false (Nat.lt_irrefl _)]; rfl
 have hnm := nm_name (n := (k : Int)) (by omega) (by omega)
 have hlab := hq.lab ht hk hlen;have hcw : ∀ c ∈ nm (lab (k : Int)) ++ [58], blankB c = false /\ c ≠ 59 /\ c ≠ 10 := lab58 (nm_wC (lab_wC _))
 have e0 : mid1 x (lab (k : Int) ++ [58]) (flat L, at_, ot) = (flat L, ot) := by
  unfold mid1
  rw [v1, v2, if_neg (by simp [addO])]
 have e1 : mid2 x (lab (k : Int) ++ [58]) (flat L, at_, ot) = flat L ++ repT x ++ (nm (lab (k : Int)) ++ [58]) := by
  unfold mid2
  rw [e0, v1, joinL, join_one]; rfl
 by_cases hx : x / 64 % 2 = 0
 · have e2 : stepL x (lab (k : Int) ++ [58]) (flat L, at_, ot) = (flat L ++ repT x ++ (nm (lab (k : Int)) ++ [58]) ++ [32], at_, ot) := by
    unfold stepL;rw [v1, v2, decide_eq_true hx, Bool.and_self, if_pos rfl, e1, e0]
   rw [e2];obtain ⟨w1, w2, w3⟩ := words_ins ho h1;have hws : ∀ w ∈ wsI i, (∀ c ∈ w, blankB c = false /\ c ≠ 59 /\ c ≠ 10) /\ w ≠ [] := fun w hw => ⟨fun c hc => wC3 ((w3 w hw).1 c hc), (w3 w hw).2⟩;unfold stepL
   rw [w1, w2, Bool.false_and, if_neg (by simp)]
   unfold mid2 mid1
   rw [w1, w2, if_neg (by
    have : Lib.hasSuffix (flat L ++ repT x ++ (nm (lab (k : Int)) ++ [58]) ++ [32]) [58, 32] = true := by
     rw [Lib.hasSuffix, List.isSuffixOf_iff_suffix]
     exact ⟨flat L ++ repT x ++ nm (lab (k : Int)), by simp⟩
    intro hh;unfold addO at hh;simp only [this] at hh;simp at hh)]
   obtain ⟨L', n, f1, f2, f3⟩ := fin_step h10 hl (pre := repT x ++ ((nm (lab (k : Int)) ++ [58]) ++ [32])) (P := [nm (lab (k : Int)) ++ [58]]) (ws := wsI i) (fun t => by
    rw [List.append_assoc, fg_rep, List.append_assoc]
    exact fg_word (fun c hc => (hcw c hc).1) (by simp) (fun c hc => by rw [List.mem_singleton.1 hc]; simp) (by simp)) (fun c hc => by
    rcases List.mem_append.1 hc with hc | hc
    · rcases (rep_ok x).1 c hc with rfl | rfl <;> decide
    · rcases List.mem_append.1 hc with hc | hc
      · exact (hcw c hc).2
      · rw [List.mem_singleton.1 hc]; decide) hws y (line := insL i) (ins_no10 ho h1) (q' := fun n => ⟨q.ms ++ [⟨nm (lab (k : Int)), (q.ss.length : Int), n⟩], q.ss ++ [srcN i n]⟩) (fun n s' hp => lab_ins_line ho h1 q n hnm hno hp)
   refine ⟨L', _, ?_, f2, f3, ((hlab n).mono (by simp only; omega)).put hi n⟩
   simp only
   rw [<- f1];simp [repT, joinL]
 · have e2 : stepL x (lab (k : Int) ++ [58]) (flat L, at_, ot) = (flat L ++ repT x ++ (nm (lab (k : Int)) ++ [58]) ++ tailT x (lab (k : Int) ++ [58]) ++ [10], at_ + 1, ot) := by
    unfold stepL
    rw [v1, v2, decide_eq_false hx, Bool.and_false, if_neg (by simp), e1, e0]
   rw [e2]
   obtain ⟨L', n, f1, f2, f3⟩ := fin_step h10 hl (pre := []) (P := []) (ws := [nm (lab (k : Int)) ++ [58]]) (fun t => rfl) (fun c hc => by cases hc) (fun w hw => by
    rw [List.mem_singleton.1 hw]; exact ⟨hcw, by simp⟩) x (line := lab (k : Int) ++ [58]) (lab_no10 _) (q' := fun n => ⟨q.ms ++ [⟨nm (lab (k : Int)), (q.ss.length : Int), n⟩], q.ss⟩) (fun n s' hp => lab_line q n hnm hno hp)
   rw [join_one, List.append_nil] at f1;rw [f1]
   exact ins_step ho h1 hi f2 f3 ((hlab n).mono (by omega)) ⟨by omega, by omega⟩ y
set_option maxHeartbeats 1000000
def u8s (bs : List UInt8) : List Value := bs.map fun b => Value.int .u8 b.toNat
def BldF (G : Mem) (b : Nat) (bs : List UInt8) : Prop := ∃ (g cap : Nat) (cur : Array Value) (fz : Nat × Nat), g ≠ b /\ G b = some (.cells #[.pointer (some ⟨b, 0, none⟩), .slice (some ⟨g, 0, none⟩) bs.length cap] 48) /\ G g = some (.cells cur 5 fz) /\ cur.size = cap /\ cap <= maxLen /\ bs.length <= cap /\ fz.2 <= bs.length /\ 0 < cap /\ cur.toList.take bs.length = u8s bs
def BldX (G : Mem) (b : Nat) (bs : List UInt8) : Prop := (∃ p : Option Addr, (p = none \/ p = some ⟨b, 0, none⟩) /\ bs = [] /\ G b = some (.cells #[.pointer p, .slice none 0 0] 48)) \/ BldF G b bs
theorem BldX.mono {G H : Mem} {b : Nat} {bs : List UInt8} (h : BldX G b bs) (hle : G.le H) : BldX H b bs := by
 rcases h with ⟨p, h1, h2, h3⟩ | ⟨g, cap, cur, fz, h1, h2, h3, h4⟩
 · exact .inl ⟨p, h1, h2, hle _ _ h3⟩
 · exact .inr ⟨g, cap, cur, fz, h1, hle _ _ h2, hle _ _ h3, h4⟩
theorem ct56X (G : Mem) (b : Nat) (p : Option Addr) (c : Value) (I : Mem) (hb : G b = some (.cells #[.pointer p, c] 48)) (hp : p = none \/ p = some ⟨b, 0, none⟩) :
 CtH Tryz.prog (fnv 56) #[.pointer (some ⟨b, 0, none⟩)] I G (fun v I' G' => v = .tuple #[] /\ I' = I /\ G' = fun x => if x = b then some (.cells #[.pointer (some ⟨b, 0, none⟩), c] 48) else G x) := by
 intro W hI hG hap;have hW := hG _ _ hb
 refine callV_func Tryz.call56 (args := [.pointer (some ⟨b, 0, none⟩)]) (by simp) (callsIn_wide.2 ?_)
 have hIb : I b = none := by
  rcases hap b with h | h
  · exact h
  · rw [h] at hb; cases hb
 rcases hp with rfl | rfl
 · refine (check_fresh b W (by simp [World.cell?, hW]) (by simp [World.shape?, hW]) (by simp [World.frozen?, hW])).mono fun en W' ⟨he, hw⟩ => ?_
   subst hw
   have hother : ∀ k, k ≠ b -> (W.setCell ⟨b, 0, none⟩ (.pointer (some ⟨b, 0, none⟩))).heap[k]? = W.heap[k]? := fun k hk => by
    simp only [World.setCell, Array.getElem?_modify];rw [if_neg (fun h => hk h.symm)]
   have hself : (W.setCell ⟨b, 0, none⟩ (.pointer (some ⟨b, 0, none⟩))).heap[b]? = some (.cells #[.pointer (some ⟨b, 0, none⟩), c] 48) := by
    simp only [World.setCell, Array.getElem?_modify, if_true, hW]; rfl
   refine ⟨.tuple #[], I, _, he, Mem.le_refl _, fun k o hk => ?_, fun k o hk => ?_, fun k => ?_, by simp [World.setCell], ⟨rfl, rfl, rfl⟩, fun k _ hk => ?_, fun k _ hk => ⟨?_, id⟩, rfl, rfl, rfl⟩
   · rw [hother k (fun e => by rw [e, hIb] at hk; cases hk)]; exact hI k o hk
   · split at hk
     · rename_i hkb; subst hkb; rw [hself]; exact hk
     · rename_i hkb; rw [hother k hkb]; exact hG k o hk
   · by_cases hkb : k = b
     · subst hkb; exact .inl hIb
     · rw [if_neg hkb]; exact hap k
   · exact hother k (fun e => by rw [e, hb] at hk; cases hk)
   · rw [if_neg (fun e => by rw [e, hb] at hk; cases hk)]; exact hk
 · refine (check_used b W (by simp [World.cell?, hW])).mono fun en W' ⟨he, hw⟩ => ?_
   subst hw;refine ⟨.tuple #[], I, G, he, Mem.le_refl _, hI, hG, hap, Nat.le_refl _, ⟨rfl, rfl, rfl⟩, fun _ _ _ => rfl, fun k _ hk => ⟨hk, id⟩, rfl, rfl, ?_⟩
   funext x
   split
   · rename_i h; subst h; exact hb
   · rfl
theorem putB (G : Mem) (b : Nat) (c v : Value) (hb : G b = some (.cells #[.pointer (some ⟨b, 0, none⟩), c] 48)) :
 PutG G (some ⟨b, 0, none⟩) 1 [v] (fun x => if x = b then some (.cells #[.pointer (some ⟨b, 0, none⟩), v] 48) else G x) :=
 ⟨b, 0, _, 48, (0, 0), rfl, hb, thaw_zero _, by simp, rfl⟩
theorem at1B (G : Mem) (b : Nat) (p c : Value) (hb : G b = some (.cells #[p, c] 48)) : atI G (some ⟨b, 0, none⟩) 1 = some c := by
 simp [atI, cellM, hb, Addr.add_lit]
theorem ch24X (G : Mem) (b : Nat) (bs : List UInt8) (s : ByteArray) (hs : bs.length + s.size <= 100000000) (I : Mem) (h : BldX G b bs) :
 CtH Tryz.prog (fnv 24) #[.pointer (some ⟨b, 0, none⟩), .string s] I G (fun v I' G' => v = .tuple #[.int .i64 s.size, .nilIface] /\ BldX G' b (bs ++ tx s)) := by
 obtain ⟨Q, hQ⟩ : ∃ q : Value -> Mem -> Prop, q = fun v G' => v = .tuple #[.int .i64 s.size, .nilIface] /\ BldX G' b (bs ++ tx s) := ⟨_, rfl⟩
 rw [show (fun (v : Value) (I' G' : Mem) => v = .tuple #[.int .i64 s.size, .nilIface] /\ BldX G' b (bs ++ tx s)) = fun v I' G' => Q v G' by rw [hQ]]
 refine viaR (ctG_via (A := { calls := [(7, .g), (12, .g), (14, .st), (16, .st)] }) Tryz.func24 rfl Tryz.call24 rfl rfl) (CtH Tryz.prog (fnv 56) #[.pointer (some ⟨b, 0, none⟩)] I G fun v a c => v = .tuple #[] /\ true = true /\ true = true /\ ∃ d n e, atI c (some ⟨b, 0, none⟩) 1 = some (.slice d n e) /\ (1 : Nat) = 1 /\ (0 : Nat) < 1 /\ (1 : Nat) = 1 /\ Br (decide ((n : Int) + (s.size : Int) <= (e : Int))) (∃ f, (bytesV s = [] /\ f = c \/ PutH c d (n * 1) (bytesV s) f) /\ true = true /\ true = true /\ ∃ g, PutG f (some ⟨b, 0, none⟩) 1 [.slice d (n + s.size) e] g /\ Q (.tuple #[.int .i64 (s.size : Int), .nilIface]) g) ((d.isSome || n == 0 && e == 0) = true /\ n + s.size <= 9223372036854775807 /\ (n + s.size) * 1 <= 140737488355328 /\ ∃ x, x.length = n * 1 /\ (∀ (j : Nat) (f : Value), x[j]? = some f -> atI a d j = some f \/ atI c d j = some f) /\ ∀ (f g : Nat) (i : Array Value) (j : Prod Nat Nat) (k : Mem), c f = none -> a f = none -> n + s.size <= g -> g <= 9223372036854775807 -> j = (0, 0) -> i.size = g * 1 -> List.take (List.length (x ++ bytesV s)) i.toList = x ++ bytesV s -> k = (fun l => if l = f then some (.cells i 5 j) else c l) -> true = true /\ true = true /\ ∃ l, PutG k (some ⟨b, 0, none⟩) 1 [.slice (some ⟨f, 0, none⟩) (n + s.size) g] l /\ Q (.tuple #[.int .i64 (s.size : Int), .nilIface]) l)) (by kernel_rfl) ?_
 have hts : (tx s).length = s.size := Array.length_toList;have hbv : bytesV s = u8s (tx s) := rfl
 have hbl : (u8s (tx s)).length = s.size := by rw [u8s, List.length_map, hts]
 have huu : u8s bs ++ u8s (tx s) = u8s (bs ++ tx s) := by simp [u8s]
 have hul : (u8s bs).length = bs.length := by rw [u8s, List.length_map]
 rcases h with ⟨p, hp, rfl, hGb⟩ | ⟨g, cap, cur, fz, hne, hGb, hg, hcs, hcm, hle, hfz, hc0, hat⟩
 · refine (ct56X G b p _ I hGb hp).mono fun v I1 G1 _ ⟨hv, hI1, hG1⟩ => ?_
   have hb1 : G1 b = some (.cells #[.pointer (some ⟨b, 0, none⟩), .slice none 0 0] 48) := by rw [hG1]; simp
   refine ⟨hv, rfl, rfl, none, 0, 0, at1B _ _ _ _ hb1, rfl, Nat.zero_lt_one, rfl, Br.mk (fun hr => ?_) (fun hr => ?_)⟩
   · have h0 : s.size = 0 := by have := of_decide_eq_true hr; omega
     have h0t : tx s = [] := List.length_eq_zero_iff.1 (by omega)
     refine ⟨G1, .inl ⟨by rw [hbv, h0t]; rfl, rfl⟩, rfl, rfl, _, putB _ _ _ _ hb1, ?_⟩
     rw [hQ]
     exact ⟨rfl, .inl ⟨_, .inr rfl, by rw [h0t]; rfl, by simp [h0]⟩⟩
   · have h0 : 0 < s.size := by have := of_decide_eq_false hr; omega
     simp only [List.length_nil] at hs
     refine ⟨rfl, by omega, by omega, [], rfl, fun j f hj => by simp at hj, fun f g i j k hf ha hge hgm hj hsz htk hk => ?_⟩
     have hfb : f ≠ b := fun e => by rw [e, hb1] at hf; cases hf
     have hkb : k b = some (.cells #[.pointer (some ⟨b, 0, none⟩), .slice none 0 0] 48) := by rw [hk]; simp [Ne.symm hfb, hb1]
     refine ⟨rfl, rfl, _, putB _ _ _ _ hkb, ?_⟩;rw [hQ]
     refine ⟨rfl, .inr ⟨f, g, i, j, hfb, by simp [hts], by simp [hfb, hk], by omega, by simp only [maxLen]; omega, by simp [hts]; omega, ?_, by omega, ?_⟩⟩
     · rw [hj]; exact Nat.zero_le _
     · simpa [hbv, hbl, hts] using htk
 · refine (ct56X G b _ _ I hGb (.inr rfl)).mono fun v I1 G1 _ ⟨hv, hI1, hG1⟩ => ?_
   have hb1 : G1 b = some (.cells #[.pointer (some ⟨b, 0, none⟩), .slice (some ⟨g, 0, none⟩) bs.length cap] 48) := by rw [hG1]; simp
   have hg1 : G1 g = some (.cells cur 5 fz) := by rw [hG1]; simp [hne, hg]
   have hcl : cur.toList.length = cap := by rw [Array.length_toList, hcs]
   refine ⟨hv, rfl, rfl, _, _, _, at1B _ _ _ _ hb1, rfl, Nat.zero_lt_one, rfl, Br.mk (fun hr => ?_) (fun hr => ?_)⟩
   · have hr := of_decide_eq_true hr
     refine ⟨_, .inr ⟨g, 0, cur, 5, fz, rfl, hg1, fun j hj _ => by omega, by rw [hbv, hbl]; omega, rfl⟩, rfl, rfl, _, putB _ b _ _ (by simp [Ne.symm hne]; exact hb1), ?_⟩
     rw [hQ]
     refine ⟨rfl, .inr ⟨g, cap, _, fz, hne, by simp [hts], by simp only [if_neg hne, if_true]; rfl, ?_, hcm, by simp [hts]; omega, by simp; omega, hc0, ?_⟩⟩
     · simp only [List.size_toArray, List.length_append, List.length_take, List.length_drop, hcl, hbv, hbl]; omega
     · simp only [Nat.zero_add, Nat.mul_one, hat, hbv]
       rw [List.append_assoc, <- List.append_assoc (u8s bs), huu]
       exact List.take_left' (by rw [u8s, List.length_map])
   · have hr := of_decide_eq_false hr
     refine ⟨rfl, by omega, by omega, u8s bs, by rw [hul, Nat.mul_one], fun j f hj => .inr ?_, fun f g' i j k hf ha hge hgm hj hsz htk hk => ?_⟩
     · rw [<- hat, List.getElem?_take] at hj
       split at hj
       · simp [atI, cellM, hg1, Addr.add_lit]
         simpa using hj
       · cases hj
     have hfb : f ≠ b := fun e => by rw [e, hb1] at hf; cases hf
     have hkb : k b = some (.cells #[.pointer (some ⟨b, 0, none⟩), .slice (some ⟨g, 0, none⟩) bs.length cap] 48) := by rw [hk]; simp [Ne.symm hfb, hb1]
     refine ⟨rfl, rfl, _, putB _ _ _ _ hkb, ?_⟩;rw [hQ]
     refine ⟨rfl, .inr ⟨f, g', i, j, hfb, by simp [hts], by simp [hfb, hk], by omega, by simp only [maxLen]; omega, by simp [hts]; omega, ?_, by omega, ?_⟩⟩
     · rw [hj]; exact Nat.zero_le _
     · rw [hbv, huu] at htk
       rw [<- htk]
       congr 1
       rw [u8s, List.length_map]
theorem freeze_at (w : World) (g n : Nat) (hn : n ≠ 0) (cur : Array Value) (fz : Nat × Nat) (hg : w.heap[g]? = some (.cells cur 5 fz)) (hfz : fz.2 <= n) :
 ∃ fz' : Nat × Nat, fz'.2 <= n /\ (w.drew.freeze ⟨g, 0, none⟩ n).heap[g]? = some (.cells cur 5 fz') := by
 obtain ⟨lo, hi⟩ := fz
 refine ⟨if lo == hi then (0, 0 + n) else (min lo 0, max hi (0 + n)), ?_, ?_⟩
 · split
   · simp
   · simp only at hfz ⊢; omega
 · unfold World.freeze
   rw [if_neg hn]
   show (Array.modify _ _ _)[g]? = _
   rw [Array.getElem?_modify, if_pos rfl]
   show Option.map _ (w.heap[g]?) = _
   rw [hg]; rfl
theorem ch23X (G : Mem) (b : Nat) (bs : List UInt8) (I : Mem) (h : BldX G b bs) :
 CtH Tryz.prog (fnv 23) #[.pointer (some ⟨b, 0, none⟩)] I G (fun v I' G' => v = .string (strT bs) /\ BldX G' b bs) := by
 intro W hI hG hap
 refine callV_func Tryz.call23 (args := [.pointer (some ⟨b, 0, none⟩)]) (by simp) (callsIn_wide.2 ?_)
 have still : ∀ {w' : World}, KeepBut W w' none -> Ends I G W (fun v I' G' => v = .string (strT bs) /\ BldX G' b bs) (.returned (.string (strT bs))) w' := fun {w'} hk =>
  ⟨_, I, G, rfl, Mem.le_refl _, fun k o hk1 => by rw [hk.keep k (Mem.inW_lt hI hk1) (by simp)]; exact hI k o hk1, fun k o hk1 => by rw [hk.keep k (Mem.inW_lt hG hk1) (by simp)]; exact hG k o hk1, hap, hk.size, hk.same, fun k hlt _ => hk.keep k hlt (by simp), fun k _ hk => ⟨hk, id⟩, rfl, h⟩
 rcases h with ⟨p, hp, rfl, hGb⟩ | ⟨g, cap, cur, fz, hne, hGb, hg, hcs, hcm, hle, hfz, hc0, hat⟩
 · exact (str_nil b _ W (hG _ _ hGb)).mono fun en w' ⟨he, hk⟩ => by rw [he]; exact still hk
 · match bs, hGb, hle, hfz, hat, @still with
   | [], hGb, _, _, _, still => exact (str_room b g cap _ W (by omega) (hG _ _ hGb)).mono fun en w' ⟨he, hk⟩ => by rw [he]; exact still hk
   | x :: r, hGb, hle, hfz, hat, _ =>
     refine (str_some b g cap cur _ (x :: r) W (hG _ _ hGb) (hG _ _ hg) (by simp) hle hcm hcs fun j y hj => ?_).mono fun en w' ⟨he, hk⟩ => ?_
     · have hlt := (List.getElem?_eq_some_iff.1 hj).1
       have := congrArg (fun l : List Value => l[j]?) hat;simp only [u8s, List.getElem?_map, hj, Option.map_some, List.getElem?_take] at this;rw [if_pos hlt] at this;simpa using this
     · subst hk
       obtain ⟨fz', h1, h2⟩ := freeze_at W g (x :: r).length (by simp) cur fz (hG _ _ hg) hfz
       have hk := freeze_keep W g (x :: r).length
       have hIg : I g = none := by
        rcases hap g with h | h
        · exact h
        · rw [h] at hg; cases hg
       refine ⟨_, I, fun k => if k = g then some (.cells cur 5 fz') else G k, he, Mem.le_refl _, fun k o hk1 => ?_, fun k o hk1 => ?_, fun k => ?_, hk.size, hk.same, fun k hlt hk1 => ?_, fun k _ hk1 => ⟨?_, id⟩, rfl, .inr ⟨g, cap, cur, fz', hne, ?_, ?_, hcs, hcm, hle, h1, hc0, hat⟩⟩
       · rw [hk.keep k (Mem.inW_lt hI hk1) (fun e => by cases e; rw [hIg] at hk1; cases hk1)]; exact hI k o hk1
       · simp only at hk1
         split at hk1
         · rename_i hkg; subst hkg; rw [h2]; exact hk1
         · rename_i hkg; rw [hk.keep k (Mem.inW_lt hG hk1) (fun e => hkg (by cases e; rfl))]; exact hG k o hk1
       · by_cases hkg : k = g
         · subst hkg; exact .inl hIg
         · simp only [if_neg hkg]; exact hap k
       · exact hk.keep k hlt (fun e => by cases e; rw [hg] at hk1; cases hk1)
       · simp only
         rw [if_neg (fun e => by rw [e, hg] at hk1; cases hk1)]; exact hk1
       · simp only [if_neg (Ne.symm hne)]; exact hGb
       · simp only [if_true]
theorem ct17s (sep : ByteArray) (l : List ByteArray) (a : Option Addr) (cp : Nat) (I : Mem) (h : RowM I a cp 1 (strs l)) (hlen : (Lib.join (l.map tx) (tx sep)).length <= 1000000000) (hN : l.length <= 1000000) :
 Ct Tryz.prog (fnv 17) #[.slice a l.length cp, .string sep] I (fun v _ => v = .string (strT (Lib.join (l.map tx) (tx sep)))) := by
 obtain ⟨h1, h2, h3, h4⟩ := h
 have hl : l.length <= cp := by simpa [strs] using h1
 refine ct_of_calls Tryz.call17 fun w hI => ?_
 cases a with
 | none =>
   have hnil : l = [] := by
    have := (h3 rfl).1;simpa [strs] using this
   subst hnil
   refine (Tryz.strings_Join_none _ _ _ w).mono fun e w' ⟨he, hw⟩ => ⟨⟨_, he, by rfl⟩, hw ▸ Below.refl _ _⟩
 | some ad =>
   cases l with
   | nil => exact (Tryz.strings_Join_none _ _ _ w).mono fun e w' ⟨he, hw⟩ => ⟨⟨_, he, by rfl⟩, hw ▸ Below.refl _ _⟩
   | cons x r =>
     have hc : ∀ (j : Nat) (y : ByteArray), (x :: r)[j]? = some y -> w.cell? (ad.add j) = some (.string y) := fun j y hj =>
      cellM_world hI (h4 j _ (strs_get hj))
     have h0 := hc 0 x rfl;obtain ⟨b, o, sp⟩ := ad
     obtain rfl : sp = none := by
      cases sp with
      | none => rfl
      | some s => have := h4 0 (.string x) rfl; simp only [atI, Option.bind_some, cellM, Addr.add, if_true] at this; split at this <;> simp at this
     have hlt : b < w.heap.size := by
      have := h4 0 (.string x) rfl;simp only [atI, Option.bind_some, cellM, Addr.add, if_true] at this
      split at this
      · rename_i hb; exact Mem.inW_lt hI hb
      · cases this
     refine (Tryz.strings_Join b o cp (x :: r) sep w (fun j y hj => ?_) hlt (by omega) hl (by have : Lib.join ((x :: r).map (·.data.toList)) sep.data.toList = Lib.join ((x :: r).map tx) (tx sep) := rfl; rw [this]; omega)).mono fun e w' ⟨he, hw⟩ => ⟨⟨_, he, rfl⟩, hw⟩
     have := hc j y hj
     by_cases hj0 : j = 0
     · subst hj0; exact this
     · simpa [Addr.add, hj0] using this
structure LooseP (p : List Ins) (hw : List Int) : Prop where
 len : ∀ k, k <= (outLines p p 0).length -> (runL (outLines p p 0) hw k).1.length <= 100000
 line : ∀ x ∈ outLines p p 0, x.length <= 1000 /\ ∀ b ∈ x, b.toNat < 128
 words : ∀ x ∈ outLines p p 0, ∀ y : Int, (Lib.join (wordsL x) (blankT y)).length <= 10000
 parse : parseA (runL (outLines p p 0) hw (outLines p p 0).length).1 = (p, 0, 0)
 own : (labelsA (outGo p p 0)).2 = (0, 0)
 lab : (labelsA (runL (outLines p p 0) hw (outLines p p 0).length).1).2 = (0, 0)
 cnt : ((labelsA (runL (outLines p p 0) hw (outLines p p 0).length).1).1.length : Int) = (labelsA (outGo p p 0)).1.length + (runL (outLines p p 0) hw (outLines p p 0).length).2.2
 at_ : ∀ k, k <= (outLines p p 0).length -> 0 <= (runL (outLines p p 0) hw k).2.1 /\ (runL (outLines p p 0) hw k).2.1 <= 10000 /\ 0 <= (runL (outLines p p 0) hw k).2.2 /\ (runL (outLines p p 0) hw k).2.2 <= 10000
theorem fieldsGo_mem : ∀ (l cur w : Tx), w ∈ Lib.fieldsGo cur l -> w.length <= cur.length + l.length /\ ∀ b ∈ w, b ∈ cur \/ b ∈ l
 | [], cur, w, h => by
   rw [Lib.fieldsGo] at h
   split at h
   · simp at h
   · rw [List.mem_singleton.1 h]; exact ⟨by simp, fun b hb => .inl hb⟩
 | c :: l, cur, w, h => by
   have i1 := fieldsGo_mem l [] w;have i2 := fieldsGo_mem l (cur ++ [c]) w;rw [Lib.fieldsGo] at h
   split at h
   · split at h
     · obtain ⟨g1, g2⟩ := i1 h
       exact ⟨by simp at g1 ⊢; omega, fun b hb => by have := g2 b hb; simp at this ⊢; simp [this]⟩
     · rcases List.mem_cons.1 h with rfl | h
       · exact ⟨by omega, fun b hb => .inl hb⟩
       · obtain ⟨g1, g2⟩ := i1 h
         exact ⟨by simp at g1 ⊢; omega, fun b hb => by have := g2 b hb; simp at this ⊢; simp [this]⟩
   · obtain ⟨g1, g2⟩ := i2 h
     exact ⟨by simp at g1 ⊢; omega, fun b hb => by
      rcases g2 b hb with k | k
      · rcases List.mem_append.1 k with k | k
        · exact .inl k
        · rw [List.mem_singleton.1 k]; exact .inr (List.mem_cons_self ..)
      · exact .inr (List.mem_cons_of_mem _ k)⟩
theorem blank_at (x : Int) (hx : 0 <= x) : ([SV.v (.string ⟨#[32]⟩), .v (.string ⟨#[9]⟩), .v (.string ⟨#[32, 32]⟩), .v (.string ⟨#[32, 9, 32]⟩)][0 + (x.tmod 4).toNat * 1 + 0]?.bind fun x => match x with | .v x => some x | _ => none) = some (.string (strT (blankT x))) := by
 have e : x.tmod 4 = x % 4 := Int.tmod_eq_emod_of_nonneg hx;rw [e, blankT]
 rcases (by omega : x % 4 = 0 \/ x % 4 = 1 \/ x % 4 = 2 \/ x % 4 = 3) with h | h | h | h <;> rw [h] <;> rfl
theorem blank_len (x : Int) (hx : 0 <= x) : (blankT x).length <= 3 := by
 rw [blankT]
 rcases (by omega : x % 4 = 0 \/ x % 4 = 1 \/ x % 4 = 2 \/ x % 4 = 3) with h | h | h | h <;> rw [h] <;> decide
theorem ct9 (s : ByteArray) (c : Int) (hc : 0 <= c) (hl : (tx s).length * c.toNat <= 1000000) (hm : c <= 1000000) (I : Mem) : Ct Tryz.prog (fnv 9) #[.string s, .int .i64 c] I (fun v _ => v = .string (strT (Lib.repeatL (tx s) c.toNat))) := by
 refine ct_of_calls Tryz.call9 fun w _ => ?_
 obtain ⟨k, rfl⟩ : ∃ k : Nat, c = k := ⟨c.toNat, by omega⟩
 have hs : s.size = (tx s).length := Array.length_toList.symm
 refine (Tryz.strings_Repeat s k w (by omega) (by rw [hs]; simp only [Int.toNat_natCast] at hl; omega)).mono fun e w' ⟨he, hw⟩ => ⟨⟨_, he, rfl⟩, hw⟩
theorem mid1_len {x : Int} (line : Tx) {s : Tx × Int × Int} (hx : 0 <= x) (h : i64N s.2.1) : (mid1 x line s).1.length <= s.1.length + 30 := by
 unfold mid1;split
 · have := itoa_len h
   have := blank_len x hx;simp only [otherT, List.length_append, List.length_cons, List.length_nil];omega
 · simp only; omega
theorem lit_size (l : List UInt8) : (⟨l.toArray⟩ : ByteArray).size = l.length := by show l.toArray.size = _; simp
set_option maxHeartbeats 4000000 in
theorem ct5 (l : List Sm) (a : Option Addr) (n c : Nat) (hc : n <= c) (hw : List Int) (b : Option Addr) (m d : Nat) (I : Mem) (hG : Globs I) (hF : GlobsF I) (h : SmM I a n l) (hh : SlM I b m 1 (ints .u8 hw)) (hb : byteL hw) (hpl : ∀ (p : List Ins) (hw : List Int), (∀ i ∈ p, okI i) -> (checkL p).2 = 0 -> p.length <= 41 -> LooseP p hw)
 : Ct Tryz.prog (fnv 5) #[.slice a n c, .slice b m d] I (fun v _ => v = .bool true) := by
 obtain ⟨p, hp⟩ : ∃ p, p = madeS l := ⟨_, rfl⟩;obtain ⟨O, hO⟩ : ∃ O, O = outLines p p 0 := ⟨_, rfl⟩;obtain ⟨R, hR⟩ : ∃ R, R = runL O hw := ⟨_, rfl⟩;obtain ⟨M, hM⟩ : ∃ M : Nat, M = O.length := ⟨_, rfl⟩;obtain ⟨LI, hLI⟩ : ∃ f : Mem -> Value -> Int -> Int -> Int -> Prop, f = fun G pv at_ ot (i : Int) => ∃ b, pv = .pointer (some ⟨b, 0, none⟩) /\ BldX G b (R i.toNat).1 /\ at_ = (R i.toNat).2.1 /\ ot = (R i.toNat).2.2 /\ 0 <= i /\ i <= M := ⟨_, rfl⟩
 obtain ⟨WI, hWI⟩ : ∃ f : ByteArray -> Int -> List Value -> Prop, f = fun q (i : Int) xs => 0 <= i /\ i <= (Lib.fields (tx q)).length /\ xs = strs ((((Lib.fields (tx q)).take i.toNat).map renT ++ (Lib.fields (tx q)).drop i.toNat).map strT) := ⟨_, rfl⟩;obtain ⟨C1, hC1⟩ : ∃ f : Mem -> Value -> ByteArray -> Bool -> Int -> List Value -> Prop, f = fun G pv q lb (i : Int) xs => ∃ b, pv = .pointer (some ⟨b, 0, none⟩) /\ BldX G b (R i.toNat).1 /\ lb = isLab (wordsL (tx q)) /\ xs = strs ((wordsL (tx q)).map strT) := ⟨_, rfl⟩
 obtain ⟨C2, hC2⟩ : ∃ f : Mem -> Value -> ByteArray -> Int -> Int -> Int -> Prop, f = fun G pv q x ot (i : Int) => ∃ b, pv = .pointer (some ⟨b, 0, none⟩) /\ BldX G b (mid1 x (tx q) (R i.toNat)).1 /\ ot = (mid1 x (tx q) (R i.toNat)).2 := ⟨_, rfl⟩;obtain ⟨C3, hC3⟩ : ∃ f : Mem -> Value -> ByteArray -> Int -> Int -> Prop, f = fun G pv q x (i : Int) => ∃ b, pv = .pointer (some ⟨b, 0, none⟩) /\ BldX G b (mid2 x (tx q) (R i.toNat)) := ⟨_, rfl⟩
 refine viaR (ct_via (A := { gives := [(8, [0])], cuts := [(22, ⟨[(1, .keep), (5, .keep), (6, .keep), (8, .kv), (9, .keep), (10, .keep), (12, .kv), (13, .keep), (14, .keep), (15, .keep), (18, .sh .bool), (48, .keep), (49, .keep), (50, .kv)], [(2, .row)], [], fun vals xss _ G' => match vals, xss with | [pv, .string q, .bool lb, .int .i64 i], [xs] => C1 G' pv q lb i xs | _, _ => False, fun _ _ => 0⟩), (25, ⟨[(1, .keep), (5, .keep), (6, .keep), (8, .kv), (9, .keep), (10, .sh (.int .i64)), (12, .kv), (13, .kv), (14, .keep), (15, .keep), (18, .keep), (48, .keep), (49, .keep), (50, .kv)], [(2, .keep)], [], fun vals _ _ G' => match vals with | [pv, .int .i64 ot, .string q, .int .u8 x, .int .i64 i] => C2 G' pv q x ot i | _ => False, fun _ _ => 0⟩), (26, ⟨[(1, .keep), (5, .keep), (6, .keep), (8, .kv), (9, .keep), (10, .keep), (12, .kv), (13, .kv), (14, .keep), (18, .keep), (48, .keep), (49, .keep), (50, .kv)], [], [], fun vals _ _ G' => match vals with | [pv, .string q, .int .u8 x, .int .i64 i] => C3 G' pv q x i | _ => False, fun _ _ => 0⟩)], calls := [(68, .lend [] (.row 0) [.row 1 9]), (102, .g), (112, .g), (123, .ro), (125, .g), (134, .g), (144, .g), (149, .g), (150, .g), (155, .g), (161, .g)], loops := [
  (10, ⟨[(1, .keep), (5, .keep), (6, .keep), (8, .kv), (9, .sh (.int .i64)), (10, .sh (.int .i64)), (48, .keep), (49, .keep), (50, .sh (.int .i64))], [], [], fun vals _ _ G' => match vals with | [pv, .int .i64 at_, .int .i64 ot, .int .i64 i] => LI G' pv at_ ot i | _ => False, fun vals _ => match vals with | [_, _, _, .int .i64 i] => (M - i).toNat | _ => 0⟩),
  (16, ⟨[(1, .keep), (5, .keep), (6, .keep), (8, .kv), (9, .keep), (10, .keep), (11, .keep), (12, .kv), (13, .keep), (14, .keep), (15, .keep), (48, .keep), (49, .keep), (50, .kv), (69, .keep), (70, .keep), (71, .sh (.int .i64))], [(1, .keep), (2, .row)], [], fun vals xss _ G' => match vals, xss with | [pv, .string q, .int .i64 k, .int .i64 i], [xs] => WI q i xs /\ ∃ b, pv = .pointer (some ⟨b, 0, none⟩) /\ BldX G' b (R k.toNat).1 | _, _ => False, fun vals xss => match vals, xss with | [_, _, _, .int .i64 i], [xs] => (xs.length - i).toNat | _, _ => 0⟩)] }) Tryz.func5 rfl Tryz.call5 rfl rfl) (Ct Tryz.prog (fnv 11) #[] I fun v e => ∃ f, v = .bool f /\ Br (!f) (Value.bool false = .bool true) (Ct Tryz.prog (fnv 13) #[.slice a n c] e (fun g i => ∃ j k o, g = .slice j k o /\ Ct Tryz.prog (fnv 12) #[.slice j k o] i fun q r => ∃ s t, q = .tuple #[.string s, .int .i64 t] /\ Br (t != 0) (Value.bool (t == 0) = .bool true) (Br ((m : Int) == 0) (Value.bool (t == 0) = .bool true) (∀ (u : Nat), r u = none -> Rf (none : Option Obj) -> Ct Tryz.prog (fnv 15) #[.string s, .string ⟨#[10]⟩] r fun w x => ∃ y, w = .string y /\ Ct Tryz.prog (fnv 14) #[.string y, .string ⟨#[10]⟩] x fun z I1 => ∃ a1 n1 c1, z = .slice a1 n1 c1 /\ (Rf (SV.v (.slice b m d)) /\ Rf (SV.v (.slice j k o)) /\ Rf (SV.v (.string s)) /\ Rf (SV.v (.pointer (some ⟨u, 0, none⟩))) /\ Rf (SV.v (.slice a1 n1 c1)) /\ Rf (SV.v (.int .i64 (n1 : Int))) /\ LI (addB Mem.emp u (.cells #[.pointer none, .slice none 0 0] 48 (0, 0))) (.pointer (some ⟨u, 0, none⟩)) 0 0 0) /\ ∀ (I2 G : Mem), I1.le I2 -> ∀ (n2 n3 n4 : Int), LI G (.pointer (some ⟨u, 0, none⟩)) n2 n3 n4 -> Br (decide (n4 < (n1 : Int))) (0 <= n4 /\ n4 < (n1 : Int) /\ a1.isSome = true /\ ∃ q1, atI I2 a1 (n4.toNat * 1 + 0) = some (.string q1) /\ (m : Int) ≠ 0 /\ 0 <= n4.tmod (m : Int) /\ n4.tmod (m : Int) < (m : Int) /\ b.isSome = true /\ ∃ n5, atI I2 b ((n4.tmod (m : Int)).toNat * 1 + 0) = some (.int .u8 n5) /\ (4 : Int) ≠ 0 /\ 0 <= n5.tmod 4 /\ n5.tmod 4 < 4 /\ ∃ q2, [SV.v (.string ⟨#[32]⟩), .v (.string ⟨#[9]⟩), .v (.string ⟨#[32, 32]⟩), .v (.string ⟨#[32, 9, 32]⟩)][0 + (n5.tmod 4).toNat * 1 + 0]?.bind (fun (x1 : SV) => (match x1 with
    | SV.v x => some x
    | x => none)) = some (.string q2) /\ CtS Tryz.prog (.v (fnv 20)) [.v (.string q1)] [] I2 fun s1 H I3 => ∃ n6 x1, s1 = .rsl 0 n6 /\ H = [⟨.row x1 1 9, none⟩] /\ (Rf (Ent.mk (.cells [.v (.string ⟨#[32]⟩), .v (.string ⟨#[9]⟩), .v (.string ⟨#[32, 32]⟩), .v (.string ⟨#[32, 9, 32]⟩)] 9) none) /\ Rf (SV.v (.slice b m d)) /\ Rf (SV.v (.slice j k o)) /\ Rf (SV.v (.string s)) /\ Rf (SV.v (.pointer (some ⟨u, 0, none⟩))) /\ Rf (SV.v (.int .i64 n2)) /\ Rf (SV.v (.int .i64 n3)) /\ Rf (SV.v (.int .i64 n4)) /\ Rf (SV.v (.string q1)) /\ Rf (SV.v (.int .u8 n5)) /\ Rf (SV.v (.string q2)) /\ Rf (SV.rsl 2 n6) /\ Rf (SV.v (.slice a1 n1 c1)) /\ Rf (SV.v (.int .i64 (n1 : Int))) /\ Rf (SV.v (.int .i64 n4)) /\ Rf (SV.rsl 2 n6) /\ Rf (SV.v (.int .i64 (n6 : Int))) /\ WI q1 0 x1 /\ ∃ b1, Value.pointer (some ⟨u, 0, none⟩) = .pointer (some ⟨b1, 0, none⟩) /\ BldX G b1 (R n4.toNat).1) /\ ∀ (I4 G1 : Mem), I3.le I4 -> ∀ (x2 : List Value) (n7 : Int), WI q1 n7 x2 /\ (∃ b1, Value.pointer (some ⟨u, 0, none⟩) = .pointer (some ⟨b1, 0, none⟩) /\ BldX G1 b1 (R n4.toNat).1) -> Br (decide (n7 < (n6 : Int))) (0 <= n7 /\ n7 < (n6 : Int) /\ n6 * 1 <= x2.length /\ ∃ q3, x2[n7.toNat * 1 + 0]? = some (.string q3) /\ Ct Tryz.prog (fnv 21) #[.string q3] I4 fun v1 I5 => ∃ b1, v1 = .bool b1 /\ Br b1 (5 + q3.size <= 4611686018427387904 /\ 0 <= n7 /\ n7 < (n6 : Int) /\ n6 * 1 <= x2.length /\ n7.toNat * 1 + 1 <= x2.length /\ (0 : Nat) < 1 /\ Wr .i64 (n7 + 1) fun c2 => Rf (Ent.mk (.cells [.v (.string ⟨#[32]⟩), .v (.string ⟨#[9]⟩), .v (.string ⟨#[32, 32]⟩), .v (.string ⟨#[32, 9, 32]⟩)] 9) none) /\ Rf (SV.v (.slice b m d)) /\ Rf (SV.v (.slice j k o)) /\ Rf (SV.v (.string s)) /\ Rf (SV.v (.pointer (some ⟨u, 0, none⟩))) /\ Rf (SV.v (.int .i64 n2)) /\ Rf (SV.v (.int .i64 n3)) /\ Rf (SV.v (.int .i64 n4)) /\ Rf (SV.v (.string q1)) /\ Rf (SV.v (.int .u8 n5)) /\ Rf (SV.v (.string q2)) /\ Rf (SV.rsl 2 n6) /\ Rf (SV.v (.slice a1 n1 c1)) /\ Rf (SV.v (.int .i64 (n1 : Int))) /\ Rf (SV.v (.int .i64 n4)) /\ Rf (SV.rsl 2 n6) /\ Rf (SV.v (.int .i64 (n6 : Int))) /\ (WI q1 c2 (splice x2 (n7.toNat * 1) [.string (⟨#[110, 97, 109, 101, 95]⟩ ++ q3)]) /\ ∃ b2, Value.pointer (some ⟨u, 0, none⟩) = .pointer (some ⟨b2, 0, none⟩) /\ BldX G1 b2 (R n4.toNat).1) /\ Int.toNat (((splice x2 (n7.toNat * 1) [.string (⟨#[110, 97, 109, 101, 95]⟩ ++ q3)]).length : Int) - c2) < Int.toNat ((x2.length : Int) - n7)) (Wr .i64 (n7 + 1) (fun c2 => Rf (Ent.mk (.cells [.v (.string ⟨#[32]⟩), .v (.string ⟨#[9]⟩), .v (.string ⟨#[32, 32]⟩), .v (.string ⟨#[32, 9, 32]⟩)] 9) none) /\ Rf (SV.v (.slice b m d)) /\ Rf (SV.v (.slice j k o)) /\ Rf (SV.v (.string s)) /\ Rf (SV.v (.pointer (some ⟨u, 0, none⟩))) /\ Rf (SV.v (.int .i64 n2)) /\ Rf (SV.v (.int .i64 n3)) /\ Rf (SV.v (.int .i64 n4)) /\ Rf (SV.v (.string q1)) /\ Rf (SV.v (.int .u8 n5)) /\ Rf (SV.v (.string q2)) /\ Rf (SV.rsl 2 n6) /\ Rf (SV.v (.slice a1 n1 c1)) /\ Rf (SV.v (.int .i64 (n1 : Int))) /\ Rf (SV.v (.int .i64 n4)) /\ Rf (SV.rsl 2 n6) /\ Rf (SV.v (.int .i64 (n6 : Int))) /\ (WI q1 c2 x2 /\ ∃ b2, Value.pointer (some ⟨u, 0, none⟩) = .pointer (some ⟨b2, 0, none⟩) /\ BldX G1 b2 (R n4.toNat).1) /\ Int.toNat ((x2.length : Int) - c2) < Int.toNat ((x2.length : Int) - n7)))) (Br ((n6 : Int) == 1) ((0 : Int) <= 0 /\ 0 < (n6 : Int) /\ n6 * 1 <= x2.length /\ ∃ q3, x2[0]? = some (.string q3) /\ Ct Tryz.prog (fnv 22) #[.string q3, .string ⟨#[58]⟩] I4 fun v1 I5 => ∃ b1, v1 = .bool b1 /\ Rf (SV.v (.slice b m d)) /\ Rf (SV.v (.slice j k o)) /\ Rf (SV.v (.string s)) /\ Rf (SV.v (.pointer (some ⟨u, 0, none⟩))) /\ Rf (SV.v (.int .i64 n2)) /\ Rf (SV.v (.int .i64 n3)) /\ Rf (SV.v (.string q1)) /\ Rf (SV.v (.int .u8 n5)) /\ Rf (SV.v (.string q2)) /\ Rf (SV.rsl 2 n6) /\ Rf (SV.v (.slice a1 n1 c1)) /\ Rf (SV.v (.int .i64 (n1 : Int))) /\ Rf (SV.v (.int .i64 n4)) /\ C1 G1 (.pointer (some ⟨u, 0, none⟩)) q1 b1 n4 x2) (Rf (SV.v (.slice b m d)) /\ Rf (SV.v (.slice j k o)) /\ Rf (SV.v (.string s)) /\ Rf (SV.v (.pointer (some ⟨u, 0, none⟩))) /\ Rf (SV.v (.int .i64 n2)) /\ Rf (SV.v (.int .i64 n3)) /\ Rf (SV.v (.string q1)) /\ Rf (SV.v (.int .u8 n5)) /\ Rf (SV.v (.string q2)) /\ Rf (SV.rsl 2 n6) /\ Rf (SV.v (.slice a1 n1 c1)) /\ Rf (SV.v (.int .i64 (n1 : Int))) /\ Rf (SV.v (.int .i64 n4)) /\ C1 G1 (.pointer (some ⟨u, 0, none⟩)) q1 false n4 x2) /\ ∀ (I5 G2 : Mem), I4.le I5 -> ∀ (x3 : List Value) (b1 : Bool), C1 G2 (.pointer (some ⟨u, 0, none⟩)) q1 b1 n4 x3 -> Br (!b1) ((4 : Int) ≠ 0 /\ Wr .u8 (n5.tdiv 4) fun c2 => (4 : Int) ≠ 0 /\ Br (c2.tmod 4 == 0) (CtH Tryz.prog (fnv 23) #[.pointer (some ⟨u, 0, none⟩)] I5 G2 (fun v1 I6 G3 => ∃ q3, v1 = .string q3 /\ Ct Tryz.prog (fnv 22) #[.string q3, .string ⟨#[58, 32]⟩] I6 fun v2 I7 => ∃ b2, v2 = .bool b2 /\ Br (!b2) (Ct Tryz.prog (fnv 25) #[.int .i64 n2] I7 (fun v3 I8 => ∃ q4, v3 = .string q4 /\ 5 + q4.size <= 4611686018427387904 /\ ByteArray.size (⟨#[111, 116, 104, 101, 114]⟩ ++ q4) + 1 <= 4611686018427387904 /\ ByteArray.size (⟨#[111, 116, 104, 101, 114]⟩ ++ q4 ++ ⟨#[58]⟩) + q2.size <= 4611686018427387904 /\ CtH Tryz.prog (fnv 24) #[.pointer (some ⟨u, 0, none⟩), .string (⟨#[111, 116, 104, 101, 114]⟩ ++ q4 ++ ⟨#[58]⟩ ++ q2)] I8 G3 fun v4 I9 G4 => ∃ n8 x4, v4 = .tuple #[.int .i64 n8, x4] /\ Wr .i64 (n3 + 1) fun c3 => Rf (Ent.mk (.row x3 1 9) none) /\ Rf (SV.v (.slice b m d)) /\ Rf (SV.v (.slice j k o)) /\ Rf (SV.v (.string s)) /\ Rf (SV.v (.pointer (some ⟨u, 0, none⟩))) /\ Rf (SV.v (.int .i64 n2)) /\ Rf (SV.v (.string q1)) /\ Rf (SV.v (.int .u8 n5)) /\ Rf (SV.v (.string q2)) /\ Rf (SV.rsl 2 n6) /\ Rf (SV.v (.bool b1)) /\ Rf (SV.v (.slice a1 n1 c1)) /\ Rf (SV.v (.int .i64 (n1 : Int))) /\ Rf (SV.v (.int .i64 n4)) /\ C2 G4 (.pointer (some ⟨u, 0, none⟩)) q1 n5 c3 n4)) (Rf (Ent.mk (.row x3 1 9) none) /\ Rf (SV.v (.slice b m d)) /\ Rf (SV.v (.slice j k o)) /\ Rf (SV.v (.string s)) /\ Rf (SV.v (.pointer (some ⟨u, 0, none⟩))) /\ Rf (SV.v (.int .i64 n2)) /\ Rf (SV.v (.string q1)) /\ Rf (SV.v (.int .u8 n5)) /\ Rf (SV.v (.string q2)) /\ Rf (SV.rsl 2 n6) /\ Rf (SV.v (.bool b1)) /\ Rf (SV.v (.slice a1 n1 c1)) /\ Rf (SV.v (.int .i64 (n1 : Int))) /\ Rf (SV.v (.int .i64 n4)) /\ C2 G3 (.pointer (some ⟨u, 0, none⟩)) q1 n5 n3 n4))) (Rf (Ent.mk (.row x3 1 9) none) /\ Rf (SV.v (.slice b m d)) /\ Rf (SV.v (.slice j k o)) /\ Rf (SV.v (.string s)) /\ Rf (SV.v (.pointer (some ⟨u, 0, none⟩))) /\ Rf (SV.v (.int .i64 n2)) /\ Rf (SV.v (.string q1)) /\ Rf (SV.v (.int .u8 n5)) /\ Rf (SV.v (.string q2)) /\ Rf (SV.rsl 2 n6) /\ Rf (SV.v (.bool b1)) /\ Rf (SV.v (.slice a1 n1 c1)) /\ Rf (SV.v (.int .i64 (n1 : Int))) /\ Rf (SV.v (.int .i64 n4)) /\ C2 G2 (.pointer (some ⟨u, 0, none⟩)) q1 n5 n3 n4)) (Rf (Ent.mk (.row x3 1 9) none) /\ Rf (SV.v (.slice b m d)) /\ Rf (SV.v (.slice j k o)) /\ Rf (SV.v (.string s)) /\ Rf (SV.v (.pointer (some ⟨u, 0, none⟩))) /\ Rf (SV.v (.int .i64 n2)) /\ Rf (SV.v (.string q1)) /\ Rf (SV.v (.int .u8 n5)) /\ Rf (SV.v (.string q2)) /\ Rf (SV.rsl 2 n6) /\ Rf (SV.v (.bool b1)) /\ Rf (SV.v (.slice a1 n1 c1)) /\ Rf (SV.v (.int .i64 (n1 : Int))) /\ Rf (SV.v (.int .i64 n4)) /\ C2 G2 (.pointer (some ⟨u, 0, none⟩)) q1 n5 n3 n4) /\ ∀ (I6 G3 : Mem), I5.le I6 -> ∀ (n8 : Int), C2 G3 (.pointer (some ⟨u, 0, none⟩)) q1 n5 n8 n4 -> ((16 : Int) ≠ 0 /\ Wr .u8 (n5.tdiv 16) fun c2 => (3 : Int) ≠ 0 /\ Wr .i64 (c2.tmod 3) fun c3 => Ct Tryz.prog (fnv 9) #[.string q2, .int .i64 c3] I6 fun v1 I7 => ∃ q3, v1 = .string q3 /\ ∀ (a2 : Option Addr) (c4 : Nat) (I8 : Mem), I7.le I8 -> RowM I8 a2 c4 1 x3 -> Ct Tryz.prog (fnv 17) #[.slice a2 n6 c4, .string q2] I8 fun v2 x4 => ∃ q4, v2 = .string q4 /\ q3.size + q4.size <= 4611686018427387904 /\ CtH Tryz.prog (fnv 24) #[.pointer (some ⟨u, 0, none⟩), .string (q3 ++ q4)] I7 G3 fun v3 I9 G4 => ∃ n9 x5, v3 = .tuple #[.int .i64 n9, x5] /\ Rf (SV.v (.slice b m d)) /\ Rf (SV.v (.slice j k o)) /\ Rf (SV.v (.string s)) /\ Rf (SV.v (.pointer (some ⟨u, 0, none⟩))) /\ Rf (SV.v (.int .i64 n2)) /\ Rf (SV.v (.int .i64 n8)) /\ Rf (SV.v (.string q1)) /\ Rf (SV.v (.int .u8 n5)) /\ Rf (SV.v (.string q2)) /\ Rf (SV.v (.bool b1)) /\ Rf (SV.v (.slice a1 n1 c1)) /\ Rf (SV.v (.int .i64 (n1 : Int))) /\ Rf (SV.v (.int .i64 n4)) /\ C3 G4 (.pointer (some ⟨u, 0, none⟩)) q1 n5 n4) /\ ∀ (I7 G4 : Mem), I6.le I7 -> C3 G4 (.pointer (some ⟨u, 0, none⟩)) q1 n5 n4 -> Br b1 ((64 : Int) ≠ 0 /\ Wr .u8 (n5.tdiv 64) fun c2 => (2 : Int) ≠ 0 /\ Br (c2.tmod 2 == 0) (CtH Tryz.prog (fnv 24) #[.pointer (some ⟨u, 0, none⟩), .string ⟨#[32]⟩] I7 G4 (fun v1 I8 G5 => ∃ n9 x4, v1 = .tuple #[.int .i64 n9, x4] /\ Wr .i64 (n4 + 1) fun c3 => Rf (SV.v (.slice b m d)) /\ Rf (SV.v (.slice j k o)) /\ Rf (SV.v (.string s)) /\ Rf (SV.v (.pointer (some ⟨u, 0, none⟩))) /\ Rf (SV.v (.slice a1 n1 c1)) /\ Rf (SV.v (.int .i64 (n1 : Int))) /\ LI G5 (.pointer (some ⟨u, 0, none⟩)) n2 n8 c3 /\ Int.toNat ((M : Int) - c3) < Int.toNat ((M : Int) - n4))) ((3 : Int) ≠ 0 /\ Br (n5.tmod 3 == 0) (q2.size + 1 <= 4611686018427387904 /\ ByteArray.size (q2 ++ ⟨#[59]⟩) + q1.size <= 4611686018427387904 /\ ByteArray.size (q2 ++ ⟨#[59]⟩ ++ q1) + 2 <= 4611686018427387904 /\ CtH Tryz.prog (fnv 24) #[.pointer (some ⟨u, 0, none⟩), .string (q2 ++ ⟨#[59]⟩ ++ q1 ++ ⟨#[58, 59]⟩)] I7 G4 fun v1 I8 G5 => ∃ n9 x4, v1 = .tuple #[.int .i64 n9, x4] /\ CtH Tryz.prog (fnv 24) #[.pointer (some ⟨u, 0, none⟩), .string ⟨#[10]⟩] I8 G5 fun v2 I9 G6 => ∃ n10 x5, v2 = .tuple #[.int .i64 n10, x5] /\ Wr .i64 (n2 + 1) fun c3 => Wr .i64 (n4 + 1) fun c4 => Rf (SV.v (.slice b m d)) /\ Rf (SV.v (.slice j k o)) /\ Rf (SV.v (.string s)) /\ Rf (SV.v (.pointer (some ⟨u, 0, none⟩))) /\ Rf (SV.v (.slice a1 n1 c1)) /\ Rf (SV.v (.int .i64 (n1 : Int))) /\ LI G6 (.pointer (some ⟨u, 0, none⟩)) c3 n8 c4 /\ Int.toNat ((M : Int) - c4) < Int.toNat ((M : Int) - n4)) ((3 : Int) ≠ 0 /\ Br (n5.tmod 3 == 1) (CtH Tryz.prog (fnv 24) #[.pointer (some ⟨u, 0, none⟩), .string ⟨#[10, 10, 59, 120]⟩] I7 G4 (fun v1 I8 G5 => ∃ n9 x4, v1 = .tuple #[.int .i64 n9, x4] /\ CtH Tryz.prog (fnv 24) #[.pointer (some ⟨u, 0, none⟩), .string ⟨#[10]⟩] I8 G5 fun v2 I9 G6 => ∃ n10 x5, v2 = .tuple #[.int .i64 n10, x5] /\ Wr .i64 (n2 + 1) fun c3 => Wr .i64 (n4 + 1) fun c4 => Rf (SV.v (.slice b m d)) /\ Rf (SV.v (.slice j k o)) /\ Rf (SV.v (.string s)) /\ Rf (SV.v (.pointer (some ⟨u, 0, none⟩))) /\ Rf (SV.v (.slice a1 n1 c1)) /\ Rf (SV.v (.int .i64 (n1 : Int))) /\ LI G6 (.pointer (some ⟨u, 0, none⟩)) c3 n8 c4 /\ Int.toNat ((M : Int) - c4) < Int.toNat ((M : Int) - n4))) (CtH Tryz.prog (fnv 24) #[.pointer (some ⟨u, 0, none⟩), .string ⟨#[10]⟩] I7 G4 (fun v1 I8 G5 => ∃ n9 x4, v1 = .tuple #[.int .i64 n9, x4] /\ Wr .i64 (n2 + 1) fun c3 => Wr .i64 (n4 + 1) fun c4 => Rf (SV.v (.slice b m d)) /\ Rf (SV.v (.slice j k o)) /\ Rf (SV.v (.string s)) /\ Rf (SV.v (.pointer (some ⟨u, 0, none⟩))) /\ Rf (SV.v (.slice a1 n1 c1)) /\ Rf (SV.v (.int .i64 (n1 : Int))) /\ LI G5 (.pointer (some ⟨u, 0, none⟩)) c3 n8 c4 /\ Int.toNat ((M : Int) - c4) < Int.toNat ((M : Int) - n4)))))) ((3 : Int) ≠ 0 /\ Br (n5.tmod 3 == 0) (q2.size + 1 <= 4611686018427387904 /\ ByteArray.size (q2 ++ ⟨#[59]⟩) + q1.size <= 4611686018427387904 /\ ByteArray.size (q2 ++ ⟨#[59]⟩ ++ q1) + 2 <= 4611686018427387904 /\ CtH Tryz.prog (fnv 24) #[.pointer (some ⟨u, 0, none⟩), .string (q2 ++ ⟨#[59]⟩ ++ q1 ++ ⟨#[58, 59]⟩)] I7 G4 fun v1 I8 G5 => ∃ n9 x4, v1 = .tuple #[.int .i64 n9, x4] /\ CtH Tryz.prog (fnv 24) #[.pointer (some ⟨u, 0, none⟩), .string ⟨#[10]⟩] I8 G5 fun v2 I9 G6 => ∃ n10 x5, v2 = .tuple #[.int .i64 n10, x5] /\ Wr .i64 (n2 + 1) fun c2 => Wr .i64 (n4 + 1) fun c3 => Rf (SV.v (.slice b m d)) /\ Rf (SV.v (.slice j k o)) /\ Rf (SV.v (.string s)) /\ Rf (SV.v (.pointer (some ⟨u, 0, none⟩))) /\ Rf (SV.v (.slice a1 n1 c1)) /\ Rf (SV.v (.int .i64 (n1 : Int))) /\ LI G6 (.pointer (some ⟨u, 0, none⟩)) c2 n8 c3 /\ Int.toNat ((M : Int) - c3) < Int.toNat ((M : Int) - n4)) ((3 : Int) ≠ 0 /\ Br (n5.tmod 3 == 1) (CtH Tryz.prog (fnv 24) #[.pointer (some ⟨u, 0, none⟩), .string ⟨#[10, 10, 59, 120]⟩] I7 G4 (fun v1 I8 G5 => ∃ n9 x4, v1 = .tuple #[.int .i64 n9, x4] /\ CtH Tryz.prog (fnv 24) #[.pointer (some ⟨u, 0, none⟩), .string ⟨#[10]⟩] I8 G5 fun v2 I9 G6 => ∃ n10 x5, v2 = .tuple #[.int .i64 n10, x5] /\ Wr .i64 (n2 + 1) fun c2 => Wr .i64 (n4 + 1) fun c3 => Rf (SV.v (.slice b m d)) /\ Rf (SV.v (.slice j k o)) /\ Rf (SV.v (.string s)) /\ Rf (SV.v (.pointer (some ⟨u, 0, none⟩))) /\ Rf (SV.v (.slice a1 n1 c1)) /\ Rf (SV.v (.int .i64 (n1 : Int))) /\ LI G6 (.pointer (some ⟨u, 0, none⟩)) c2 n8 c3 /\ Int.toNat ((M : Int) - c3) < Int.toNat ((M : Int) - n4))) (CtH Tryz.prog (fnv 24) #[.pointer (some ⟨u, 0, none⟩), .string ⟨#[10]⟩] I7 G4 (fun v1 I8 G5 => ∃ n9 x4, v1 = .tuple #[.int .i64 n9, x4] /\ Wr .i64 (n2 + 1) fun c2 => Wr .i64 (n4 + 1) fun c3 => Rf (SV.v (.slice b m d)) /\ Rf (SV.v (.slice j k o)) /\ Rf (SV.v (.string s)) /\ Rf (SV.v (.pointer (some ⟨u, 0, none⟩))) /\ Rf (SV.v (.slice a1 n1 c1)) /\ Rf (SV.v (.int .i64 (n1 : Int))) /\ LI G5 (.pointer (some ⟨u, 0, none⟩)) c2 n8 c3 /\ Int.toNat ((M : Int) - c3) < Int.toNat ((M : Int) - n4))))))) (CtH Tryz.prog (fnv 23) #[.pointer (some ⟨u, 0, none⟩)] I2 G (fun v1 I3 G1 => ∃ q1, v1 = .string q1 /\ Ct Tryz.prog (fnv 16) #[.string q1] I3 fun v2 I4 => ∃ a2 n5 c2 n6 n7, v2 = .tuple #[.slice a2 n5 c2, .int .i64 n6, .int .i64 n7] /\ CtH Tryz.prog (fnv 23) #[.pointer (some ⟨u, 0, none⟩)] I4 G1 fun v3 I5 G2 => ∃ q2, v3 = .string q2 /\ Ct Tryz.prog (fnv 26) #[.string q2] I5 fun v4 I6 => ∃ a3 n8 c3 n9 n10, v4 = .tuple #[.slice a3 n8 c3, .int .i64 n9, .int .i64 n10] /\ Ct Tryz.prog (fnv 26) #[.string s] I6 fun v5 I7 => ∃ a4 n11 c4 n12 n13, v5 = .tuple #[.slice a4 n11 c4, .int .i64 n12, .int .i64 n13] /\ Wr .i64 (n7 + n10) fun c5 => Wr .i64 (c5 + n13) fun c6 => Br (c6 == 0) (Br (n6 == 0) (Br (n9 == 0) (Ct Tryz.prog (fnv 27) #[.slice j k o, .slice a2 n5 c2] I7 (fun v6 I8 => ∃ b1, v6 = .bool b1 /\ Br b1 (Wr .i64 ((n11 : Int) + n3) (fun c7 => Value.bool ((n8 : Int) == c7) = .bool true)) (Value.bool false = .bool true))) (Value.bool false = .bool true)) (Value.bool false = .bool true)) (Value.bool false = .bool true)))))))) (by kernel_rfl) ?_
 refine (ct11 I hG).mono fun v I1 l1 hv => ⟨_, hv, Br.f rfl ((ct13 l a n c hc I1 (SlR.mono smC_mono h l1)).mono fun v I2 l2 ⟨g, i, j, hv, hip, hio, _⟩ => ⟨g, i, j, hv, ?_⟩)⟩;have okp := hip.ok;have cp := made_right h.ok okp
 have hml : (madeS l).length <= 41 := by rw [madeS, List.length_append, List.length_map, List.length_take]; simp only [List.length_cons, List.length_nil]; omega
 rw [<- hp] at okp cp hip hml
 have cp2 : (checkL p).2 = 0 := by rw [cp]
 have wp : writeA p = (outGo p p 0, 0) := by rw [writeA, if_neg (fun hh => hh cp2)]
 obtain ⟨t1, t2, t3, t4⟩ := text_len okp cp2 hml;rw [<- hO] at t1 t2 t3 t4;have hG2 := hG.mono (Mem.le_trans l1 l2);refine (ct12 p g i j I2 hG2 hip).mono fun v I3 l3 hv => ⟨_, _, hv, ?_⟩;rw [wp]
 dsimp only
 have hG3 := hG2.mono l3
 have hts : (strT (outGo p p 0)).size <= 6001 := by rw [strT_size, t4, List.length_append]; simp only [List.length_cons, List.length_nil]; omega
 have hml2 := hh.len;rw [ints_len, Nat.mul_one] at hml2;refine Br.f rfl (Br.mk (fun _ => rfl) (fun hm0 => ?_))
 have hm0 : m ≠ 0 := fun e => by subst e; simp at hm0
 have hwn : hw ≠ [] := fun e => by subst e; exact hm0 hml2.symm
 have hP := hpl p hw okp cp2 hml;obtain ⟨P1, P2, P3, P4, P5, P6, P7, P8⟩ := hP;rw [<- hO, <- hR] at P1 P4 P6 P7 P8;rw [<- hO] at P2 P3;rw [<- hM] at P1 P4 P6 P7 P8
 have hbs : b.isSome = true := by
  cases b with
  | none => exact absurd (hh.nil rfl) hm0
  | some _ => rfl
 intro u hu _
 refine (ct15 _ (by omega) I3).mono fun v I4 l4 hv => ⟨_, hv, ?_⟩
 rw [tx_strT, t4, trim_nl]
 have hjs : (strT (joinC 10 O)).size <= 6000 := by rw [strT_size]; exact t1
 refine (ct14 _ (by omega) I4 (hG3.mono l4)).mono fun v I5 l5 ⟨L, w, x, hv, hL, hsl⟩ => ⟨w, x, x, hv, ?_⟩
 rw [tx_strT, split_join t2 t3] at hL
 have hxl : M = x := by
  have h1 := hsl.len;have h2 := congrArg List.length hL;simp only [strs, List.length_map] at h1 h2;omega
 subst hxl
 have hM6 : M <= 6002 := by
  have hj2 := join_len 10 O;have := len_sum O;rw [if_neg t2] at hj2;omega
 have hI5 := Mem.le_trans l1 (Mem.le_trans l2 (Mem.le_trans l3 (Mem.le_trans l4 l5)))
 have hR0 : R 0 = ([], 0, 0) := by rw [hR]; rfl
 refine ⟨⟨rfl, rfl, rfl, rfl, rfl, rfl, ?_⟩, fun I6 G l6 at_ ot k hli => ?_⟩
 · rw [hLI]
   exact ⟨u, rfl, .inl ⟨none, .inl rfl, by show (R 0).1 = []; rw [hR0], by simp [addB]⟩, by show (0 : Int) = (R 0).2.1; rw [hR0], by show (0 : Int) = (R 0).2.2; rw [hR0], Int.le_refl _, by omega⟩
 rw [hLI] at hli;obtain ⟨b', hbe, hbx, rfl, rfl, h0, h1⟩ := hli
 obtain rfl : u = b' := by cases hbe; rfl
 refine Br.mk (fun hk => ?_) (fun hk => ?_)
 · have hk := of_decide_eq_true hk
   obtain ⟨K, rfl⟩ : ∃ K : Nat, k = K := ⟨k.toNat, by omega⟩
   have hK : K < M := by omega
   have hbx : BldX G u (R K).1 := hbx
   obtain ⟨q1, hq1⟩ : ∃ q, L[K]? = some q := ⟨_, List.getElem?_eq_getElem (by have := congrArg List.length hL; rw [List.length_map] at this; omega)⟩
   have hO1 : O[K]? = some (tx q1) := by rw [<- hL, List.getElem?_map, hq1]; rfl
   obtain ⟨X, hX⟩ : ∃ X, hw[K % m]? = some X := ⟨_, List.getElem?_eq_getElem (by rw [hml2]; exact Nat.mod_lt _ (by omega))⟩
   have hXr := hb X (List.mem_of_getElem? hX)
   have hstep : R (K + 1) = stepL X (tx q1) (R K) := by rw [hR, runL, hml2, hX, hO1]; rfl
   have htm : ((K : Nat) : Int).tmod (m : Nat) = ((K % m : Nat) : Int) := by rw [Int.tmod_eq_emod_of_nonneg (by omega)]; rfl
   have hml3 : K % m < m := Nat.mod_lt _ (by omega)
   obtain ⟨ln1, ln2⟩ := P2 (tx q1) (List.mem_of_getElem? hO1);have lj := P3 (tx q1) (List.mem_of_getElem? hO1) X;have hG6 := hG3.mono (Mem.le_trans l4 (Mem.le_trans l5 l6));have hF6 := hF.mono (Mem.le_trans hI5 l6);have hX4 : X.tmod 4 = X % 4 := Int.tmod_eq_emod_of_nonneg hXr.1;have hq1s : q1.size = (tx q1).length := Array.length_toList.symm
   have hws : w.isSome = true := by
    cases w with
    | none => have := hsl.nil rfl; omega
    | some _ => rfl
   obtain ⟨F, hFd⟩ : ∃ F, F = Lib.fields (tx q1) := ⟨_, rfl⟩
   have hFl : F.length <= 1000 := by have := sp_len (tx q1); rw [<- hFd] at this; omega
   refine ⟨h0, hk, hws, q1, by rw [show ((K : Nat) : Int).toNat * 1 + 0 = K by simp]; exact atI_le l6 (hsl.at_ K _ (strs_get hq1)), by omega, by rw [htm]; omega, by rw [htm]; omega, hbs, X, by rw [htm, show ((K % m : Nat) : Int).toNat * 1 + 0 = K % m by rw [Int.toNat_natCast]; omega]; exact atI_le (Mem.le_trans hI5 l6) (hh.at_ (K % m) _ (ints_get hX)), by decide, by omega, by omega, strT (blankT X), blank_at X hXr.1, ?_⟩
   refine (cts_new (args := [.string q1]) (n := F.length) Nat.zero_lt_one (by simp [strs, hFd]) (ct20 q1 (by omega) ln2 I6 hF6)).mono fun s1 H I7 l7 ⟨hs1, hH⟩ => ⟨_, _, hs1, hH, ⟨rfl, rfl, rfl, rfl, rfl, rfl, rfl, rfl, rfl, rfl, rfl, rfl, rfl, rfl, rfl, rfl, rfl, ?_, u, rfl, hbx⟩, fun I8 G8 l8 xs i hi => ?_⟩
   · rw [hWI]
     exact ⟨Int.le_refl _, by omega, by simp⟩
   obtain ⟨hi, b', hbe, hbx8⟩ := hi
   obtain rfl : u = b' := by cases hbe; rfl
   have hbx8 : BldX G8 u (R K).1 := hbx8;rw [hWI] at hi;obtain ⟨i0, i1, rfl⟩ := hi;rw [<- hFd] at i1 ⊢
   have hxsl : (strs ((((F.take i.toNat).map renT) ++ F.drop i.toNat).map strT)).length = F.length := by
    simp only [strs, List.length_map, List.length_append, List.length_take, List.length_drop]; omega
   refine Br.mk (fun hi => ?_) (fun hi => ⟨?_, fun I9 G9 l9 xs9 lb hc1 => ?_⟩)
   · have hi := of_decide_eq_true hi
     obtain ⟨wd, hwd⟩ : ∃ wd, F[i.toNat]? = some wd := ⟨_, List.getElem?_eq_getElem (by omega)⟩
     have hat : (((F.take i.toNat).map renT) ++ F.drop i.toNat)[i.toNat]? = some wd := by
      rw [List.getElem?_append_right (by simp only [List.length_map, List.length_take]; omega)]
      simp only [List.length_map, List.length_take, List.getElem?_drop]
      rw [show i.toNat + (i.toNat - min i.toNat F.length) = i.toNat by omega]
      exact hwd
     have hwl : wd.length <= 1000 /\ ∀ b ∈ wd, b.toNat < 128 := by
      obtain ⟨g1, g2⟩ := fieldsGo_mem (tx q1) [] wd (by have := List.mem_of_getElem? hwd; rw [hFd] at this; exact this)
      exact ⟨by simp at g1; omega, fun b hb => ln2 b (by have := g2 b hb; simpa using this)⟩
     refine ⟨i0, hi, by omega, strT wd, by rw [Nat.mul_one, Nat.add_zero]; exact strs_get (by rw [List.getElem?_map, hat]; rfl), (ct21 (strT wd) (by rw [strT_size]; omega) (by rw [tx_strT]; exact hwl.2) I8).mono fun v I9 l9 hv => ⟨_, hv, ?_⟩⟩
     rw [tx_strT]
     refine Br.mk (fun ht => ⟨by rw [strT_size]; omega, i0, hi, by omega, by omega, Nat.zero_lt_one, wr_i64 (by omega) (by omega) ⟨rfl, rfl, rfl, rfl, rfl, rfl, rfl, rfl, rfl, rfl, rfl, rfl, rfl, rfl, rfl, rfl, rfl, ⟨?_, u, rfl, hbx8⟩, ?_⟩⟩) (fun ht => wr_i64 (by omega) (by omega) ⟨rfl, rfl, rfl, rfl, rfl, rfl, rfl, rfl, rfl, rfl, rfl, rfl, rfl, rfl, rfl, rfl, rfl, ⟨?_, u, rfl, hbx8⟩, ?_⟩)
     · rw [hWI]
       refine ⟨by omega, by rw [<- hFd]; omega, ?_⟩
       rw [<- hFd, show (i + 1).toNat = i.toNat + 1 by omega, List.take_add_one, hwd]
       have hd : F.drop i.toNat = wd :: F.drop (i.toNat + 1) := by
        obtain ⟨hl, hg⟩ := List.getElem?_eq_some_iff.1 hwd;rw [List.drop_eq_getElem_cons hl, hg]
       have hr : renT wd = [110, 97, 109, 101, 95] ++ wd := by rw [renT, ht]; rfl
       have hn : (⟨#[110, 97, 109, 101, 95]⟩ : ByteArray) ++ strT wd = strT ([110, 97, 109, 101, 95] ++ wd) := by simp [strT]; rfl
       have hlen : ((F.take i.toNat).map (fun w => Value.string (strT (renT w)))).length = i.toNat := by simp only [List.length_map, List.length_take]; omega
       rw [hd, hn];simp only [strs, List.map_append, List.map_map, List.map_cons, List.map_nil, Option.toList_some, hr, splice, Nat.mul_one, Function.comp_def]
       rw [List.set_append_right _ _ (by rw [hlen]; exact Nat.le_refl _), hlen, Nat.sub_self]
       simp [hr]
     · simp only [splice, List.length_set, hxsl]; omega
     · rw [hWI]
       refine ⟨by omega, by rw [<- hFd]; omega, ?_⟩
       rw [<- hFd, show (i + 1).toNat = i.toNat + 1 by omega, List.take_add_one, hwd]
       have hd : F.drop i.toNat = wd :: F.drop (i.toNat + 1) := by
        obtain ⟨hl, hg⟩ := List.getElem?_eq_some_iff.1 hwd;rw [List.drop_eq_getElem_cons hl, hg]
       have hr : renT wd = wd := by rw [renT, ht]; rfl
       rw [hd];simp [hr]
     · rw [hxsl]; omega
   · have hi := of_decide_eq_false hi
     have e1 : (((F.take i.toNat).map renT) ++ F.drop i.toNat) = wordsL (tx q1) := by
      rw [List.take_of_length_le (by omega), List.drop_of_length_le (by omega), List.append_nil, wordsL, <- hFd]
     have wl : (wordsL (tx q1)).length = F.length := by rw [wordsL, List.length_map, <- hFd]
     rw [e1];refine Br.mk (fun h1 => ?_) (fun h1 => ⟨rfl, rfl, rfl, rfl, rfl, rfl, rfl, rfl, rfl, rfl, rfl, rfl, rfl, ?_⟩)
     · have h1 : F.length = 1 := by
        have : (F.length : Int) = 1 := by simpa using h1
        omega
       obtain ⟨w1, hw1⟩ : ∃ w1, wordsL (tx q1) = [w1] := List.length_eq_one_iff.1 (by omega)
       rw [hw1]
       refine ⟨Int.le_refl _, by omega, by simp [strs, h1], strT w1, rfl, (ct22c (strT w1) ⟨#[58]⟩ (by
        rw [strT_size];have : (Lib.join (wordsL (tx q1)) (blankT X)).length <= 10000 := lj;rw [hw1] at this;simp [Lib.join] at this
        omega) I8).mono fun v I9 l9 hv => ⟨_, hv, rfl, rfl, rfl, rfl, rfl, rfl, rfl, rfl, rfl, rfl, rfl, rfl, rfl, ?_⟩⟩
       rw [hC1]
       exact ⟨u, rfl, hbx8, by rw [hw1, isLab]; rfl, by rw [hw1]⟩
     · have h1 : F.length ≠ 1 := fun e => by rw [e] at h1; simp at h1
       rw [hC1];refine ⟨u, rfl, hbx8, ?_, rfl⟩;unfold isLab;split
       · rename_i w1 e
         rw [e] at wl;exact absurd wl.symm h1
       · rfl
   rw [hC1] at hc1;obtain ⟨b', hbe, hbx9, rfl, rfl⟩ := hc1
   obtain rfl : u = b' := by cases hbe; rfl
   have hbx9 : BldX G9 u (R K).1 := hbx9;have hX4d : X.tdiv 4 = X / 4 := Int.tdiv_eq_ediv_of_nonneg hXr.1;have hG9 := hG6.mono (Mem.le_trans l7 (Mem.le_trans l8 l9))
   obtain ⟨a1, a2, a3, a4⟩ := P8 K (by omega)
   have p1K := P1 K (by omega)
   have hm1n : ∀ G', addO X (isLab (wordsL (tx q1))) (R K).1 = false -> BldX G' u (R K).1 -> C2 G' (.pointer (some ⟨u, 0, none⟩)) q1 X (R K).2.2 K := fun G' h hb => by
    rw [hC2]
    exact ⟨u, rfl, by show BldX G' u (mid1 X (tx q1) (R K)).1; rw [mid1, h]; exact hb, by show _ = (mid1 X (tx q1) (R K)).2; rw [mid1, h]; rfl⟩
   refine ⟨?_, fun I10 G10 l10 ot hc2 => ?_⟩
   · have hX44 : (X / 4).tmod 4 = X / 4 % 4 := Int.tmod_eq_emod_of_nonneg (by omega)
     refine Br.mk (fun hlb => ⟨by decide, wr_u8 (by omega) (by omega) ⟨by decide, Br.mk (fun hx4 => ?_) (fun hx4 => ⟨rfl, rfl, rfl, rfl, rfl, rfl, rfl, rfl, rfl, rfl, rfl, rfl, rfl, rfl, hm1n _ (by
      have hx4 : ¬ X / 4 % 4 = 0 := fun e => by rw [hX4d, hX44, e] at hx4; simp at hx4
      rw [addO, decide_eq_false hx4]; simp) hbx9⟩)⟩⟩) (fun hlb => ⟨rfl, rfl, rfl, rfl, rfl, rfl, rfl, rfl, rfl, rfl, rfl, rfl, rfl, rfl, hm1n _ (by rw [addO, hlb]; rfl) hbx9⟩)
     have hx4 : X / 4 % 4 = 0 := by
      have : ((X / 4).tmod 4 : Int) = 0 := by rw [hX4d] at hx4; simpa using hx4
      omega
     refine (ch23X G9 u _ I9 hbx9).mono fun v I10 G10 l10 ⟨hv, hb10⟩ => ⟨_, hv, (ct22c _ _ (by rw [strT_size]; omega) I10).mono fun v I11 l11 hv => ⟨_, hv, ?_⟩⟩
     rw [tx_strT]
     have hadd : addO X (isLab (wordsL (tx q1))) (R K).1 = !Lib.hasSuffix (R K).1 [58, 32] := by
      rw [addO, hlb, decide_eq_true hx4, Bool.true_and, Bool.true_and]
     refine Br.mk (fun hs => ?_) (fun hs => ⟨rfl, rfl, rfl, rfl, rfl, rfl, rfl, rfl, rfl, rfl, rfl, rfl, rfl, rfl, hm1n _ (by rw [hadd]; exact hs) hb10⟩)
     have hadd : addO X (isLab (wordsL (tx q1))) (R K).1 = true := by rw [hadd]; exact hs
     rw [show ((K : Nat) : Int).toNat = K from rfl]
     have hil := itoa_len (n := (R K).2.1) ⟨by omega, by omega⟩
     have hbl := blank_len X hXr.1
     refine (ct25 _ ⟨by omega, by omega⟩ I11 (hG9.mono (Mem.le_trans l10 l11))).mono fun v I12 l12 hv => ⟨_, hv, ?_⟩
     obtain ⟨T, hT⟩ : ∃ T, T = (⟨#[111, 116, 104, 101, 114]⟩ : ByteArray) ++ strT (Lib.itoa (R K).2.1) ++ ⟨#[58]⟩ ++ strT (blankT X) := ⟨_, rfl⟩
     have hTt : tx T = otherT (R K).2.1 ++ blankT X := by rw [hT]; simp [tx, strT, otherT]
     have hTs : T.size = (tx T).length := Array.length_toList.symm
     have hTl : T.size <= 40 := by rw [hTs, hTt, otherT]; simp only [List.length_append, List.length_cons, List.length_nil]; omega
     rw [<- hT];simp only [ByteArray.size_append, strT_size, lit_size, List.length_cons, List.length_nil]
     refine ⟨by omega, by omega, by omega, (ch24X G10 u _ T (by omega) I12 hb10).mono fun v I13 G13 l13 ⟨hv, hb13⟩ => ⟨_, _, hv, wr_i64 (by omega) (by omega) ⟨trivial, trivial, trivial, trivial, trivial, trivial, trivial, trivial, trivial, trivial, trivial, trivial, trivial, trivial, ?_⟩⟩⟩
     rw [hC2];refine ⟨u, rfl, ?_, ?_⟩
     · show BldX G13 u (mid1 X (tx q1) (R K)).1
       rw [mid1, hadd, if_pos rfl, List.append_assoc, <- hTt]; exact hb13
     · show _ = (mid1 X (tx q1) (R K)).2
       rw [mid1, hadd]; rfl
   rw [hC2] at hc2;obtain ⟨b', hbe, hbx10, rfl⟩ := hc2
   obtain rfl : u = b' := by cases hbe; rfl
   have hbx10 : BldX G10 u (mid1 X (tx q1) (R K)).1 := hbx10
   have hm1l := mid1_len (x := X) (tx q1) (s := R K) hXr.1 ⟨by omega, by omega⟩
   have hwl : ((wordsL (tx q1)).map strT).length = F.length := by rw [List.length_map, wordsL, List.length_map, <- hFd]
   have hwm : ((wordsL (tx q1)).map strT).map tx = wordsL (tx q1) := by
    rw [List.map_map]; exact (List.map_congr_left fun x _ => tx_strT x).trans (List.map_id _)
   have hX16 : X.tdiv 16 = X / 16 := Int.tdiv_eq_ediv_of_nonneg hXr.1
   have hX163 : (X / 16).tmod 3 = X / 16 % 3 := Int.tmod_eq_emod_of_nonneg (by omega)
   have hX64 : X.tdiv 64 = X / 64 := Int.tdiv_eq_ediv_of_nonneg hXr.1
   have hX642 : (X / 64).tmod 2 = X / 64 % 2 := Int.tmod_eq_emod_of_nonneg (by omega)
   have hX3 : X.tmod 3 = X % 3 := Int.tmod_eq_emod_of_nonneg hXr.1;have hbl := blank_len X hXr.1
   have hrl : (Lib.repeatL (blankT X) (X / 16 % 3).toNat).length <= 6 := by
    rw [Lib.repeatL_length]
    exact Nat.le_trans (Nat.mul_le_mul (show (X / 16 % 3).toNat <= 2 by omega) hbl) (Nat.le_refl _)
   have hm2l : (mid2 X (tx q1) (R K)).length <= 120000 := by
    unfold mid2;simp only [List.length_append, joinL];omega
   refine ⟨⟨by decide, wr_u8 (by rw [hX16]; omega) (by rw [hX16]; omega) ⟨by decide, wr_i64 (by rw [hX16, hX163]; omega) (by rw [hX16, hX163]; omega) ?_⟩⟩, fun I11 G11 l11 hc3 => ?_⟩
   · rw [hX16, hX163]
     refine (ct9 (strT (blankT X)) (X / 16 % 3) (by omega) (by rw [tx_strT]; rw [Lib.repeatL_length, Nat.mul_comm] at hrl; omega) (by omega) I10).mono fun v I11 l11 hv => ⟨_, hv, fun a2 c4 I12 l12 hrow => ?_⟩
     have hj := ct17s (strT (blankT X)) ((wordsL (tx q1)).map strT) a2 c4 I12 hrow (by rw [hwm, tx_strT]; omega) (by rw [hwl]; omega)
     rw [hwl, hwm, tx_strT] at hj;refine hj.mono fun v I13 l13 hv => ⟨_, hv, ?_⟩;rw [tx_strT]
     have htt : tx (strT (Lib.repeatL (blankT X) (X / 16 % 3).toNat) ++ strT (Lib.join (wordsL (tx q1)) (blankT X))) = Lib.repeatL (blankT X) (X / 16 % 3).toNat ++ Lib.join (wordsL (tx q1)) (blankT X) := by simp [tx, strT]
     refine ⟨by rw [strT_size, strT_size]; omega, (ch24X G10 u _ _ (by rw [ByteArray.size_append, strT_size, strT_size]; omega) I11 hbx10).mono fun v I14 G14 l14 ⟨hv, hb14⟩ => ⟨_, _, hv, rfl, rfl, rfl, rfl, rfl, rfl, rfl, rfl, rfl, rfl, rfl, rfl, rfl, ?_⟩⟩
     rw [hC3];refine ⟨u, rfl, ?_⟩
     show BldX G14 u (mid2 X (tx q1) (R K))
     rw [htt] at hb14
     rw [mid2, joinL, List.append_assoc]; exact hb14
   rw [hC3] at hc3;obtain ⟨b', hbe, hbx11⟩ := hc3
   obtain rfl : u = b' := by cases hbe; rfl
   have hbx11 : BldX G11 u (mid2 X (tx q1) (R K)) := hbx11
   have hK1 : ((K : Int) + 1).toNat = K + 1 := by omega
   have hfin : ∀ {t : Tx} {I12 G12 : Mem} {Q : Value -> Mem -> Mem -> Prop}, R (K + 1) = (mid2 X (tx q1) (R K) ++ t ++ [10], (R K).2.1 + 1, (mid1 X (tx q1) (R K)).2) -> t.length <= 100000 -> BldX G12 u (mid2 X (tx q1) (R K) ++ t) -> (∀ v I' G', v = .tuple #[.int .i64 1, .nilIface] -> LI G' (.pointer (some ⟨u, 0, none⟩)) ((R K).2.1 + 1) (mid1 X (tx q1) (R K)).2 (K + 1) -> Q v I' G') -> CtH Tryz.prog (fnv 24) #[.pointer (some ⟨u, 0, none⟩), .string ⟨#[10]⟩] I12 G12 Q := fun {t I12 G12 Q} hs ht hb hQ => (ch24X G12 u _ ⟨#[10]⟩ (by rw [List.length_append, lit_size [10]]; simp only [List.length_cons, List.length_nil]; omega) I12 hb).mono fun v I13 G13 l13 ⟨hv, hb13⟩ => hQ v I13 G13 hv (by
    rw [hLI]
    exact ⟨u, rfl, by rw [hK1, hs]; exact hb13, by rw [hK1, hs], by rw [hK1, hs], by omega, by omega⟩)
   have hn1 : isLab (wordsL (tx q1)) = false -> (isLab (wordsL (tx q1)) && decide (X / 64 % 2 = 0)) = false := fun h => by rw [h]; rfl
   have hn2 : ((X.tdiv 64).tmod 2 == 0) = false -> (isLab (wordsL (tx q1)) && decide (X / 64 % 2 = 0)) = false := fun h => by
    have h64 : ¬ X / 64 % 2 = 0 := fun e => by rw [hX64, hX642, e] at h; simp at h
    rw [decide_eq_false h64, Bool.and_false]
   refine Br.mk (fun hlb => ⟨by decide, wr_u8 (by rw [hX64]; omega) (by rw [hX64]; omega) ⟨by decide, Br.mk (fun h64 => ?_) (fun h64 => ?_)⟩⟩) (fun hlb => ?_)
   · have h64 : X / 64 % 2 = 0 := by rw [hX64, hX642] at h64; simpa using h64
     have hs : R (K + 1) = (mid2 X (tx q1) (R K) ++ [32], (R K).2.1, (mid1 X (tx q1) (R K)).2) := by rw [hstep, stepL, hlb, decide_eq_true h64]; rfl
     refine (ch24X G11 u _ ⟨#[32]⟩ (by rw [lit_size [32]]; simp only [List.length_cons, List.length_nil]; omega) I11 hbx11).mono fun v I12 G12 l12 ⟨hv, hb12⟩ => ⟨_, _, hv, wr_i64 (by omega) (by omega) ⟨rfl, rfl, rfl, rfl, rfl, rfl, ?_, by omega⟩⟩
     rw [hLI]
     exact ⟨u, rfl, by rw [hK1, hs]; exact hb12, by rw [hK1, hs]; rfl, by rw [hK1, hs]; rfl, by omega, by omega⟩
   all_goals
    have hnc : (isLab (wordsL (tx q1)) && decide (X / 64 % 2 = 0)) = false := by first | exact hn1 hlb | exact hn2 h64
    have hs : R (K + 1) = (mid2 X (tx q1) (R K) ++ tailT X (tx q1) ++ [10], (R K).2.1 + 1, (mid1 X (tx q1) (R K)).2) := by rw [hstep, stepL, hnc]; rfl
    refine ⟨by decide, Br.mk (fun h3 => ?_) (fun h3 => ⟨by decide, Br.mk (fun h31 => ?_) (fun h31 => ?_)⟩)⟩
    · have h3 : X % 3 = 0 := by rw [hX3] at h3; simpa using h3
      have ht : tailT X (tx q1) = blankT X ++ [59] ++ tx q1 ++ [58, 59] := by rw [tailT, if_pos h3]
      have htx : tx (strT (blankT X) ++ ⟨#[59]⟩ ++ q1 ++ ⟨#[58, 59]⟩) = tailT X (tx q1) := by rw [ht]; simp [tx, strT]
      rw [ht] at hs
      have hl1 : (strT (blankT X) ++ ⟨#[59]⟩ : ByteArray).size <= 10 := by rw [ByteArray.size_append, strT_size, lit_size [59]]; simp only [List.length_cons, List.length_nil]; omega
      have hl2 : (strT (blankT X) ++ ⟨#[59]⟩ ++ q1 : ByteArray).size <= 1010 := by rw [ByteArray.size_append]; omega
      refine ⟨by rw [strT_size]; omega, by omega, by omega, (ch24X G11 u _ _ (by rw [ByteArray.size_append, lit_size [58, 59]]; simp only [List.length_cons, List.length_nil]; omega) I11 hbx11).mono fun v I12 G12 l12 ⟨hv, hb12⟩ => ⟨_, _, hv, hfin hs (by simp only [List.length_append, List.length_cons, List.length_nil]; omega) (by rw [htx, ht] at hb12; exact hb12) fun v I' G' hv hli => ⟨_, _, hv, wr_i64 (by show _ <= (R K).2.1 + 1; omega) (by show (R K).2.1 + 1 <= _; omega) (wr_i64 (by omega) (by omega) ⟨rfl, rfl, rfl, rfl, rfl, rfl, hli, by omega⟩)⟩⟩⟩
    · have h31 : X % 3 = 1 := by rw [hX3] at h31; simpa using h31
      have ht : tailT X (tx q1) = [10, 10, 59, 120] := by rw [tailT, if_neg (by omega), if_pos h31]
      rw [ht] at hs
      refine (ch24X G11 u _ ⟨#[10, 10, 59, 120]⟩ (by rw [lit_size [10, 10, 59, 120]]; simp only [List.length_cons, List.length_nil]; omega) I11 hbx11).mono fun v I12 G12 l12 ⟨hv, hb12⟩ => ⟨_, _, hv, hfin hs (by simp only [List.length_cons, List.length_nil]; omega) hb12 fun v I' G' hv hli => ⟨_, _, hv, wr_i64 (by show _ <= (R K).2.1 + 1; omega) (by show (R K).2.1 + 1 <= _; omega) (wr_i64 (by omega) (by omega) ⟨rfl, rfl, rfl, rfl, rfl, rfl, hli, by omega⟩)⟩⟩
    · have h3 : ¬ X % 3 = 0 := fun e => by rw [hX3, e] at h3; simp at h3
      have h31 : ¬ X % 3 = 1 := fun e => by rw [hX3, e] at h31; simp at h31
      have ht : tailT X (tx q1) = [] := by rw [tailT, if_neg h3, if_neg h31]
      rw [ht] at hs
      exact hfin hs (Nat.zero_le _) (by rw [List.append_nil]; exact hbx11) fun v I' G' hv hli => ⟨_, _, hv, wr_i64 (by show _ <= (R K).2.1 + 1; omega) (by show (R K).2.1 + 1 <= _; omega) (wr_i64 (by omega) (by omega) ⟨rfl, rfl, rfl, rfl, rfl, rfl, hli, by omega⟩)⟩
 · have hk := of_decide_eq_false hk
   have hke : k.toNat = M := by omega
   rw [hke] at hbx ⊢;have hG6 := hG3.mono (Mem.le_trans l4 (Mem.le_trans l5 l6));have PM := P1 M (Nat.le_refl _);obtain ⟨_, _, pa3, pa4⟩ := P8 M (Nat.le_refl _)
   refine (ch23X G u _ I6 hbx).mono fun v I7 G7 l7 ⟨hv, hb7⟩ => ⟨_, hv, (ct16 _ (by rw [strT_size]; omega) I7 (hG6.mono l7)).mono fun v I8 l8 hv => ?_⟩
   rw [tx_strT, P4] at hv;obtain ⟨a8, n8, c8, hv, hi8, _, _⟩ := hv
   refine ⟨a8, n8, c8, 0, 0, hv, (ch23X G7 u _ I8 hb7).mono fun v I9 G9 l9 ⟨hv, hb9⟩ => ⟨_, hv, (ct26 _ (by rw [strT_size]; omega) I9 (hG6.mono (Mem.le_trans l7 (Mem.le_trans l8 l9)))).mono fun v I10 l10 hv => ?_⟩⟩
   rw [tx_strT] at hv;obtain ⟨a10, n10, c10, hv, hs10, hn10, _, _⟩ := hv;rw [P6] at hv
   refine ⟨a10, n10, c10, 0, 0, hv, (ct26 _ (by rw [<- t4]; omega) I10 (hG6.mono (Mem.le_trans l7 (Mem.le_trans l8 (Mem.le_trans l9 l10))))).mono fun v I11 l11 hv => ?_⟩
   rw [tx_strT] at hv;obtain ⟨a11, n11, c11, hv, hs11, hn11, _, _⟩ := hv;rw [<- t4] at hv hs11 hn11;rw [P5] at hv;have hmx : n11 <= maxLen := hs11.max
   have hmx2 : maxLen <= 9223372036854775807 := by decide
   have hi9 := SlR.mono insC_mono hip (Mem.le_trans l3 (Mem.le_trans l4 (Mem.le_trans l5 (Mem.le_trans l6 (Mem.le_trans l7 (Mem.le_trans l8 (Mem.le_trans l9 (Mem.le_trans l10 l11))))))))
   refine ⟨a11, n11, c11, 0, 0, hv, wr_i64 (by decide) (by decide) (wr_i64 (by decide) (by decide) (Br.t rfl (Br.t rfl (Br.t rfl ((ct27 p p g a8 i n8 j c8 I11 hi9 (SlR.mono insC_mono hi8 (Mem.le_trans l9 (Mem.le_trans l10 l11)))).mono fun v I12 l12 hv => ⟨_, hv, Br.t (by simp) (wr_i64 (by omega) (by omega) ?_)⟩)))))⟩
   rw [hn10, P7, <- hn11]
   simp
theorem step_at (x : Int) (line : Tx) (s : Tx × Int × Int) : s.2.1 <= (stepL x line s).2.1 /\ (stepL x line s).2.1 <= s.2.1 + 1 /\ s.2.2 <= (stepL x line s).2.2 /\ (stepL x line s).2.2 <= s.2.2 + 1 := by
 have h1 : s.2.2 <= (mid1 x line s).2 /\ (mid1 x line s).2 <= s.2.2 + 1 := by
  unfold mid1;split
  · simp only; omega
  · simp only; omega
 unfold stepL;split
 · simp only; omega
 · simp only; omega
theorem run_at (O : List Tx) (how : List Int) : ∀ K : Nat, 0 <= (runL O how K).2.1 /\ (runL O how K).2.1 <= K /\ 0 <= (runL O how K).2.2 /\ (runL O how K).2.2 <= K
 | 0 => ⟨Int.le_refl _, Int.le_refl _, Int.le_refl _, Int.le_refl _⟩
 | K + 1 => by
   have h := run_at O how K;have h2 := step_at ((how[K % how.length]?).getD 0) ((O[K]?).getD []) (runL O how K);rw [runL];omega
theorem fields_sum : ∀ (l cur : Tx), ((Lib.fieldsGo cur l).map List.length).sum + (Lib.fieldsGo cur l).length <= cur.length + l.length + 1
 | [], cur => by
   rw [Lib.fieldsGo]
   split <;> simp
 | b :: l, cur => by
   have h1 := fields_sum l [];have h2 := fields_sum l (cur ++ [b]);rw [Lib.fieldsGo];simp only [List.length_append, List.length_cons, List.length_nil] at h1 h2 ⊢;split
   · split
     · omega
     · simp only [List.map_cons, List.sum_cons, List.length_cons]; omega
   · omega
theorem join_sum (sep : Tx) : ∀ ws : List Tx, (Lib.join ws sep).length <= (ws.map List.length).sum + ws.length * sep.length
 | [] => by simp [Lib.join, List.intercalate]
 | [w] => by rw [join_one]; simp
 | w :: y :: r => by
   have := join_sum sep (y :: r);rw [join_cons];simp only [List.length_append, List.map_cons, List.sum_cons, List.length_cons, Nat.succ_mul] at this ⊢;omega
theorem ren_sum : ∀ ws : List Tx, ((ws.map renT).map List.length).sum <= (ws.map List.length).sum + 5 * ws.length
 | [] => by simp
 | w :: r => by
   have := ren_sum r
   have h : (renT w).length <= w.length + 5 := by
    rw [renT]; split
    · simp
    · omega
   simp only [List.map_cons, List.sum_cons, List.length_cons] at this ⊢;omega
theorem words_join (x : Tx) (y : Int) : (Lib.join (wordsL x) (blankT y)).length <= 8 * x.length + 1 := by
 have h1 := fields_sum x [];have h2 := ren_sum (Lib.fields x);have h3 := join_sum (blankT y) (wordsL x);have h4 := (blank_ok y).2.2;have h5 := sp_len x;have h6 : (wordsL x).length * (blankT y).length <= (wordsL x).length * 3 := Nat.mul_le_mul_left _ h4
 have h7 : (wordsL x).length = (Lib.fields x).length := by rw [wordsL, List.length_map]
 rw [wordsL] at h3 h6 h7 ⊢;rw [Lib.fields] at *;simp only [List.length_nil] at h1;rw [h7] at h3 h6;omega
theorem step_len (x : Int) (line : Tx) (s : Tx × Int × Int) (h : i64N s.2.1) : (stepL x line s).1.length <= s.1.length + 9 * line.length + 45 := by
 have h1 : (mid1 x line s).1.length <= s.1.length + 30 := by
  unfold mid1;split
  · have := itoa_len h
    have := (blank_ok x).2.2;simp only [otherT, List.length_append, List.length_cons, List.length_nil];omega
  · simp only; omega
 have h2 : (mid2 x line s).length <= s.1.length + 30 + 6 + (8 * line.length + 1) := by
  have := words_join line x;have h3 := (rep_ok x).2;rw [repT] at h3;unfold mid2;simp only [List.length_append, joinL];omega
 have h3 : (tailT x line).length <= line.length + 6 := by
  have := (blank_ok x).2.2;unfold tailT;split
  · simp only [List.length_append, List.length_cons, List.length_nil]; omega
  · split
    · simp
    · simp
 unfold stepL;split
 · simp only [List.length_append, List.length_cons, List.length_nil]; omega
 · simp only [List.length_append, List.length_cons, List.length_nil]; omega
theorem run_len (O : List Tx) (how : List Int) : ∀ K : Nat, K <= 1000 -> (runL O how K).1.length <= 9 * ((O.take K).map List.length).sum + 45 * K
 | 0, _ => Nat.zero_le _
 | K + 1, hK => by
   have h := run_len O how K (by omega)
   have ha := run_at O how K
   have h2 := step_len ((how[K % how.length]?).getD 0) ((O[K]?).getD []) (runL O how K) ⟨by omega, by omega⟩
   rw [runL, List.take_add_one]
   cases hq : O[K]? with
   | none =>
     rw [hq] at h2;simp only [Option.getD_none, List.length_nil, Option.toList_none, List.append_nil] at h2 ⊢;omega
   | some w =>
     rw [hq] at h2;simp only [Option.getD_some, Option.toList_some, List.map_append, List.sum_append, List.map_cons, List.map_nil, List.sum_cons, List.sum_nil] at h2 ⊢;omega
theorem sum_take (O : List Tx) (K : Nat) : ((O.take K).map List.length).sum <= (O.map List.length).sum := by
 conv => rhs; rw [<- List.take_append_drop K O]
 rw [List.map_append, List.sum_append];exact Nat.le_add_right _ _
theorem sum_one (O : List Tx) : (O.map (fun w => w.length + 1)).sum = (O.map List.length).sum + O.length := by
 induction O with
 | nil => rfl
 | cons w r ih => simp only [List.map_cons, List.sum_cons, List.length_cons, ih]; omega
theorem out_mem (p : List Ins) : ∀ (l : List Ins) (k : Nat), ∀ x ∈ outLines p l k, (∃ j : Nat, j < k + l.length /\ x = lab j ++ [58]) \/ ∃ i ∈ l, x = insL i
 | [], k, x, h => by cases h
 | i :: l, k, x, h => by
   rw [outLines] at h
   rcases List.mem_append.1 h with h | h
   · split at h
     · rw [List.mem_singleton.1 h]
       exact .inl ⟨k, by simp only [List.length_cons]; omega, rfl⟩
     · cases h
   · rcases List.mem_cons.1 h with rfl | h
     · exact .inr ⟨i, by simp, rfl⟩
     · rcases out_mem p l (k + 1) x h with ⟨j, h1, h2⟩ | ⟨j, h1, h2⟩
       · exact .inl ⟨j, by simp only [List.length_cons]; omega, h2⟩
       · exact .inr ⟨j, List.mem_cons_of_mem _ h1, h2⟩
theorem joinC_mem {c d : UInt8} : ∀ ws : List Tx, c ∈ joinC d ws -> c = d \/ ∃ w ∈ ws, c ∈ w
 | [], h => by cases h
 | [w], h => by rw [joinC] at h; exact .inr ⟨w, by simp, h⟩
 | w :: y :: r, h => by
   rw [joinC] at h
   rcases List.mem_append.1 h with h | h
   · exact .inr ⟨w, by simp, h⟩
   · rcases List.mem_cons.1 h with h | h
     · exact .inl h
     · rcases joinC_mem (y :: r) h with h | ⟨z, h1, h2⟩
       · exact .inl h
       · exact .inr ⟨z, List.mem_cons_of_mem _ h1, h2⟩
theorem wC.asc {c : UInt8} (h : wC c) : c.toNat < 128 := by have := h.2.1; omega
theorem line_ok {p : List Ins} (hall : ∀ i ∈ p, okI i /\ oneE i = 0) (h41 : p.length <= 41) : ∀ x ∈ outLines p p 0, x.length <= 1000 /\ ∀ b ∈ x, b.toNat < 128 := fun x hx => by
 rcases out_mem p p 0 x hx with ⟨j, hj, rfl⟩ | ⟨i, hi, rfl⟩
 · refine ⟨?_, fun b hb => ?_⟩
   · have := itoa_len (n := (j : Int)) ⟨by omega, by omega⟩
     simp only [lab, List.length_append, List.length_cons, List.length_nil]; omega
   · rcases List.mem_append.1 hb with hb | hb
     · exact (lab_wC _ b hb).asc
     · rw [List.mem_singleton.1 hb]; decide
 · refine ⟨?_, fun b hb => ?_⟩
   · have := insT_len (hall i hi).1
     rw [insT_eq, List.length_append] at this;omega
   · rw [insL] at hb
     rcases List.mem_append.1 hb with hb | hb
     · simp only [List.mem_cons, List.not_mem_nil, or_false] at hb
       rcases hb with rfl | rfl <;> decide
     · rcases joinC_mem _ hb with rfl | ⟨w, h1, h2⟩
       · decide
       · exact ((ins_wC (hall i hi).1 (hall i hi).2 w h1).1 b h2).asc
theorem run_inv {p : List Ins} (hw : List Int) (hall : ∀ i ∈ p, okI i /\ oneE i = 0) (h41 : p.length <= 41) {O : List Tx} (hO : O.length <= 100) : ∀ (l : List Ins) (k K : Nat), p.drop k = l -> O.drop K = outLines p l k -> k + l.length = p.length -> K + (outLines p l k).length = O.length -> InvT p k (runL O hw K) -> InvT p p.length (runL O hw O.length)
 | [], k, K, h1, h2, h3, h4, h5 => by
   rw [outLines, List.length_nil, Nat.add_zero] at h4;rw [List.length_nil, Nat.add_zero] at h3
   rw [<- h4, <- h3]; exact h5
 | i :: l, k, K, h1, h2, h3, h4, h5 => by
   have hi : p[k]? = some i := by
    have := List.getElem?_drop (xs := p) (i := k) (j := 0);rw [h1, Nat.add_zero] at this;exact this.symm
   have hif := hall i (List.mem_of_getElem? hi)
   have hl : p.drop (k + 1) = l := by rw [<- List.drop_drop, h1]; rfl
   have ha := run_at O hw K
   have hget : ∀ {x : Tx} {r : List Tx} {J : Nat}, O.drop J = x :: r -> O[J]? = some x /\ O.drop (J + 1) = r := fun {x r J} hd => by
    have := List.getElem?_drop (xs := O) (i := J) (j := 0);rw [hd, Nat.add_zero] at this
    exact ⟨this.symm, by rw [<- List.drop_drop, hd]; rfl⟩
   simp only [List.length_cons] at h3;rw [outLines] at h2 h4
   cases ht : isTo p k with
   | true =>
     rw [ht, if_pos rfl] at h2 h4;obtain ⟨g1, g2⟩ := hget h2;obtain ⟨g3, g4⟩ := hget g2;simp only [List.length_append, List.length_cons, List.length_nil] at h4
     refine run_inv hw hall h41 hO l (k + 1) (K + 1 + 1) hl g4 (by omega) (by omega) ?_
     rw [runL, runL, g1, g3]
     exact lab_step hif.1 hif.2 hi (by omega) ht h5 ⟨by omega, by omega⟩ _ _
   | false =>
     rw [ht, if_neg (by simp)] at h2 h4
     obtain ⟨g1, g2⟩ := hget h2;simp only [List.length_append, List.length_cons, List.length_nil] at h4
     refine run_inv hw hall h41 hO l (k + 1) (K + 1) hl g2 (by omega) (by omega) ?_
     rw [runL, g1];obtain ⟨L, q, s1, h10, hll, hq⟩ := h5;have hs : runL O hw K = (flat L, (runL O hw K).2.1, (runL O hw K).2.2) := Prod.ext s1 rfl;rw [hs]
     exact ins_step hif.1 hif.2 hi h10 hll (hq.skip ht) ⟨by omega, by omega⟩ _
theorem read_loose {p : List Ins} (ho : ∀ i ∈ p, okI i) (h : (checkL p).2 = 0) {s : Tx × Int × Int} (hs : InvT p p.length s) (hlen : s.1.length <= 65536) :
 parseA s.1 = (p, 0, 0) /\ (labelsA s.1).2 = (0, 0) /\ ((labelsA s.1).1.length : Int) = ((((List.range p.length).filter (isTo p)).length : Nat) : Int) + s.2.2 := by
 obtain ⟨c1, c2, c3, c4⟩ := check_len h;have hck := checkGo_ok _ _ _ c3;have hall : ∀ i ∈ p, okI i /\ oneE i = 0 := fun i hi => ⟨ho i hi, (hck i hi).1⟩;obtain ⟨L, r, s1, h10, hl, hq⟩ := hs;have hss := hq.len (Nat.le_refl _)
 have hgo : ∀ x ∈ r.ss, ∃ i ∈ p, x.ins = (srcN i 0).ins /\ x.target = (srcN i 0).target := fun x hx => by
  have : (x.ins, x.target) ∈ r.ss.map (fun x => (x.ins, x.target)) := List.mem_map_of_mem hx;rw [hq.ss] at this;obtain ⟨i, hi, he⟩ := List.mem_map.1 this;have he := Prod.mk.inj he;exact ⟨i, List.mem_of_mem_take hi, he.1.symm, he.2.symm⟩
 have hset : ∀ (x : Src) (i : Ins), i ∈ p -> x.ins = (srcN i 0).ins -> x.target = (srcN i 0).target -> (setTo r.ms x).ins = i /\ lostB r.ms x = false := by
  intro x i hi h1 h2;have hif := hall i hi;obtain ⟨t1, t2⟩ := tgt_form hif.1 hif.2;unfold srcN at h1 h2
  by_cases hm : 116 ∈ formL i.op
  · rw [if_pos hm] at h1 h2
    simp only at h1 h2
    have ht := t1.1 hm;have hn := t2 ht;have hrng := target_rng ht;have hlt := (hck i hi).2 ht;have hto := to_there hi ht hrng.1;rw [hn] at hrng hlt hto
    have e : lab i.n = lab ((i.n.toNat : Nat) : Int) := by rw [show ((i.n.toNat : Nat) : Int) = i.n by omega]
    have hat := hq.at_ i.n.toNat (by omega) hto
    have hhas := hq.has i.n.toNat (by omega)
    rw [decide_eq_true (by omega), hto] at hhas
    have hne : x.target ≠ [] := by rw [h2]; simp [nm]
    refine ⟨?_, ?_⟩
    · rw [setTo, if_neg hne, h1, h2, e, hat]
      obtain ⟨o, a, b, c, n⟩ := i;simp only [Ins.mk.injEq, true_and] at *;omega
    · rw [lostB, h2, e, hhas]; simp
  · rw [if_neg hm] at h1 h2
    simp only at h1 h2
    refine ⟨by rw [setTo, if_pos h2, h1], by rw [lostB, h2]; rfl⟩
 have hmap : r.ss.map (fun x => (setTo r.ms x).ins) = p := by
  apply List.ext_getElem?;intro k;rw [List.getElem?_map]
  cases hk : r.ss[k]? with
  | none =>
    rw [Option.map_none];have := List.getElem?_eq_none_iff.1 hk
    rw [List.getElem?_eq_none (by omega)]
  | some x =>
    have hlt := (List.getElem?_eq_some_iff.1 hk).1
    have hx : (r.ss.map (fun x => (x.ins, x.target)))[k]? = some (x.ins, x.target) := by rw [List.getElem?_map, hk]; rfl
    rw [hq.ss, List.take_of_length_le (Nat.le_refl _), List.getElem?_map, Option.map_eq_some_iff] at hx;obtain ⟨i, hi, he⟩ := hx;have he := Prod.mk.inj he;rw [Option.map_some, (hset x i (List.mem_of_getElem? hi) he.1.symm he.2.symm).1, hi]
 have hend : endA r = (0, 0) := by
  rw [endA, if_neg (by omega)]
  have h1 : r.ss.find? (lostB r.ms) = none := List.find?_eq_none.2 fun x hx => by
   obtain ⟨i, hi, e1, e2⟩ := hgo x hx
   rw [(hset x i hi e1 e2).2]; simp
  have h2 : (r.ms.find? fun m => decide (m.at_ = (r.ss.length : Int))) = none := List.find?_eq_none.2 fun m hm => by
   have := hq.end_ m hm;simp only [decide_eq_true_eq];omega
  rw [h1, h2]
  simp only
  have hlast : ((r.ss.map (setTo r.ms)).map (·.ins)).getLast? = p.getLast? := by rw [List.map_map]; exact congrArg List.getLast? hmap
  rw [List.getLast?_map] at hlast
  cases hk : (r.ss.map (setTo r.ms)).getLast? with
  | none =>
    have := List.getLast?_eq_none_iff.1 hk;have := congrArg List.length this
    simp at this; rw [this] at hss; simp at hss; omega
  | some x =>
    rw [hk, Option.map_some] at hlast
    simp only
    rw [lastGoes, <- hlast] at c4
    simp only at c4
    rw [c4]; rfl
 have hread : readA s.1 = (0, 0, ⟨r.ms, r.ss.map (setTo r.ms)⟩) := by
  have g1 : linesA (splitC 10 s.1) 1 ⟨[], []⟩ = (0, 0, r) := by
   rw [s1, flat_split h10, lines_app _ _ _ _ (by rw [hl]), hl, linesA, line_nil, if_neg (by simp)]; rfl
  rw [readA, if_neg (by omega), g1]
  simp only [ne_eq, not_true_eq_false, if_false, hend]
 refine ⟨?_, ?_, ?_⟩
 · rw [parseA, hread, if_pos rfl]
   simp only [List.map_map];exact congrArg (fun z => (z, (0 : Int), (0 : Int))) hmap
 · rw [labelsA, hread, if_pos rfl]
 · rw [labelsA, hread, if_pos rfl]
   simp only [List.length_map];exact hq.cnt
theorem loose {p : List Ins} (ho : ∀ i ∈ p, okI i) (h : (checkL p).2 = 0) (h41 : p.length <= 41) (hw : List Int) : LooseP p hw := by
 obtain ⟨c1, c2, c3, c4⟩ := check_len h;have hck := checkGo_ok _ _ _ c3;have hall : ∀ i ∈ p, okI i /\ oneE i = 0 := fun i hi => ⟨ho i hi, (hck i hi).1⟩;obtain ⟨t1, t2, t3, t4⟩ := text_len ho h h41
 have hcnt : (outLines p p 0).length <= 82 := by
  rw [out_count];have := List.length_filter_le (isTo p) (List.range' 0 p.length);rw [List.length_range'] at this;omega
 have hsum : ((outLines p p 0).map List.length).sum + (outLines p p 0).length <= 6001 := by
  have := join_len 10 (outLines p p 0);rw [if_neg t2, sum_one] at this;omega
 have hlen : ∀ k, k <= (outLines p p 0).length -> (runL (outLines p p 0) hw k).1.length <= 65536 := fun k hk => by
  have h1 := run_len (outLines p p 0) hw k (by omega)
  have h2 := sum_take (outLines p p 0) k;omega
 have hinv := run_inv hw hall h41 (O := outLines p p 0) (by omega) p 0 0 rfl rfl (by omega) (by omega) ⟨[], ⟨[], []⟩, rfl, fun y hy => (by cases hy), rfl, ⟨by simp, fun j hj => by simp [hasMk], fun j hj => (by omega), fun j _ _ => rfl, by simp [runL], fun m hm => (by cases hm)⟩⟩
 obtain ⟨r1, r2, r3⟩ := read_loose ho h hinv (hlen _ (Nat.le_refl _));obtain ⟨_, pl⟩ := parse_back ho h;rw [writeA, if_neg (fun hh => hh h)] at pl
 simp only at pl
 have hline := line_ok hall h41
 refine ⟨fun k hk => by have := hlen k hk; omega, hline, fun x hx y => ?_, r1, by rw [pl], r2, ?_, fun k hk => ?_⟩
 · have h1 := words_join x y
   have h2 := (hline x hx).1;omega
 · rw [r3, pl]
   simp only [List.length_map]
 · have := run_at (outLines p p 0) hw k
   omega
def GG (I : Mem) : Prop := Globs I /\ GlobsF I
theorem gAsc : Tryz.prog.globalNamed "strings.asciiSpace" = some 0 := by kernel_rfl
theorem ascE : (YtjjjbafnplmjoaaGreatDoor.Rows.laid_strings_asciiSpace : DataW Unit) = Lib.tabData .u8 Lib.asciiSpaceTab := by kernel_rfl
theorem globs_ofO {W : World} (hsh : W.ShapedOpen Tryz.prog) (hL : laidMetH Tryz.prog laidO W) : GG (memW W) := by
 rw [MakeChecks.laidMetH_plain _ _ _ (by kernel_rfl)] at hL
 refine ⟨globs_mk hsh hL.tail.tail hL.tail.tail.tail.tail, ?_⟩;have h := hL.tail.tail.tail.tail.tail.tail.tail;rw [ascE] at h
 have hT : Lib.TabIs Tryz.prog W "strings.asciiSpace" .u8 Lib.asciiSpaceTab := Lib.tabIs_of_head (t := 107) (e := 5) (n := 256) gAsc (by kernel_rfl) (by kernel_rfl) (by kernel_rfl) (by kernel_rfl) (by kernel_rfl) h
 exact fun w hw => var_to hw hT
def Q45 (I : Mem) (v : Value) : Prop := ∃ (a : Option Addr) (n c : Nat) (bs : List Int), v = .slice a n c /\ SlM I a n 1 (ints .u8 bs) /\ n <= c /\ c <= maxLen /\ byteL bs
theorem op45 {H : Type} {enc : TypeId × Value -> H} {W : World} {r : Reach} {b0 : Nat} {v : Value} {d : DataW H} {ps : List MemPlace} (hval : Value.okWide Tryz.prog W r b0 45 v) (hd : DataW.Trod enc Tryz.prog W 0 (fun _ => true) true 45 v d ps) (hw : ∀ n ∈ d.weights Tryz.prog 45, n <= reachBytes) : Q45 (memW W) v := by
 obtain ⟨a, n, c, zs, rfl, h1, h2, h3, h4⟩ := opSl Tryz.underlying45 Tryz.underlying5 cells5 hval hd;exact ⟨a, n, c, zs, rfl, h1, h2, h3, h4⟩
theorem ct5Q (I : Mem) (hG : GG I) (v0 v1 : Value) (h0 : Q31 I v0) (h1 : Q45 I v1) : Ct Tryz.prog (fnv 5) #[v0, v1] I (fun v _ => v = .bool true) := by
 obtain ⟨a, n, c, l, rfl, hl, hc, _⟩ := h0;obtain ⟨b, m, d, hw, rfl, hh, _, _, hb⟩ := h1;exact ct5 l a n c hc hw b m d I hG.1 hG.2 hl hh hb fun p hw h1 h2 h3 => loose h1 h2 h3 hw
