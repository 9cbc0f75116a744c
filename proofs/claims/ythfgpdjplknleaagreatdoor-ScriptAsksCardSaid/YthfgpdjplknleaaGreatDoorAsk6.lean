/- Part of a proof by the rules of the symbolic walk (see the law's own text): contracts of functions of the program. -/
import Derived.Test.YthfgpdjplknleaaGreatDoorAsk5
import Derived.Lib.Builder
import Derived.Shelf.RegionOpenPlain
import Derived.Shelf.Strings.BuilderX
import Derived.Lib.UnsafeStr
import Derived.Lib.Strings
import Derived.Lib.Walk
import Derived.WalkKit
import Derived.Laws.Externs
import Derived.Test.YthfgpdjplknleaaGreatDoorAsk3
set_option linter.unusedVariables false
set_option linter.unusedSimpArgs false
open Go Go.Proofs Go.SE Go.RowKit
set_option linter.unusedVariables false
set_option maxRecDepth 100000
theorem right_none {r : Rq} (h : tagL r.kind r.what = none) : rightR r = false := by rw [rightR, h]
theorem tag_none {k w : Int} (h : k < 1 \/ 9 < k) : tagL k w = none := by
 rw [tagL, if_neg (by omega), if_neg (by omega), if_neg (by omega), if_neg (by omega), if_neg (by omega), if_neg (by omega), if_neg (by omega), if_neg (by omega), if_neg (by omega)]
theorem ask_none {w : Int} (h : w < 1 \/ 5 < w) : tagL 7 w = none := by
 have : askL w = none := by rw [askL, if_neg (by omega), if_neg (by omega), if_neg (by omega), if_neg (by omega), if_neg (by omega)]
 show (askL w).map (1 :: ·) = none
 rw [this]; rfl
theorem right_size {r : Rq} (h : 255 < r.name.size \/ 15000 < r.fed.length) : rightR r = false := by
 rw [rightR];split
 · rfl
 · rcases h with h | h
   · rw [decide_eq_false (p := r.name.size <= 255) (by omega), Bool.false_and]
   · rw [decide_eq_false (p := r.fed.length <= 15000) (by omega), Bool.false_and, Bool.and_false]
theorem ct125 (l : List Int) (t : Int) (a : Option Addr) (n c : Nat) (I : Mem) (h : SlM I a n 1 (ints .i64 l)) (hn : n <= 1000000) :
 Ct Tryz.prog (fnv 125) #[.slice a n c, .int .i64 t] I (fun v _ => v = .bool (decide (t ∈ l))) := by
 refine viaR (ct_via (A := { loops := [(2, ⟨[(0, .keep), (1, .keep), (5, .sh (.int .i64))], [], [], fun vals _ _ _ => match vals with | [.int .i64 j] => 0 <= j /\ j <= n /\ t ∉ l.take j.toNat | _ => False, fun vals _ => match vals with | [.int .i64 j] => (n - j).toNat | _ => 0⟩)] }) Tryz.func125 rfl Tryz.call125 rfl rfl) ((Rf (SV.v (.slice a n c)) /\ Rf (SV.v (.int .i64 t)) /\ (0 : Int) <= 0 /\ 0 <= (n : Int) /\ ¬(Membership.mem ([] : List Int) t)) /\ ∀ (b : Mem), Mem -> I.le b -> ∀ (d : Int), 0 <= d /\ d <= (n : Int) /\ ¬(Membership.mem (List.take d.toNat l) t) -> Br (decide (d < (n : Int))) (0 <= d /\ d < (n : Int) /\ a.isSome = true /\ ∃ e, atI b a (d.toNat * 1 + 0) = some (.int .i64 e) /\ Br (e == t) (Value.bool true = .bool (decide (Membership.mem l t))) (Wr .i64 (d + 1) (fun f => Rf (SV.v (.slice a n c)) /\ Rf (SV.v (.int .i64 t)) /\ (0 <= f /\ f <= (n : Int) /\ ¬(Membership.mem (List.take f.toNat l) t)) /\ Int.toNat ((n : Int) - f) < Int.toNat ((n : Int) - d)))) (Value.bool false = .bool (decide (Membership.mem l t)))) (by kernel_rfl) ?_
 have hl := h.numLen
 refine ⟨⟨rfl, rfl, by omega, by omega, by simp⟩, fun I' _ l' j ⟨j0, j1, hj⟩ => Br.mk (fun hlt => ?_) (fun hge => ?_)⟩
 · have hlt := of_decide_eq_true hlt
   obtain ⟨x, hx, e⟩ := (h.mono l').intAt j0 (by omega)
   refine ⟨j0, hlt, h.isSome (by omega), x, e, Br.mk (fun hq => ?_) (fun hq => ?_)⟩
   · have hq := eqv hq
     rw [decide_eq_true (by rw [<- hq]; exact List.mem_of_getElem? hx)]
   · have hq := nev hq
     refine wr_i64 (by omega) (by omega) ⟨rfl, rfl, ⟨by omega, by omega, ?_⟩, by omega⟩
     rw [show (j + 1).toNat = j.toNat + 1 by omega, take_succ' hx]
     simp only [List.mem_append, List.mem_singleton]
     rintro (hc | hc)
     · exact hj hc
     · exact hq hc.symm
 · have hge := of_decide_eq_false hge
   rw [List.take_of_length_le (by omega)] at hj
   rw [decide_eq_false hj]
theorem ct123 (r : Rq) (y : Value) (t : Int) (ht : 3 <= t /\ t <= 9) (I : Mem) :
 Ct Tryz.prog (fnv 123) #[.agg (rqV r y).toArray, .int .i64 t] I (fun v _ => v = .int .i64 (numR r t)) := by
 refine viaR (ct_via (A := { }) Tryz.func123 rfl Tryz.call123 rfl rfl) (Wr IntKind.i64 (t - (3 : Int)) fun (c : Int) =>
  (0 : Int) <= c /\
   c < (7 : Int) /\
    ∃ (n : Int),
     (Option.bind [SV.v (Value.int IntKind.i64 (Rq.p3 r)), SV.v (Value.int IntKind.i64 (Rq.p4 r)), SV.v (Value.int IntKind.i64 (Rq.p5 r)), SV.v (Value.int IntKind.i64 (Rq.p6 r)), SV.v (Value.int IntKind.i64 (Rq.p7 r)), SV.v (Value.int IntKind.i64 (Rq.p8 r)), SV.v (Value.int IntKind.i64 (Rq.p9 r))][(0 : Nat) + Int.toNat c * (1 : Nat) + (0 : Nat)]? fun (x : SV) =>
      match x with
      | SV.v x => some x
      | x => none) =
      some (Value.int IntKind.i64 n) /\
      Value.int IntKind.i64 n = Value.int IntKind.i64 (numR r t)) (by kernel_rfl) ?_
 rcases (by omega : t = 3 \/ t = 4 \/ t = 5 \/ t = 6 \/ t = 7 \/ t = 8 \/ t = 9) with rfl | rfl | rfl | rfl | rfl | rfl | rfl
 all_goals exact wr_i64 (by omega) (by omega) ⟨by omega, by omega, _, rfl, rfl⟩
theorem ct44 (r : Rq) (y : Value) (I : Mem) (hy : BySl I y r.fed) (hfl : r.fed.length <= 1000000) :
 Ct Tryz.prog (fnv 44) #[.agg (rqV r y).toArray] I (fun v I' => ∃ y', v = .agg (rqV r y').toArray /\ BySl I' y' r.fed) := by
 obtain ⟨a1, n1, c1, rfl, hs1, hc1, hm1⟩ := hy
 refine viaR (ct_via (A := { }) Tryz.func44 rfl Tryz.call44 rfl rfl) (Ct Tryz.prog (fnv 89) #[.slice a1 n1 c1] I fun v a => ∃ b n c, v = .slice b n c /\ ∃ y, Value.agg #[.int .u8 r.kind, .int .u8 r.what, .string r.name, .int .i64 r.p3, .int .i64 r.p4, .int .i64 r.p5, .int .i64 r.p6, .int .i64 r.p7, .int .i64 r.p8, .int .i64 r.p9, .int .i64 r.val, .slice b n c] = .agg #[.int .u8 r.kind, .int .u8 r.what, .string r.name, .int .i64 r.p3, .int .i64 r.p4, .int .i64 r.p5, .int .i64 r.p6, .int .i64 r.p7, .int .i64 r.p8, .int .i64 r.p9, .int .i64 r.val, y] /\ ∃ d m e, y = .slice d m e /\ SlM a d m 1 (List.map (Value.int .u8) r.fed) /\ m <= e /\ e <= 9223372036854775807) (by kernel_rfl) ?_
 have hn := hs1.numLen
 exact (ct89 r.fed a1 n1 c1 I hs1 (by omega)).mono fun v I1 l1 ⟨a, n, c, hv, h1, h2, h3⟩ => ⟨a, n, c, hv, _, rfl, a, n, c, rfl, h1, h2, h3⟩
theorem small_at {J : Mem} {b : Nat} {l : List Int} (h : J b = some (.cells (ints .i64 l).toArray 3)) : ∀ (j : Nat) (v : Value), (ints .i64 l)[j]? = some v -> atI J (some ⟨b, 0, none⟩) j = some v := fun j v hj => atC h (by simpa using hj)
theorem tagE {J : Mem} {a : Option Addr} {n cp : Nat} {k w : Int} {l : List Int} (ht : tagL k w = some l) (hr : RowM J a cp 1 (ints .i64 l)) (hn : n = l.length) : ∃ a_3 n_1 c, Value.tuple #[Value.slice a n cp, Value.bool true] = Value.tuple #[Value.slice a_3 n_1 c, Value.bool (tagL k w).isSome] /\ SlM J a_3 n_1 1 (ints .i64 ((tagL k w).getD [])) /\ n_1 <= c /\ c <= maxLen := by
 rw [ht];have h1 := hr.1;rw [ints_len] at h1
 exact ⟨a, n, cp, rfl, hr.sl (by omega) (by rw [ints_len]; omega), by omega, hr.2.1⟩
theorem ct93 (k w : Int) (hk : 0 <= k /\ k <= 255) (hw : 0 <= w /\ w <= 255) (I : Mem) : Ct Tryz.prog (fnv 93) #[.int .u8 k, .int .u8 w] I (fun v I' => ∃ (a : Option Addr) (n c : Nat), v = .tuple #[.slice a n c, .bool (tagL k w).isSome] /\ SlM I' a n 1 (ints .i64 ((tagL k w).getD [])) /\ n <= c /\ c <= maxLen) := by
 refine viaR (ct_via (A := { befores := [(3, [0, 1, 2, 3, 4, 5, 6, 7, 8, 10, 11, 12, 13, 14])] }) Tryz.func93 rfl Tryz.call93 rfl rfl) (∀ (b : Nat) (I' : Mem),
  Mem.le I I' ->
   I' b = some (Obj.cells #[Value.int IntKind.i64 (11 : Int)] (3 : Nat)) ->
    ∀ (b_1 : Nat) (I'_1 : Mem),
     Mem.le I' I'_1 ->
      I'_1 b_1 = some (Obj.cells #[Value.int IntKind.i64 (2 : Int), Value.int IntKind.i64 (3 : Int)] (3 : Nat)) ->
       ∀ (b_2 : Nat) (I' : Mem),
        Mem.le I'_1 I' ->
         I' b_2 = some (Obj.cells #[Value.int IntKind.i64 (4 : Int), Value.int IntKind.i64 (5 : Int), Value.int IntKind.i64 (6 : Int)] (3 : Nat)) ->
          ∀ (b_3 : Nat) (I'_2 : Mem),
           Mem.le I' I'_2 ->
            I'_2 b_3 = some (Obj.cells #[Value.int IntKind.i64 (4 : Int)] (3 : Nat)) ->
             ∀ (b_4 : Nat) (I' : Mem),
              Mem.le I'_2 I' ->
               I' b_4 = some (Obj.cells #[Value.int IntKind.i64 (4 : Int), Value.int IntKind.i64 (7 : Int), Value.int IntKind.i64 (10 : Int)] (3 : Nat)) ->
                ∀ (b_5 : Nat) (I'_3 : Mem),
                 Mem.le I' I'_3 ->
                  I'_3 b_5 = some (Obj.cells #[Value.int IntKind.i64 (7 : Int)] (3 : Nat)) ->
                   ∀ (b_6 : Nat) (I' : Mem),
                    Mem.le I'_3 I' ->
                     I' b_6 = some (Obj.cells #[Value.int IntKind.i64 (1 : Int)] (3 : Nat)) ->
                      ∀ (b_7 : Nat) (I'_4 : Mem),
                       Mem.le I' I'_4 ->
                        I'_4 b_7 = some (Obj.cells #[Value.int IntKind.i64 (8 : Int), Value.int IntKind.i64 (9 : Int)] (3 : Nat)) ->
                         ∀ (b_8 : Nat) (I' : Mem),
                          Mem.le I'_4 I' ->
                           I' b_8 = some (Obj.cells #[] (3 : Nat)) ->
                            ∀ (b_9 : Nat) (I'_5 : Mem),
                             Mem.le I' I'_5 ->
                              I'_5 b_9 = some (Obj.cells #[] (3 : Nat)) ->
                               ∀ (b_10 : Nat) (I' : Mem),
                                Mem.le I'_5 I' ->
                                 I' b_10 = some (Obj.cells #[Value.int IntKind.i64 (4 : Int)] (3 : Nat)) ->
                                  ∀ (b_11 : Nat) (I'_6 : Mem),
                                   Mem.le I' I'_6 ->
                                    I'_6 b_11 = some (Obj.cells #[Value.int IntKind.i64 (7 : Int), Value.int IntKind.i64 (8 : Int), Value.int IntKind.i64 (9 : Int)] (3 : Nat)) ->
                                     ∀ (b_12 : Nat) (I' : Mem),
                                      Mem.le I'_6 I' ->
                                       I' b_12 = some (Obj.cells #[Value.int IntKind.i64 (2 : Int)] (3 : Nat)) ->
                                        ∀ (b_13 : Nat) (I'_7 : Mem),
                                         Mem.le I' I'_7 ->
                                          I'_7 b_13 = some (Obj.cells #[Value.int IntKind.i64 (4 : Int)] (3 : Nat)) ->
                                           Br (decide (k < (1 : Int))) (∃ (a : Option Addr), ∃ (n : Nat), ∃ (c : Nat), Value.tuple #[Value.slice none (0 : Nat) (0 : Nat), Value.bool false] = Value.tuple #[Value.slice a n c, Value.bool (Option.isSome (tagL k w))] /\ SlM I'_7 a n (1 : Nat) (List.map (Value.int IntKind.i64) (Option.getD (tagL k w) [])) /\ n <= c /\ c <= (9223372036854775807 : Nat))
                                            (Br (decide ((9 : Int) < k)) (∃ (a : Option Addr), ∃ (n : Nat), ∃ (c : Nat), Value.tuple #[Value.slice none (0 : Nat) (0 : Nat), Value.bool false] = Value.tuple #[Value.slice a n c, Value.bool (Option.isSome (tagL k w))] /\ SlM I'_7 a n (1 : Nat) (List.map (Value.int IntKind.i64) (Option.getD (tagL k w) [])) /\ n <= c /\ c <= (9223372036854775807 : Nat))
                                             ((0 : Int) <= k /\
                                              k < (10 : Int) /\
                                               ∃ (a : Option Addr),
                                                ∃ (n : Nat),
                                                 ∃ (c : Nat),
                                                  (Option.bind [SV.v (Value.slice none (0 : Nat) (0 : Nat)), SV.v (Value.slice (some (Addr.mk b (0 : Nat) none)) (1 : Nat) (1 : Nat)), SV.v (Value.slice (some (Addr.mk b_1 (0 : Nat) none)) (2 : Nat) (2 : Nat)), SV.v (Value.slice (some (Addr.mk b_2 (0 : Nat) none)) (3 : Nat) (3 : Nat)), SV.v (Value.slice (some (Addr.mk b_3 (0 : Nat) none)) (1 : Nat) (1 : Nat)), SV.v (Value.slice (some (Addr.mk b_4 (0 : Nat) none)) (3 : Nat) (3 : Nat)), SV.v (Value.slice (some (Addr.mk b_5 (0 : Nat) none)) (1 : Nat) (1 : Nat)), SV.v (Value.slice (some (Addr.mk b_6 (0 : Nat) none)) (1 : Nat) (1 : Nat)), SV.v (Value.slice (some (Addr.mk b_7 (0 : Nat) none)) (2 : Nat) (2 : Nat)), SV.v (Value.slice (some (Addr.mk b_8 (0 : Nat) none)) (0 : Nat) (0 : Nat))][(0 : Nat) + Int.toNat k * (1 : Nat) + (0 : Nat)]? fun (x : SV) =>
                                                   match x with
                                                   | SV.v x => some x
                                                   | x => none) =
                                                   some (Value.slice a n c) /\
                                                   ∃ (ys : List Value),
                                                    List.length ys = n * (1 : Nat) /\
                                                     (a = none -> n = (0 : Nat)) /\
                                                      (∀ (j : Nat) (v : Value), ys[j]? = some v -> atI I'_7 a j = some v) /\
                                                       (∀ (v : Value), v ∈ ys -> Value.oneCell' v = true) /\
                                                        (0 : Nat) = (0 : Nat) /\
                                                         (0 : Nat) + n <= (9223372036854775807 : Nat) /\
                                                          ((0 : Nat) + n) * (8 : Nat) <= (140737488355328 : Nat) /\
                                                           Br (k == (7 : Int))
                                                            (Br (decide (w < (1 : Int))) (∃ (a : Option Addr), ∃ (n : Nat), ∃ (c : Nat), Value.tuple #[Value.slice none (0 : Nat) (0 : Nat), Value.bool false] = Value.tuple #[Value.slice a n c, Value.bool (Option.isSome (tagL k w))] /\ SlM I'_7 a n (1 : Nat) (List.map (Value.int IntKind.i64) (Option.getD (tagL k w) [])) /\ n <= c /\ c <= (9223372036854775807 : Nat))
                                                             (Br (decide ((5 : Int) < w)) (∃ (a : Option Addr), ∃ (n : Nat), ∃ (c : Nat), Value.tuple #[Value.slice none (0 : Nat) (0 : Nat), Value.bool false] = Value.tuple #[Value.slice a n c, Value.bool (Option.isSome (tagL k w))] /\ SlM I'_7 a n (1 : Nat) (List.map (Value.int IntKind.i64) (Option.getD (tagL k w) [])) /\ n <= c /\ c <= (9223372036854775807 : Nat))
                                                              ((0 : Int) <= w /\
                                                               w < (6 : Int) /\
                                                                ∃ (a : Option Addr),
                                                                 ∃ (n_1 : Nat),
                                                                  ∃ (c : Nat),
                                                                   (Option.bind [SV.v (Value.slice none (0 : Nat) (0 : Nat)), SV.v (Value.slice (some (Addr.mk b_9 (0 : Nat) none)) (0 : Nat) (0 : Nat)), SV.v (Value.slice (some (Addr.mk b_10 (0 : Nat) none)) (1 : Nat) (1 : Nat)), SV.v (Value.slice (some (Addr.mk b_11 (0 : Nat) none)) (3 : Nat) (3 : Nat)), SV.v (Value.slice (some (Addr.mk b_12 (0 : Nat) none)) (1 : Nat) (1 : Nat)), SV.v (Value.slice (some (Addr.mk b_13 (0 : Nat) none)) (1 : Nat) (1 : Nat))][(0 : Nat) + Int.toNat w * (1 : Nat) + (0 : Nat)]? fun (x : SV) =>
                                                                    match x with
                                                                    | SV.v x => some x
                                                                    | x => none) =
                                                                    some (Value.slice a n_1 c) /\
                                                                    ∃ (ys_1 : List Value), List.length ys_1 = n_1 * (1 : Nat) /\ (a = none -> n_1 = (0 : Nat)) /\ (∀ (j : Nat) (v : Value), ys_1[j]? = some v -> atI I'_7 a j = some v) /\ (∀ (v : Value), v ∈ ys_1 -> Value.oneCell' v = true) /\ List.length ys = ((0 : Nat) + n) * (1 : Nat) /\ (0 : Nat) + n + n_1 <= (9223372036854775807 : Nat) /\ ((0 : Nat) + n + n_1) * (8 : Nat) <= (140737488355328 : Nat) /\ ∀ (a : Option Addr) (cp : Nat) (I' : Mem), Mem.le I'_7 I' -> RowM I' a cp (1 : Nat) (ys ++ ys_1) -> ∃ (a_3 : Option Addr), ∃ (n_2 : Nat), ∃ (c : Nat), Value.tuple #[Value.slice a ((0 : Nat) + n + n_1) cp, Value.bool true] = Value.tuple #[Value.slice a_3 n_2 c, Value.bool (Option.isSome (tagL k w))] /\ SlM I' a_3 n_2 (1 : Nat) (List.map (Value.int IntKind.i64) (Option.getD (tagL k w) [])) /\ n_2 <= c /\ c <= (9223372036854775807 : Nat))))
                                                            (∀ (a : Option Addr) (cp : Nat) (I' : Mem), Mem.le I'_7 I' -> RowM I' a cp (1 : Nat) ys -> ∃ (a_3 : Option Addr), ∃ (n_1 : Nat), ∃ (c : Nat), Value.tuple #[Value.slice a ((0 : Nat) + n) cp, Value.bool true] = Value.tuple #[Value.slice a_3 n_1 c, Value.bool (Option.isSome (tagL k w))] /\ SlM I' a_3 n_1 (1 : Nat) (List.map (Value.int IntKind.i64) (Option.getD (tagL k w) [])) /\ n_1 <= c /\ c <= (9223372036854775807 : Nat))))) (by kernel_rfl) ?_
 have Z : ∀ {J : Mem}, tagL k w = none -> ∃ a n c, Value.tuple #[Value.slice none 0 0, Value.bool false] = Value.tuple #[Value.slice a n c, Value.bool (tagL k w).isSome] /\ SlM J a n 1 (ints .i64 ((tagL k w).getD [])) /\ n <= c /\ c <= maxLen := fun {J} hz => by
  rw [hz]
  exact ⟨none, 0, 0, rfl, sl_nil _ _, by omega, by omega⟩
 intro b0 J0 l0 h0 b1 J1 l1 h1 b2 J2 l2 h2 b3 J3 l3 h3 b4 J4 l4 h4 b5 J5 l5 h5 b6 J6 l6 h6 b7 J7 l7 h7 b8 J8 l8 h8 b9 J9 l9 h9 b10 J10 l10 h10 b11 J11 l11 h11 b12 J12 l12 h12 b13 J13 l13 h13;have h0 := (Mem.le_trans l1 (Mem.le_trans l2 (Mem.le_trans l3 (Mem.le_trans l4 (Mem.le_trans l5 (Mem.le_trans l6 (Mem.le_trans l7 (Mem.le_trans l8 (Mem.le_trans l9 (Mem.le_trans l10 (Mem.le_trans l11 (Mem.le_trans l12 l13)))))))))))) _ _ h0
 have h1 := (Mem.le_trans l2 (Mem.le_trans l3 (Mem.le_trans l4 (Mem.le_trans l5 (Mem.le_trans l6 (Mem.le_trans l7 (Mem.le_trans l8 (Mem.le_trans l9 (Mem.le_trans l10 (Mem.le_trans l11 (Mem.le_trans l12 l13))))))))))) _ _ h1;have h2 := (Mem.le_trans l3 (Mem.le_trans l4 (Mem.le_trans l5 (Mem.le_trans l6 (Mem.le_trans l7 (Mem.le_trans l8 (Mem.le_trans l9 (Mem.le_trans l10 (Mem.le_trans l11 (Mem.le_trans l12 l13)))))))))) _ _ h2
 have h3 := (Mem.le_trans l4 (Mem.le_trans l5 (Mem.le_trans l6 (Mem.le_trans l7 (Mem.le_trans l8 (Mem.le_trans l9 (Mem.le_trans l10 (Mem.le_trans l11 (Mem.le_trans l12 l13))))))))) _ _ h3;have h4 := (Mem.le_trans l5 (Mem.le_trans l6 (Mem.le_trans l7 (Mem.le_trans l8 (Mem.le_trans l9 (Mem.le_trans l10 (Mem.le_trans l11 (Mem.le_trans l12 l13)))))))) _ _ h4;have h5 := (Mem.le_trans l6 (Mem.le_trans l7 (Mem.le_trans l8 (Mem.le_trans l9 (Mem.le_trans l10 (Mem.le_trans l11 (Mem.le_trans l12 l13))))))) _ _ h5
 have h6 := (Mem.le_trans l7 (Mem.le_trans l8 (Mem.le_trans l9 (Mem.le_trans l10 (Mem.le_trans l11 (Mem.le_trans l12 l13)))))) _ _ h6;have h7 := (Mem.le_trans l8 (Mem.le_trans l9 (Mem.le_trans l10 (Mem.le_trans l11 (Mem.le_trans l12 l13))))) _ _ h7;have h8 := (Mem.le_trans l9 (Mem.le_trans l10 (Mem.le_trans l11 (Mem.le_trans l12 l13)))) _ _ h8;have h9 := (Mem.le_trans l10 (Mem.le_trans l11 (Mem.le_trans l12 l13))) _ _ h9;have h10 := (Mem.le_trans l11 (Mem.le_trans l12 l13)) _ _ h10;have h11 := (Mem.le_trans l12 l13) _ _ h11;have h12 := l13 _ _ h12
 refine Br.mk (fun g => Z (tag_none (.inl (of_decide_eq_true g)))) (fun g1 => Br.mk (fun g => Z (tag_none (.inr (of_decide_eq_true g)))) (fun g2 => ?_));have g1 := of_decide_eq_false g1;have g2 := of_decide_eq_false g2
 refine ⟨by omega, by omega, ?_⟩
 rcases (by omega : k = 1 \/ k = 2 \/ k = 3 \/ k = 4 \/ k = 5 \/ k = 6 \/ k = 7 \/ k = 8 \/ k = 9) with rfl | rfl | rfl | rfl | rfl | rfl | rfl | rfl | rfl
 · exact ⟨_, _, _, rfl, ints .i64 [11], rfl, (fun h => by cases h), small_at h0, one_ints, rfl, by omega, by omega, Br.f rfl (fun a cp J _ hr => tagE (l := [11]) rfl hr rfl)⟩
 · exact ⟨_, _, _, rfl, ints .i64 [2, 3], rfl, (fun h => by cases h), small_at h1, one_ints, rfl, by omega, by omega, Br.f rfl (fun a cp J _ hr => tagE (l := [2, 3]) rfl hr rfl)⟩
 · exact ⟨_, _, _, rfl, ints .i64 [4, 5, 6], rfl, (fun h => by cases h), small_at h2, one_ints, rfl, by omega, by omega, Br.f rfl (fun a cp J _ hr => tagE (l := [4, 5, 6]) rfl hr rfl)⟩
 · exact ⟨_, _, _, rfl, ints .i64 [4], rfl, (fun h => by cases h), small_at h3, one_ints, rfl, by omega, by omega, Br.f rfl (fun a cp J _ hr => tagE (l := [4]) rfl hr rfl)⟩
 · exact ⟨_, _, _, rfl, ints .i64 [4, 7, 10], rfl, (fun h => by cases h), small_at h4, one_ints, rfl, by omega, by omega, Br.f rfl (fun a cp J _ hr => tagE (l := [4, 7, 10]) rfl hr rfl)⟩
 · exact ⟨_, _, _, rfl, ints .i64 [7], rfl, (fun h => by cases h), small_at h5, one_ints, rfl, by omega, by omega, Br.f rfl (fun a cp J _ hr => tagE (l := [7]) rfl hr rfl)⟩
 · refine ⟨_, _, _, rfl, ints .i64 [1], rfl, (fun h => by cases h), small_at h6, one_ints, rfl, by omega, by omega, Br.t rfl (Br.mk (fun g => Z (ask_none (.inl (of_decide_eq_true g)))) (fun g3 => Br.mk (fun g => Z (ask_none (.inr (of_decide_eq_true g)))) (fun g4 => ?_)))⟩
   have g3 := of_decide_eq_false g3;have g4 := of_decide_eq_false g4
   refine ⟨by omega, by omega, ?_⟩
   rcases (by omega : w = 1 \/ w = 2 \/ w = 3 \/ w = 4 \/ w = 5) with rfl | rfl | rfl | rfl | rfl
   · exact ⟨_, _, _, rfl, ints .i64 [], rfl, (fun h => by cases h), small_at h9, one_ints, rfl, by omega, by omega, fun a cp J _ hr => tagE (l := [1]) rfl hr rfl⟩
   · exact ⟨_, _, _, rfl, ints .i64 [4], rfl, (fun h => by cases h), small_at h10, one_ints, rfl, by omega, by omega, fun a cp J _ hr => tagE (l := [1, 4]) rfl hr rfl⟩
   · exact ⟨_, _, _, rfl, ints .i64 [7, 8, 9], rfl, (fun h => by cases h), small_at h11, one_ints, rfl, by omega, by omega, fun a cp J _ hr => tagE (l := [1, 7, 8, 9]) rfl hr rfl⟩
   · exact ⟨_, _, _, rfl, ints .i64 [2], rfl, (fun h => by cases h), small_at h12, one_ints, rfl, by omega, by omega, fun a cp J _ hr => tagE (l := [1, 2]) rfl hr rfl⟩
   · exact ⟨_, _, _, rfl, ints .i64 [4], rfl, (fun h => by cases h), small_at h13, one_ints, rfl, by omega, by omega, fun a cp J _ hr => tagE (l := [1, 4]) rfl hr rfl⟩
 · exact ⟨_, _, _, rfl, ints .i64 [8, 9], rfl, (fun h => by cases h), small_at h7, one_ints, rfl, by omega, by omega, Br.f rfl (fun a cp J _ hr => tagE (l := [8, 9]) rfl hr rfl)⟩
 · exact ⟨_, _, _, rfl, ints .i64 [], rfl, (fun h => by cases h), small_at h8, one_ints, rfl, by omega, by omega, Br.f rfl (fun a cp J _ hr => tagE (l := []) rfl hr rfl)⟩
def refQ (r : Rq) (l : List Int) (t : Int) : Bool := decide (0 <= numR r t) && (decide (numR r t <= 0) || decide (t ∈ l))
def refR (r : Rq) : Bool := match tagL r.kind r.what with
 | none => false
 | some l => decide (r.name.size <= 255) && decide (r.fed.length <= 15000) && ([3, 4, 5, 6, 7, 8, 9].all (refQ r l) && ((decide (r.what = 0) || decide ((1 : Int) ∈ l)) && ((decide (r.name = ⟨#[]⟩) || decide ((2 : Int) ∈ l)) && ((decide (r.val = 0) || decide ((10 : Int) ∈ l)) && (decide (r.fed = []) || decide ((11 : Int) ∈ l))))))
theorem refR_eq {r : Rq} (hr : okRq r) : refR r = rightR r := by
 rw [right_eq hr, refR, rightS]
 cases hq : tagL r.kind r.what with
 | none => rfl
 | some l =>
  simp only
  rw [Bool.and_assoc]
  congr 2
  have hsh := tagL_shape hq;simp only [shapesL, List.mem_cons, List.not_mem_nil, or_false] at hsh;obtain ⟨e, he⟩ : ∃ e : ByteArray, e = ⟨#[]⟩ := ⟨_, rfl⟩
  have hh : had0 r = { kind := r.kind, what := 0, name := e, p3 := 0, p4 := 0, p5 := 0, p6 := 0, p7 := 0, p8 := 0, p9 := 0, val := 0, fed := [] } := by rw [he]; rfl
  rw [hh, <- he]
  clear hh he hq hr
  by_cases hnm : r.name = e
  · by_cases hfd : r.fed = []
    · rcases hsh with rfl | rfl | rfl | rfl | rfl | rfl | rfl | rfl | rfl | rfl | rfl | rfl
      all_goals
       rw [Bool.eq_iff_iff];simp [refQ, okT, numR, sameR, copyT, hnm, hfd]
       try omega
    · have hfd' : ¬ [] = r.fed := fun h => hfd h.symm
      rcases hsh with rfl | rfl | rfl | rfl | rfl | rfl | rfl | rfl | rfl | rfl | rfl | rfl
      all_goals
       rw [Bool.eq_iff_iff];simp [refQ, okT, numR, sameR, copyT, hnm, hfd, hfd']
       try omega
  · have hnm' : ¬ e = r.name := fun h => hnm h.symm
    by_cases hfd : r.fed = []
    · rcases hsh with rfl | rfl | rfl | rfl | rfl | rfl | rfl | rfl | rfl | rfl | rfl | rfl
      all_goals
       rw [Bool.eq_iff_iff];simp [refQ, okT, numR, sameR, copyT, hnm, hnm', hfd]
       try omega
    · have hfd' : ¬ [] = r.fed := fun h => hfd h.symm
      rcases hsh with rfl | rfl | rfl | rfl | rfl | rfl | rfl | rfl | rfl | rfl | rfl | rfl
      all_goals
       rw [Bool.eq_iff_iff];simp [refQ, okT, numR, sameR, copyT, hnm, hnm', hfd, hfd']
       try omega
theorem ct91 (r : Rq) (hr : okRq r) (y : Value) (I : Mem) (hy : BySl I y r.fed) (hn : r.fed.length <= 1000000) :
 Ct Tryz.prog (fnv 91) #[.agg (rqV r y).toArray] I (fun v _ => v = .bool (rightR r)) := by
 obtain ⟨a1, n1, c1, rfl, hs1, _⟩ := hy
 refine viaR (ct_via (A := { befores := [(1, [0])], cuts := [(10, ⟨[(1, .keep), (3, .keep)], [], [], fun vals _ _ _ => ∀ i : Int, 3 <= i -> i <= 9 -> refQ r (tagsR r) i = true, fun _ _ => 0⟩)], loops := [(5, ⟨[(1, .keep), (3, .keep), (5, .sh (.int .i64))], [], [], fun vals _ _ _ => match vals with | [.int .i64 j] => 3 <= j /\ j <= 10 /\ ∀ i : Int, 3 <= i -> i <= 9 -> i < j -> refQ r (tagsR r) i = true | _ => False, fun vals _ => match vals with | [.int .i64 j] => (10 - j).toNat | _ => 0⟩)] }) Tryz.func91 rfl Tryz.call91 rfl rfl) (∀ (b : Nat) (a : Mem), I.le a -> a b = some (.cells #[.int .u8 r.kind, .int .u8 r.what, .string r.name, .int .i64 r.p3, .int .i64 r.p4, .int .i64 r.p5, .int .i64 r.p6, .int .i64 r.p7, .int .i64 r.p8, .int .i64 r.p9, .int .i64 r.val, .slice a1 n1 c1] 78 (0, 0)) -> true = true /\ ∃ n, atI a (some ⟨b, 0, none⟩) 0 = some (.int .u8 n) /\ true = true /\ ∃ c, atI a (some ⟨b, 0, none⟩) 1 = some (.int .u8 c) /\ Ct Tryz.prog (fnv 93) #[.int .u8 n, .int .u8 c] a fun v d => ∃ e f g h, v = .tuple #[.slice e f g, .bool h] /\ Br (!h) (Value.bool false = .bool (rightR r)) (true = true /\ ∃ q, atI d (some ⟨b, 0, none⟩) 2 = some (.string q) /\ Br (decide (255 < (q.size : Int))) (Value.bool false = .bool (rightR r)) (true = true /\ ∃ i j k, atI d (some ⟨b, 0, none⟩) 11 = some (.slice i j k) /\ Br (decide (15000 < (j : Int))) (Value.bool false = .bool (rightR r)) (((Rf (SV.v (.pointer (some ⟨b, 0, none⟩))) /\ Rf (SV.v (.slice e f g)) /\ (3 : Int) <= 3 /\ (3 : Int) <= 10 /\ ∀ (l : Int), 3 <= l -> l <= 9 -> l < 3 -> refQ r (tagsR r) l = true) /\ ∀ (l : Mem), Mem -> d.le l -> ∀ (m : Int), 3 <= m /\ m <= 10 /\ (∀ (o : Int), 3 <= o -> o <= 9 -> o < m -> refQ r (tagsR r) o = true) -> Br (decide (m < 10)) ((12 : Nat) = 12 /\ ∃ o, atI l (some ⟨b, 0, none⟩) 0 = some (.int .u8 o) /\ ∃ p, atI l (some ⟨b, 0, none⟩) 1 = some (.int .u8 p) /\ ∃ s, atI l (some ⟨b, 0, none⟩) 2 = some (.string s) /\ ∃ t, atI l (some ⟨b, 0, none⟩) 3 = some (.int .i64 t) /\ ∃ u, atI l (some ⟨b, 0, none⟩) 4 = some (.int .i64 u) /\ ∃ w, atI l (some ⟨b, 0, none⟩) 5 = some (.int .i64 w) /\ ∃ x, atI l (some ⟨b, 0, none⟩) 6 = some (.int .i64 x) /\ ∃ y, atI l (some ⟨b, 0, none⟩) 7 = some (.int .i64 y) /\ ∃ z, atI l (some ⟨b, 0, none⟩) 8 = some (.int .i64 z) /\ ∃ n2, atI l (some ⟨b, 0, none⟩) 9 = some (.int .i64 n2) /\ ∃ n3, atI l (some ⟨b, 0, none⟩) 10 = some (.int .i64 n3) /\ ∃ a2 n4 c2, atI l (some ⟨b, 0, none⟩) 11 = some (.slice a2 n4 c2) /\ Ct Tryz.prog (fnv 123) #[.agg #[.int .u8 o, .int .u8 p, .string s, .int .i64 t, .int .i64 u, .int .i64 w, .int .i64 x, .int .i64 y, .int .i64 z, .int .i64 n2, .int .i64 n3, .slice a2 n4 c2], .int .i64 m] l fun v1 I1 => ∃ n5, v1 = .int .i64 n5 /\ Br (decide (n5 < 0)) (Value.bool false = .bool (rightR r)) (Br (decide (0 < n5)) (Ct Tryz.prog (fnv 125) #[.slice e f g, .int .i64 m] I1 (fun v2 I2 => ∃ b1, v2 = .bool b1 /\ Br (!b1) (Value.bool false = .bool (rightR r)) (Wr .i64 (m + 1) (fun c3 => Rf (SV.v (.pointer (some ⟨b, 0, none⟩))) /\ Rf (SV.v (.slice e f g)) /\ (3 <= c3 /\ c3 <= 10 /\ ∀ (i1 : Int), 3 <= i1 -> i1 <= 9 -> i1 < c3 -> refQ r (tagsR r) i1 = true) /\ Int.toNat (10 - c3) < Int.toNat (10 - m))))) (Wr .i64 (m + 1) (fun c3 => Rf (SV.v (.pointer (some ⟨b, 0, none⟩))) /\ Rf (SV.v (.slice e f g)) /\ (3 <= c3 /\ c3 <= 10 /\ ∀ (i1 : Int), 3 <= i1 -> i1 <= 9 -> i1 < c3 -> refQ r (tagsR r) i1 = true) /\ Int.toNat (10 - c3) < Int.toNat (10 - m))))) (Rf (SV.v (.pointer (some ⟨b, 0, none⟩))) /\ Rf (SV.v (.slice e f g)) /\ ∀ (o : Int), 3 <= o -> o <= 9 -> refQ r (tagsR r) o = true)) /\ ∀ (l : Mem), Mem -> d.le l -> (∀ (m : Int), 3 <= m -> m <= 9 -> refQ r (tagsR r) m = true) -> true = true /\ ∃ m, atI l (some ⟨b, 0, none⟩) 1 = some (.int .u8 m) /\ Br (m == 0) (true = true /\ ∃ o, atI l (some ⟨b, 0, none⟩) 2 = some (.string o) /\ Br (o.toList == (ByteArray.mk #[]).toList) (true = true /\ ∃ p, atI l (some ⟨b, 0, none⟩) 10 = some (.int .i64 p) /\ Br (p == 0) (true = true /\ ∃ s t u, atI l (some ⟨b, 0, none⟩) 11 = some (.slice s t u) /\ Br ((t : Int) == 0) (Value.bool true = .bool (rightR r)) (Ct Tryz.prog (fnv 125) #[.slice e f g, .int .i64 11] l (fun w x => ∃ y, w = .bool y /\ Value.bool y = .bool (rightR r)))) (Ct Tryz.prog (fnv 125) #[.slice e f g, .int .i64 10] l (fun s t => ∃ u, s = .bool u /\ Br u (true = true /\ ∃ w x y, atI t (some ⟨b, 0, none⟩) 11 = some (.slice w x y) /\ Br ((x : Int) == 0) (Value.bool true = .bool (rightR r)) (Ct Tryz.prog (fnv 125) #[.slice e f g, .int .i64 11] t (fun z I1 => ∃ b1, z = .bool b1 /\ Value.bool b1 = .bool (rightR r)))) (Value.bool false = .bool (rightR r))))) (Ct Tryz.prog (fnv 125) #[.slice e f g, .int .i64 2] l (fun p s => ∃ t, p = .bool t /\ Br t (true = true /\ ∃ u, atI s (some ⟨b, 0, none⟩) 10 = some (.int .i64 u) /\ Br (u == 0) (true = true /\ ∃ w x y, atI s (some ⟨b, 0, none⟩) 11 = some (.slice w x y) /\ Br ((x : Int) == 0) (Value.bool true = .bool (rightR r)) (Ct Tryz.prog (fnv 125) #[.slice e f g, .int .i64 11] s (fun z I1 => ∃ b1, z = .bool b1 /\ Value.bool b1 = .bool (rightR r)))) (Ct Tryz.prog (fnv 125) #[.slice e f g, .int .i64 10] s (fun w x => ∃ y, w = .bool y /\ Br y (true = true /\ ∃ z n2 c2, atI x (some ⟨b, 0, none⟩) 11 = some (.slice z n2 c2) /\ Br ((n2 : Int) == 0) (Value.bool true = .bool (rightR r)) (Ct Tryz.prog (fnv 125) #[.slice e f g, .int .i64 11] x (fun v1 I1 => ∃ b1, v1 = .bool b1 /\ Value.bool b1 = .bool (rightR r)))) (Value.bool false = .bool (rightR r))))) (Value.bool false = .bool (rightR r))))) (Ct Tryz.prog (fnv 125) #[.slice e f g, .int .i64 1] l (fun o p => ∃ s, o = .bool s /\ Br s (true = true /\ ∃ t, atI p (some ⟨b, 0, none⟩) 2 = some (.string t) /\ Br (t.toList == (ByteArray.mk #[]).toList) (true = true /\ ∃ u, atI p (some ⟨b, 0, none⟩) 10 = some (.int .i64 u) /\ Br (u == 0) (true = true /\ ∃ w x y, atI p (some ⟨b, 0, none⟩) 11 = some (.slice w x y) /\ Br ((x : Int) == 0) (Value.bool true = .bool (rightR r)) (Ct Tryz.prog (fnv 125) #[.slice e f g, .int .i64 11] p (fun z I1 => ∃ b1, z = .bool b1 /\ Value.bool b1 = .bool (rightR r)))) (Ct Tryz.prog (fnv 125) #[.slice e f g, .int .i64 10] p (fun w x => ∃ y, w = .bool y /\ Br y (true = true /\ ∃ z n2 c2, atI x (some ⟨b, 0, none⟩) 11 = some (.slice z n2 c2) /\ Br ((n2 : Int) == 0) (Value.bool true = .bool (rightR r)) (Ct Tryz.prog (fnv 125) #[.slice e f g, .int .i64 11] x (fun v1 I1 => ∃ b1, v1 = .bool b1 /\ Value.bool b1 = .bool (rightR r)))) (Value.bool false = .bool (rightR r))))) (Ct Tryz.prog (fnv 125) #[.slice e f g, .int .i64 2] p (fun u w => ∃ x, u = .bool x /\ Br x (true = true /\ ∃ y, atI w (some ⟨b, 0, none⟩) 10 = some (.int .i64 y) /\ Br (y == 0) (true = true /\ ∃ z n2 c2, atI w (some ⟨b, 0, none⟩) 11 = some (.slice z n2 c2) /\ Br ((n2 : Int) == 0) (Value.bool true = .bool (rightR r)) (Ct Tryz.prog (fnv 125) #[.slice e f g, .int .i64 11] w (fun v1 I1 => ∃ b1, v1 = .bool b1 /\ Value.bool b1 = .bool (rightR r)))) (Ct Tryz.prog (fnv 125) #[.slice e f g, .int .i64 10] w (fun z I1 => ∃ b1, z = .bool b1 /\ Br b1 (true = true /\ ∃ a2 n2 c2, atI I1 (some ⟨b, 0, none⟩) 11 = some (.slice a2 n2 c2) /\ Br ((n2 : Int) == 0) (Value.bool true = .bool (rightR r)) (Ct Tryz.prog (fnv 125) #[.slice e f g, .int .i64 11] I1 (fun v1 I2 => ∃ b2, v1 = .bool b2 /\ Value.bool b2 = .bool (rightR r)))) (Value.bool false = .bool (rightR r))))) (Value.bool false = .bool (rightR r))))) (Value.bool false = .bool (rightR r)))))))) (by kernel_rfl) ?_
 intro b I1 l1 hb;obtain ⟨sfr, hsf⟩ : ∃ R, R = rightR r := ⟨_, rfl⟩;refine ⟨rfl, _, atC hb rfl, rfl, _, atC hb rfl, (ct93 r.kind r.what hr.kind hr.what I1).mono fun v I2 l2 ⟨a, n, c, hv, hs, hn1, hc1⟩ => ⟨_, _, _, _, hv, Br.mk (fun h => ?_) (fun h => ?_)⟩⟩
 · have h : tagL r.kind r.what = none := by simpa using h
   rw [right_none h]
 have h : (tagL r.kind r.what).isSome = true := by simpa using h
 obtain ⟨l, hq⟩ := Option.isSome_iff_exists.1 h;rw [hq, Option.getD_some] at hs
 have htg : tagsR r = l := by rw [tagsR, hq]; rfl
 rw [htg];have hll := tagL_ok hq;have hln := hs.numLen;have hb2 := l2 _ _ hb;have hfl := hs1.numLen;refine ⟨rfl, _, atC hb2 rfl, Br.mk (fun g => ?_) (fun g1 => ⟨rfl, _, _, _, atC hb2 rfl, Br.mk (fun g => ?_) (fun g2 => ?_)⟩)⟩
 · have g := of_decide_eq_true g
   rw [right_size (.inl (by omega))]
 · have g := of_decide_eq_true g
   rw [right_size (.inr (by omega))]
 have g1 := of_decide_eq_false g1;have g2 := of_decide_eq_false g2
 have hR : rightR r = ([3, 4, 5, 6, 7, 8, 9].all (refQ r l) && ((decide (r.what = 0) || decide ((1 : Int) ∈ l)) && ((decide (r.name = ⟨#[]⟩) || decide ((2 : Int) ∈ l)) && ((decide (r.val = 0) || decide ((10 : Int) ∈ l)) && (decide (r.fed = []) || decide ((11 : Int) ∈ l)))))) := by
  rw [<- refR_eq hr, refR, hq]
  simp only
  rw [decide_eq_true (by omega : r.name.size <= 255), decide_eq_true (by omega : r.fed.length <= 15000)]; rfl
 have C : ∀ (t : Int) (J : Mem), I2.le J -> Ct Tryz.prog (fnv 125) #[.slice a n c, .int .i64 t] J (fun v _ => v = .bool (decide (t ∈ l))) := fun t J lJ => ct125 l t a n c J (hs.mono lJ) (by omega)
 refine ⟨⟨⟨rfl, rfl, by omega, by omega, fun i h3 h9 h => by omega⟩, fun I3 _ l3 j ⟨j3, j10, hj⟩ => Br.mk (fun hlt => ?_) (fun hge => ?_)⟩, ?_⟩
 · have hlt := of_decide_eq_true hlt
   have hb3 := l3 _ _ hb2
   have NO : refQ r l j = false -> Value.bool false = Value.bool (rightR r) := fun hx => by
    have : [3, 4, 5, 6, 7, 8, 9].all (refQ r l) = false := by
     cases hz : [3, 4, 5, 6, 7, 8, 9].all (refQ r l) with
     | false => rfl
     | true =>
      have := (List.all_eq_true.1 hz) j (by rcases (by omega : j = 3 \/ j = 4 \/ j = 5 \/ j = 6 \/ j = 7 \/ j = 8 \/ j = 9) with rfl | rfl | rfl | rfl | rfl | rfl | rfl <;> simp)
      rw [hx] at this; cases this
    rw [hR, this, Bool.false_and]
   have YES : refQ r l j = true -> ∀ i : Int, 3 <= i -> i <= 9 -> i < j + 1 -> refQ r l i = true := fun hx i h3 h9 hi => by
    by_cases hij : i = j
    · rw [hij]; exact hx
    · exact hj i h3 h9 (by omega)
   refine ⟨rfl, _, atC hb3 rfl, _, atC hb3 rfl, _, atC hb3 rfl, _, atC hb3 rfl, _, atC hb3 rfl, _, atC hb3 rfl, _, atC hb3 rfl, _, atC hb3 rfl, _, atC hb3 rfl, _, atC hb3 rfl, _, atC hb3 rfl, _, _, _, atC hb3 rfl, ?_⟩
   refine (ct123 r _ j ⟨j3, by omega⟩ I3).mono fun v I4 l4 hv => ⟨_, hv, Br.mk (fun g => ?_) (fun g => Br.mk (fun g' => ?_) (fun g' => ?_))⟩
   · have g := of_decide_eq_true g
     exact NO (by rw [refQ, decide_eq_false (by omega), Bool.false_and])
   · have g := of_decide_eq_false g
     have g' := of_decide_eq_true g';refine (C j I4 (Mem.le_trans l3 l4)).mono fun v I5 l5 hv => ⟨_, hv, Br.mk (fun k => ?_) (fun k => ?_)⟩
     · have k : ¬ j ∈ l := by simpa using k
       exact NO (by rw [refQ, decide_eq_false (p := numR r j <= 0) (by omega), decide_eq_false k]; simp)
     · have k : j ∈ l := by simpa using k
       exact wr_i64 (by omega) (by omega) ⟨rfl, rfl, ⟨by omega, by omega, YES (by rw [refQ, decide_eq_true k, decide_eq_true (by omega)]; simp)⟩, by omega⟩
   · have g := of_decide_eq_false g
     have g' := of_decide_eq_false g'
     exact wr_i64 (by omega) (by omega) ⟨rfl, rfl, ⟨by omega, by omega, YES (by rw [refQ, decide_eq_true (by omega : 0 <= numR r j), decide_eq_true (by omega : numR r j <= 0)]; rfl)⟩, by omega⟩
 · have hge := of_decide_eq_false hge
   exact ⟨rfl, rfl, fun i h3 h9 => hj i h3 h9 (by omega)⟩
 intro I3 _ l3 hall;have hb3 := (Mem.le_trans l2 l3) _ _ hb
 have ha : [3, 4, 5, 6, 7, 8, 9].all (refQ r l) = true := by
  rw [List.all_eq_true];intro i hi;simp only [List.mem_cons, List.not_mem_nil, or_false] at hi
  exact hall i (by omega) (by omega)
 rw [ha, Bool.true_and] at hR
 have sF : ∀ J, I3.le J -> rightR r = (decide (r.fed = []) || decide ((11 : Int) ∈ l)) -> (true = true /\ ∃ a_4 n_5 c_2, atI J (some { block := b, off := 0 }) 11 = some (Value.slice a_4 n_5 c_2) /\ Br (((n_5 : Nat) : Int) == 0) (Value.bool true = Value.bool (rightR r)) (Ct Tryz.prog (fnv 125) #[Value.slice a n c, Value.int IntKind.i64 11] J fun v I' => ∃ b, v = Value.bool b /\ Value.bool b = Value.bool (rightR r))) := fun J lJ e => by
  refine ⟨rfl, _, _, _, atC (lJ _ _ hb3) rfl, Br.mk (fun g => ?_) (fun g => ?_)⟩
  · have g : n1 = 0 := by simpa using g
    rw [e, decide_eq_true (List.eq_nil_of_length_eq_zero (by omega))]; rfl
  · have g : n1 ≠ 0 := by simpa using g
    refine (C 11 J (Mem.le_trans l3 lJ)).mono fun v I5 l5 hv => ⟨_, hv, ?_⟩
    rw [e, decide_eq_false (p := r.fed = []) (fun hc => by rw [hc] at hfl; simp at hfl; omega), Bool.false_or]
 have sV : ∀ J, I3.le J -> rightR r = ((decide (r.val = 0) || decide ((10 : Int) ∈ l)) && (decide (r.fed = []) || decide ((11 : Int) ∈ l))) -> (true = true /\ ∃ n_4, atI J (some { block := b, off := 0 }) 10 = some (Value.int IntKind.i64 n_4) /\ Br (n_4 == 0) (true = true /\ ∃ a_4 n_5 c_2, atI J (some { block := b, off := 0 }) 11 = some (Value.slice a_4 n_5 c_2) /\ Br (((n_5 : Nat) : Int) == 0) (Value.bool true = Value.bool (rightR r)) (Ct Tryz.prog (fnv 125) #[Value.slice a n c, Value.int IntKind.i64 11] J fun v I' => ∃ b, v = Value.bool b /\ Value.bool b = Value.bool (rightR r))) (Ct Tryz.prog (fnv 125) #[Value.slice a n c, Value.int IntKind.i64 10] J fun v I' => ∃ b_2, v = Value.bool b_2 /\ Br b_2 (true = true /\ ∃ a_4 n_5 c_2, atI I' (some { block := b, off := 0 }) 11 = some (Value.slice a_4 n_5 c_2) /\ Br (((n_5 : Nat) : Int) == 0) (Value.bool true = Value.bool (rightR r)) (Ct Tryz.prog (fnv 125) #[Value.slice a n c, Value.int IntKind.i64 11] I' fun v I' => ∃ b, v = Value.bool b /\ Value.bool b = Value.bool (rightR r))) (Value.bool false = Value.bool (rightR r)))) := fun J lJ e => by
  refine ⟨rfl, _, atC (lJ _ _ hb3) rfl, Br.mk (fun g => ?_) (fun g => ?_)⟩
  · have g := eqv g
    exact sF J lJ (by rw [e, decide_eq_true g]; simp)
  · have g := nev g
    refine (C 10 J (Mem.le_trans l3 lJ)).mono fun v I5 l5 hv => ⟨_, hv, Br.mk (fun k => ?_) (fun k => ?_)⟩
    · exact sF I5 (Mem.le_trans lJ l5) (by rw [e, k]; simp)
    · rw [e, k, decide_eq_false g]; rfl
 have sN : ∀ J, I3.le J -> rightR r = ((decide (r.name = ⟨#[]⟩) || decide ((2 : Int) ∈ l)) && ((decide (r.val = 0) || decide ((10 : Int) ∈ l)) && (decide (r.fed = []) || decide ((11 : Int) ∈ l)))) -> (true = true /\ ∃ q, atI J (some { block := b, off := 0 }) 2 = some (Value.string q) /\ Br (q.toList == (⟨#[]⟩ : ByteArray).toList) (true = true /\ ∃ n_4, atI J (some { block := b, off := 0 }) 10 = some (Value.int IntKind.i64 n_4) /\ Br (n_4 == 0) (true = true /\ ∃ a_4 n_5 c_2, atI J (some { block := b, off := 0 }) 11 = some (Value.slice a_4 n_5 c_2) /\ Br (((n_5 : Nat) : Int) == 0) (Value.bool true = Value.bool (rightR r)) (Ct Tryz.prog (fnv 125) #[Value.slice a n c, Value.int IntKind.i64 11] J fun v I' => ∃ b, v = Value.bool b /\ Value.bool b = Value.bool (rightR r))) (Ct Tryz.prog (fnv 125) #[Value.slice a n c, Value.int IntKind.i64 10] J fun v I' => ∃ b_2, v = Value.bool b_2 /\ Br b_2 (true = true /\ ∃ a_4 n_5 c_2, atI I' (some { block := b, off := 0 }) 11 = some (Value.slice a_4 n_5 c_2) /\ Br (((n_5 : Nat) : Int) == 0) (Value.bool true = Value.bool (rightR r)) (Ct Tryz.prog (fnv 125) #[Value.slice a n c, Value.int IntKind.i64 11] I' fun v I' => ∃ b, v = Value.bool b /\ Value.bool b = Value.bool (rightR r))) (Value.bool false = Value.bool (rightR r)))) (Ct Tryz.prog (fnv 125) #[Value.slice a n c, Value.int IntKind.i64 2] J fun v I' => ∃ b_2, v = Value.bool b_2 /\ Br b_2 (true = true /\ ∃ n_4, atI I' (some { block := b, off := 0 }) 10 = some (Value.int IntKind.i64 n_4) /\ Br (n_4 == 0) (true = true /\ ∃ a_4 n_5 c_2, atI I' (some { block := b, off := 0 }) 11 = some (Value.slice a_4 n_5 c_2) /\ Br (((n_5 : Nat) : Int) == 0) (Value.bool true = Value.bool (rightR r)) (Ct Tryz.prog (fnv 125) #[Value.slice a n c, Value.int IntKind.i64 11] I' fun v K => ∃ b, v = Value.bool b /\ Value.bool b = Value.bool (rightR r))) (Ct Tryz.prog (fnv 125) #[Value.slice a n c, Value.int IntKind.i64 10] I' fun v K => ∃ b_2, v = Value.bool b_2 /\ Br b_2 (true = true /\ ∃ a_4 n_5 c_2, atI K (some { block := b, off := 0 }) 11 = some (Value.slice a_4 n_5 c_2) /\ Br (((n_5 : Nat) : Int) == 0) (Value.bool true = Value.bool (rightR r)) (Ct Tryz.prog (fnv 125) #[Value.slice a n c, Value.int IntKind.i64 11] K fun v K => ∃ b, v = Value.bool b /\ Value.bool b = Value.bool (rightR r))) (Value.bool false = Value.bool (rightR r)))) (Value.bool false = Value.bool (rightR r)))) := fun J lJ e => by
  refine ⟨rfl, _, atC (lJ _ _ hb3) rfl, Br.mk (fun g => ?_) (fun g => ?_)⟩
  · rw [str_eq] at g
    have g : r.name = ⟨#[]⟩ := by simpa using g
    exact sV J lJ (by rw [e, decide_eq_true g]; simp)
  · rw [str_eq] at g
    have g : ¬ r.name = ⟨#[]⟩ := by simpa using g
    refine (C 2 J (Mem.le_trans l3 lJ)).mono fun v I5 l5 hv => ⟨_, hv, Br.mk (fun k => ?_) (fun k => ?_)⟩
    · exact sV I5 (Mem.le_trans lJ l5) (by rw [e, k]; simp)
    · rw [e, k, decide_eq_false g]; rfl
 refine ⟨rfl, _, atC hb3 rfl, Br.mk (fun g => ?_) (fun g => ?_)⟩
 · have g := eqv g
   exact sN I3 (Mem.le_refl _) (by rw [hR, decide_eq_true g]; simp)
 · have g := nev g
   refine (C 1 I3 l3).mono fun v I5 l5 hv => ⟨_, hv, Br.mk (fun k => ?_) (fun k => ?_)⟩
   · exact sN I5 l5 (by rw [hR, k]; simp)
   · rw [hR, k, decide_eq_false g]; rfl
set_option maxRecDepth 100000 in
theorem ct90 (r : Rq) (hr : okRq r) (hnm : r.name.size <= 1000000) (y : Value) (I : Mem) (hy : BySl I y r.fed) (hfl : r.fed.length <= 1000000) :
 Ct Tryz.prog (fnv 90) #[.agg (rqV r y).toArray] I (fun v I' => ∃ a' n' c', v = .tuple #[.slice a' n' c', .int .i64 (if rightR r then 0 else 340)] /\ SlM I' a' n' 1 (ints .u8 (if rightR r then writeR r else [])) /\ n' <= c' /\ c' <= maxLen) := by
 obtain ⟨a1, n1, c1, rfl, hs1, hc1, hm1⟩ := hy
 refine viaR (ct_via (A := { befores := [(1,[0])], loops := [(6, ⟨[(1, .keep), (4, .keep), (6, .row 1), (7, .sh (.int .i64))], [(1, .row)], [(6, 2, 182)], fun vals xss I' _ => match vals, xss with | [.int .i64 j], [xs] => 0 <= j /\ j <= (tagsR r).length /\ FR I' xs (fldsR r ((tagsR r).take j.toNat)) | _, _ => False, fun vals _ => match vals with | [.int .i64 j] => ((tagsR r).length - j).toNat | _ => 0⟩)] }) Tryz.func90 rfl Tryz.call90 rfl rfl) (∀ (b : Nat) (a : Mem), I.le a -> a b = some (.cells #[.int .u8 r.kind, .int .u8 r.what, .string r.name, .int .i64 r.p3, .int .i64 r.p4, .int .i64 r.p5, .int .i64 r.p6, .int .i64 r.p7, .int .i64 r.p8, .int .i64 r.p9, .int .i64 r.val, .slice a1 n1 c1] 78 (0, 0)) -> (12 : Nat) = 12 /\ ∃ n, atI a (some ⟨b, 0, none⟩) 0 = some (.int .u8 n) /\ ∃ c, atI a (some ⟨b, 0, none⟩) 1 = some (.int .u8 c) /\ ∃ q, atI a (some ⟨b, 0, none⟩) 2 = some (.string q) /\ ∃ d, atI a (some ⟨b, 0, none⟩) 3 = some (.int .i64 d) /\ ∃ e, atI a (some ⟨b, 0, none⟩) 4 = some (.int .i64 e) /\ ∃ f, atI a (some ⟨b, 0, none⟩) 5 = some (.int .i64 f) /\ ∃ g, atI a (some ⟨b, 0, none⟩) 6 = some (.int .i64 g) /\ ∃ h, atI a (some ⟨b, 0, none⟩) 7 = some (.int .i64 h) /\ ∃ i, atI a (some ⟨b, 0, none⟩) 8 = some (.int .i64 i) /\ ∃ j, atI a (some ⟨b, 0, none⟩) 9 = some (.int .i64 j) /\ ∃ k, atI a (some ⟨b, 0, none⟩) 10 = some (.int .i64 k) /\ ∃ l m o, atI a (some ⟨b, 0, none⟩) 11 = some (.slice l m o) /\ Ct Tryz.prog (fnv 91) #[.agg #[.int .u8 n, .int .u8 c, .string q, .int .i64 d, .int .i64 e, .int .i64 f, .int .i64 g, .int .i64 h, .int .i64 i, .int .i64 j, .int .i64 k, .slice l m o]] a fun v p => ∃ s, v = .bool s /\ Br (!s) (∃ t u w, Value.tuple #[.slice none 0 0, .int .i64 340] = .tuple #[.slice t u w, .int .i64 (if rightR r = true then 0 else 340)] /\ SlM p t u 1 (List.map (Value.int .u8) (if rightR r = true then (1 : Int) :: r.kind :: writeF (fldsR r (tagsR r)) else ([] : List Int))) /\ u <= w /\ w <= 9223372036854775807) (true = true /\ ∃ t, atI p (some ⟨b, 0, none⟩) 0 = some (.int .u8 t) /\ true = true /\ ∃ u, atI p (some ⟨b, 0, none⟩) 1 = some (.int .u8 u) /\ Ct Tryz.prog (fnv 93) #[.int .u8 t, .int .u8 u] p fun w x => ∃ y z c2 b1, w = .tuple #[.slice y z c2, .bool b1] /\ (Rf (SV.v (.pointer (some ⟨b, 0, none⟩))) /\ Rf (SV.v (.slice y z c2)) /\ (0 : Nat) = 0 /\ (0 : Int) <= 0 /\ 0 <= ((tagsR r).length : Int) /\ FR x [] []) /\ ∀ (I1 : Mem), Mem -> x.le I1 -> ∀ (x1 : List Value) (n2 : Int), 0 <= n2 /\ n2 <= ((tagsR r).length : Int) /\ FR I1 x1 (fldsR r (List.take n2.toNat (tagsR r))) -> Br (decide (n2 < (z : Int))) (0 <= n2 /\ n2 < (z : Int) /\ y.isSome = true /\ ∃ n3, atI I1 y (n2.toNat * 1 + 0) = some (.int .i64 n3) /\ 0 <= n2 /\ n2 < (z : Int) /\ y.isSome = true /\ ∃ n4, atI I1 y (n2.toNat * 1 + 0) = some (.int .i64 n4) /\ Br (n4 == 1) (true = true /\ ∃ n5, atI I1 (some ⟨b, 0, none⟩) 1 = some (.int .u8 n5) /\ Wr .u64 n5 fun c3 => Ct Tryz.prog (fnv 121) #[.int .u64 c3] I1 fun v1 I2 => ∃ a2 n6 c4, v1 = .slice a2 n6 c4 /\ x1.length = x1.length / 2 * 2 /\ x1.length / 2 + 1 <= 9223372036854775807 /\ (x1.length / 2 + 1) * 32 <= 140737488355328 /\ Wr .i64 (n2 + 1) fun c5 => Rf (SV.v (.pointer (some ⟨b, 0, none⟩))) /\ Rf (SV.v (.slice y z c2)) /\ x1.length / 2 + 1 = List.length (x1 ++ [.int .i64 n3, .slice a2 n6 c4]) / 2 /\ (0 <= c5 /\ c5 <= ((tagsR r).length : Int) /\ FR I2 (x1 ++ [.int .i64 n3, .slice a2 n6 c4]) (fldsR r (List.take c5.toNat (tagsR r)))) /\ Int.toNat (((tagsR r).length : Int) - c5) < Int.toNat (((tagsR r).length : Int) - n2)) (Br (n4 == 2) (true = true /\ ∃ q1, atI I1 (some ⟨b, 0, none⟩) 2 = some (.string q1) /\ q1.size <= 4611686018427387904 /\ ∀ (a2 : Option Addr) (c3 : Nat) (I2 : Mem), I1.le I2 -> a2.isSome = true -> q1.size <= c3 -> c3 <= 9223372036854775807 -> (∀ (j1 : Nat) (b2 : UInt8), q1.data.toList[j1]? = some b2 -> atI I2 a2 j1 = some (.int .u8 (b2.toNat : Int))) -> x1.length = x1.length / 2 * 2 /\ x1.length / 2 + 1 <= 9223372036854775807 /\ (x1.length / 2 + 1) * 32 <= 140737488355328 /\ Wr .i64 (n2 + 1) fun c4 => Rf (SV.v (.pointer (some ⟨b, 0, none⟩))) /\ Rf (SV.v (.slice y z c2)) /\ x1.length / 2 + 1 = List.length (x1 ++ [.int .i64 n3, .slice a2 q1.size c3]) / 2 /\ (0 <= c4 /\ c4 <= ((tagsR r).length : Int) /\ FR I2 (x1 ++ [.int .i64 n3, .slice a2 q1.size c3]) (fldsR r (List.take c4.toNat (tagsR r)))) /\ Int.toNat (((tagsR r).length : Int) - c4) < Int.toNat (((tagsR r).length : Int) - n2)) (Br (n4 == 10) (true = true /\ ∃ n5, atI I1 (some ⟨b, 0, none⟩) 10 = some (.int .i64 n5) /\ Ct Tryz.prog (fnv 122) #[.int .i64 n5] I1 fun v1 I2 => ∃ n6, v1 = .int .u64 n6 /\ Ct Tryz.prog (fnv 121) #[.int .u64 n6] I2 fun v2 I3 => ∃ a2 n7 c3, v2 = .slice a2 n7 c3 /\ x1.length = x1.length / 2 * 2 /\ x1.length / 2 + 1 <= 9223372036854775807 /\ (x1.length / 2 + 1) * 32 <= 140737488355328 /\ Wr .i64 (n2 + 1) fun c4 => Rf (SV.v (.pointer (some ⟨b, 0, none⟩))) /\ Rf (SV.v (.slice y z c2)) /\ x1.length / 2 + 1 = List.length (x1 ++ [.int .i64 n3, .slice a2 n7 c3]) / 2 /\ (0 <= c4 /\ c4 <= ((tagsR r).length : Int) /\ FR I3 (x1 ++ [.int .i64 n3, .slice a2 n7 c3]) (fldsR r (List.take c4.toNat (tagsR r)))) /\ Int.toNat (((tagsR r).length : Int) - c4) < Int.toNat (((tagsR r).length : Int) - n2)) (Br (n4 == 11) (true = true /\ ∃ a2 n5 c3, atI I1 (some ⟨b, 0, none⟩) 11 = some (.slice a2 n5 c3) /\ x1.length = x1.length / 2 * 2 /\ x1.length / 2 + 1 <= 9223372036854775807 /\ (x1.length / 2 + 1) * 32 <= 140737488355328 /\ Wr .i64 (n2 + 1) fun c4 => Rf (SV.v (.pointer (some ⟨b, 0, none⟩))) /\ Rf (SV.v (.slice y z c2)) /\ x1.length / 2 + 1 = List.length (x1 ++ [.int .i64 n3, .slice a2 n5 c3]) / 2 /\ (0 <= c4 /\ c4 <= ((tagsR r).length : Int) /\ FR I1 (x1 ++ [.int .i64 n3, .slice a2 n5 c3]) (fldsR r (List.take c4.toNat (tagsR r)))) /\ Int.toNat (((tagsR r).length : Int) - c4) < Int.toNat (((tagsR r).length : Int) - n2)) ((12 : Nat) = 12 /\ ∃ n5, atI I1 (some ⟨b, 0, none⟩) 0 = some (.int .u8 n5) /\ ∃ n6, atI I1 (some ⟨b, 0, none⟩) 1 = some (.int .u8 n6) /\ ∃ q1, atI I1 (some ⟨b, 0, none⟩) 2 = some (.string q1) /\ ∃ n7, atI I1 (some ⟨b, 0, none⟩) 3 = some (.int .i64 n7) /\ ∃ n8, atI I1 (some ⟨b, 0, none⟩) 4 = some (.int .i64 n8) /\ ∃ n9, atI I1 (some ⟨b, 0, none⟩) 5 = some (.int .i64 n9) /\ ∃ n10, atI I1 (some ⟨b, 0, none⟩) 6 = some (.int .i64 n10) /\ ∃ n11, atI I1 (some ⟨b, 0, none⟩) 7 = some (.int .i64 n11) /\ ∃ n12, atI I1 (some ⟨b, 0, none⟩) 8 = some (.int .i64 n12) /\ ∃ n13, atI I1 (some ⟨b, 0, none⟩) 9 = some (.int .i64 n13) /\ ∃ n14, atI I1 (some ⟨b, 0, none⟩) 10 = some (.int .i64 n14) /\ ∃ a2 n15 c3, atI I1 (some ⟨b, 0, none⟩) 11 = some (.slice a2 n15 c3) /\ 0 <= n2 /\ n2 < (z : Int) /\ y.isSome = true /\ ∃ n16, atI I1 y (n2.toNat * 1 + 0) = some (.int .i64 n16) /\ Ct Tryz.prog (fnv 123) #[.agg #[.int .u8 n5, .int .u8 n6, .string q1, .int .i64 n7, .int .i64 n8, .int .i64 n9, .int .i64 n10, .int .i64 n11, .int .i64 n12, .int .i64 n13, .int .i64 n14, .slice a2 n15 c3], .int .i64 n16] I1 fun v1 I2 => ∃ n17, v1 = .int .i64 n17 /\ Wr .u64 n17 fun c4 => Ct Tryz.prog (fnv 121) #[.int .u64 c4] I2 fun v2 I3 => ∃ a3 n18 c5, v2 = .slice a3 n18 c5 /\ x1.length = x1.length / 2 * 2 /\ x1.length / 2 + 1 <= 9223372036854775807 /\ (x1.length / 2 + 1) * 32 <= 140737488355328 /\ Wr .i64 (n2 + 1) fun c6 => Rf (SV.v (.pointer (some ⟨b, 0, none⟩))) /\ Rf (SV.v (.slice y z c2)) /\ x1.length / 2 + 1 = List.length (x1 ++ [.int .i64 n3, .slice a3 n18 c5]) / 2 /\ (0 <= c6 /\ c6 <= ((tagsR r).length : Int) /\ FR I3 (x1 ++ [.int .i64 n3, .slice a3 n18 c5]) (fldsR r (List.take c6.toNat (tagsR r)))) /\ Int.toNat (((tagsR r).length : Int) - c6) < Int.toNat (((tagsR r).length : Int) - n2)))))) (∀ (a2 : Option Addr) (c3 : Nat) (I2 : Mem), I1.le I2 -> RowM I2 a2 c3 2 x1 -> Ct Tryz.prog (fnv 124) #[.slice a2 (x1.length / 2) c3] I2 fun v1 I3 => ∃ a3 n3 c4 n4, v1 = .tuple #[.slice a3 n3 c4, .int .i64 n4] /\ true = true /\ ∃ n5, atI I3 (some ⟨b, 0, none⟩) 0 = some (.int .u8 n5) /\ ∃ y1, y1.length = n3 * 1 /\ (a3 = none -> n3 = 0) /\ (∀ (j1 : Nat) (v2 : Value), y1[j1]? = some v2 -> atI I3 a3 j1 = some v2) /\ (∀ (v2 : Value), Membership.mem y1 v2 -> v2.oneCell' = true) /\ (2 : Nat) = 2 /\ 2 + n3 <= 9223372036854775807 /\ (2 + n3) * 1 <= 140737488355328 /\ ∀ (a4 : Option Addr) (c5 : Nat) (I4 : Mem), I3.le I4 -> RowM I4 a4 c5 1 (.int .u8 1 :: .int .u8 n5 :: y1) -> ∃ a5 n6 c6, Value.tuple #[.slice a4 (2 + n3) c5, .int .i64 0] = .tuple #[.slice a5 n6 c6, .int .i64 (if rightR r = true then 0 else 340)] /\ SlM I4 a5 n6 1 (List.map (Value.int .u8) (if rightR r = true then (1 : Int) :: r.kind :: writeF (fldsR r (tagsR r)) else ([] : List Int))) /\ n6 <= c6 /\ c6 <= 9223372036854775807))) (by kernel_rfl) ?_
 have hmx : maxLen = 9223372036854775807 := by decide
 intro b I1 l1 hb;have hs1 := hs1.mono l1;have hyB : ∀ {J : Mem}, I1.le J -> BySl J (.slice a1 n1 c1) r.fed := fun l => ⟨_, _, _, rfl, hs1.mono l, hc1, hm1⟩;refine ⟨rfl, _, atC hb rfl, _, atC hb rfl, _, atC hb rfl, _, atC hb rfl, _, atC hb rfl, _, atC hb rfl, _, atC hb rfl, _, atC hb rfl, _, atC hb rfl, _, atC hb rfl, _, atC hb rfl, _, _, _, atC hb rfl, ?_⟩;refine (ct91 r hr _ I1 (hyB (Mem.le_refl _)) hfl).mono fun v I2 l2 hv => ⟨_, hv, Br.mk (fun h => ?_) (fun h => ?_)⟩
 · have h : rightR r = false := by simpa using h
   rw [h]
   exact ⟨none, 0, 0, rfl, sl_nil _ _, by omega, by omega⟩
 have h : rightR r = true := by simpa using h
 obtain ⟨ht, hn1, hn2, _⟩ := right_tag h;obtain ⟨hl1, hl2⟩ := tagL_ok ht;have hF := right_flds hr h;have hb2 := l2 _ _ hb;have hk := hr.kind;have hw := hr.what;refine ⟨rfl, _, atC hb2 rfl, rfl, _, atC hb2 rfl, ?_⟩;refine (ct93 r.kind r.what hk hw I2).mono fun v I3 l3 ⟨a, n, c, hv, hs, hn, hc⟩ => ⟨_, _, _, _, hv, ?_⟩;rw [ht, Option.getD_some] at hs;have hnn := hs.numLen;have hb3 := l3 _ _ hb2
 refine ⟨⟨rfl, rfl, rfl, by omega, by omega, trivial⟩, ?_⟩
 rintro I4 _ l4 xs j ⟨h0, h1, hFR⟩;have hb4 := l4 _ _ hb3;have hs4 := hs.mono l4;have hxl := hFR.len
 have htl : (fldsR r ((tagsR r).take j.toNat)).length = j.toNat := by rw [fldsR, List.length_map, List.length_take]; omega
 rw [htl] at hxl;refine Br.mk (fun hlt => ?_) (fun hge => ?_)
 · have hlt := of_decide_eq_true hlt
   obtain ⟨t, ht1, hat⟩ := hs4.intAt h0 hlt;have htr := hl1 t (List.mem_of_getElem? ht1)
   have hsome : a.isSome = true := by
    cases ha : a with
    | none => have := hs4.nil ha; omega
    | some _ => rfl
   have e1 : xs.length = xs.length / 2 * 2 := by omega
   have nx : ∀ {J : Mem} {a : Option Addr} {m c : Nat}, I4.le J -> BySl J (.slice a m c) (bytesR r t) -> FR J (xs ++ [.int .i64 t, .slice a m c]) (fldsR r ((tagsR r).take (j + 1).toNat)) := fun {J a m c} l hB => by
    rw [show (j + 1).toNat = j.toNat + 1 by omega, take_succ' ht1]
    have : fldsR r ((tagsR r).take j.toNat ++ [t]) = fldsR r ((tagsR r).take j.toNat) ++ [(t, bytesR r t)] := by simp [fldsR]
    rw [this]
    exact (hFR.mono l).snoc ⟨⟨⟨by show -9223372036854775808 <= t; omega, by show t <= 9223372036854775807; omega⟩, bytesR_ok hr t⟩, rfl, hB⟩
   refine ⟨h0, hlt, hsome, t, hat, h0, hlt, hsome, t, hat, Br.mk (fun g => ?_) (fun g1 => Br.mk (fun g => ?_) (fun g2 => Br.mk (fun g => ?_) (fun g10 => Br.mk (fun g => ?_) (fun g11 => ?_))))⟩
   · obtain rfl := eqv g
     refine ⟨rfl, _, atC hb4 rfl, _, IntWalk.u64_in _ ⟨by omega, by omega⟩, ?_⟩
     refine (ct121 r.what ⟨by omega, by omega⟩ I4).mono fun v I5 l5 ⟨a5, m5, c5, hv, g1, g2, g3⟩ => ⟨_, _, _, hv, ⟨e1, by omega, by omega, wr_i64 (by omega) (by omega) ⟨rfl, rfl, by simp <;> omega, ⟨by omega, by omega, nx l5 ⟨_, _, _, rfl, g1, g2, g3⟩⟩, by omega⟩⟩⟩
   · obtain rfl := eqv g
     refine ⟨rfl, _, atC hb4 rfl, by omega, fun a5 cp I5 l5 hsm hq hcp hat5 => ⟨e1, by omega, by omega, wr_i64 (by omega) (by omega) ⟨rfl, rfl, by simp <;> omega, ⟨by omega, by omega, nx l5 ⟨_, _, _, rfl, str_sl hsm (by omega) hat5, hq, hcp⟩⟩, by omega⟩⟩⟩
   · obtain rfl := eqv g
     refine ⟨rfl, _, atC hb4 rfl, ?_⟩;refine (ct122 r.val hr.val I4).mono fun v I5 l5 hv => ⟨_, hv, ?_⟩
     refine (ct121 (foldZ r.val) (foldZ_range hr.val) I5).mono fun v I6 l6 ⟨a5, m5, c5, hv, g1, g2, g3⟩ => ⟨_, _, _, hv, ⟨e1, by omega, by omega, wr_i64 (by omega) (by omega) ⟨rfl, rfl, by simp <;> omega, ⟨by omega, by omega, nx (Mem.le_trans l5 l6) ⟨_, _, _, rfl, g1, g2, g3⟩⟩, by omega⟩⟩⟩
   · obtain rfl := eqv g
     exact ⟨rfl, _, _, _, atC hb4 rfl, ⟨e1, by omega, by omega, wr_i64 (by omega) (by omega) ⟨rfl, rfl, by simp <;> omega, ⟨by omega, by omega, nx (Mem.le_refl _) (hyB (Mem.le_trans (Mem.le_trans l2 l3) l4))⟩, by omega⟩⟩⟩
   · have e1' := nev g1
     have e2' := nev g2;have e10 := nev g10;have e11 := nev g11;refine ⟨rfl, _, atC hb4 rfl, _, atC hb4 rfl, _, atC hb4 rfl, _, atC hb4 rfl, _, atC hb4 rfl, _, atC hb4 rfl, _, atC hb4 rfl, _, atC hb4 rfl, _, atC hb4 rfl, _, atC hb4 rfl, _, atC hb4 rfl, _, _, _, atC hb4 rfl, h0, hlt, hsome, t, hat, ?_⟩
     refine (ct123 r _ t (by omega) I4).mono fun v I5 l5 hv => ⟨_, hv, _, rfl, ?_⟩
     have hbt : bytesR r t = formN (IntKind.u64.wrap (numR r t)).toNat := by
      rw [bytesR, if_neg e1', if_neg e2', if_neg e10, if_neg e11]
     refine (ct121 _ (w64_range (numR r t)) I5).mono fun v I6 l6 ⟨a5, m5, c5, hv, g1, g2, g3⟩ => ⟨_, _, _, hv, ⟨e1, by omega, by omega, wr_i64 (by omega) (by omega) ⟨rfl, rfl, by simp <;> omega, ⟨by omega, by omega, nx (Mem.le_trans l5 l6) (by rw [hbt]; exact ⟨_, _, _, rfl, g1, g2, g3⟩)⟩, by omega⟩⟩⟩
 · have hge := of_decide_eq_false hge
   rw [List.take_of_length_le (by omega)] at hFR
   refine fun a5 cp I5 l5 hrow => ?_
   have hll : (fldsR r (tagsR r)).length = (tagsR r).length := by rw [fldsR, List.length_map]
   have hfm := fldM_row hrow (hFR.mono l5)
   rw [show xs.length / 2 = (fldsR r (tagsR r)).length by omega]
   refine (ct124 _ (fun f hf => by
    obtain ⟨t, _, rfl⟩ := List.mem_map.1 hf
    exact bytesR_len hr hnm hfl t) a5 _ cp I5 hfm (by omega)).mono fun v I6 l6 ⟨a6, n6, c6, hv, hw6, hn6, hc6⟩ => ⟨_, _, _, _, hv, rfl, _, atC (l6 _ _ (l5 _ _ hb4)) rfl, ?_⟩
   rw [if_pos hF] at hw6;have hl6 := hw6.numLen;have hwl := write_len hF;rw [h]
   refine ⟨_, hw6.len, hw6.nil, hw6.at_, one_ints, rfl, by omega, by omega, fun a7 cp I7 l7 hrow => ⟨a7, 2 + n6, cp, rfl, ?_⟩⟩
   have hrow : RowM I7 a7 cp 1 (ints .u8 (writeR r)) := hrow
   have hlw : (writeR r).length = 2 + n6 := by rw [writeR, List.length_cons, List.length_cons]; omega
   have h1 := hrow.1;rw [ints_len] at h1
   exact ⟨hrow.sl (by omega) (by rw [ints_len]; omega), by omega, hrow.2.1⟩
def behT (r : Rq) (l : List Int) : Tx := l.flatMap fun t => 32 :: fieldT r t
theorem joinC_beh (c : UInt8) (x : Tx) : ∀ ys : List Tx, joinC c (x :: ys) = x ++ ys.flatMap fun y => c :: y
 | [] => by simp [joinC]
 | y :: r => by rw [joinC, joinC_beh c y r]; simp
theorem words_beh (r : Rq) : wordsB r = strT (tx (nameS r.kind) ++ behT r (tagsR r)) := by
 rw [wordsB, joinB, wordsL, List.map_cons, joinC_beh, List.map_map, behT, List.flatMap_map];simp only [Function.comp, tx_strT]
theorem beh_snoc (r : Rq) (l : List Int) (t : Int) : behT r (l ++ [t]) = behT r l ++ 32 :: fieldT r t := by simp [behT]
theorem beh_len (r : Rq) (l : List Int) (k : Nat) : (behT r (l.take k)).length <= (behT r l).length := by
 have : behT r l = behT r (l.take k) ++ behT r (l.drop k) := by rw [behT, behT, behT, <- List.flatMap_append, List.take_append_drop]
 rw [this, List.length_append]; omega
theorem kinds_at {k : Int} (h0 : 0 <= k) (h1 : k <= 9) : kindsN[k.toNat]? = some (nameS k) := by
 have : ∀ k : Fin 10, kindsN[k.val]? = some (nameS k.val) := by decide +kernel
 have := this ⟨k.toNat, by omega⟩
 simp only at this
 rwa [Int.toNat_of_nonneg h0] at this
theorem asks_at {k : Int} (h0 : 0 <= k) (h1 : k <= 5) : asksN[k.toNat]? = some (askS k) := by
 have : ∀ k : Fin 6, asksN[k.val]? = some (askS k.val) := by decide +kernel
 have := this ⟨k.toNat, by omega⟩
 simp only at this
 rwa [Int.toNat_of_nonneg h0] at this
set_option maxHeartbeats 4000000 in
theorem ct46 (r : Rq) (hr : okRq r) (hnm : r.name.size <= 1000000) (y : Value) (I : Mem) (hy : BySl I y r.fed) (hfl : r.fed.length <= 1000000) :
 Ct Tryz.prog (fnv 46) #[.agg (rqV r y).toArray] I (fun v _ => v = .tuple #[.string (if rightR r then wordsB r else ⟨#[]⟩), .int .i64 (if rightR r then 0 else 412)]) := by
 have hy' := hy;obtain ⟨p, n, c, rfl, hp, hpc, hpm⟩ := hy;obtain ⟨WI, hWI⟩ : ∃ f : Int -> List Value -> Prop, f = fun (j : Int) xs => 0 <= j /\ j <= (tagsR r).length /\ xs = ints .u8 (intT (tx (nameS r.kind) ++ behT r ((tagsR r).take j.toNat))) := ⟨_, rfl⟩
 obtain ⟨Q, hQ⟩ : ∃ q : Value, q = .tuple #[.string (if rightR r then wordsB r else ⟨#[]⟩), .int .i64 (if rightR r then 0 else 412)] := ⟨_, rfl⟩
 rw [<- hQ]
 refine viaR (ct_via (A := { calls := [(16, .sym)], loops := [(6, ⟨[(1, .keep), (4, .row 1), (5, .keep), (7, .sh (.int .i64))], [(0, .keep), (1, .row)], [(4, 1, 5)], fun vals xss _ _ => match vals, xss with | [.int .i64 j], [xs] => WI j xs | _, _ => False, fun vals _ => match vals with | [.int .i64 j] => ((tagsR r).length - j).toNat | _ => 0⟩)] }) Tryz.func46 rfl Tryz.call46 rfl rfl) (let E1 := Ent.mk (.cells [.v (.int .u8 r.kind), .v (.int .u8 r.what), .v (.string r.name), .v (.int .i64 r.p3), .v (.int .i64 r.p4), .v (.int .i64 r.p5), .v (.int .i64 r.p6), .v (.int .i64 r.p7), .v (.int .i64 r.p8), .v (.int .i64 r.p9), .v (.int .i64 r.val), .v (.slice p n c)] 78) none
  Ct Tryz.prog (fnv 91) #[.agg #[.int .u8 r.kind, .int .u8 r.what, .string r.name, .int .i64 r.p3, .int .i64 r.p4, .int .i64 r.p5, .int .i64 r.p6, .int .i64 r.p7, .int .i64 r.p8, .int .i64 r.p9, .int .i64 r.val, .slice p n c]] I fun v a => ∃ b, v = .bool b /\ Br (!b) (Value.tuple #[.string ⟨#[]⟩, .int .i64 412] = Q) (Ct Tryz.prog (fnv 92) #[] a (fun d e => ∃ f g h, d = .slice f g h /\ 0 <= r.kind /\ r.kind < (g : Int) /\ f.isSome = true /\ ∃ q, atI e f (r.kind.toNat * 1 + 0) = some (.string q) /\ q.size <= 4611686018427387904 /\ Ct Tryz.prog (fnv 93) #[.int .u8 r.kind, .int .u8 r.what] e fun i j => ∃ k l m o, i = .tuple #[.slice k l m, .bool o] /\ (Rf E1 /\ Rf (SV.ptr 0 0) /\ q.size = (bytesV q).length /\ Rf (SV.v (.slice k l m)) /\ WI 0 (bytesV q)) /\ ∀ (s : Mem), Mem -> j.le s -> ∀ (x : List Value) (t : Int), WI t x -> Br (decide (t < (l : Int))) (x.length = x.length * 1 /\ x.length + 1 <= 9223372036854775807 /\ (x.length + 1) * 1 <= 140737488355328 /\ 0 <= t /\ t < (l : Int) /\ k.isSome = true /\ ∃ u, atI s k (t.toNat * 1 + 0) = some (.int .i64 u) /\ Br (u == 1) (Ct Tryz.prog (fnv 94) #[] s (fun w y => ∃ z n1 c1, w = .slice z n1 c1 /\ 0 <= r.what /\ r.what < (n1 : Int) /\ z.isSome = true /\ ∃ q1, atI y z (r.what.toNat * 1 + 0) = some (.string q1) /\ (1 : Nat) = 1 /\ List.length (x ++ [.int .u8 32]) = (x.length + 1) * 1 /\ x.length + 1 + q1.size <= 9223372036854775807 /\ (x.length + 1 + q1.size) * 1 <= 140737488355328 /\ Wr .i64 (t + 1) fun c2 => Rf E1 /\ Rf (SV.ptr 0 0) /\ x.length + 1 + q1.size = List.length (x ++ [.int .u8 32] ++ bytesV q1) /\ Rf (SV.v (.slice k l m)) /\ WI c2 (x ++ [.int .u8 32] ++ bytesV q1) /\ Int.toNat (((tagsR r).length : Int) - c2) < Int.toNat (((tagsR r).length : Int) - t))) (Br (u == 2) (Ct Tryz.prog (fnv 95) #[.string r.name] s (fun w y => ∃ z, w = .bool z /\ Br z ((1 : Nat) = 1 /\ List.length (x ++ [.int .u8 32]) = (x.length + 1) * 1 /\ x.length + 1 + r.name.size <= 9223372036854775807 /\ (x.length + 1 + r.name.size) * 1 <= 140737488355328 /\ Wr .i64 (t + 1) fun c1 => Rf E1 /\ Rf (SV.ptr 0 0) /\ x.length + 1 + r.name.size = List.length (x ++ [.int .u8 32] ++ bytesV r.name) /\ Rf (SV.v (.slice k l m)) /\ WI c1 (x ++ [.int .u8 32] ++ bytesV r.name) /\ Int.toNat (((tagsR r).length : Int) - c1) < Int.toNat (((tagsR r).length : Int) - t)) (r.name.size <= 4611686018427387904 /\ ∀ (a1 : Option Addr) (c1 : Nat) (I1 : Mem), y.le I1 -> a1.isSome = true -> r.name.size <= c1 -> c1 <= 9223372036854775807 -> (∀ (j1 : Nat) (b1 : UInt8), r.name.data.toList[j1]? = some b1 -> atI I1 a1 j1 = some (.int .u8 (b1.toNat : Int))) -> Ct Tryz.prog (fnv 96) #[.slice a1 r.name.size c1] I1 fun v1 I2 => ∃ a2 n1 c2, v1 = .slice a2 n1 c2 /\ ∃ y1, y1.length = n1 * 1 /\ (a2 = none -> n1 = 0) /\ (∀ (j1 : Nat) (v2 : Value), y1[j1]? = some v2 -> atI I2 a2 j1 = some v2) /\ (∀ (v2 : Value), Membership.mem y1 v2 -> v2.oneCell' = true) /\ List.length (x ++ [.int .u8 32]) = (x.length + 1) * 1 /\ x.length + 1 + n1 <= 9223372036854775807 /\ (x.length + 1 + n1) * 1 <= 140737488355328 /\ Wr .i64 (t + 1) fun c3 => Rf E1 /\ Rf (SV.ptr 0 0) /\ x.length + 1 + n1 = List.length (x ++ [.int .u8 32] ++ y1) /\ Rf (SV.v (.slice k l m)) /\ WI c3 (x ++ [.int .u8 32] ++ y1) /\ Int.toNat (((tagsR r).length : Int) - c3) < Int.toNat (((tagsR r).length : Int) - t)))) (Br (u == 10) (Ct Tryz.prog (fnv 97) #[.int .i64 r.val] s (fun w y => ∃ z, w = .string z /\ (1 : Nat) = 1 /\ List.length (x ++ [.int .u8 32]) = (x.length + 1) * 1 /\ x.length + 1 + z.size <= 9223372036854775807 /\ (x.length + 1 + z.size) * 1 <= 140737488355328 /\ Wr .i64 (t + 1) fun c1 => Rf E1 /\ Rf (SV.ptr 0 0) /\ x.length + 1 + z.size = List.length (x ++ [.int .u8 32] ++ bytesV z) /\ Rf (SV.v (.slice k l m)) /\ WI c1 (x ++ [.int .u8 32] ++ bytesV z) /\ Int.toNat (((tagsR r).length : Int) - c1) < Int.toNat (((tagsR r).length : Int) - t))) (Br (u == 11) (Ct Tryz.prog (fnv 96) #[.slice p n c] s (fun w y => ∃ z n1 c1, w = .slice z n1 c1 /\ ∃ y1, y1.length = n1 * 1 /\ (z = none -> n1 = 0) /\ (∀ (j1 : Nat) (v1 : Value), y1[j1]? = some v1 -> atI y z j1 = some v1) /\ (∀ (v1 : Value), Membership.mem y1 v1 -> v1.oneCell' = true) /\ List.length (x ++ [.int .u8 32]) = (x.length + 1) * 1 /\ x.length + 1 + n1 <= 9223372036854775807 /\ (x.length + 1 + n1) * 1 <= 140737488355328 /\ Wr .i64 (t + 1) fun c2 => Rf E1 /\ Rf (SV.ptr 0 0) /\ x.length + 1 + n1 = List.length (x ++ [.int .u8 32] ++ y1) /\ Rf (SV.v (.slice k l m)) /\ WI c2 (x ++ [.int .u8 32] ++ y1) /\ Int.toNat (((tagsR r).length : Int) - c2) < Int.toNat (((tagsR r).length : Int) - t))) (0 <= t /\ t < (l : Int) /\ k.isSome = true /\ ∃ w, atI s k (t.toNat * 1 + 0) = some (.int .i64 w) /\ Ct Tryz.prog (fnv 98) #[.agg #[.int .u8 r.kind, .int .u8 r.what, .string r.name, .int .i64 r.p3, .int .i64 r.p4, .int .i64 r.p5, .int .i64 r.p6, .int .i64 r.p7, .int .i64 r.p8, .int .i64 r.p9, .int .i64 r.val, .slice p n c], .int .i64 w] s fun y z => ∃ n1, y = .int .i64 n1 /\ Ct Tryz.prog (fnv 97) #[.int .i64 n1] z fun v1 I1 => ∃ q1, v1 = .string q1 /\ (1 : Nat) = 1 /\ List.length (x ++ [.int .u8 32]) = (x.length + 1) * 1 /\ x.length + 1 + q1.size <= 9223372036854775807 /\ (x.length + 1 + q1.size) * 1 <= 140737488355328 /\ Wr .i64 (t + 1) fun c1 => Rf E1 /\ Rf (SV.ptr 0 0) /\ x.length + 1 + q1.size = List.length (x ++ [.int .u8 32] ++ bytesV q1) /\ Rf (SV.v (.slice k l m)) /\ WI c1 (x ++ [.int .u8 32] ++ bytesV q1) /\ Int.toNat (((tagsR r).length : Int) - c1) < Int.toNat (((tagsR r).length : Int) - t)))))) (∃ u, u.length = x.length /\ List.take x.length x = List.map (fun (w : UInt8) => .int .u8 (w.toNat : Int)) u /\ Value.tuple #[.string ⟨u.toArray⟩, .int .i64 0] = Q)))) (by kernel_rfl) ?_
 intro E1;simp only [Rf, true_and]
 have hB : ∀ q : ByteArray, bytesV q = ints .u8 (intT (tx q)) := fun q => by simp [bytesV, ints, intT, tx]
 refine (ct91 r hr _ I hy' hfl).mono fun v I1 l1 hv => ⟨_, hv, Br.mk (fun h => ?_) (fun h => ?_)⟩
 · have h : rightR r = false := by simpa using h
   rw [hQ, h]; rfl
 have hR : rightR r = true := by simpa using h
 obtain ⟨htag, hn255, hf15, _⟩ := right_tag hR
 have hk9 : 1 <= r.kind /\ r.kind <= 9 := by rcases tag_shape htag with ⟨h7, _⟩ | ⟨_, hk, _⟩ <;> omega
 refine (ct92 I1).mono fun v I2 l2 ⟨a, m, d, hv, hs, _⟩ => ?_
 have hm : m = 10 := by have := hs.len; simp [strs, kindsN] at this; omega
 have hnz := name_len r.kind
 refine ⟨a, m, d, hv, by omega, by omega, hs.isSome (by omega), nameS r.kind, by rw [Nat.mul_one, Nat.add_zero]; exact hs.at_ _ _ (strs_get (kinds_at (by omega) (by omega))), by omega, (ct93 r.kind r.what hr.kind hr.what I2).mono fun v I3 l3 ⟨ta, tn, tc, hv, hts, _⟩ => ⟨ta, tn, tc, _, hv, ⟨(bytesV_len _).symm, ?_⟩, fun I4 _ l4 x j hj => ?_⟩⟩
 · rw [hWI]; exact ⟨by omega, by omega, by rw [hB]; simp [behT]⟩
 rw [htag] at hts;simp only [Option.getD_some] at hts
 have htl : (tagsR r).length = tn := by have := hts.len; simpa [ints] using this
 rw [hWI] at hj;obtain ⟨j0, j1, hx⟩ := hj;have hwl := (words_len hr hR).2
 have hxl : x.length <= 1000000 := by
  rw [words_beh, strT_size, List.length_append] at hwl;have := beh_len r (tagsR r) j.toNat
  rw [hx]; simp only [ints, intT, List.length_map, List.length_append]; omega
 refine Br.mk (fun hlt => ?_) (fun hge => ?_)
 · have hlt := of_decide_eq_true hlt
   have hts4 := hts.mono l4;obtain ⟨t, ht, hat⟩ := hts4.intAt (i := j) j0 hlt;have htr := (tag_some htag).2 t (List.mem_of_getElem? ht);have hfl40 := field_len hr hn255 hf15 t;have h4l := (tag_some htag).1
   have fin : ∀ (u : List Value) (len : Nat), u = ints .u8 (intT (fieldT r t)) -> len = u.length -> Wr IntKind.i64 (j + 1) fun c => x.length + 1 + len = (x ++ [Value.int IntKind.u8 32] ++ u).length /\ WI c (x ++ [Value.int IntKind.u8 32] ++ u) /\ (↑(tagsR r).length - c).toNat < (↑(tagsR r).length - j).toNat := by
    intro u len hu hl;subst hu
    refine wr_i64 (by omega) (by omega) ⟨by simp [hl]; omega, ?_, by omega⟩
    rw [hWI];have := (List.getElem?_eq_some_iff.1 ht).1
    refine ⟨by omega, by omega, ?_⟩
    rw [show (j + 1).toNat = j.toNat + 1 by omega, List.take_add_one, ht, Option.toList_some, beh_snoc, hx]
    simp [ints, intT]
   have ful : (ints .u8 (intT (fieldT r t))).length = (fieldT r t).length := by simp [ints, intT]
   have one : (x ++ [Value.int IntKind.u8 32]).length = (x.length + 1) * 1 := by simp
   have word : ∀ {bs : List Int} {J : Mem} {v : Value}, fieldT r t = wordT bs -> BySl J v (intT (wordT bs)) -> ∃ a n c, v = .slice a n c /\ ∃ ys : List Value, ys.length = n * 1 /\ (a = none -> n = 0) /\ (∀ (k : Nat) (v : Value), ys[k]? = some v -> atI J a k = some v) /\ (∀ v ∈ ys, v.oneCell' = true) /\ (x ++ [Value.int IntKind.u8 32]).length = (x.length + 1) * 1 /\ x.length + 1 + n <= 9223372036854775807 /\ (x.length + 1 + n) * 1 <= 140737488355328 /\ Wr IntKind.i64 (j + 1) fun c => x.length + 1 + n = (x ++ [Value.int IntKind.u8 32] ++ ys).length /\ WI c (x ++ [Value.int IntKind.u8 32] ++ ys) /\ (↑(tagsR r).length - c).toNat < (↑(tagsR r).length - j).toNat := by
    intro bs J v hf ⟨a, n, c, hv, hs, _⟩;have hl := hs.len;rw [<- hf, ful] at hl
    exact ⟨a, n, c, hv, _, hs.len, hs.nil, hs.at_, one_ints, one, by omega, by omega, fin _ _ (by rw [hf]) (by have := hs.len; omega)⟩
   refine ⟨(Nat.mul_one _).symm, by omega, by omega, j0, hlt, hts4.isSome (by omega), t, hat, Br.mk (fun h1 => ?_) (fun h1 => Br.mk (fun h2 => ?_) (fun h2 => Br.mk (fun h3 => ?_) (fun h3 => Br.mk (fun h4 => ?_) (fun h4 => ?_))))⟩
   · have h1 : t = 1 := by simpa using h1
     subst h1
     have hw5 : 1 <= r.what /\ r.what <= 5 := by
      rcases tag_shape htag with ⟨_, hw, _⟩ | ⟨_, _, hl⟩
      · exact hw
      · have := hl 1 (List.mem_of_getElem? ht); omega
     refine (ct94 I4).mono fun v I5 l5 ⟨z, m1, c1, hv, hs1, _⟩ => ?_
     have hm1 : m1 = 6 := by have := hs1.len; simp [strs, asksN] at this; omega
     have hsz : (fieldT r 1).length = (askS r.what).size := Array.length_toList
     exact ⟨z, m1, c1, hv, by omega, by omega, hs1.isSome (by omega), askS r.what, by rw [Nat.mul_one, Nat.add_zero]; exact hs1.at_ _ _ (strs_get (asks_at (by omega) (by omega))), one, by omega, by omega, fin _ _ (hB _) (bytesV_len _).symm⟩
   · have h2 : t = 2 := by simpa using h2
     subst h2
     have e : fieldT r 2 = if nameB (strL r.name) then tx r.name else wordT (strL r.name) := rfl
     refine (ct95 r.name hnm I4).mono fun v I5 l5 hv => ⟨_, hv, Br.mk (fun hb => ?_) (fun hb => ⟨by omega, fun a1 c1 I6 l6 ha hc hm' hat' => ?_⟩)⟩
     · rw [if_pos hb] at e
       exact ⟨one, by omega, by omega, fin _ _ (by rw [hB, e]) (bytesV_len _).symm⟩
     · rw [if_neg (by rw [hb]; decide)] at e
       exact (ct96 (strL r.name) (strL_bytes _) a1 r.name.size c1 I6 (str_sl ha (by simp only [maxLen]; omega) hat') (by omega)).mono fun v I7 l7 hv => word e hv
   · have h3 : t = 10 := by simpa using h3
     subst h3;have e : fieldT r 10 = Lib.itoa r.val := rfl;have := itoa_len hr.val
     refine (ct97 r.val hr.val I4).mono fun v I5 l5 hv => ⟨_, hv, one, by rw [strT_size]; omega, by rw [strT_size]; omega, fin _ _ (by rw [hB, tx_strT, e]) (bytesV_len _).symm⟩
   · have h4 : t = 11 := by simpa using h4
     subst h4
     exact (ct96 r.fed hr.fed p n c I4 ((((hp.mono l1).mono l2).mono l3).mono l4) (by have := hp.numLen; omega)).mono fun v I5 l5 hv => word rfl hv
   · have h1 : t ≠ 1 := by simpa using h1
     have h2 : t ≠ 2 := by simpa using h2
     have h3 : t ≠ 10 := by simpa using h3
     have h4 : t ≠ 11 := by simpa using h4
     have e : fieldT r t = Lib.itoa (numR r t) := by rw [fieldT, if_neg h1, if_neg h2, if_neg h3, if_neg h4]
     have := itoa_len (num_ok hr t)
     refine ⟨j0, hlt, hts4.isSome (by omega), t, hat, (ct98 r (.slice p n c) t (by omega) I4).mono fun v I5 l5 hv => ⟨_, hv, (ct97 _ (num_ok hr t) I5).mono fun v I6 l6 hv => ⟨_, hv, one, by rw [strT_size]; omega, by rw [strT_size]; omega, fin _ _ (by rw [hB, tx_strT, e]) (bytesV_len _).symm⟩⟩⟩
 · have hge := of_decide_eq_false hge
   rw [List.take_of_length_le (by omega)] at hx
   refine ⟨tx (nameS r.kind) ++ behT r (tagsR r), by rw [hx]; simp [ints, intT], by rw [List.take_of_length_le (Nat.le_refl _), hx]; simp only [ints, intT, List.map_map]; rfl, ?_⟩
   rw [hQ, hR, if_pos rfl, if_pos rfl, words_beh]; rfl
theorem ct45 (slot : Int) (hs : i64R slot) (r : Rq) (hr : okRq r) (hnm : r.name.size <= 1000000) (y : Value) (I : Mem) (hy : BySl I y r.fed) (hfl : r.fed.length <= 1000000) :
 Ct Tryz.prog (fnv 45) #[.int .i64 slot, .agg (rqV r y).toArray] I (fun u I' => ∃ y', u = .tuple #[.agg (enV (askE slot r).1 y').toArray, .int .i64 (askE slot r).2] /\ BySl I' y' (askE slot r).1.bs) := by
 have hy' := hy;obtain ⟨p, n, c, rfl, hp, hpc, hpm⟩ := hy;obtain ⟨Q, hQ⟩ : ∃ q : Value -> Mem -> Prop, q = fun u I' => ∃ y', u = .tuple #[.agg (enV (askE slot r).1 y').toArray, .int .i64 (askE slot r).2] /\ BySl I' y' (askE slot r).1.bs := ⟨_, rfl⟩;rw [<- hQ]
 refine viaR (ct_via (A := { }) Tryz.func45 rfl Tryz.call45 rfl rfl) (Ct Tryz.prog (fnv 90) #[.agg #[.int .u8 r.kind, .int .u8 r.what, .string r.name, .int .i64 r.p3, .int .i64 r.p4, .int .i64 r.p5, .int .i64 r.p6, .int .i64 r.p7, .int .i64 r.p8, .int .i64 r.p9, .int .i64 r.val, .slice p n c]] I fun v a => ∃ b d e f, v = .tuple #[.slice b d e, .int .i64 f] /\ Br (f != 0) (Q (.tuple #[.agg #[.int .u8 0, .int .i64 0, .int .i64 0, .slice none 0 0], .int .i64 412]) a) (Ct Tryz.prog (fnv 75) #[.agg #[.int .u8 1, .int .i64 slot, .int .i64 0, .slice b d e]] a (fun g h => ∃ i, g = .bool i /\ Br (!i) (Q (.tuple #[.agg #[.int .u8 0, .int .i64 0, .int .i64 0, .slice none 0 0], .int .i64 410]) h) (Q (.tuple #[.agg #[.int .u8 1, .int .i64 slot, .int .i64 0, .slice b d e], .int .i64 0]) h)))) (by kernel_rfl) ?_
 refine (ct90 r hr hnm _ I hy' hfl).mono fun v I1 l1 ⟨a, m, d, hv, hs, h1, h2⟩ => ⟨a, m, d, _, hv, Br.mk (fun h => ?_) (fun h => ?_)⟩
 · have h : rightR r = false := by
    cases hR : rightR r with
    | false => rfl
    | true => rw [hR] at h; exact absurd h (by decide)
   have e : askE slot r = (zeroEn, 412) := by rw [askE, h]; rfl
   rw [hQ, e];exact ⟨_, rfl, bysl_nil _⟩
 have hR : rightR r = true := by
  cases hR : rightR r with
  | true => rfl
  | false => rw [hR] at h; exact absurd h (by decide)
 rw [hR] at hs;simp only [if_true] at hs;have hb := write_ok hr hR;refine (ct75 ⟨1, slot, 0, writeR r⟩ (.slice a m d) I1 ⟨a, m, d, rfl, hs, h1, h2⟩).mono fun v I2 l2 hv => ⟨_, hv, Br.mk (fun h => ?_) (fun h => ?_)⟩
 · have hc : cleanE ⟨1, slot, 0, writeR r⟩ = false := by simpa using h
   have e : askE slot r = (zeroEn, 410) := by rw [askE, hR, hc]; rfl
   rw [hQ, e];exact ⟨_, rfl, bysl_nil _⟩
 · have hc : cleanE ⟨1, slot, 0, writeR r⟩ = true := by simpa using h
   have e : askE slot r = (⟨1, slot, 0, writeR r⟩, 0) := by rw [askE, hR, hc]; rfl
   rw [hQ, e];exact ⟨_, rfl, a, m, d, rfl, hs.mono l2, h1, h2⟩
set_option maxHeartbeats 1000000 in
theorem ct73 (es : List En) (a : Option Addr) (n c : Nat) (I : Mem) (h : EnM I a n es) (hb : ∀ e ∈ es, e.bs.length <= 1000000) (hn : n <= 100000) :
 Ct Tryz.prog (fnv 73) #[.slice a n c] I (fun v I' => ∃ a' c', v = .slice a' n c' /\ EnM I' a' n es /\ n <= c' /\ c' <= maxLen) := by
 obtain ⟨Q, hQ⟩ : ∃ q : Value -> Mem -> Prop, q = fun v I' => ∃ a' c', v = .slice a' n c' /\ EnM I' a' n es /\ n <= c' /\ c' <= maxLen := ⟨_, rfl⟩;rw [<- hQ];obtain ⟨TI, hTI⟩ : ∃ f : Mem -> Int -> List Value -> Prop, f = fun I' (j : Int) xs => 0 <= j /\ j <= n /\ RowR 4 EnC I' xs (es.take j.toNat) := ⟨_, rfl⟩
 refine viaR (ct_via (A := { loops := [(3, ⟨[(3, .row 0), (6, .keep), (7, .keep), (8, .sh (.int .i64))], [(0, .row)], [(3, 4, 72)], fun vals xss I' _ => match vals, xss with | [.int .i64 j], [xs] => TI I' j xs | _, _ => False, fun vals _ => match vals with | [.int .i64 j] => (n - j).toNat | _ => 0⟩)] }) Tryz.func73 rfl Tryz.call73 rfl rfl) (((0 : Nat) = 0 /\ Rf (SV.v (.slice a n c)) /\ Rf (SV.v (.int .i64 (n : Int))) /\ TI I 0 []) /\ ∀ (b : Mem), Mem -> I.le b -> ∀ (x : List Value) (d : Int), TI b d x -> Br (decide (d < (n : Int))) (0 <= d /\ d < (n : Int) /\ a.isSome = true /\ (4 : Nat) = 4 /\ ∃ e, atI b a (d.toNat * 4 + 0) = some (.int .u8 e) /\ ∃ f, atI b a (d.toNat * 4 + 1) = some (.int .i64 f) /\ ∃ g, atI b a (d.toNat * 4 + 2) = some (.int .i64 g) /\ ∃ i j k, atI b a (d.toNat * 4 + 3) = some (.slice i j k) /\ Ct Tryz.prog (fnv 89) #[.slice i j k] b fun v l => ∃ m o p, v = .slice m o p /\ x.length = x.length / 4 * 4 /\ x.length / 4 + 1 <= 9223372036854775807 /\ (x.length / 4 + 1) * 48 <= 140737488355328 /\ Wr .i64 (d + 1) fun q => x.length / 4 + 1 = List.length (x ++ [.int .u8 e, .int .i64 f, .int .i64 g, .slice m o p]) / 4 /\ Rf (SV.v (.slice a n c)) /\ Rf (SV.v (.int .i64 (n : Int))) /\ TI l q (x ++ [.int .u8 e, .int .i64 f, .int .i64 g, .slice m o p]) /\ Int.toNat ((n : Int) - q) < Int.toNat ((n : Int) - d)) (∀ (e : Option Addr) (f : Nat) (g : Mem), b.le g -> RowM g e f 4 x -> Q (.slice e (x.length / 4) f) g)) (by kernel_rfl) ?_
 simp only [Rf, true_and]
 have hes : es.length = n := SlR.len (by decide) h
 refine ⟨by rw [hTI]; exact ⟨by omega, by omega, rfl⟩, fun J _ lJ xs j hj => ?_⟩
 rw [hTI] at hj;obtain ⟨j0, j1, hr⟩ := hj;have hl := hr.len;rw [List.length_take] at hl;refine Br.mk (fun hlt => ?_) (fun hge A cp J2 l2 hrow => ?_)
 · have hlt := of_decide_eq_true hlt
   obtain ⟨e, b, m, cp, g1, g2, g3, g4, g5, g6, g7⟩ := (h.mono lJ).get j0 hlt;have hbe := hb e (List.mem_of_getElem? g1);obtain ⟨_, _, _, e1, g8, g9, g10⟩ := g3;cases e1
   refine ⟨j0, hlt, SlR.isSome h (by omega), _, g4, _, g5, _, g6, _, _, _, g7, (ct89 e.bs b m cp J g8 (by have := g8.numLen; omega)).mono fun v J3 l3 hv => ?_⟩
   have hv' := hv;obtain ⟨p, q, r, rfl, _⟩ := hv'
   refine ⟨p, q, r, rfl, by omega, by omega, by omega, wr_i64 (by omega) (by omega) ⟨by simp only [List.length_append, List.length_cons, List.length_nil]; omega, ?_, by omega⟩⟩
   rw [hTI]
   refine ⟨by omega, by omega, ?_⟩
   rw [show (j + 1).toNat = j.toNat + 1 by omega, List.take_add_one, g1, Option.toList_some]
   exact (hr.mono enC_mono l3).snoc rfl ⟨g2, _, rfl, hv⟩
 · have hge := of_decide_eq_false hge
   rw [List.take_of_length_le (by omega)] at hr
   have hr1 := hrow.1
   have hn4 : xs.length / 4 = n := by omega
   rw [hQ, hn4]
   have := SlR.row (by decide) hrow (hr.mono enC_mono l2)
   rw [hes] at this
   exact ⟨_, _, rfl, this, by omega, hrow.2.1⟩
set_option maxHeartbeats 1000000 in
theorem ct42 (es fs : List En) (a b : Option Addr) (n m c d : Nat) (I : Mem) (h : EnM I a n es) (h2 : EnM I b m fs) (hb : ∀ e ∈ es, e.bs.length <= 1000000) (hn : n <= 100000) :
 Ct Tryz.prog (fnv 42) #[.slice a n c, .slice b m d] I (fun v _ => v = .bool (decide (es = fs))) := by
 obtain ⟨D, hD⟩ : ∃ D, D = decide (es = fs) := ⟨_, rfl⟩;rw [<- hD];obtain ⟨WI, hWI⟩ : ∃ f : Int -> Prop, f = fun (j : Int) => 0 <= j /\ j <= n /\ es.take j.toNat = fs.take j.toNat := ⟨_, rfl⟩
 refine viaR (ct_via (A := { loops := [(4, ⟨[(1, .keep), (13, .keep), (14, .keep), (15, .sh (.int .i64))], [], [], fun vals _ _ _ => match vals with | [.int .i64 j] => WI j | _ => False, fun vals _ => match vals with | [.int .i64 j] => (n - j).toNat | _ => 0⟩)] }) Tryz.func42 rfl Tryz.call42 rfl rfl) (Br ((n : Int) != (m : Int)) (Value.bool false = .bool D) (Ct Tryz.prog (fnv 73) #[.slice a n c] I (fun v e => ∃ f g i, v = .slice f g i /\ (Rf (SV.v (.slice b m d)) /\ Rf (SV.v (.slice f g i)) /\ Rf (SV.v (.int .i64 (g : Int))) /\ WI 0) /\ ∀ (j : Mem), Mem -> e.le j -> ∀ (k : Int), WI k -> Br (decide (k < (g : Int))) (0 <= k /\ k < (g : Int) /\ f.isSome = true /\ (4 : Nat) = 4 /\ ∃ l, atI j f (k.toNat * 4 + 0) = some (.int .u8 l) /\ ∃ o, atI j f (k.toNat * 4 + 1) = some (.int .i64 o) /\ ∃ p, atI j f (k.toNat * 4 + 2) = some (.int .i64 p) /\ ∃ q r s, atI j f (k.toNat * 4 + 3) = some (.slice q r s) /\ 0 <= k /\ k < (m : Int) /\ b.isSome = true /\ (4 : Nat) = 4 /\ ∃ t, atI j b (k.toNat * 4 + 0) = some (.int .u8 t) /\ ∃ u, atI j b (k.toNat * 4 + 1) = some (.int .i64 u) /\ ∃ w, atI j b (k.toNat * 4 + 2) = some (.int .i64 w) /\ ∃ x y z, atI j b (k.toNat * 4 + 3) = some (.slice x y z) /\ Ct Tryz.prog (fnv 76) #[.agg #[.int .u8 l, .int .i64 o, .int .i64 p, .slice q r s], .agg #[.int .u8 t, .int .i64 u, .int .i64 w, .slice x y z]] j fun v1 I1 => ∃ b1, v1 = .bool b1 /\ Br (!b1) (Value.bool false = .bool D) (Wr .i64 (k + 1) (fun c1 => Rf (SV.v (.slice b m d)) /\ Rf (SV.v (.slice f g i)) /\ Rf (SV.v (.int .i64 (g : Int))) /\ WI c1 /\ Int.toNat ((n : Int) - c1) < Int.toNat ((n : Int) - k)))) (Value.bool true = .bool D)))) (by kernel_rfl) ?_
 simp only [Rf, true_and]
 have hes : es.length = n := SlR.len (by decide) h
 have hfs : fs.length = m := SlR.len (by decide) h2
 have no : es ≠ fs -> Value.bool false = Value.bool D := fun hh => by rw [hD, decide_eq_false hh]
 refine Br.mk (fun g => no fun e => ?_) (fun g => ?_)
 · have g : (n : Int) ≠ m := by simpa using g
   rw [e] at hes; omega
 have g : (n : Int) = m := by simpa using g
 refine (ct73 es a n c I h hb hn).mono fun v I1 l1 ⟨a', c', hv, h3, _⟩ => ⟨a', n, c', hv, by rw [hWI]; exact ⟨by omega, by omega, rfl⟩, fun J _ lJ j hj => ?_⟩
 rw [hWI] at hj;obtain ⟨j0, j1, hj⟩ := hj;refine Br.mk (fun hlt => ?_) (fun hge => ?_)
 · have hlt := of_decide_eq_true hlt
   obtain ⟨e, b1, m1, cp1, g1, g2, g3, g4, g5, g6, g7⟩ := (h3.mono lJ).get j0 hlt
   obtain ⟨f, b2, m2, cp2, k1, k2, k3, k4, k5, k6, k7⟩ := ((h2.mono l1).mono lJ).get j0 (by omega)
   refine ⟨j0, hlt, SlR.isSome h3 (by omega), _, g4, _, g5, _, g6, _, _, _, g7, j0, by omega, SlR.isSome h2 (by omega), _, k4, _, k5, _, k6, _, _, _, k7, (ct76 e f _ _ J g3 k3).mono fun v J2 l2 hv => ⟨_, hv, Br.mk (fun q => no fun he => ?_) (fun q => wr_i64 (by omega) (by omega) ⟨?_, by omega⟩)⟩⟩
   · have q : e ≠ f := by simpa using q
     rw [he, k1] at g1;exact q (Option.some.inj g1).symm
   · have q : e = f := by simpa using q
     rw [hWI]
     refine ⟨by omega, by omega, ?_⟩
     rw [show (j + 1).toNat = j.toNat + 1 by omega, List.take_add_one, List.take_add_one, hj, g1, k1, q]
 · have hge := of_decide_eq_false hge
   rw [List.take_of_length_le (by omega), List.take_of_length_le (by omega)] at hj
   rw [hD, decide_eq_true hj]
theorem en_block {J : Mem} {b : Nat} {e : En} {y : Value} {el : TypeId} (h : J b = some (.cells (enV e y).toArray el)) (hk : okEn e) (hy : BySl J y e.bs) : EnM J (some ⟨b, 0, none⟩) 1 [e] := by
 have := sl_cells (n := 1) (sz := 4) h rfl (by decide)
 exact ⟨_, this, RowR.one rfl ⟨hk, y, rfl, hy⟩⟩
theorem cells24 : Tryz.prog.cellsOf 24 = 1 := by kernel_rfl
section
variable {H : Type} {enc : TypeId × Value -> H} {W : World} {r : Reach} {b0 : Nat} {v : Value} {d : DataW H} {ps : List MemPlace}
end
section
variable {H : Type} {enc : TypeId × Value -> H} {W : World} {r : Reach} {b0 : Nat} {v : Value} {d : DataW H} {ps : List MemPlace}
end
theorem ct51N (r : Rq) (hr : okRq r) (hnm : r.name.size <= 1000000) (y : Value) (I : Mem) (hy : BySl I y r.fed) (hfl : r.fed.length <= 1000000) :
 Ct Tryz.prog (fnv 51) #[.agg (rqV r y).toArray] I (fun v I' => ∃ a' n' c', v = .tuple #[.slice a' n' c', .int .i64 (if rightR r then 0 else 340)] /\ SlM I' a' n' 1 (ints .u8 (if rightR r then writeR r else [])) /\ n' <= c' /\ c' <= maxLen /\ NewB I I' (.slice a' n' c')) := by
 obtain ⟨a1, n1, c1, rfl, hs1, hc1, hm1⟩ := hy
 refine viaR (ctF_via (A := { }) Tryz.func51 rfl Tryz.call51 rfl rfl) (Ct Tryz.prog (fnv 52) #[.agg #[.int .u8 r.kind, .int .u8 r.what, .string r.name, .int .i64 r.p3, .int .i64 r.p4, .int .i64 r.p5, .int .i64 r.p6, .int .i64 r.p7, .int .i64 r.p8, .int .i64 r.p9, .int .i64 r.val, .slice a1 n1 c1]] I fun v a => ∃ b, v = .bool b /\ Br (!b) (∃ c n d, Value.tuple #[.slice none 0 0, .int .i64 340] = .tuple #[.slice c n d, .int .i64 (if rightR r = true then 0 else 340)] /\ SlM a c n 1 (List.map (Value.int .u8) (if rightR r = true then (1 : Int) :: r.kind :: writeF (fldsR r (tagsR r)) else ([] : List Int))) /\ n <= d /\ d <= 9223372036854775807 /\ NewB I a (.slice c n d)) (Ct Tryz.prog (fnv 28) #[.int .u8 r.kind, .int .u8 r.what] a (fun c d => ∃ e n f g, c = .tuple #[.slice e n f, .bool g] /\ Ct Tryz.prog (fnv 102) #[.agg #[.int .u8 r.kind, .int .u8 r.what, .string r.name, .int .i64 r.p3, .int .i64 r.p4, .int .i64 r.p5, .int .i64 r.p6, .int .i64 r.p7, .int .i64 r.p8, .int .i64 r.p9, .int .i64 r.val, .slice a1 n1 c1], .slice e n f] d fun h i => ∃ x, h = x /\ Ct Tryz.prog (fnv 101) #[x] i fun j k => ∃ l m o, j = .slice l m o /\ Ct Tryz.prog (fnv 100) #[.slice l m o] k fun p q => ∃ s t u w, p = .tuple #[.slice s t u, .int .i64 w] /\ Br (w != 0) (∃ y z c2, Value.tuple #[.slice none 0 0, .int .i64 340] = .tuple #[.slice y z c2, .int .i64 (if rightR r = true then 0 else 340)] /\ SlM q y z 1 (List.map (Value.int .u8) (if rightR r = true then (1 : Int) :: r.kind :: writeF (fldsR r (tagsR r)) else ([] : List Int))) /\ z <= c2 /\ c2 <= 9223372036854775807 /\ NewB I q (.slice y z c2)) (∃ y, y.length = t * 1 /\ (s = none -> t = 0) /\ (∀ (z : Nat) (v1 : Value), y[z]? = some v1 -> atI q s z = some v1) /\ (∀ (z : Value), Membership.mem y z -> z.oneCell' = true) /\ (2 : Nat) = 2 /\ 2 + t <= 9223372036854775807 /\ (2 + t) * 1 <= 140737488355328 /\ ∀ (z : Option Addr) (c2 : Nat) (I1 : Mem), q.le I1 -> RowF q I1 z c2 1 (.int .u8 1 :: .int .u8 r.kind :: y) 5 -> ∃ a2 n2 c3, Value.tuple #[.slice z (2 + t) c2, .int .i64 0] = .tuple #[.slice a2 n2 c3, .int .i64 (if rightR r = true then 0 else 340)] /\ SlM I1 a2 n2 1 (List.map (Value.int .u8) (if rightR r = true then (1 : Int) :: r.kind :: writeF (fldsR r (tagsR r)) else ([] : List Int))) /\ n2 <= c3 /\ c3 <= 9223372036854775807 /\ NewB I I1 (.slice a2 n2 c3))))) (by kernel_rfl) ?_
 have hy0 : BySl I (.slice a1 n1 c1) r.fed := ⟨a1, n1, c1, rfl, hs1, hc1, hm1⟩;refine (ct52 r hr hnm _ I hy0 hfl).mono fun v I1 l1 hv => ⟨_, hv, Br.mk (fun h => ?_) (fun h => ?_)⟩
 · have h : rightR r = false := by simpa using h
   rw [h]
   exact ⟨none, 0, 0, rfl, sl_nil _ _, by omega, by omega, newB_sl (fun hc => absurd hc (by omega)) (by omega)⟩
 have h : rightR r = true := by simpa using h
 obtain ⟨ht, h2, h3, _⟩ := right_tag h;obtain ⟨hl1, hl2⟩ := tagL_ok ht;have hF := right_flds hr h;refine (ct28 r.kind r.what I1).mono fun v I2 l2 ⟨a, n, c, hv, hs, hn, hc, _⟩ => ⟨_, _, _, _, hv, ?_⟩;rw [ht, Option.getD_some] at hs;have hnn := hs.numLen;have hy2 := hy0.mono (Mem.le_trans l1 l2);refine (ct102 r (.slice a1 n1 c1) a n c I2).mono fun v I3 l3 ⟨k1, k2, k3, hv, g1, g2, g3⟩ => ⟨_, rfl, ?_⟩;subst hv
 refine (ct101 r hr (tagsR r) hl1 (by omega) _ I3 (gives63 r hr hnm _ (tagsR r) hl1 k1 k2 k3 a n c I3 g1 (hs.mono l3) (by omega) g2 (hy2.mono l3) g3)).mono fun v I4 l4 ⟨a4, n4, c4, hv, hF4, _, _⟩ => ⟨_, _, _, hv, ?_⟩
 have hl4 := hF4.len
 have hl5 : (fldsR r (tagsR r)).length = (tagsR r).length := by simp [fldsR]
 refine (ct100 _ a4 n4 c4 I4 hF4 (by omega)).mono fun v I5 l5 ⟨a5, n5, c5, hv, hw, hn5, hc5⟩ => ⟨_, _, _, _, hv, ?_⟩
 rw [if_pos hF] at hw;have hl6 := hw.numLen;have hwl := write_len hF;rw [if_pos hF, h]
 refine Br.f rfl ⟨_, hw.len, hw.nil, hw.at_, one_ints, rfl, by omega, by omega, fun a6 cp I6 l6 hrow => ⟨a6, 2 + n5, cp, rfl, ?_⟩⟩
 have hrowF := hrow;have hrow : RowM I6 a6 cp 1 (ints .u8 (writeR r)) := hrow.row
 have hlw : (writeR r).length = 2 + n5 := by rw [writeR, List.length_cons, List.length_cons]; omega
 have h1 := hrow.1;rw [ints_len] at h1
 exact ⟨hrow.sl (by omega) (by rw [ints_len]; omega), by omega, hrow.2.1, newB_sl (hrowF.newS.anti (Mem.le_trans l1 (Mem.le_trans l2 (Mem.le_trans l3 (Mem.le_trans l4 l5))))) (by omega)⟩
theorem ct20N (slot : Int) (hsl : i64R slot) (r : Rq) (hr : okRq r) (hnm : r.name.size <= 1000000) (y : Value) (I : Mem) (hy : BySl I y r.fed) (hfl : r.fed.length <= 1000000) :
 Ct Tryz.prog (fnv 20) #[.int .i64 slot, .agg (rqV r y).toArray] I (fun v I' => ∃ z, v = .tuple #[.agg (enV (askE slot r).1 z).toArray, .int .i64 (askE slot r).2] /\ BySl I' z (askE slot r).1.bs /\ NewB I I' z) := by
 have hy' := hy;obtain ⟨p, n, c, rfl, hp, hpc, hpm⟩ := hy;obtain ⟨Q, hQ⟩ : ∃ q : Value -> Mem -> Prop, q = fun v I' => ∃ z, v = .tuple #[.agg (enV (askE slot r).1 z).toArray, .int .i64 (askE slot r).2] /\ BySl I' z (askE slot r).1.bs /\ NewB I I' z := ⟨_, rfl⟩;rw [<- hQ]
 refine viaR (ct_via (A := { }) Tryz.func20 rfl Tryz.call20 rfl rfl) (Ct Tryz.prog (fnv 51) #[.agg #[.int .u8 r.kind, .int .u8 r.what, .string r.name, .int .i64 r.p3, .int .i64 r.p4, .int .i64 r.p5, .int .i64 r.p6, .int .i64 r.p7, .int .i64 r.p8, .int .i64 r.p9, .int .i64 r.val, .slice p n c]] I fun v a => ∃ b d e f, v = .tuple #[.slice b d e, .int .i64 f] /\ Br (f != 0) (Q (.tuple #[.agg #[.int .u8 0, .int .i64 0, .int .i64 0, .slice none 0 0], .int .i64 412]) a) (Ct Tryz.prog (fnv 32) #[.agg #[.int .u8 1, .int .i64 slot, .int .i64 0, .slice b d e]] a (fun g h => ∃ i, g = .bool i /\ Br (!i) (Q (.tuple #[.agg #[.int .u8 0, .int .i64 0, .int .i64 0, .slice none 0 0], .int .i64 410]) h) (Q (.tuple #[.agg #[.int .u8 1, .int .i64 slot, .int .i64 0, .slice b d e], .int .i64 0]) h)))) (by kernel_rfl) ?_
 have nil : ∀ J : Mem, NewB I J (.slice none 0 0) := fun J => newB_sl (fun hc => absurd hc (by omega)) (by omega)
 refine (ct51N r hr hnm _ I hy' hfl).mono fun v I1 l1 ⟨a, m, d, hv, hs, h1, h2, hnew⟩ => ⟨a, m, d, _, hv, Br.mk (fun h => ?_) (fun h => ?_)⟩
 · have h : rightR r = false := by
    cases hR : rightR r with
    | false => rfl
    | true => rw [hR] at h; exact absurd h (by decide)
   have e : askE slot r = (zeroEn, 412) := by rw [askE, h]; rfl
   rw [hQ, e];exact ⟨_, rfl, bysl_nil _, nil _⟩
 have hR : rightR r = true := by
  cases hR : rightR r with
  | true => rfl
  | false => rw [hR] at h; exact absurd h (by decide)
 rw [hR] at hs;simp only [if_true] at hs;have hb := write_ok hr hR;refine (ct32 ⟨1, slot, 0, writeR r⟩ (.slice a m d) I1 ⟨a, m, d, rfl, hs, h1, h2⟩ hb).mono fun v I2 l2 hv => ⟨_, hv, Br.mk (fun h => ?_) (fun h => ?_)⟩
 · have hc : cleanE ⟨1, slot, 0, writeR r⟩ = false := by simpa using h
   have e : askE slot r = (zeroEn, 410) := by rw [askE, hR, hc]; rfl
   rw [hQ, e];exact ⟨_, rfl, bysl_nil _, nil _⟩
 · have hc : cleanE ⟨1, slot, 0, writeR r⟩ = true := by simpa using h
   have e : askE slot r = (⟨1, slot, 0, writeR r⟩, 0) := by rw [askE, hR, hc]; rfl
   rw [hQ, e];exact ⟨_, rfl, ⟨a, m, d, rfl, hs.mono l2, h1, h2⟩, hnew.mono l2⟩
theorem ct15 (r : Rq) (hr : okRq r) (y : Value) (slot : Int) (hsl : i64R slot) (I : Mem) (hG : Globs I) (hy : BySl I y r.fed) :
 Ct Tryz.prog (fnv 15) #[.agg (rqV r y).toArray, .int .i64 slot] I (fun v _ => v = .bool true) := by
 have hy0 := hy;obtain ⟨p, n, c, rfl, hp, hpc, hpm⟩ := hy
 refine viaR (ct_via (A := { calls := [(29, .g), (52, .hg), (54, .val false), (59, .val false), (64, .val false), (71, .g)] }) Tryz.func15 rfl Tryz.call15 rfl rfl) (Br (decide (400 < (r.name.size : Int))) (Rf (Value.bool true)) (Br (decide (16000 < (n : Int))) (Rf (Value.bool true)) (Ct Tryz.prog (fnv 44) #[.agg #[.int .u8 r.kind, .int .u8 r.what, .string r.name, .int .i64 r.p3, .int .i64 r.p4, .int .i64 r.p5, .int .i64 r.p6, .int .i64 r.p7, .int .i64 r.p8, .int .i64 r.p9, .int .i64 r.val, .slice p n c]] I (fun v a => ∃ b d q e f g h i j k l m o s, v = .agg #[.int .u8 b, .int .u8 d, .string q, .int .i64 e, .int .i64 f, .int .i64 g, .int .i64 h, .int .i64 i, .int .i64 j, .int .i64 k, .int .i64 l, .slice m o s] /\ CtH Tryz.prog (fnv 20) #[.int .i64 slot, .agg #[.int .u8 r.kind, .int .u8 r.what, .string r.name, .int .i64 r.p3, .int .i64 r.p4, .int .i64 r.p5, .int .i64 r.p6, .int .i64 r.p7, .int .i64 r.p8, .int .i64 r.p9, .int .i64 r.val, .slice p n c]] a Mem.emp fun t u G => ∃ w x y z n1 c1 n2, t = .tuple #[.agg #[.int .u8 w, .int .i64 x, .int .i64 y, .slice z n1 c1], .int .i64 n2] /\ Ct Tryz.prog (fnv 45) #[.int .i64 slot, .agg #[.int .u8 b, .int .u8 d, .string q, .int .i64 e, .int .i64 f, .int .i64 g, .int .i64 h, .int .i64 i, .int .i64 j, .int .i64 k, .int .i64 l, .slice m o s]] u fun v1 I1 => ∃ n3 n4 n5 a1 n6 c2 n7, v1 = .tuple #[.agg #[.int .u8 n3, .int .i64 n4, .int .i64 n5, .slice a1 n6 c2], .int .i64 n7] /\ Ct Tryz.prog (fnv 21) #[.agg #[.int .u8 r.kind, .int .u8 r.what, .string r.name, .int .i64 r.p3, .int .i64 r.p4, .int .i64 r.p5, .int .i64 r.p6, .int .i64 r.p7, .int .i64 r.p8, .int .i64 r.p9, .int .i64 r.val, .slice p n c]] I1 fun v2 I2 => ∃ q1 n8, v2 = .tuple #[.string q1, .int .i64 n8] /\ Ct Tryz.prog (fnv 46) #[.agg #[.int .u8 b, .int .u8 d, .string q, .int .i64 e, .int .i64 f, .int .i64 g, .int .i64 h, .int .i64 i, .int .i64 j, .int .i64 k, .int .i64 l, .slice m o s]] I2 fun v3 I3 => ∃ q2 n9, v3 = .tuple #[.string q2, .int .i64 n9] /\ ∀ (b1 : Nat) (I4 : Mem), I3.le I4 -> I4 b1 = some (.cells #[.int .u8 w, .int .i64 x, .int .i64 y, .slice z n1 c1] 35 (0, 0)) -> ∀ (b2 : Nat) (I5 : Mem), I4.le I5 -> I5 b2 = some (.cells #[.int .u8 n3, .int .i64 n4, .int .i64 n5, .slice a1 n6 c2] 72 (0, 0)) -> CtH Tryz.prog (fnv 42) #[.slice (some ⟨b1, 0, none⟩) 1 1, .slice (some ⟨b2, 0, none⟩) 1 1] I5 G fun v4 I6 G1 => ∃ b3, v4 = .bool b3 /\ Br (!b3) (Value.bool false = .bool true) (Br (n2 != n7) (Value.bool false = .bool true) (Br (!(q1.toList == q2.toList)) (Value.bool false = .bool true) (Br (n8 != n9) (Value.bool false = .bool true) (CtH Tryz.prog (fnv 47) #[.slice z n1 c1] I6 G1 (fun v5 I7 G2 => v5 = .tuple #[] /\ Ct Tryz.prog (fnv 43) #[.slice p n c, .slice m o s] I7 fun v6 I8 => ∃ b4, v6 = .bool b4 /\ Value.bool b4 = .bool true))))))))) (by kernel_rfl) ?_
 have hn := hp.numLen;refine Br.mk (fun _ => rfl) (fun h1 => Br.mk (fun _ => rfl) (fun h2 => ?_));have h1 := of_decide_eq_false h1;have h2 := of_decide_eq_false h2
 refine (ct44 r _ I hy0 (by omega)).mono fun v I1 l1 ⟨y2, hv, hy2⟩ => ?_
 obtain ⟨ma, mn, mc, rfl, hms, hmc, hmm⟩ := id hy2
 refine ⟨_, _, _, _, _, _, _, _, _, _, _, _, _, _, hv, (ct_own (ct20N slot hsl r hr (by omega) _ I1 (hy0.mono l1) (by omega))).mono ?_⟩
 rintro v I2 G _ ⟨rfl, J, lJ, ⟨z, rfl, hz, hnew⟩, hGe⟩;obtain ⟨za, zn, zc, rfl, hzs, hzc, hzm⟩ := id hz;obtain ⟨hns, hn6⟩ := hnew _ _ _ rfl
 have hown : OwnS 1 G za zc := by rw [hGe]; exact hns.own
 have hzB : BySl (both I2 G) (.slice za zn zc) (askE slot r).1.bs := by rw [hGe]; exact hz.mono (le_gained lJ)
 have hok : okEn (askE slot r).1 := askE_ok hsl hr
 have hbl : (askE slot r).1.bs.length <= 1000000 := by have := hzs.numLen; omega
 refine ⟨_, _, _, _, _, _, _, rfl, (ct45 slot hsl r hr (by omega) _ I2 hy2 (by omega)).mono fun v I3 l3 ⟨u, hv, hu⟩ => ?_⟩
 obtain ⟨ua, un, uc, rfl, _⟩ := id hu;have l13 := Mem.le_trans l1 l3
 refine ⟨_, _, _, _, _, _, _, hv, (ct21 r hr (by omega) _ I3 (hG.mono l13) (hy0.mono l13) (by omega) hr.fed).mono fun v I4 l4 hv => ⟨_, _, hv, (ct46 r hr (by omega) _ I4 ((hy2.mono l3).mono l4) (by omega)).mono fun v I5 l5 hv => ⟨_, _, hv, fun b1 I6 l6 hb1 b2 I7 l7 hb2 => ?_⟩⟩⟩
 have l27 : I2.le I7 := Mem.le_trans l3 (Mem.le_trans l4 (Mem.le_trans l5 (Mem.le_trans l6 l7)))
 refine (ct_both fun hap => ct42 [(askE slot r).1] [(askE slot r).1] (some ⟨b1, 0, none⟩) (some ⟨b2, 0, none⟩) 1 1 1 1 (both I7 G) (en_block (both_le _ _ _ _ (l7 _ _ hb1)) hok (hzB.mono (both_mono l27 hap))) (en_block (both_le _ _ _ _ hb2) hok (hu.mono (Mem.le_trans (Mem.le_trans l4 (Mem.le_trans l5 (Mem.le_trans l6 l7))) (both_le _ _)))) (fun e he => by rw [List.mem_singleton.1 he]; exact hbl) (by decide)).mono ?_
 rintro v I8 G8 _ ⟨rfl, rfl, _, hv⟩
 refine ⟨_, hv, Br.f (by rw [decide_eq_true rfl]; rfl) (Br.f (by simp) (Br.f (by simp) (Br.f (by simp) ((ct47 za zn zc I8 G8 hzc hn6 hown).mono fun v I9 G9 l9 ⟨hv, _⟩ => ⟨hv, ?_⟩))))⟩
 refine (ct43 r.fed r.fed hr.fed hr.fed _ _ _ _ _ _ I9 ((hp.mono (Mem.le_trans l1 l27)).mono l9) ((hms.mono l27).mono l9)).mono fun v J l hv => ⟨_, hv, by rw [decide_eq_true rfl]⟩
theorem ct4 (r : Rq) (hr : okRq r) (y : Value) (slot : Int) (hsl : i64R slot) (I : Mem) (hG : Globs I) (hy : BySl I y r.fed) :
 Ct Tryz.prog (fnv 4) #[.agg (rqV r y).toArray, .int .i64 slot] I (fun v _ => v = .bool true) := by
 have hy0 := hy;obtain ⟨p, n, c, rfl, hp, hpc, hpm⟩ := hy
 refine viaR (ct_via (A := { }) Tryz.func4 rfl Tryz.call4 rfl rfl) (Ct Tryz.prog (fnv 15) #[.agg #[.int .u8 r.kind, .int .u8 r.what, .string r.name, .int .i64 r.p3, .int .i64 r.p4, .int .i64 r.p5, .int .i64 r.p6, .int .i64 r.p7, .int .i64 r.p8, .int .i64 r.p9, .int .i64 r.val, .slice p n c], .int .i64 slot] I fun v a => ∃ b, v = .bool b /\ Br b (Ct Tryz.prog (fnv 14) #[] a (fun d e => ∃ f, d = .bool f /\ Value.bool f = .bool true)) (Value.bool false = .bool true)) (by kernel_rfl) ?_
 exact (ct15 r hr _ slot hsl I hG hy0).mono fun v I1 l1 hv => ⟨_, hv, Br.t rfl ((ct14 I1 (hG.mono l1)).mono fun v I2 l2 hv => ⟨_, hv, rfl⟩)⟩
theorem cells26 : Tryz.prog.cellsOf 26 = 12 := by kernel_rfl
def Q26 (I : Mem) (v : Value) : Prop := ∃ r y, v = .agg (rqV r y).toArray /\ okRq r /\ BySl I y r.fed
theorem opc26 (W : World) : OpC Tryz.prog W 26 fun cs => ∃ r y, cs = rqV r y /\ okRq r /\ BySl (memW W) y r.fed := by
 refine (opc_struct (P := Tryz.prog) (W := W) Tryz.underlying26 cells26 (.cons rfl cells5 (opc_int Tryz.underlying5) (.cons rfl cells5 (opc_int Tryz.underlying5) (.cons rfl cells9 (opc_str Tryz.underlying9) (.cons rfl cells3 (opc_int Tryz.underlying3) (.cons rfl cells3 (opc_int Tryz.underlying3) (.cons rfl cells3 (opc_int Tryz.underlying3) (.cons rfl cells3 (opc_int Tryz.underlying3) (.cons rfl cells3 (opc_int Tryz.underlying3) (.cons rfl cells3 (opc_int Tryz.underlying3) (.cons rfl cells3 (opc_int Tryz.underlying3) (.cons rfl cells2 (opc_int Tryz.underlying2) (.cons rfl cells24 (opc_ints Tryz.underlying24 Tryz.underlying5 cells5) .nil))))))))))))).mono ?_
 rintro cs ⟨hl, ⟨k, h1, k1, k2⟩, ⟨w, h2, k3, k4⟩, ⟨s, h3, _⟩, ⟨p3, h4, g3, g3'⟩, ⟨p4, h5, g4, g4'⟩, ⟨p5, h6, g5, g5'⟩, ⟨p6, h7, g6, g6'⟩, ⟨p7, h8, g7, g7'⟩, ⟨p8, h9, g8, g8'⟩, ⟨p9, h10, g9, g9'⟩, ⟨vl, h11, g10, g10'⟩, ⟨a, m, c, zs, h12, q1, q2, q3, q4, _⟩, _⟩
 match cs, hl with
 | [y0, y1, y2, y3, y4, y5, y6, y7, y8, y9, y10, y11], _ =>
  simp only [List.drop_succ_cons, List.drop_zero, List.take_succ_cons, List.take_zero, List.cons.injEq, and_true] at h1 h2 h3 h4 h5 h6 h7 h8 h9 h10 h11 h12
  subst h1; subst h2; subst h3; subst h4; subst h5; subst h6; subst h7; subst h8; subst h9; subst h10; subst h11; subst h12
  exact ⟨⟨k, w, s, p3, p4, p5, p6, p7, p8, p9, vl, zs⟩, _, rfl, ⟨⟨k1, k2⟩, ⟨k3, k4⟩, ⟨g3, g3'⟩, ⟨g4, g4'⟩, ⟨g5, g5'⟩, ⟨g6, g6'⟩, ⟨g7, g7'⟩, ⟨g8, g8'⟩, ⟨g9, g9'⟩, ⟨g10, g10'⟩, fun z hz => q4 z hz⟩, a, m, c, rfl, q1, q2, q3⟩
section
variable {H : Type} {enc : TypeId × Value -> H} {W : World} {r : Reach} {b0 : Nat} {v : Value} {d : DataW H} {ps : List MemPlace}
theorem op26 (hval : Value.okWide Tryz.prog W r b0 26 v) (hd : DataW.Trod enc Tryz.prog W 0 (fun _ => true) true 26 v d ps) (hw : ∀ n ∈ d.weights Tryz.prog 26, n <= reachBytes) : Q26 (memW W) v := by
 obtain ⟨cs, rfl, q, y, e, hq, hy⟩ := opc_top_struct (opc26 W) Tryz.underlying26 hval hd hw
 exact ⟨q, y, by rw [<- e], hq, hy⟩
end
theorem ct4Q (I : Mem) (hG : Globs I) (v0 v1 : Value) (h0 : Q26 I v0) (h1 : Q3 I v1) : Ct Tryz.prog (fnv 4) #[v0, v1] I (fun v _ => v = .bool true) := by
 obtain ⟨r, y, rfl, hr, hy⟩ := h0;obtain ⟨n, rfl, hn⟩ := h1;exact ct4 r hr y n hn I hG hy
