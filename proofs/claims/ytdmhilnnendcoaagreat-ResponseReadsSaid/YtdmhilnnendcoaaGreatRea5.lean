/- Part of a proof by the rules of the symbolic walk (see the law's own text): contracts of functions of the program. -/
import Derived.Test.YtdmhilnnendcoaaGreatRea4
import Derived.Test.YtdmhilnnendcoaaGreatRea3
set_option linter.unusedVariables false
set_option linter.unusedSimpArgs false
open Go Go.Proofs Go.SE Go.RowKit
set_option linter.unusedVariables false
set_option maxRecDepth 100000
set_option maxHeartbeats 1000000
def formsL (l : List Int) : List Int := l.flatMap fun n => formN (IntKind.u64.wrap n).toNat
theorem w64_range (x : Int) : 0 <= IntKind.u64.wrap x /\ IntKind.u64.wrap x <= 18446744073709551615 := by
 rw [w64]; omega
theorem forms_snoc {l : List Int} {j : Nat} {x : Int} (h : l[j]? = some x) : formsL (l.take (j + 1)) = formsL (l.take j) ++ formN (IntKind.u64.wrap x).toNat := by
 rw [take_succ' h, formsL, List.flatMap_append]; simp [formsL]
theorem forms_len (l : List Int) : (formsL l).length <= 9 * l.length := by
 induction l with
 | nil => simp [formsL]
 | cons x r ih =>
   have h1 := w64_range x
   have h2 := (formN_le (IntKind.u64.wrap x).toNat (by omega)).1
   have e : formsL (x :: r) = formN (IntKind.u64.wrap x).toNat ++ formsL r := rfl;rw [e, List.length_append, List.length_cons];omega
theorem forms_take (l : List Int) (j : Nat) : (formsL (l.take j)).length <= 9 * l.length := by
 have := forms_len (l.take j);have := List.length_take_le j l
 have : (l.take j).length <= l.length := by rw [List.length_take]; omega
 omega
theorem cs95 (l : List Int) (a : Option Addr) (n c : Nat) (I : Mem) (h : SlM I a n 1 (ints .i64 l)) (hn : n <= 10000) :
 CtS Tryz.prog (.v (fnv 95)) [.v (.slice a n c)] [] I (fun sv H' _ => sv = .rsl 0 (formsL l).length /\ H' = [⟨.row (ints .u8 (formsL l)) 1 5, none⟩]) := by
 refine viaR (ctS_via (A := { calls := [(15, .lend [0] (.row 0) [.row 1 5])], loops := [(3, ⟨[(3, .row 0), (6, .keep), (7, .keep), (8, .sh (.int .i64))], [(0, .row)], [(3, 1, 5)], fun vals xss _ _ => match vals, xss with | [.int .i64 j], [xs] => 0 <= j /\ j <= n /\ xs = ints .u8 (formsL (l.take j.toNat)) | _, _ => False, fun vals _ => match vals with | [.int .i64 j] => (n - j).toNat | _ => 0⟩)] }) Tryz.func95 rfl Tryz.call95 [0] rfl) (((0 : Nat) = 0 /\ Rf (SV.v (.slice a n c)) /\ Rf (SV.v (.int .i64 (n : Int))) /\ (0 : Int) <= 0 /\ 0 <= (n : Int) /\ Rf ([] : List Value)) /\ ∀ (b : Mem), Mem -> I.le b -> ∀ (x : List Value) (d : Int), 0 <= d /\ d <= (n : Int) /\ x = List.map (Value.int .u8) (formsL (List.take d.toNat l)) -> Br (decide (d < (n : Int))) (0 <= d /\ d < (n : Int) /\ a.isSome = true /\ ∃ e, atI b a (d.toNat * 1 + 0) = some (.int .i64 e) /\ Wr .u64 e fun f => CtS Tryz.prog (.v (fnv 90)) [.rsl 0 x.length, .v (.int .u64 f)] [⟨.row x 1 5, none⟩] b fun s H g => ∃ i j, s = .rsl 0 i /\ H = [⟨.row j 1 5, none⟩] /\ Wr .i64 (d + 1) fun k => i = j.length /\ Rf (SV.v (.slice a n c)) /\ Rf (SV.v (.int .i64 (n : Int))) /\ (0 <= k /\ k <= (n : Int) /\ j = List.map (Value.int .u8) (formsL (List.take k.toNat l))) /\ Int.toNat ((n : Int) - k) < Int.toNat ((n : Int) - d)) (SV.rsl 0 x.length = .rsl 0 (formsL l).length /\ [Ent.mk (.row x 1 5) none] = [⟨.row (List.map (Value.int .u8) (formsL l)) 1 5, none⟩])) (by kernel_rfl) ?_
 simp only [eq_self, true_and, and_true];have hln := h.numLen
 refine ⟨⟨by omega, by omega⟩, fun I1 _ l1 xs j ⟨j0, j1, hx⟩ => Br.mk (fun hlt => ?_) (fun hge => ?_)⟩
 · have hlt := of_decide_eq_true hlt
   obtain ⟨x, hxj, e⟩ := (h.mono l1).intAt j0 hlt;have hwr := w64_range x;have hfl := forms_take l j.toNat
   have hxl : xs.length <= 90000 := by rw [hx]; simp only [List.length_map]; omega
   refine ⟨j0, hlt, h.isSome (by omega), x, e, _, rfl, (cs90 xs xs.length _ hwr rfl (by omega) I1).mono fun v H' I2 l2 ⟨hv, hH⟩ => ?_⟩
   refine ⟨_, _, hv, hH, wr_i64 (by omega) (by omega) ⟨by simp [ints], ⟨by omega, by omega, ?_⟩, by omega⟩⟩
   rw [show (j + 1).toNat = j.toNat + 1 by omega, forms_snoc hxj, hx]
   simp [ints]
 · have hge := of_decide_eq_false hge
   rw [List.take_of_length_le (by omega)] at hx
   subst hx
   exact ⟨by rw [List.length_map], rfl⟩
theorem ct95 (l : List Int) (a : Option Addr) (n c : Nat) (I : Mem) (h : SlM I a n 1 (ints .i64 l)) (hn : n <= 10000) :
 Ct Tryz.prog (fnv 95) #[.slice a n c] I (fun v I' => BySl I' v (formsL l)) := by
 refine viaR (ct_via (A := { calls := [(15, .lend [0] (.row 0) [.row 1 5])], loops := [(3, ⟨[(3, .row 0), (6, .keep), (7, .keep), (8, .sh (.int .i64))], [(0, .row)], [(3, 1, 5)], fun vals xss _ _ => match vals, xss with | [.int .i64 j], [xs] => 0 <= j /\ j <= n /\ xs = ints .u8 (formsL (l.take j.toNat)) | _, _ => False, fun vals _ => match vals with | [.int .i64 j] => (n - j).toNat | _ => 0⟩)] }) Tryz.func95 rfl Tryz.call95 rfl rfl) (((0 : Nat) = 0 /\ Rf (SV.v (.slice a n c)) /\ Rf (SV.v (.int .i64 (n : Int))) /\ (0 : Int) <= 0 /\ 0 <= (n : Int) /\ Rf ([] : List Value)) /\ ∀ (b : Mem), Mem -> I.le b -> ∀ (x : List Value) (d : Int), 0 <= d /\ d <= (n : Int) /\ x = List.map (Value.int .u8) (formsL (List.take d.toNat l)) -> Br (decide (d < (n : Int))) (0 <= d /\ d < (n : Int) /\ a.isSome = true /\ ∃ e, atI b a (d.toNat * 1 + 0) = some (.int .i64 e) /\ Wr .u64 e fun f => CtS Tryz.prog (.v (fnv 90)) [.rsl 0 x.length, .v (.int .u64 f)] [⟨.row x 1 5, none⟩] b fun s H g => ∃ i j, s = .rsl 0 i /\ H = [⟨.row j 1 5, none⟩] /\ Wr .i64 (d + 1) fun k => i = j.length /\ Rf (SV.v (.slice a n c)) /\ Rf (SV.v (.int .i64 (n : Int))) /\ (0 <= k /\ k <= (n : Int) /\ j = List.map (Value.int .u8) (formsL (List.take k.toNat l))) /\ Int.toNat ((n : Int) - k) < Int.toNat ((n : Int) - d)) (∀ (e : Option Addr) (f : Nat) (g : Mem), b.le g -> RowM g e f 1 x -> ∃ i m j, Value.slice e x.length f = .slice i m j /\ SlM g i m 1 (List.map (Value.int .u8) (formsL l)) /\ m <= j /\ j <= 9223372036854775807)) (by kernel_rfl) ?_
 simp only [eq_self, true_and, and_true];have hln := h.numLen
 refine ⟨⟨by omega, by omega⟩, fun I1 _ l1 xs j ⟨j0, j1, hx⟩ => Br.mk (fun hlt => ?_) (fun hge => ?_)⟩
 · have hlt := of_decide_eq_true hlt
   obtain ⟨x, hxj, e⟩ := (h.mono l1).intAt j0 hlt;have hwr := w64_range x;have hfl := forms_take l j.toNat
   have hxl : xs.length <= 90000 := by rw [hx]; simp only [List.length_map]; omega
   refine ⟨j0, hlt, h.isSome (by omega), x, e, _, rfl, (cs90 xs xs.length _ hwr rfl (by omega) I1).mono fun v H' I2 l2 ⟨hv, hH⟩ => ?_⟩
   refine ⟨_, _, hv, hH, wr_i64 (by omega) (by omega) ⟨by simp [ints], ⟨by omega, by omega, ?_⟩, by omega⟩⟩
   rw [show (j + 1).toNat = j.toNat + 1 by omega, forms_snoc hxj, hx]
   simp [ints]
 · have hge := of_decide_eq_false hge
   rw [List.take_of_length_le (by omega)] at hx
   subst hx
   exact fun a' cp I2 l2 hrow => row_bysl hrow (by rw [List.length_map])
theorem int_sl {I : Mem} {b : Nat} {l : List Int} {el : TypeId} {n : Nat} {cs : Array Value} (h : I b = some (.cells cs el)) (hc : cs = (ints .i64 l).toArray) (hn : n = l.length) (hm : n <= 10000) : SlM I (some ⟨b, 0, none⟩) n 1 (ints .i64 l) := by
 subst hc
 have := sl_cells (n := n) (sz := 1) h (by simp [ints]; omega) (by simp only [maxLen]; omega)
 simpa using this
theorem ct92 (k1 k2 k3 : Int) (I : Mem) :
 Ct Tryz.prog (fnv 92) #[.agg #[.int .i64 k1, .int .i64 k2, .int .i64 k3]] I (fun v I' => BySl I' v (formsL [k1, k2, k3])) := by
 refine viaR (ct_via (A := { }) Tryz.func92 rfl Tryz.call92 rfl rfl) (∀ (b : Nat) (a : Mem), I.le a -> a b = some (.cells #[.int .i64 k1, .int .i64 k2, .int .i64 k3] 3 (0, 0)) -> Ct Tryz.prog (fnv 95) #[.slice (some ⟨b, 0, none⟩) 3 3] a fun v c => ∃ d n e, v = .slice d n e /\ ∃ f m g, Value.slice d n e = .slice f m g /\ SlM c f m 1 (List.map (Value.int .u8) (formsL [k1, k2, k3])) /\ m <= g /\ g <= 9223372036854775807) (by kernel_rfl) ?_
 intro b I1 l1 hb
 refine (ct95 [k1, k2, k3] _ 3 3 I1 (int_sl hb rfl rfl (by omega)) (by omega)).mono fun v I2 l2 hv => ?_
 obtain ⟨a, n, c, rfl, h1⟩ := hv;exact ⟨_, _, _, rfl, _, _, _, rfl, h1⟩
theorem cs92 (k1 k2 k3 : Int) (I : Mem) :
 CtS Tryz.prog (.v (fnv 92)) [.v (.agg #[.int .i64 k1, .int .i64 k2, .int .i64 k3])] [] I (fun sv H' _ => sv = .rsl 0 (formsL [k1, k2, k3]).length /\ H' = [⟨.row (ints .u8 (formsL [k1, k2, k3])) 1 5, none⟩]) := by
 obtain ⟨l, hl⟩ : ∃ l, l = formsL [k1, k2, k3] := ⟨_, rfl⟩;rw [<- hl]
 refine viaR (ctS_via (A := { calls := [(10, .lend [] (.row 0) [.row 1 5])] }) Tryz.func92 rfl Tryz.call92 [2] rfl) (∀ (b : Nat) (a : Mem), I.le a -> a b = some (.cells #[.int .i64 k1, .int .i64 k2, .int .i64 k3] 3 (0, 0)) -> CtS Tryz.prog (.v (fnv 95)) [.v (.slice (some ⟨b, 0, none⟩) 3 3)] [] a fun s H c => ∃ n x, s = .rsl 0 n /\ H = [⟨.row x 1 5, none⟩] /\ SV.rsl 0 n = .rsl 0 l.length /\ [Ent.mk (.row x 1 5) none] = [⟨.row (List.map (Value.int .u8) l) 1 5, none⟩]) (by kernel_rfl) ?_
 intro b I1 l1 hb
 refine (cs95 [k1, k2, k3] _ 3 3 I1 (int_sl hb rfl rfl (by omega)) (by omega)).mono fun sv H' I2 l2 ⟨h1, h2⟩ => ⟨_, _, h1, h2, ?_⟩
 rw [hl];exact ⟨rfl, rfl⟩
theorem bysl_split {I : Mem} {P : Nat -> Nat -> Option Addr -> Prop} {bs : List Int} {v : Value} (h : BySl I v bs) (hp : ∀ a n c, BySl I (.slice a n c) bs -> P n c a) : ∃ a n c, v = .slice a n c /\ P n c a := by
 obtain ⟨a, n, c, rfl, h1⟩ := h;exact ⟨a, n, c, rfl, hp a n c ⟨_, _, _, rfl, h1⟩⟩
def numF (x : Int) : List Int := formsL [x]
def celF (x : Int) : List Int := formN (foldZ x).toNat
def evF (x : EvT) : List Int := formsL [x.1.1, x.1.2.1, x.1.2.2] ++ formsL [x.2.1] ++ formN (foldZ x.2.2).toNat
def ptF (x : PtT) : List Int := formsL [x.1, x.2.2, (x.2.1.length : Int)] ++ x.2.1
def hdF (x : HdT) : List Int := formsL [x.1, x.2.1, x.2.2.1, x.2.2.2.1, x.2.2.2.2]
def i64R (x : Int) : Prop := -9223372036854775808 <= x /\ x <= 9223372036854775807
theorem foldZ_range {x : Int} (h : i64R x) : 0 <= foldZ x /\ foldZ x <= 18446744073709551615 := by
 obtain ⟨h1, h2⟩ := h;unfold foldZ
 split <;> omega
theorem cs_agg3 {P : Program} {fv : SV} {a b c : Value} {H : List Ent} {I : Mem} {post : SV -> List Ent -> Mem -> Prop} (h : CtS P fv [.v (.agg #[a, b, c])] H I post) : CtS P fv [.agg [.v a, .v b, .v c]] H I post := fun e hp hO => h e hp hO
theorem ct94 (x : Int) (I : Mem) : Ct Tryz.prog (fnv 94) #[.int .i64 x] I (fun v I' => BySl I' v (numF x)) := by
 refine viaR (ct_via (A := { }) Tryz.func94 rfl Tryz.call94 rfl rfl) (∀ (b : Nat) (a : Mem), I.le a -> a b = some (.cells #[.int .i64 x] 3 (0, 0)) -> Ct Tryz.prog (fnv 95) #[.slice (some ⟨b, 0, none⟩) 1 1] a fun v c => ∃ d n e, v = .slice d n e /\ ∃ f m g, Value.slice d n e = .slice f m g /\ SlM c f m 1 (List.map (Value.int .u8) (numF x)) /\ m <= g /\ g <= 9223372036854775807) (by kernel_rfl) ?_
 intro b I1 l1 hb
 exact (ct95 [x] _ 1 1 I1 (int_sl hb rfl rfl (by omega)) (by omega)).mono fun v I2 l2 h => bysl_split h fun a n c h => ⟨a, n, c, rfl, by obtain ⟨_, _, _, he, h1⟩ := h; cases he; exact h1⟩
theorem ct97 (x : Int) (hx : i64R x) (I : Mem) : Ct Tryz.prog (fnv 97) #[.int .i64 x] I (fun v I' => BySl I' v (celF x)) := by
 refine viaR (ct_via (A := { }) Tryz.func97 rfl Tryz.call97 rfl rfl) (Ct Tryz.prog (fnv 98) #[.int .i64 x] I fun v a => ∃ n, v = .int .u64 n /\ Ct Tryz.prog (fnv 90) #[.slice none 0 0, .int .u64 n] a fun b c => ∃ d e f, b = .slice d e f /\ ∃ g m h, Value.slice d e f = .slice g m h /\ SlM c g m 1 (List.map (Value.int .u8) (celF x)) /\ m <= h /\ h <= 9223372036854775807) (by kernel_rfl) ?_
 exact (ct98 x hx I).mono fun v I1 l1 hv => ⟨_, hv, (ct90 _ (foldZ_range hx) I1).mono fun v I2 l2 h => bysl_split h fun a n c h => ⟨a, n, c, rfl, by obtain ⟨_, _, _, he, h1⟩ := h; cases he; exact h1⟩⟩
theorem ct100 (x : EvT) (hx : i64R x.2.2) (I : Mem) : Ct Tryz.prog (fnv 100) #[.agg #[.int .i64 x.1.1, .int .i64 x.1.2.1, .int .i64 x.1.2.2, .int .i64 x.2.1, .int .i64 x.2.2]] I (fun v I' => BySl I' v (evF x)) := by
 refine viaR (ct_via (A := { calls := [(5, .lend [] (.row 0) [.row 1 5]), (14, .lendT [10] (.row 0) [.row 1 5])] }) Tryz.func100 rfl Tryz.call100 rfl rfl) (CtS Tryz.prog (.v (fnv 92)) [.agg [.v (.int .i64 x.1.1), .v (.int .i64 x.1.2.1), .v (.int .i64 x.1.2.2)]] [] I (fun s H a => ∃ n b, s = .rsl 0 n /\ H = [⟨.row b 1 5, none⟩] /\ ∀ (c : Nat) (d : Mem), a.le d -> d c = some (.cells #[.int .i64 x.2.1] 3 (0, 0)) -> Ct Tryz.prog (fnv 95) #[.slice (some ⟨c, 0, none⟩) 1 1] d fun v e => ∃ f g h, v = .slice f g h /\ ∃ y, y.length = g * 1 /\ (f = none -> g = 0) /\ (∀ (j : Nat) (i : Value), y[j]? = some i -> atI e f j = some i) /\ (∀ (i : Value), Membership.mem y i -> i.oneCell' = true) /\ b.length = n * 1 /\ n + g <= 9223372036854775807 /\ (n + g) * 1 <= 140737488355328 /\ Ct Tryz.prog (fnv 98) #[.int .i64 x.2.2] e fun i j => ∃ k, i = .int .u64 k /\ CtS Tryz.prog (.v (fnv 90)) [.rsl 0 (n + g), .v (.int .u64 k)] [⟨.row (b ++ y) 1 5, none⟩] j fun l m o => ∃ p q, l = .rsl 0 p /\ m = [⟨.row q 1 5, none⟩] /\ ∀ (r : Option Addr) (t : Nat) (u : Mem), o.le u -> RowM u r t 1 q -> ∃ w z c1, Value.slice r p t = .slice w z c1 /\ SlM u w z 1 (List.map (Value.int .u8) (evF x)) /\ z <= c1 /\ c1 <= 9223372036854775807) /\ CtS Tryz.prog (.v (fnv 92)) [.agg [.v (.int .i64 x.1.1), .v (.int .i64 x.1.2.1), .v (.int .i64 x.1.2.2)]] [] I fun s H a => ∃ n b, s = .rsl 0 n /\ H = [⟨.row b 1 5, none⟩] /\ ∀ (c : Nat) (d : Mem), a.le d -> d c = some (.cells #[.int .i64 x.2.1] 3 (0, 0)) -> Ct Tryz.prog (fnv 95) #[.slice (some ⟨c, 0, none⟩) 1 1] d fun v e => ∃ f g h, v = .slice f g h /\ ∃ y, y.length = g * 1 /\ (f = none -> g = 0) /\ (∀ (j : Nat) (i : Value), y[j]? = some i -> atI e f j = some i) /\ (∀ (i : Value), Membership.mem y i -> i.oneCell' = true) /\ b.length = n * 1 /\ n + g <= 9223372036854775807 /\ (n + g) * 1 <= 140737488355328 /\ Ct Tryz.prog (fnv 98) #[.int .i64 x.2.2] e fun i j => ∃ k, i = .int .u64 k /\ CtS Tryz.prog (.v (fnv 90)) [.rsl 0 (n + g), .v (.int .u64 k)] [⟨.row (b ++ y) 1 5, none⟩] j fun l m o => ∃ p q, l = .rsl 0 p /\ m = [⟨.row q 1 5, none⟩] /\ ∀ (r : Option Addr) (t : Nat) (u : Mem), o.le u -> RowM u r t 1 q -> ∃ w z c1, Value.slice r p t = .slice w z c1 /\ SlM u w z 1 (List.map (Value.int .u8) (evF x)) /\ z <= c1 /\ c1 <= 9223372036854775807) (by kernel_rfl) ?_
 have e : ints .u8 (evF x) = ints .u8 (formsL [x.1.1, x.1.2.1, x.1.2.2]) ++ ints .u8 (formsL [x.2.1]) ++ ints .u8 (formN (foldZ x.2.2).toNat) := by simp [ints, evF]
 have f1 := forms_len [x.1.1, x.1.2.1, x.1.2.2];have f2 := forms_len [x.2.1];have hf := foldZ_range hx
 have f3 := (formN_le (foldZ x.2.2).toNat (by omega)).1
 simp only [List.length_cons, List.length_nil] at f1 f2;refine ⟨?_, ?_⟩
 all_goals
  refine (cs_agg3 (cs92 x.1.1 x.1.2.1 x.1.2.2 I)).mono fun sv H' I1 l1 ⟨h1, h2⟩ => ⟨_, _, h1, h2, fun b I2 l2 hb => ?_⟩
  refine (ct95 [x.2.1] _ 1 1 I2 (int_sl hb rfl rfl (by omega)) (by omega)).mono fun v I3 l3 ⟨a, n, c, hv, hs, hc, hm⟩ => ⟨a, n, c, hv, ints .u8 (formsL [x.2.1]), hs.len, hs.nil, hs.at_, one_ints, by rw [ints_len]; omega, ?_⟩
  have hnl := hs.numLen
  refine ⟨by omega, by omega, (ct98 x.2.2 hx I3).mono fun v I4 l4 hv => ⟨_, hv, (cs90 _ _ _ hf (by rw [List.length_append, ints_len, ints_len]; omega) (by rw [List.length_append, ints_len, ints_len]; omega) I4).mono fun sv H' I5 l5 ⟨h3, h4⟩ => ⟨_, _, h3, h4, fun a cp I6 l6 hrow => ?_⟩⟩⟩
  rw [<- e] at hrow
  exact row_bysl hrow (by rw [<- ints_len (k := .u8) (l := evF x), e, List.length_append, List.length_append, ints_len, ints_len, ints_len]; omega)
theorem strB_size (bs : List Int) : (strB bs).size = bs.length := by
 show (u8s bs).toArray.size = _
 rw [List.size_toArray, u8s, List.length_map]
theorem u8s_ints {bs : List Int} (hb : byteL bs) : (u8s bs).map (fun b => Value.int .u8 (b.toNat : Nat)) = ints .u8 bs := by
 rw [u8s, List.map_map, ints];apply List.map_congr_left;intro z hz
 show Value.int .u8 (((UInt8.ofNat z.toNat).toNat : Nat) : Int) = _
 rw [u8_nat (hb z hz)]
theorem ct102 (x : PtT) (hx : x.2.1.length <= 1000) (hb : byteL x.2.1) (I : Mem) : Ct Tryz.prog (fnv 102) #[.agg #[.int .i64 x.1, .string (strB x.2.1), .int .i64 x.2.2]] I (fun v I' => BySl I' v (ptF x)) := by
 refine viaR (ct_via (A := { calls := [(11, .lend [] (.row 0) [.row 1 5])] }) Tryz.func102 rfl Tryz.call102 rfl rfl) (∀ (b : Nat) (a : Mem), I.le a -> a b = some (.cells #[.int .i64 x.1, .int .i64 x.2.2, .int .i64 ((strB x.2.1).size : Int)] 3 (0, 0)) -> CtS Tryz.prog (.v (fnv 95)) [.v (.slice (some ⟨b, 0, none⟩) 3 3)] [] a fun s H c => ∃ n d, s = .rsl 0 n /\ H = [⟨.row d 1 5, none⟩] /\ (1 : Nat) = 1 /\ d.length = n * 1 /\ n + (strB x.2.1).size <= 9223372036854775807 /\ (n + (strB x.2.1).size) * 1 <= 140737488355328 /\ ∀ (e : Option Addr) (f : Nat) (g : Mem), c.le g -> RowM g e f 1 (d ++ bytesV (strB x.2.1)) -> ∃ h m i, Value.slice e (n + (strB x.2.1).size) f = .slice h m i /\ SlM g h m 1 (List.map (Value.int .u8) (ptF x)) /\ m <= i /\ i <= 9223372036854775807) (by kernel_rfl) ?_
 have hsz := strB_size x.2.1;intro b I1 l1 hbk;rw [hsz] at hbk ⊢
 rw [show bytesV (strB x.2.1) = List.map (fun b => Value.int .u8 (b.toNat : Int)) (u8s x.2.1) from rfl, u8s_ints hb]
 have f1 := forms_len [x.1, x.2.2, (x.2.1.length : Int)];simp only [List.length_cons, List.length_nil] at f1
 have e : ints .u8 (ptF x) = ints .u8 (formsL [x.1, x.2.2, (x.2.1.length : Int)]) ++ ints .u8 x.2.1 := by simp [ints, ptF]
 refine (cs95 [x.1, x.2.2, (x.2.1.length : Int)] _ 3 3 I1 (int_sl hbk rfl rfl (by omega)) (by omega)).mono fun sv H' I2 l2 ⟨h1, h2⟩ => ⟨_, _, h1, h2, rfl, by rw [ints_len]; omega, by omega, by omega, fun a cp I3 l3 hrow => ?_⟩
 rw [<- e] at hrow
 exact row_bysl hrow (by rw [<- ints_len (k := .u8) (l := ptF x), e, List.length_append, ints_len, ints_len])
theorem ct104 (x : HdT) (hr : 0 <= x.2.2.2.2 /\ x.2.2.2.2 <= 255) (I : Mem) : Ct Tryz.prog (fnv 104) #[.agg #[.int .i64 x.1, .int .i64 x.2.1, .int .i64 x.2.2.1, .int .i64 x.2.2.2.1, .int .u8 x.2.2.2.2]] I (fun v I' => BySl I' v (hdF x)) := by
 refine viaR (ct_via (A := { }) Tryz.func104 rfl Tryz.call104 rfl rfl) (Wr .i64 x.2.2.2.2 fun c => ∀ (b : Nat) (a : Mem), I.le a -> a b = some (.cells #[.int .i64 x.1, .int .i64 x.2.1, .int .i64 x.2.2.1, .int .i64 x.2.2.2.1, .int .i64 c] 3 (0, 0)) -> Ct Tryz.prog (fnv 95) #[.slice (some ⟨b, 0, none⟩) 5 5] a fun v d => ∃ e n f, v = .slice e n f /\ ∃ g m h, Value.slice e n f = .slice g m h /\ SlM d g m 1 (List.map (Value.int .u8) (hdF x)) /\ m <= h /\ h <= 9223372036854775807) (by kernel_rfl) ?_
 refine wr_i64 (by omega) (by omega) ?_
 intro b I1 l1 hb
 exact (ct95 [x.1, x.2.1, x.2.2.1, x.2.2.2.1, x.2.2.2.2] _ 5 5 I1 (int_sl hb rfl rfl (by omega)) (by omega)).mono fun v I2 l2 h => bysl_split h fun a n c h => ⟨a, n, c, rfl, by obtain ⟨_, _, _, he, h1⟩ := h; cases he; exact h1⟩
theorem fm_get {α : Type} {c : α -> List Value} {k : Nat} (hk : ∀ x, (c x).length = k) : ∀ {l : List α} {j : Nat} {x : α} {i : Nat}, l[j]? = some x -> i < k -> (l.flatMap c)[j * k + i]? = (c x)[i]?
 | y :: l, 0, x, i, h, hi => by
   simp only [List.getElem?_cons_zero, Option.some.injEq] at h;subst h
   rw [List.flatMap_cons, Nat.zero_mul, Nat.zero_add, List.getElem?_append_left (by rw [hk]; exact hi)]
 | y :: l, j + 1, x, i, h, hi => by
   have h : l[j]? = some x := by simpa using h
   rw [List.flatMap_cons, List.getElem?_append_right (by rw [hk, Nat.succ_mul]; omega), hk, <- fm_get hk h hi]
   congr 1
   rw [Nat.succ_mul]; omega
theorem lst_at {α : Type} {c : α -> List Value} {k : Nat} (hk : ∀ x, (c x).length = k) {I : Mem} {a : Option Addr} {n : Nat} {L : List α} (h : SlM I a n k (L.flatMap c)) (hn : n = L.length) {j : Int} (h0 : 0 <= j) (h1 : j < n) :
 ∃ x, L[j.toNat]? = some x /\ ∀ (i : Nat) (v : Value), i < k -> (c x)[i]? = some v -> atI I a (j.toNat * k + i) = some v := by
 have hlt : j.toNat < L.length := by omega
 refine ⟨_, List.getElem?_eq_getElem hlt, fun i v hi hv => h.at_ _ _ ?_⟩;rw [fm_get hk (List.getElem?_eq_getElem hlt) hi];exact hv
theorem fm_bound {α : Type} {F : α -> List Int} {B : Nat} : ∀ {l : List α}, (∀ x ∈ l, (F x).length <= B) -> (l.flatMap F).length <= B * l.length
 | [], _ => by simp
 | x :: l, h => by
   have h1 := h x (by simp)
   have h2 := fm_bound (l := l) fun y hy => h y (by simp [hy])
   rw [List.flatMap_cons, List.length_append, List.length_cons, Nat.mul_succ];omega
theorem fm_take {α : Type} {F : α -> List Int} {B : Nat} {l : List α} (h : ∀ x ∈ l, (F x).length <= B) (j : Nat) : ((l.take j).flatMap F).length <= B * l.length := by
 have h1 := fm_bound (l := l.take j) fun y hy => h y (List.mem_of_mem_take hy)
 have h2 : (l.take j).length <= l.length := by rw [List.length_take]; omega
 exact Nat.le_trans h1 (Nat.mul_le_mul_left _ h2)
set_option maxHeartbeats 1000000 in
theorem ct93 (tag : Int) (L : List Int) (hX : ∀ x ∈ L, True) (hF : ∀ x ∈ L, (numF x).length <= 2000) (a : Option Addr) (n c : Nat) (I : Mem) (h : SlM I a n 1 (L.flatMap cI)) (hn : n = L.length) (hn2 : n <= 10000) :
 Ct Tryz.prog (fnv 93) #[.int .i64 tag, .slice a n c, fnv 94] I (fun v I' => ∃ y, v = .agg #[.int .i64 tag, y] /\ BySl I' y (L.flatMap numF)) := by
 obtain ⟨F, hFe⟩ : ∃ F, F = numF := ⟨_, rfl⟩;rw [<- hFe] at hF ⊢
 refine viaR (ct_via (A := { loops := [(3, ⟨[(2, .keep), (6, .keep), (7, .keep), (12, .keep), (13, .keep), (14, .sh (.int .i64))], [(0, .keep), (1, .cells [.keep, .row 2]), (2, .row)], [(7, 1001, 5)], fun vals xss _ _ => match vals, xss with | [.int .i64 j], [xs] => 0 <= j /\ j <= n /\ xs = ints .u8 ((L.take j.toNat).flatMap F) | _, _ => False, fun vals _ => match vals with | [.int .i64 j] => (n - j).toNat | _ => 0⟩)] }) Tryz.func93 rfl Tryz.call93 rfl rfl) ((Rf (Ent.mk (.cells [.v (.int .i64 0), .v (.slice none 0 0)] 58) none) /\ Rf (SV.v (fnv 94)) /\ Rf (SV.ptr 0 0) /\ Rf (SV.ptr 1 0) /\ Rf (SV.v (.slice a n c)) /\ Rf (SV.v (.int .i64 (n : Int))) /\ Rf (none : Option Nat) /\ Rf (SV.v (.int .i64 tag)) /\ (0 : Nat) = 0 /\ (0 : Int) <= 0 /\ 0 <= (n : Int) /\ Rf ([] : List Value)) /\ ∀ (b : Mem), Mem -> I.le b -> ∀ (x : List Value) (d : Int), 0 <= d /\ d <= (n : Int) /\ x = List.map (Value.int .u8) (List.flatMap F (List.take d.toNat L)) -> Br (decide (d < (n : Int))) (0 <= d /\ d < (n : Int) /\ a.isSome = true /\ ∃ e, atI b a (d.toNat * 1 + 0) = some (.int .i64 e) /\ Ct Tryz.prog (fnv 94) #[.int .i64 e] b fun v f => ∃ g i j, v = .slice g i j /\ ∃ y, y.length = i * 1 /\ (g = none -> i = 0) /\ (∀ (k : Nat) (l : Value), y[k]? = some l -> atI f g k = some l) /\ (∀ (k : Value), Membership.mem y k -> k.oneCell' = true) /\ x.length = x.length * 1 /\ x.length + i <= 9223372036854775807 /\ (x.length + i) * 1 <= 140737488355328 /\ Wr .i64 (d + 1) fun k => Rf (Ent.mk (.cells [.v (.int .i64 0), .v (.slice none 0 0)] 58) none) /\ Rf (SV.v (fnv 94)) /\ Rf (SV.ptr 0 0) /\ Rf (SV.ptr 1 0) /\ Rf (SV.v (.slice a n c)) /\ Rf (SV.v (.int .i64 (n : Int))) /\ Rf (none : Option Nat) /\ Rf (SV.v (.int .i64 tag)) /\ x.length + i = List.length (x ++ y) /\ (0 <= k /\ k <= (n : Int) /\ x ++ y = List.map (Value.int .u8) (List.flatMap F (List.take k.toNat L))) /\ Int.toNat ((n : Int) - k) < Int.toNat ((n : Int) - d)) (∀ (e : Option Addr) (f : Nat) (g : Mem), b.le g -> RowM g e f 1 x -> ∃ y, Value.agg #[.int .i64 tag, .slice e x.length f] = .agg #[.int .i64 tag, y] /\ ∃ i m j, y = .slice i m j /\ SlM g i m 1 (List.map (Value.int .u8) (List.flatMap F L)) /\ m <= j /\ j <= 9223372036854775807)) (by kernel_rfl) ?_
 simp only [eq_self, true_and, and_true]
 refine ⟨⟨by omega, by omega⟩, fun I1 _ l1 xs j ⟨j0, j1, hx⟩ => Br.mk (fun hlt => ?_) (fun hge => ?_)⟩
 · have hlt := of_decide_eq_true hlt
   obtain ⟨x, hxj, g⟩ := lst_at (c := cI) (k := 1) (fun _ => rfl) (h.mono l1) hn j0 hlt;have hxm := hX x (List.mem_of_getElem? hxj);have hxf := hF x (List.mem_of_getElem? hxj);have hbd := fm_take hF j.toNat
   have hxl : xs.length <= 20000000 := by rw [hx]; simp only [List.length_map]; omega
   refine ⟨j0, hlt, h.isSome (by omega), _, g 0 _ (by omega) rfl, ?_⟩
   all_goals
    refine (ct94 x  I1).mono fun v I2 l2 ⟨a2, n2, c2, hv, hs2, _, _⟩ => ?_;rw [<- hFe] at hs2;have hl2 := hs2.numLen
    refine ⟨a2, n2, c2, hv, ints .u8 (F x), hs2.len, hs2.nil, hs2.at_, one_ints, by omega, by omega, by omega, wr_i64 (by omega) (by omega) ⟨by rw [List.length_append, ints_len]; omega, ⟨by omega, by omega, ?_⟩, by omega⟩⟩
    rw [show (j + 1).toNat = j.toNat + 1 by omega, take_succ' hxj, List.flatMap_append, hx]
    simp [ints]
 · have hge := of_decide_eq_false hge
   rw [List.take_of_length_le (by omega)] at hx
   subst hx
   exact fun a' cp I2 l2 hrow => ⟨_, rfl, row_bysl hrow (by rw [List.length_map])⟩
set_option maxHeartbeats 1000000 in
theorem ct96 (tag : Int) (L : List Int) (hX : ∀ x ∈ L, i64R x) (hF : ∀ x ∈ L, (celF x).length <= 2000) (a : Option Addr) (n c : Nat) (I : Mem) (h : SlM I a n 1 (L.flatMap cI)) (hn : n = L.length) (hn2 : n <= 10000) :
 Ct Tryz.prog (fnv 96) #[.int .i64 tag, .slice a n c, fnv 97] I (fun v I' => ∃ y, v = .agg #[.int .i64 tag, y] /\ BySl I' y (L.flatMap celF)) := by
 obtain ⟨F, hFe⟩ : ∃ F, F = celF := ⟨_, rfl⟩;rw [<- hFe] at hF ⊢
 refine viaR (ct_via (A := { loops := [(3, ⟨[(2, .keep), (6, .keep), (7, .keep), (12, .keep), (13, .keep), (14, .sh (.int .i64))], [(0, .keep), (1, .cells [.keep, .row 2]), (2, .row)], [(7, 1001, 5)], fun vals xss _ _ => match vals, xss with | [.int .i64 j], [xs] => 0 <= j /\ j <= n /\ xs = ints .u8 ((L.take j.toNat).flatMap F) | _, _ => False, fun vals _ => match vals with | [.int .i64 j] => (n - j).toNat | _ => 0⟩)] }) Tryz.func96 rfl Tryz.call96 rfl rfl) ((Rf (Ent.mk (.cells [.v (.int .i64 0), .v (.slice none 0 0)] 58) none) /\ Rf (SV.v (fnv 97)) /\ Rf (SV.ptr 0 0) /\ Rf (SV.ptr 1 0) /\ Rf (SV.v (.slice a n c)) /\ Rf (SV.v (.int .i64 (n : Int))) /\ Rf (none : Option Nat) /\ Rf (SV.v (.int .i64 tag)) /\ (0 : Nat) = 0 /\ (0 : Int) <= 0 /\ 0 <= (n : Int) /\ Rf ([] : List Value)) /\ ∀ (b : Mem), Mem -> I.le b -> ∀ (x : List Value) (d : Int), 0 <= d /\ d <= (n : Int) /\ x = List.map (Value.int .u8) (List.flatMap F (List.take d.toNat L)) -> Br (decide (d < (n : Int))) (0 <= d /\ d < (n : Int) /\ a.isSome = true /\ ∃ e, atI b a (d.toNat * 1 + 0) = some (.int .i64 e) /\ Ct Tryz.prog (fnv 97) #[.int .i64 e] b fun v f => ∃ g i j, v = .slice g i j /\ ∃ y, y.length = i * 1 /\ (g = none -> i = 0) /\ (∀ (k : Nat) (l : Value), y[k]? = some l -> atI f g k = some l) /\ (∀ (k : Value), Membership.mem y k -> k.oneCell' = true) /\ x.length = x.length * 1 /\ x.length + i <= 9223372036854775807 /\ (x.length + i) * 1 <= 140737488355328 /\ Wr .i64 (d + 1) fun k => Rf (Ent.mk (.cells [.v (.int .i64 0), .v (.slice none 0 0)] 58) none) /\ Rf (SV.v (fnv 97)) /\ Rf (SV.ptr 0 0) /\ Rf (SV.ptr 1 0) /\ Rf (SV.v (.slice a n c)) /\ Rf (SV.v (.int .i64 (n : Int))) /\ Rf (none : Option Nat) /\ Rf (SV.v (.int .i64 tag)) /\ x.length + i = List.length (x ++ y) /\ (0 <= k /\ k <= (n : Int) /\ x ++ y = List.map (Value.int .u8) (List.flatMap F (List.take k.toNat L))) /\ Int.toNat ((n : Int) - k) < Int.toNat ((n : Int) - d)) (∀ (e : Option Addr) (f : Nat) (g : Mem), b.le g -> RowM g e f 1 x -> ∃ y, Value.agg #[.int .i64 tag, .slice e x.length f] = .agg #[.int .i64 tag, y] /\ ∃ i m j, y = .slice i m j /\ SlM g i m 1 (List.map (Value.int .u8) (List.flatMap F L)) /\ m <= j /\ j <= 9223372036854775807)) (by kernel_rfl) ?_
 simp only [eq_self, true_and, and_true]
 refine ⟨⟨by omega, by omega⟩, fun I1 _ l1 xs j ⟨j0, j1, hx⟩ => Br.mk (fun hlt => ?_) (fun hge => ?_)⟩
 · have hlt := of_decide_eq_true hlt
   obtain ⟨x, hxj, g⟩ := lst_at (c := cI) (k := 1) (fun _ => rfl) (h.mono l1) hn j0 hlt;have hxm := hX x (List.mem_of_getElem? hxj);have hxf := hF x (List.mem_of_getElem? hxj);have hbd := fm_take hF j.toNat
   have hxl : xs.length <= 20000000 := by rw [hx]; simp only [List.length_map]; omega
   refine ⟨j0, hlt, h.isSome (by omega), _, g 0 _ (by omega) rfl, ?_⟩
   all_goals
    refine (ct97 x hxm I1).mono fun v I2 l2 ⟨a2, n2, c2, hv, hs2, _, _⟩ => ?_;rw [<- hFe] at hs2;have hl2 := hs2.numLen
    refine ⟨a2, n2, c2, hv, ints .u8 (F x), hs2.len, hs2.nil, hs2.at_, one_ints, by omega, by omega, by omega, wr_i64 (by omega) (by omega) ⟨by rw [List.length_append, ints_len]; omega, ⟨by omega, by omega, ?_⟩, by omega⟩⟩
    rw [show (j + 1).toNat = j.toNat + 1 by omega, take_succ' hxj, List.flatMap_append, hx]
    simp [ints]
 · have hge := of_decide_eq_false hge
   rw [List.take_of_length_le (by omega)] at hx
   subst hx
   exact fun a' cp I2 l2 hrow => ⟨_, rfl, row_bysl hrow (by rw [List.length_map])⟩
set_option maxHeartbeats 1000000 in
theorem ct99 (tag : Int) (L : List EvT) (hX : ∀ x ∈ L, i64R x.2.2) (hF : ∀ x ∈ L, (evF x).length <= 2000) (a : Option Addr) (n c : Nat) (I : Mem) (h : SlM I a n 5 (L.flatMap cE)) (hn : n = L.length) (hn2 : n <= 10000) :
 Ct Tryz.prog (fnv 99) #[.int .i64 tag, .slice a n c, fnv 100] I (fun v I' => ∃ y, v = .agg #[.int .i64 tag, y] /\ BySl I' y (L.flatMap evF)) := by
 obtain ⟨F, hFe⟩ : ∃ F, F = evF := ⟨_, rfl⟩;rw [<- hFe] at hF ⊢
 refine viaR (ct_via (A := { loops := [(3, ⟨[(2, .keep), (6, .keep), (7, .keep), (12, .keep), (13, .keep), (14, .sh (.int .i64))], [(0, .keep), (1, .cells [.keep, .row 2]), (2, .row)], [(7, 1001, 5)], fun vals xss _ _ => match vals, xss with | [.int .i64 j], [xs] => 0 <= j /\ j <= n /\ xs = ints .u8 ((L.take j.toNat).flatMap F) | _, _ => False, fun vals _ => match vals with | [.int .i64 j] => (n - j).toNat | _ => 0⟩)] }) Tryz.func99 rfl Tryz.call99 rfl rfl) ((Rf (Ent.mk (.cells [.v (.int .i64 0), .v (.slice none 0 0)] 58) none) /\ Rf (SV.v (fnv 100)) /\ Rf (SV.ptr 0 0) /\ Rf (SV.ptr 1 0) /\ Rf (SV.v (.slice a n c)) /\ Rf (SV.v (.int .i64 (n : Int))) /\ Rf (none : Option Nat) /\ Rf (SV.v (.int .i64 tag)) /\ (0 : Nat) = 0 /\ (0 : Int) <= 0 /\ 0 <= (n : Int) /\ Rf ([] : List Value)) /\ ∀ (b : Mem), Mem -> I.le b -> ∀ (x : List Value) (d : Int), 0 <= d /\ d <= (n : Int) /\ x = List.map (Value.int .u8) (List.flatMap F (List.take d.toNat L)) -> Br (decide (d < (n : Int))) (0 <= d /\ d < (n : Int) /\ a.isSome = true /\ (5 : Nat) = 5 /\ ∃ e, atI b a (d.toNat * 5 + 0) = some (.int .i64 e) /\ ∃ f, atI b a (d.toNat * 5 + 1) = some (.int .i64 f) /\ ∃ g, atI b a (d.toNat * 5 + 2) = some (.int .i64 g) /\ ∃ i, atI b a (d.toNat * 5 + 3) = some (.int .i64 i) /\ ∃ j, atI b a (d.toNat * 5 + 4) = some (.int .i64 j) /\ Ct Tryz.prog (fnv 100) #[.agg #[.int .i64 e, .int .i64 f, .int .i64 g, .int .i64 i, .int .i64 j]] b fun v k => ∃ l m o, v = .slice l m o /\ ∃ y, y.length = m * 1 /\ (l = none -> m = 0) /\ (∀ (p : Nat) (q : Value), y[p]? = some q -> atI k l p = some q) /\ (∀ (p : Value), Membership.mem y p -> p.oneCell' = true) /\ x.length = x.length * 1 /\ x.length + m <= 9223372036854775807 /\ (x.length + m) * 1 <= 140737488355328 /\ Wr .i64 (d + 1) fun p => Rf (Ent.mk (.cells [.v (.int .i64 0), .v (.slice none 0 0)] 58) none) /\ Rf (SV.v (fnv 100)) /\ Rf (SV.ptr 0 0) /\ Rf (SV.ptr 1 0) /\ Rf (SV.v (.slice a n c)) /\ Rf (SV.v (.int .i64 (n : Int))) /\ Rf (none : Option Nat) /\ Rf (SV.v (.int .i64 tag)) /\ x.length + m = List.length (x ++ y) /\ (0 <= p /\ p <= (n : Int) /\ x ++ y = List.map (Value.int .u8) (List.flatMap F (List.take p.toNat L))) /\ Int.toNat ((n : Int) - p) < Int.toNat ((n : Int) - d)) (∀ (e : Option Addr) (f : Nat) (g : Mem), b.le g -> RowM g e f 1 x -> ∃ y, Value.agg #[.int .i64 tag, .slice e x.length f] = .agg #[.int .i64 tag, y] /\ ∃ i m j, y = .slice i m j /\ SlM g i m 1 (List.map (Value.int .u8) (List.flatMap F L)) /\ m <= j /\ j <= 9223372036854775807)) (by kernel_rfl) ?_
 simp only [eq_self, true_and, and_true]
 refine ⟨⟨by omega, by omega⟩, fun I1 _ l1 xs j ⟨j0, j1, hx⟩ => Br.mk (fun hlt => ?_) (fun hge => ?_)⟩
 · have hlt := of_decide_eq_true hlt
   obtain ⟨x, hxj, g⟩ := lst_at (c := cE) (k := 5) (fun _ => rfl) (h.mono l1) hn j0 hlt;have hxm := hX x (List.mem_of_getElem? hxj);have hxf := hF x (List.mem_of_getElem? hxj);have hbd := fm_take hF j.toNat
   have hxl : xs.length <= 20000000 := by rw [hx]; simp only [List.length_map]; omega
   refine ⟨j0, hlt, h.isSome (by omega), _, g 0 _ (by omega) rfl, _, g 1 _ (by omega) rfl, _, g 2 _ (by omega) rfl, _, g 3 _ (by omega) rfl, _, g 4 _ (by omega) rfl, ?_⟩
   all_goals
    refine (ct100 x hxm I1).mono fun v I2 l2 ⟨a2, n2, c2, hv, hs2, _, _⟩ => ?_;rw [<- hFe] at hs2;have hl2 := hs2.numLen
    refine ⟨a2, n2, c2, hv, ints .u8 (F x), hs2.len, hs2.nil, hs2.at_, one_ints, by omega, by omega, by omega, wr_i64 (by omega) (by omega) ⟨by rw [List.length_append, ints_len]; omega, ⟨by omega, by omega, ?_⟩, by omega⟩⟩
    rw [show (j + 1).toNat = j.toNat + 1 by omega, take_succ' hxj, List.flatMap_append, hx]
    simp [ints]
 · have hge := of_decide_eq_false hge
   rw [List.take_of_length_le (by omega)] at hx
   subst hx
   exact fun a' cp I2 l2 hrow => ⟨_, rfl, row_bysl hrow (by rw [List.length_map])⟩
set_option maxHeartbeats 1000000 in
theorem ct101 (tag : Int) (L : List PtT) (hX : ∀ x ∈ L, x.2.1.length <= 1000 /\ byteL x.2.1) (hF : ∀ x ∈ L, (ptF x).length <= 2000) (a : Option Addr) (n c : Nat) (I : Mem) (h : SlM I a n 3 (L.flatMap cP)) (hn : n = L.length) (hn2 : n <= 10000) :
 Ct Tryz.prog (fnv 101) #[.int .i64 tag, .slice a n c, fnv 102] I (fun v I' => ∃ y, v = .agg #[.int .i64 tag, y] /\ BySl I' y (L.flatMap ptF)) := by
 obtain ⟨F, hFe⟩ : ∃ F, F = ptF := ⟨_, rfl⟩;rw [<- hFe] at hF ⊢
 refine viaR (ct_via (A := { loops := [(3, ⟨[(2, .keep), (6, .keep), (7, .keep), (12, .keep), (13, .keep), (14, .sh (.int .i64))], [(0, .keep), (1, .cells [.keep, .row 2]), (2, .row)], [(7, 1001, 5)], fun vals xss _ _ => match vals, xss with | [.int .i64 j], [xs] => 0 <= j /\ j <= n /\ xs = ints .u8 ((L.take j.toNat).flatMap F) | _, _ => False, fun vals _ => match vals with | [.int .i64 j] => (n - j).toNat | _ => 0⟩)] }) Tryz.func101 rfl Tryz.call101 rfl rfl) ((Rf (Ent.mk (.cells [.v (.int .i64 0), .v (.slice none 0 0)] 58) none) /\ Rf (SV.v (fnv 102)) /\ Rf (SV.ptr 0 0) /\ Rf (SV.ptr 1 0) /\ Rf (SV.v (.slice a n c)) /\ Rf (SV.v (.int .i64 (n : Int))) /\ Rf (none : Option Nat) /\ Rf (SV.v (.int .i64 tag)) /\ (0 : Nat) = 0 /\ (0 : Int) <= 0 /\ 0 <= (n : Int) /\ Rf ([] : List Value)) /\ ∀ (b : Mem), Mem -> I.le b -> ∀ (x : List Value) (d : Int), 0 <= d /\ d <= (n : Int) /\ x = List.map (Value.int .u8) (List.flatMap F (List.take d.toNat L)) -> Br (decide (d < (n : Int))) (0 <= d /\ d < (n : Int) /\ a.isSome = true /\ (3 : Nat) = 3 /\ ∃ e, atI b a (d.toNat * 3 + 0) = some (.int .i64 e) /\ ∃ q, atI b a (d.toNat * 3 + 1) = some (.string q) /\ ∃ f, atI b a (d.toNat * 3 + 2) = some (.int .i64 f) /\ Ct Tryz.prog (fnv 102) #[.agg #[.int .i64 e, .string q, .int .i64 f]] b fun v g => ∃ i j k, v = .slice i j k /\ ∃ y, y.length = j * 1 /\ (i = none -> j = 0) /\ (∀ (l : Nat) (m : Value), y[l]? = some m -> atI g i l = some m) /\ (∀ (l : Value), Membership.mem y l -> l.oneCell' = true) /\ x.length = x.length * 1 /\ x.length + j <= 9223372036854775807 /\ (x.length + j) * 1 <= 140737488355328 /\ Wr .i64 (d + 1) fun l => Rf (Ent.mk (.cells [.v (.int .i64 0), .v (.slice none 0 0)] 58) none) /\ Rf (SV.v (fnv 102)) /\ Rf (SV.ptr 0 0) /\ Rf (SV.ptr 1 0) /\ Rf (SV.v (.slice a n c)) /\ Rf (SV.v (.int .i64 (n : Int))) /\ Rf (none : Option Nat) /\ Rf (SV.v (.int .i64 tag)) /\ x.length + j = List.length (x ++ y) /\ (0 <= l /\ l <= (n : Int) /\ x ++ y = List.map (Value.int .u8) (List.flatMap F (List.take l.toNat L))) /\ Int.toNat ((n : Int) - l) < Int.toNat ((n : Int) - d)) (∀ (e : Option Addr) (f : Nat) (g : Mem), b.le g -> RowM g e f 1 x -> ∃ y, Value.agg #[.int .i64 tag, .slice e x.length f] = .agg #[.int .i64 tag, y] /\ ∃ i m j, y = .slice i m j /\ SlM g i m 1 (List.map (Value.int .u8) (List.flatMap F L)) /\ m <= j /\ j <= 9223372036854775807)) (by kernel_rfl) ?_
 simp only [eq_self, true_and, and_true]
 refine ⟨⟨by omega, by omega⟩, fun I1 _ l1 xs j ⟨j0, j1, hx⟩ => Br.mk (fun hlt => ?_) (fun hge => ?_)⟩
 · have hlt := of_decide_eq_true hlt
   obtain ⟨x, hxj, g⟩ := lst_at (c := cP) (k := 3) (fun _ => rfl) (h.mono l1) hn j0 hlt;have hxm := hX x (List.mem_of_getElem? hxj);have hxf := hF x (List.mem_of_getElem? hxj);have hbd := fm_take hF j.toNat
   have hxl : xs.length <= 20000000 := by rw [hx]; simp only [List.length_map]; omega
   refine ⟨j0, hlt, h.isSome (by omega), _, g 0 _ (by omega) rfl, _, g 1 _ (by omega) rfl, _, g 2 _ (by omega) rfl, ?_⟩
   all_goals
    refine (ct102 x hxm.1 hxm.2 I1).mono fun v I2 l2 ⟨a2, n2, c2, hv, hs2, _, _⟩ => ?_;rw [<- hFe] at hs2;have hl2 := hs2.numLen
    refine ⟨a2, n2, c2, hv, ints .u8 (F x), hs2.len, hs2.nil, hs2.at_, one_ints, by omega, by omega, by omega, wr_i64 (by omega) (by omega) ⟨by rw [List.length_append, ints_len]; omega, ⟨by omega, by omega, ?_⟩, by omega⟩⟩
    rw [show (j + 1).toNat = j.toNat + 1 by omega, take_succ' hxj, List.flatMap_append, hx]
    simp [ints]
 · have hge := of_decide_eq_false hge
   rw [List.take_of_length_le (by omega)] at hx
   subst hx
   exact fun a' cp I2 l2 hrow => ⟨_, rfl, row_bysl hrow (by rw [List.length_map])⟩
set_option maxHeartbeats 1000000 in
theorem ct103 (tag : Int) (L : List HdT) (hX : ∀ x ∈ L, 0 <= x.2.2.2.2 /\ x.2.2.2.2 <= 255) (hF : ∀ x ∈ L, (hdF x).length <= 2000) (a : Option Addr) (n c : Nat) (I : Mem) (h : SlM I a n 5 (L.flatMap cH)) (hn : n = L.length) (hn2 : n <= 10000) :
 Ct Tryz.prog (fnv 103) #[.int .i64 tag, .slice a n c, fnv 104] I (fun v I' => ∃ y, v = .agg #[.int .i64 tag, y] /\ BySl I' y (L.flatMap hdF)) := by
 obtain ⟨F, hFe⟩ : ∃ F, F = hdF := ⟨_, rfl⟩;rw [<- hFe] at hF ⊢
 refine viaR (ct_via (A := { loops := [(3, ⟨[(2, .keep), (6, .keep), (7, .keep), (12, .keep), (13, .keep), (14, .sh (.int .i64))], [(0, .keep), (1, .cells [.keep, .row 2]), (2, .row)], [(7, 1001, 5)], fun vals xss _ _ => match vals, xss with | [.int .i64 j], [xs] => 0 <= j /\ j <= n /\ xs = ints .u8 ((L.take j.toNat).flatMap F) | _, _ => False, fun vals _ => match vals with | [.int .i64 j] => (n - j).toNat | _ => 0⟩)] }) Tryz.func103 rfl Tryz.call103 rfl rfl) ((Rf (Ent.mk (.cells [.v (.int .i64 0), .v (.slice none 0 0)] 58) none) /\ Rf (SV.v (fnv 104)) /\ Rf (SV.ptr 0 0) /\ Rf (SV.ptr 1 0) /\ Rf (SV.v (.slice a n c)) /\ Rf (SV.v (.int .i64 (n : Int))) /\ Rf (none : Option Nat) /\ Rf (SV.v (.int .i64 tag)) /\ (0 : Nat) = 0 /\ (0 : Int) <= 0 /\ 0 <= (n : Int) /\ Rf ([] : List Value)) /\ ∀ (b : Mem), Mem -> I.le b -> ∀ (x : List Value) (d : Int), 0 <= d /\ d <= (n : Int) /\ x = List.map (Value.int .u8) (List.flatMap F (List.take d.toNat L)) -> Br (decide (d < (n : Int))) (0 <= d /\ d < (n : Int) /\ a.isSome = true /\ (5 : Nat) = 5 /\ ∃ e, atI b a (d.toNat * 5 + 0) = some (.int .i64 e) /\ ∃ f, atI b a (d.toNat * 5 + 1) = some (.int .i64 f) /\ ∃ g, atI b a (d.toNat * 5 + 2) = some (.int .i64 g) /\ ∃ i, atI b a (d.toNat * 5 + 3) = some (.int .i64 i) /\ ∃ j, atI b a (d.toNat * 5 + 4) = some (.int .u8 j) /\ Ct Tryz.prog (fnv 104) #[.agg #[.int .i64 e, .int .i64 f, .int .i64 g, .int .i64 i, .int .u8 j]] b fun v k => ∃ l m o, v = .slice l m o /\ ∃ y, y.length = m * 1 /\ (l = none -> m = 0) /\ (∀ (p : Nat) (q : Value), y[p]? = some q -> atI k l p = some q) /\ (∀ (p : Value), Membership.mem y p -> p.oneCell' = true) /\ x.length = x.length * 1 /\ x.length + m <= 9223372036854775807 /\ (x.length + m) * 1 <= 140737488355328 /\ Wr .i64 (d + 1) fun p => Rf (Ent.mk (.cells [.v (.int .i64 0), .v (.slice none 0 0)] 58) none) /\ Rf (SV.v (fnv 104)) /\ Rf (SV.ptr 0 0) /\ Rf (SV.ptr 1 0) /\ Rf (SV.v (.slice a n c)) /\ Rf (SV.v (.int .i64 (n : Int))) /\ Rf (none : Option Nat) /\ Rf (SV.v (.int .i64 tag)) /\ x.length + m = List.length (x ++ y) /\ (0 <= p /\ p <= (n : Int) /\ x ++ y = List.map (Value.int .u8) (List.flatMap F (List.take p.toNat L))) /\ Int.toNat ((n : Int) - p) < Int.toNat ((n : Int) - d)) (∀ (e : Option Addr) (f : Nat) (g : Mem), b.le g -> RowM g e f 1 x -> ∃ y, Value.agg #[.int .i64 tag, .slice e x.length f] = .agg #[.int .i64 tag, y] /\ ∃ i m j, y = .slice i m j /\ SlM g i m 1 (List.map (Value.int .u8) (List.flatMap F L)) /\ m <= j /\ j <= 9223372036854775807)) (by kernel_rfl) ?_
 simp only [eq_self, true_and, and_true]
 refine ⟨⟨by omega, by omega⟩, fun I1 _ l1 xs j ⟨j0, j1, hx⟩ => Br.mk (fun hlt => ?_) (fun hge => ?_)⟩
 · have hlt := of_decide_eq_true hlt
   obtain ⟨x, hxj, g⟩ := lst_at (c := cH) (k := 5) (fun _ => rfl) (h.mono l1) hn j0 hlt;have hxm := hX x (List.mem_of_getElem? hxj);have hxf := hF x (List.mem_of_getElem? hxj);have hbd := fm_take hF j.toNat
   have hxl : xs.length <= 20000000 := by rw [hx]; simp only [List.length_map]; omega
   refine ⟨j0, hlt, h.isSome (by omega), _, g 0 _ (by omega) rfl, _, g 1 _ (by omega) rfl, _, g 2 _ (by omega) rfl, _, g 3 _ (by omega) rfl, _, g 4 _ (by omega) rfl, ?_⟩
   all_goals
    refine (ct104 x hxm I1).mono fun v I2 l2 ⟨a2, n2, c2, hv, hs2, _, _⟩ => ?_;rw [<- hFe] at hs2;have hl2 := hs2.numLen
    refine ⟨a2, n2, c2, hv, ints .u8 (F x), hs2.len, hs2.nil, hs2.at_, one_ints, by omega, by omega, by omega, wr_i64 (by omega) (by omega) ⟨by rw [List.length_append, ints_len]; omega, ⟨by omega, by omega, ?_⟩, by omega⟩⟩
    rw [show (j + 1).toNat = j.toNat + 1 by omega, take_succ' hxj, List.flatMap_append, hx]
    simp [ints]
 · have hge := of_decide_eq_false hge
   rw [List.take_of_length_le (by omega)] at hx
   subst hx
   exact fun a' cp I2 l2 hrow => ⟨_, rfl, row_bysl hrow (by rw [List.length_map])⟩
set_option maxHeartbeats 1000000
structure okRs (r : Rs) : Prop where
 num : i64R r.num
 code : i64R r.code
 ser : i64R r.ser
 port : i64R r.port
 time : i64R r.time
 kind : 0 <= r.kind /\ r.kind <= 255
 key : i64R r.key.1 /\ i64R r.key.2.1 /\ i64R r.key.2.2
 counts : ∀ x ∈ r.counts, i64R x
 cells : ∀ x ∈ r.cells, i64R x
 events : ∀ x ∈ r.events, (i64R x.1.1 /\ i64R x.1.2.1 /\ i64R x.1.2.2) /\ i64R x.2.1 /\ i64R x.2.2
 ports : ∀ x ∈ r.ports, i64R x.1 /\ byteL x.2.1 /\ i64R x.2.2
 handles : ∀ x ∈ r.handles, (i64R x.1 /\ i64R x.2.1 /\ i64R x.2.2.1 /\ i64R x.2.2.2.1) /\ 0 <= x.2.2.2.2 /\ x.2.2.2.2 <= 255
structure smallR (r : Rs) : Prop where
 counts : r.counts.length <= 10000
 cells : r.cells.length <= 10000
 events : r.events.length <= 10000
 ports : r.ports.length <= 10000
 handles : r.handles.length <= 10000
 names : ∀ x ∈ r.ports, x.2.1.length <= 1000
def fN (t x : Int) : Int × List Int := (t, formN (IntKind.u64.wrap x).toNat)
def numsL (r : Rs) : List (Int × Int) := [(2, r.kind), (3, r.code), (4, r.ser), (5, r.port), (6, r.time)]
def fl1 (r : Rs) (j : Nat) : List (Int × List Int) := fN 1 r.num :: (((numsL r).take j).filter fun p => decide (p.2 ≠ 0)).map fun p => fN p.1 p.2
def moreF (r : Rs) : List (Int × List Int) := if r.more then [(7, [])] else []
def keyF (r : Rs) : List (Int × List Int) := if r.key = (0, 0, 0) then [] else [(8, formsL [r.key.1, r.key.2.1, r.key.2.2])]
def listsL (r : Rs) : List (Int × List Int) := [(9, r.counts.flatMap numF), (10, r.cells.flatMap celF), (11, r.events.flatMap evF), (12, r.ports.flatMap ptF), (13, r.handles.flatMap hdF)]
def fl2 (r : Rs) (j : Nat) : List (Int × List Int) := fl1 r 5 ++ moreF r ++ keyF r ++ ((listsL r).take j).filter fun p => decide (p.2 ≠ [])
def fieldsS (r : Rs) : List (Int × List Int) := fl2 r 5
theorem numF_len (x : Int) : (numF x).length <= 9 := by have := forms_len [x]; simpa [numF] using this
theorem celF_len {x : Int} (h : i64R x) : (celF x).length <= 9 := by
 have := foldZ_range h
 exact (formN_le _ (by omega)).1
theorem evF_len {x : EvT} (h : i64R x.2.2) : (evF x).length <= 45 := by
 have h1 := forms_len [x.1.1, x.1.2.1, x.1.2.2];have h2 := forms_len [x.2.1];have h3 := celF_len h;simp only [List.length_cons, List.length_nil] at h1 h2;unfold celF at h3
 rw [evF, List.length_append, List.length_append]; omega
theorem ptF_len (x : PtT) : (ptF x).length <= 27 + x.2.1.length := by
 have h1 := forms_len [x.1, x.2.2, (x.2.1.length : Int)];simp only [List.length_cons, List.length_nil] at h1
 rw [ptF, List.length_append]; omega
theorem hdF_len (x : HdT) : (hdF x).length <= 45 := by
 have h1 := forms_len [x.1, x.2.1, x.2.2.1, x.2.2.2.1, x.2.2.2.2];simp only [List.length_cons, List.length_nil] at h1;exact h1
theorem forms_bytes (l : List Int) : byteL (formsL l) := by
 intro z hz;rw [formsL, List.mem_flatMap] at hz;obtain ⟨x, _, hx⟩ := hz;have := w64_range x
 exact formN_bytes (by omega) z hx
theorem fm_bytes {α : Type} {F : α -> List Int} {l : List α} (h : ∀ x ∈ l, byteL (F x)) : byteL (l.flatMap F) := by
 intro z hz;rw [List.mem_flatMap] at hz;obtain ⟨x, hx, hzx⟩ := hz;exact h x hx z hzx
theorem byteL_app {a b : List Int} (ha : byteL a) (hb : byteL b) : byteL (a ++ b) := fun z hz => by
 rcases List.mem_append.1 hz with h | h
 · exact ha z h
 · exact hb z h
theorem celF_bytes {x : Int} (h : i64R x) : byteL (celF x) := by
 have := foldZ_range h
 exact formN_bytes (by omega)
theorem fN_ok {t x : Int} (ht : 0 <= t /\ t <= 1000) : okFld (fN t x) := by
 have := w64_range x
 exact ⟨by simp only [fN]; omega, formN_bytes (by omega)⟩
theorem lists_ok {r : Rs} (hr : okRs r) : ∀ p ∈ listsL r, okFld p := by
 intro p hp;simp only [listsL, List.mem_cons, List.not_mem_nil, or_false] at hp
 rcases hp with rfl | rfl | rfl | rfl | rfl
 · exact ⟨by simp, fm_bytes fun x _ => forms_bytes _⟩
 · exact ⟨by simp, fm_bytes fun x hx => celF_bytes (hr.cells x hx)⟩
 · exact ⟨by simp, fm_bytes fun x hx => byteL_app (byteL_app (forms_bytes _) (forms_bytes _)) (celF_bytes (hr.events x hx).2.2)⟩
 · exact ⟨by simp, fm_bytes fun x hx => byteL_app (forms_bytes _) (hr.ports x hx).2.1⟩
 · exact ⟨by simp, fm_bytes fun x _ => forms_bytes _⟩
def ArrM (I : Mem) (p : Option Addr) (L : Nat -> List Int) : Prop := ∃ k y1 y2 y3 y4 y5, p = some ⟨k, 0, none⟩ /\ I k = some (.cells #[.int .i64 9, y1, .int .i64 10, y2, .int .i64 11, y3, .int .i64 12, y4, .int .i64 13, y5] 182) /\ BySl I y1 (L 0) /\ BySl I y2 (L 1) /\ BySl I y3 (L 2) /\ BySl I y4 (L 3) /\ BySl I y5 (L 4)
def bytesL (r : Rs) (i : Nat) : List Int := ((listsL r)[i]?.map (·.2)).getD []
def numS (r : Rs) (i : Nat) : Int := ((numsL r)[i]?.map (·.2)).getD 0
theorem fr_snoc {I J : Mem} {xs : List Value} {l : List (Int × List Int)} {t : Int} {y : Value} {bs : List Int} (h : FR I xs l) (hle : I.le J) (hok : okFld (t, bs)) (hy : BySl J y bs) : FR J (xs ++ [.int .i64 t, y]) (l ++ [(t, bs)]) := FR.snoc (f := (t, bs)) (h.mono hle) ⟨hok, rfl, hy⟩
theorem fl1_step {r : Rs} {j : Nat} (hj : j < 5) : fl1 r (j + 1) = fl1 r j ++ if numS r j = 0 then [] else [fN (2 + j) (numS r j)] := by
 have h : (numsL r)[j]? = some ((2 + j : Int), numS r j) := by
  rcases (by omega : j = 0 \/ j = 1 \/ j = 2 \/ j = 3 \/ j = 4) with rfl | rfl | rfl | rfl | rfl <;> rfl
 rw [fl1, fl1, take_succ' h, List.filter_append, List.map_append, List.cons_append]
 congr 2
 by_cases hz : numS r j = 0
 · simp [hz]
 · simp [hz]
theorem fl2_step {r : Rs} {j : Nat} (hj : j < 5) : fl2 r (j + 1) = fl2 r j ++ if bytesL r j = [] then [] else [((9 + j : Int), bytesL r j)] := by
 have h : (listsL r)[j]? = some ((9 + j : Int), bytesL r j) := by
  rcases (by omega : j = 0 \/ j = 1 \/ j = 2 \/ j = 3 \/ j = 4) with rfl | rfl | rfl | rfl | rfl <;> rfl
 rw [fl2, fl2, take_succ' h, List.filter_append, <- List.append_assoc]
 congr 1
 by_cases hz : bytesL r j = []
 · simp [hz]
 · simp [hz]
theorem fl1_len (r : Rs) (j : Nat) : (fl1 r j).length <= 6 := by
 rw [fl1, List.length_cons, List.length_map];have h1 := List.length_filter_le (fun p : Int × Int => decide (p.2 ≠ 0)) ((numsL r).take j)
 have h2 : ((numsL r).take j).length <= 5 := by rw [List.length_take]; simp only [numsL, List.length_cons, List.length_nil]; omega
 omega
theorem moreF_len (r : Rs) : (moreF r).length <= 1 := by unfold moreF; split <;> simp
theorem keyF_len (r : Rs) : (keyF r).length <= 1 := by unfold keyF; split <;> simp
theorem fl2_len (r : Rs) (j : Nat) : (fl2 r j).length <= 13 := by
 have h0 := fl1_len r 5;have h3 := moreF_len r;have h4 := keyF_len r;have h1 := List.length_filter_le (fun p : Int × List Int => decide (p.2 ≠ [])) ((listsL r).take j)
 have h2 : ((listsL r).take j).length <= 5 := by rw [List.length_take]; simp only [listsL, List.length_cons, List.length_nil]; omega
 rw [fl2, List.length_append, List.length_append, List.length_append];omega
set_option maxHeartbeats 2000000 in
theorem ct62 (r : Rs) (hr : okRs r) (hb : smallR r) (y : Ys) (I : Mem) (hM : RsM I r y) :
 Ct Tryz.prog (fnv 62) #[.agg (rsV r y).toArray] I (fun v I' => ∃ a n c, v = .slice a n c /\ FldM I' a n (fieldsS r) /\ n <= c /\ c <= maxLen) := by
 obtain ⟨⟨ac, nc, cc, h1, hc, _⟩, ⟨al, nl, cl, h2, hl, _⟩, ⟨ae, ne, ce, h3, he, _⟩, ⟨ap, np, cp, h4, hp, _⟩, ⟨ah, nh, ch, h5, hh, _⟩⟩ := hM;obtain ⟨yc, yl, ye, yp, yh⟩ := y;subst h1 h2 h3 h4 h5;obtain ⟨f1, hf1⟩ : ∃ f, f = fl1 r := ⟨_, rfl⟩;obtain ⟨f2, hf2⟩ : ∃ f, f = fl2 r := ⟨_, rfl⟩;obtain ⟨g1, hg1⟩ : ∃ f, f = fl1 r 5 ++ moreF r := ⟨_, rfl⟩;obtain ⟨g2, hg2⟩ : ∃ f, f = fl1 r 5 ++ moreF r ++ keyF r := ⟨_, rfl⟩;obtain ⟨bL, hbL⟩ : ∃ f, f = bytesL r := ⟨_, rfl⟩;obtain ⟨fin, hfin⟩ : ∃ f, f = fieldsS r := ⟨_, rfl⟩;rw [<- hfin]
 refine viaR (ct_via (A := { chands := [(13, [6])], cuts := [(10, ⟨[(1, .keep), (3, .row 1)], [(0, .keep), (1, .row)], [], fun _ xss I' _ => match xss with | [xs] => FR I' xs g1 | _ => False, fun _ _ => 0⟩), (12, ⟨[(1, .keep), (3, .row 1)], [(0, .keep), (1, .row)], [], fun _ xss I' _ => match xss with | [xs] => FR I' xs g2 | _ => False, fun _ _ => 0⟩), (13, ⟨[(1, .keep), (3, .row 1), (6, .sh .ptr)], [(0, .keep), (1, .row)], [], fun vals xss I' _ => match vals, xss with | [.pointer p], [xs] => FR I' xs g2 /\ ArrM I' p bL | _, _ => False, fun _ _ => 0⟩)], loops := [(3, ⟨[(1, .keep), (3, .row 1), (25, .keep), (26, .sh (.int .i64))], [(0, .keep), (1, .row)], [(3, 2, 58)], fun vals xss I' _ => match vals, xss with | [.int .i64 j], [xs] => 0 <= j /\ j <= 5 /\ FR I' xs (f1 j.toNat) | _, _ => False, fun vals _ => match vals with | [.int .i64 j] => (5 - j).toNat | _ => 0⟩), (14, ⟨[(1, .keep), (3, .row 1), (74, .keep), (75, .sh (.int .i64))], [(0, .keep), (1, .row)], [], fun vals xss I' _ => match vals, xss with | [.int .i64 j], [xs] => 0 <= j /\ j <= 5 /\ FR I' xs (f2 j.toNat) | _, _ => False, fun vals _ => match vals with | [.int .i64 j] => (5 - j).toNat | _ => 0⟩)] }) Tryz.func62 rfl Tryz.call62 rfl rfl) (let E1 := Ent.mk (.cells [.v (.int .i64 r.num), .v (.int .i64 r.code), .v (.int .i64 r.ser), .v (.int .i64 r.port), .v (.int .i64 r.time), .v (.int .u8 r.kind), .v (.bool r.more), .v (.int .i64 r.key.1), .v (.int .i64 r.key.2.1), .v (.int .i64 r.key.2.2), .v (.slice ac nc cc), .v (.slice al nl cl), .v (.slice ae ne ce), .v (.slice ap np cp), .v (.slice ah nh ch)] 34) none
  Wr .u64 r.num fun c => Ct Tryz.prog (fnv 91) #[.int .i64 1, .int .u64 c] I fun v a => ∃ n b d e, v = .agg #[.int .i64 n, .slice b d e] /\ Wr .i64 r.kind fun f => (Rf E1 /\ Rf (SV.ptr 0 0) /\ (1 : Nat) = 1 /\ Rf (SV.agg [.v (.int .i64 f), .v (.int .i64 r.code), .v (.int .i64 r.ser), .v (.int .i64 r.port), .v (.int .i64 r.time)]) /\ (0 : Int) <= 0 /\ (0 : Int) <= 5 /\ FR a [.int .i64 n, .slice b d e] (f1 0)) /\ ∀ (g : Mem), Mem -> a.le g -> ∀ (x : List Value) (h : Int), 0 <= h /\ h <= 5 /\ FR g x (f1 h.toNat) -> Br (decide (h < 5)) (0 <= h /\ h < 5 /\ ∃ i, [SV.v (.int .i64 f), .v (.int .i64 r.code), .v (.int .i64 r.ser), .v (.int .i64 r.port), .v (.int .i64 r.time)][h.toNat * 1 + 0]?.bind (fun (j : SV) => (match j with
  | SV.v x => some x
  | x => none)) = some (.int .i64 i) /\ Br (i != 0) (Wr .i64 (2 + h) (fun j => Wr .u64 i fun k => Ct Tryz.prog (fnv 91) #[.int .i64 j, .int .u64 k] g fun l m => ∃ o p q s, l = .agg #[.int .i64 o, .slice p q s] /\ x.length = x.length / 2 * 2 /\ x.length / 2 + 1 <= 9223372036854775807 /\ (x.length / 2 + 1) * 32 <= 140737488355328 /\ Wr .i64 (h + 1) fun t => Rf E1 /\ Rf (SV.ptr 0 0) /\ x.length / 2 + 1 = List.length (x ++ [.int .i64 o, .slice p q s]) / 2 /\ Rf (SV.agg [.v (.int .i64 f), .v (.int .i64 r.code), .v (.int .i64 r.ser), .v (.int .i64 r.port), .v (.int .i64 r.time)]) /\ (0 <= t /\ t <= 5 /\ FR m (x ++ [.int .i64 o, .slice p q s]) (f1 t.toNat)) /\ Int.toNat (5 - t) < Int.toNat (5 - h))) (Wr .i64 (h + 1) (fun j => Rf E1 /\ Rf (SV.ptr 0 0) /\ Rf (x.length / 2) /\ Rf (SV.agg [.v (.int .i64 f), .v (.int .i64 r.code), .v (.int .i64 r.ser), .v (.int .i64 r.port), .v (.int .i64 r.time)]) /\ (0 <= j /\ j <= 5 /\ FR g x (f1 j.toNat)) /\ Int.toNat (5 - j) < Int.toNat (5 - h)))) (Br r.more (x.length = x.length / 2 * 2 /\ x.length / 2 + 1 <= 9223372036854775807 /\ (x.length / 2 + 1) * 32 <= 140737488355328 /\ Rf E1 /\ Rf (SV.ptr 0 0) /\ x.length / 2 + 1 = List.length (x ++ [.int .i64 7, .slice none 0 0]) / 2 /\ FR g (x ++ [.int .i64 7, .slice none 0 0]) g1) (Rf E1 /\ Rf (SV.ptr 0 0) /\ Rf (x.length / 2) /\ FR g x g1) /\ ∀ (i : Mem), Mem -> g.le i -> ∀ (j : List Value), FR i j g1 -> Br (!(r.key.1 == 0 && (r.key.2.1 == 0 && (r.key.2.2 == 0 && true)))) (Ct Tryz.prog (fnv 92) #[.agg #[.int .i64 r.key.1, .int .i64 r.key.2.1, .int .i64 r.key.2.2]] i (fun k l => ∃ m o p, k = .slice m o p /\ j.length = j.length / 2 * 2 /\ j.length / 2 + 1 <= 9223372036854775807 /\ (j.length / 2 + 1) * 32 <= 140737488355328 /\ Rf E1 /\ Rf (SV.ptr 0 0) /\ j.length / 2 + 1 = List.length (j ++ [.int .i64 8, .slice m o p]) / 2 /\ FR l (j ++ [.int .i64 8, .slice m o p]) g2)) (Rf E1 /\ Rf (SV.ptr 0 0) /\ Rf (j.length / 2) /\ FR i j g2) /\ ∀ (k : Mem), Mem -> i.le k -> ∀ (l : List Value), FR k l g2 -> (Ct Tryz.prog (fnv 93) #[.int .i64 9, .slice ac nc cc, .func (.func 94) #[] #[]] k (fun m o => ∃ p q s t, m = .agg #[.int .i64 p, .slice q s t] /\ Ct Tryz.prog (fnv 96) #[.int .i64 10, .slice al nl cl, .func (.func 97) #[] #[]] o (fun u w => ∃ y z n1 c1, u = .agg #[.int .i64 y, .slice z n1 c1] /\ Ct Tryz.prog (fnv 99) #[.int .i64 11, .slice ae ne ce, .func (.func 100) #[] #[]] w (fun v1 I1 => ∃ n2 a1 n3 c2, v1 = .agg #[.int .i64 n2, .slice a1 n3 c2] /\ Ct Tryz.prog (fnv 101) #[.int .i64 12, .slice ap np cp, .func (.func 102) #[] #[]] I1 (fun v2 I2 => ∃ n4 a2 n5 c3, v2 = .agg #[.int .i64 n4, .slice a2 n5 c3] /\ Ct Tryz.prog (fnv 103) #[.int .i64 13, .slice ah nh ch, .func (.func 104) #[] #[]] I2 (fun v3 I3 => ∃ n6 a3 n7 c4, v3 = .agg #[.int .i64 n6, .slice a3 n7 c4] /\ ∀ (b1 : Nat) (I4 : Mem), I3.le I4 -> I4 b1 = some (.cells #[.int .i64 p, .slice q s t, .int .i64 y, .slice z n1 c1, .int .i64 n2, .slice a1 n3 c2, .int .i64 n4, .slice a2 n5 c3, .int .i64 n6, .slice a3 n7 c4] 182 (0, 0)) -> Rf E1 /\ Rf (SV.ptr 0 0) /\ Rf (l.length / 2) /\ FR I4 l g2 /\ ArrM I4 (some ⟨b1, 0, none⟩) bL) /\ Ct Tryz.prog (fnv 103) #[.int .i64 13, .slice ah nh ch, .func (.func 104) #[] #[]] I2 fun v3 I3 => ∃ n6 a3 n7 c4, v3 = .agg #[.int .i64 n6, .slice a3 n7 c4] /\ ∀ (b1 : Nat) (I4 : Mem), I3.le I4 -> I4 b1 = some (.cells #[.int .i64 p, .slice q s t, .int .i64 y, .slice z n1 c1, .int .i64 n2, .slice a1 n3 c2, .int .i64 n4, .slice a2 n5 c3, .int .i64 n6, .slice a3 n7 c4] 182 (0, 0)) -> Rf E1 /\ Rf (SV.ptr 0 0) /\ Rf (l.length / 2) /\ FR I4 l g2 /\ ArrM I4 (some ⟨b1, 0, none⟩) bL) /\ Ct Tryz.prog (fnv 101) #[.int .i64 12, .slice ap np cp, .func (.func 102) #[] #[]] I1 fun v2 I2 => ∃ n4 a2 n5 c3, v2 = .agg #[.int .i64 n4, .slice a2 n5 c3] /\ Ct Tryz.prog (fnv 103) #[.int .i64 13, .slice ah nh ch, .func (.func 104) #[] #[]] I2 fun v3 I3 => ∃ n6 a3 n7 c4, v3 = .agg #[.int .i64 n6, .slice a3 n7 c4] /\ ∀ (b1 : Nat) (I4 : Mem), I3.le I4 -> I4 b1 = some (.cells #[.int .i64 p, .slice q s t, .int .i64 y, .slice z n1 c1, .int .i64 n2, .slice a1 n3 c2, .int .i64 n4, .slice a2 n5 c3, .int .i64 n6, .slice a3 n7 c4] 182 (0, 0)) -> Rf E1 /\ Rf (SV.ptr 0 0) /\ Rf (l.length / 2) /\ FR I4 l g2 /\ ArrM I4 (some ⟨b1, 0, none⟩) bL) /\ Ct Tryz.prog (fnv 99) #[.int .i64 11, .slice ae ne ce, .func (.func 100) #[] #[]] w fun v1 I1 => ∃ n2 a1 n3 c2, v1 = .agg #[.int .i64 n2, .slice a1 n3 c2] /\ Ct Tryz.prog (fnv 101) #[.int .i64 12, .slice ap np cp, .func (.func 102) #[] #[]] I1 fun v2 I2 => ∃ n4 a2 n5 c3, v2 = .agg #[.int .i64 n4, .slice a2 n5 c3] /\ Ct Tryz.prog (fnv 103) #[.int .i64 13, .slice ah nh ch, .func (.func 104) #[] #[]] I2 fun v3 I3 => ∃ n6 a3 n7 c4, v3 = .agg #[.int .i64 n6, .slice a3 n7 c4] /\ ∀ (b1 : Nat) (I4 : Mem), I3.le I4 -> I4 b1 = some (.cells #[.int .i64 p, .slice q s t, .int .i64 y, .slice z n1 c1, .int .i64 n2, .slice a1 n3 c2, .int .i64 n4, .slice a2 n5 c3, .int .i64 n6, .slice a3 n7 c4] 182 (0, 0)) -> Rf E1 /\ Rf (SV.ptr 0 0) /\ Rf (l.length / 2) /\ FR I4 l g2 /\ ArrM I4 (some ⟨b1, 0, none⟩) bL) /\ Ct Tryz.prog (fnv 96) #[.int .i64 10, .slice al nl cl, .func (.func 97) #[] #[]] o fun u w => ∃ y z n1 c1, u = .agg #[.int .i64 y, .slice z n1 c1] /\ Ct Tryz.prog (fnv 99) #[.int .i64 11, .slice ae ne ce, .func (.func 100) #[] #[]] w fun v1 I1 => ∃ n2 a1 n3 c2, v1 = .agg #[.int .i64 n2, .slice a1 n3 c2] /\ Ct Tryz.prog (fnv 101) #[.int .i64 12, .slice ap np cp, .func (.func 102) #[] #[]] I1 fun v2 I2 => ∃ n4 a2 n5 c3, v2 = .agg #[.int .i64 n4, .slice a2 n5 c3] /\ Ct Tryz.prog (fnv 103) #[.int .i64 13, .slice ah nh ch, .func (.func 104) #[] #[]] I2 fun v3 I3 => ∃ n6 a3 n7 c4, v3 = .agg #[.int .i64 n6, .slice a3 n7 c4] /\ ∀ (b1 : Nat) (I4 : Mem), I3.le I4 -> I4 b1 = some (.cells #[.int .i64 p, .slice q s t, .int .i64 y, .slice z n1 c1, .int .i64 n2, .slice a1 n3 c2, .int .i64 n4, .slice a2 n5 c3, .int .i64 n6, .slice a3 n7 c4] 182 (0, 0)) -> Rf E1 /\ Rf (SV.ptr 0 0) /\ Rf (l.length / 2) /\ FR I4 l g2 /\ ArrM I4 (some ⟨b1, 0, none⟩) bL) /\ Ct Tryz.prog (fnv 93) #[.int .i64 9, .slice ac nc cc, .func (.func 94) #[] #[]] k fun m o => ∃ p q s t, m = .agg #[.int .i64 p, .slice q s t] /\ Ct Tryz.prog (fnv 96) #[.int .i64 10, .slice al nl cl, .func (.func 97) #[] #[]] o fun u w => ∃ y z n1 c1, u = .agg #[.int .i64 y, .slice z n1 c1] /\ Ct Tryz.prog (fnv 99) #[.int .i64 11, .slice ae ne ce, .func (.func 100) #[] #[]] w fun v1 I1 => ∃ n2 a1 n3 c2, v1 = .agg #[.int .i64 n2, .slice a1 n3 c2] /\ Ct Tryz.prog (fnv 101) #[.int .i64 12, .slice ap np cp, .func (.func 102) #[] #[]] I1 fun v2 I2 => ∃ n4 a2 n5 c3, v2 = .agg #[.int .i64 n4, .slice a2 n5 c3] /\ Ct Tryz.prog (fnv 103) #[.int .i64 13, .slice ah nh ch, .func (.func 104) #[] #[]] I2 fun v3 I3 => ∃ n6 a3 n7 c4, v3 = .agg #[.int .i64 n6, .slice a3 n7 c4] /\ ∀ (b1 : Nat) (I4 : Mem), I3.le I4 -> I4 b1 = some (.cells #[.int .i64 p, .slice q s t, .int .i64 y, .slice z n1 c1, .int .i64 n2, .slice a1 n3 c2, .int .i64 n4, .slice a2 n5 c3, .int .i64 n6, .slice a3 n7 c4] 182 (0, 0)) -> Rf E1 /\ Rf (SV.ptr 0 0) /\ Rf (l.length / 2) /\ FR I4 l g2 /\ ArrM I4 (some ⟨b1, 0, none⟩) bL) /\ ∀ (m : Mem), Mem -> k.le m -> ∀ (o : List Value) (p : Option Addr), FR m o g2 /\ ArrM m p bL -> (10 : Nat) = 10 /\ ∃ q, atI m p 0 = some (.int .i64 q) /\ ∃ s t u, atI m p 1 = some (.slice s t u) /\ ∃ w, atI m p 2 = some (.int .i64 w) /\ ∃ y z c1, atI m p 3 = some (.slice y z c1) /\ ∃ n1, atI m p 4 = some (.int .i64 n1) /\ ∃ a1 n2 c2, atI m p 5 = some (.slice a1 n2 c2) /\ ∃ n3, atI m p 6 = some (.int .i64 n3) /\ ∃ a2 n4 c3, atI m p 7 = some (.slice a2 n4 c3) /\ ∃ n5, atI m p 8 = some (.int .i64 n5) /\ ∃ a3 n6 c4, atI m p 9 = some (.slice a3 n6 c4) /\ (Rf E1 /\ Rf (SV.ptr 0 0) /\ Rf (o.length / 2) /\ Rf (SV.agg [.v (.int .i64 q), .v (.slice s t u), .v (.int .i64 w), .v (.slice y z c1), .v (.int .i64 n1), .v (.slice a1 n2 c2), .v (.int .i64 n3), .v (.slice a2 n4 c3), .v (.int .i64 n5), .v (.slice a3 n6 c4)]) /\ (0 : Int) <= 0 /\ (0 : Int) <= 5 /\ FR m o (f2 0)) /\ ∀ (I1 : Mem), Mem -> m.le I1 -> ∀ (x1 : List Value) (n7 : Int), 0 <= n7 /\ n7 <= 5 /\ FR I1 x1 (f2 n7.toNat) -> Br (decide (n7 < 5)) (0 <= n7 /\ n7 < 5 /\ (2 : Nat) = 2 /\ ∃ n8, [SV.v (.int .i64 q), .v (.slice s t u), .v (.int .i64 w), .v (.slice y z c1), .v (.int .i64 n1), .v (.slice a1 n2 c2), .v (.int .i64 n3), .v (.slice a2 n4 c3), .v (.int .i64 n5), .v (.slice a3 n6 c4)][n7.toNat * 2 + 0]?.bind (fun (x2 : SV) => (match x2 with
  | SV.v x => some x
  | x => none)) = some (.int .i64 n8) /\ ∃ a4 n9 c5, [SV.v (.int .i64 q), .v (.slice s t u), .v (.int .i64 w), .v (.slice y z c1), .v (.int .i64 n1), .v (.slice a1 n2 c2), .v (.int .i64 n3), .v (.slice a2 n4 c3), .v (.int .i64 n5), .v (.slice a3 n6 c4)][n7.toNat * 2 + 1]?.bind (fun (x2 : SV) => (match x2 with
  | SV.v x => some x
  | x => none)) = some (.slice a4 n9 c5) /\ Br (decide (0 < (n9 : Int))) (x1.length = x1.length / 2 * 2 /\ x1.length / 2 + 1 <= 9223372036854775807 /\ (x1.length / 2 + 1) * 32 <= 140737488355328 /\ Wr .i64 (n7 + 1) fun c6 => Rf E1 /\ Rf (SV.ptr 0 0) /\ x1.length / 2 + 1 = List.length (x1 ++ [.int .i64 n8, .slice a4 n9 c5]) / 2 /\ Rf (SV.agg [.v (.int .i64 q), .v (.slice s t u), .v (.int .i64 w), .v (.slice y z c1), .v (.int .i64 n1), .v (.slice a1 n2 c2), .v (.int .i64 n3), .v (.slice a2 n4 c3), .v (.int .i64 n5), .v (.slice a3 n6 c4)]) /\ (0 <= c6 /\ c6 <= 5 /\ FR I1 (x1 ++ [.int .i64 n8, .slice a4 n9 c5]) (f2 c6.toNat)) /\ Int.toNat (5 - c6) < Int.toNat (5 - n7)) (Wr .i64 (n7 + 1) (fun c6 => Rf E1 /\ Rf (SV.ptr 0 0) /\ Rf (x1.length / 2) /\ Rf (SV.agg [.v (.int .i64 q), .v (.slice s t u), .v (.int .i64 w), .v (.slice y z c1), .v (.int .i64 n1), .v (.slice a1 n2 c2), .v (.int .i64 n3), .v (.slice a2 n4 c3), .v (.int .i64 n5), .v (.slice a3 n6 c4)]) /\ (0 <= c6 /\ c6 <= 5 /\ FR I1 x1 (f2 c6.toNat)) /\ Int.toNat (5 - c6) < Int.toNat (5 - n7)))) (∀ (a4 : Option Addr) (c5 : Nat) (I2 : Mem), I1.le I2 -> RowM I2 a4 c5 2 x1 -> ∃ a5 n8 c6, Value.slice a4 (x1.length / 2) c5 = .slice a5 n8 c6 /\ FldM I2 a5 n8 fin /\ n8 <= c6 /\ c6 <= 9223372036854775807))) (by kernel_rfl) ?_
 intro E1;simp only [eq_self, true_and];have hw := w64_range r.num;have lc := fm_len (c := cI) (k := 1) (fun _ => rfl) r.counts;have ll := fm_len (c := cI) (k := 1) (fun _ => rfl) r.cells;have le := fm_len (c := cE) (k := 5) (fun _ => rfl) r.events;have lp := fm_len (c := cP) (k := 3) (fun _ => rfl) r.ports;have lh := fm_len (c := cH) (k := 5) (fun _ => rfl) r.handles;have sc := hc.len;have sl := hl.len;have se' := he.len;have sp := hp.len;have sh := hh.len;refine ⟨_, rfl, (ct91 1 _ hw I).mono fun v I1 l1 ⟨y, hv, hy⟩ => ?_⟩;obtain ⟨a1, n1, c1, rfl, hy1⟩ := id hy
 refine ⟨_, _, _, _, hv, wr_i64 (by have := hr.kind; omega) (by have := hr.kind; omega) ⟨⟨by omega, by omega, ?_⟩, fun I2 _ l2 xs j ⟨j0, j1, hx⟩ => Br.mk (fun hlt => ?_) (fun hge => ⟨?_, fun I3 _ l3 xs hx => ⟨?_, fun I4 _ l4 xs hx => ⟨?_, fun I5 _ l5 xs p ⟨hx, k, y1, y2, y3, y4, y5, hpk, hk, b1, b2, b3, b4, b5⟩ => ?_⟩⟩⟩)⟩⟩
 · rw [hf1]
   exact FR.cons ⟨fN_ok (x := r.num) (by omega), rfl, hy⟩ FR.nil
 · have hlt := of_decide_eq_true hlt
   have hnum : ([SV.v (Value.int .i64 r.kind), .v (.int .i64 r.code), .v (.int .i64 r.ser), .v (.int .i64 r.port), .v (.int .i64 r.time)][j.toNat * 1 + 0]?.bind vOf) = some (.int .i64 (numS r j.toNat)) := by
    rcases (by omega : j = 0 \/ j = 1 \/ j = 2 \/ j = 3 \/ j = 4) with rfl | rfl | rfl | rfl | rfl <;> rfl
   have hst := fl1_step (r := r) (j := j.toNat) (by omega)
   rw [<- hf1] at hst;refine ⟨j0, hlt, numS r j.toNat, hnum, Br.mk (fun hz => ?_) (fun hz => ?_)⟩
   · have hz : numS r j.toNat ≠ 0 := by simpa using hz
     rw [if_neg hz] at hst
     refine wr_i64 (by omega) (by omega) ⟨_, rfl, (ct91 _ _ (w64_range _) I2).mono fun v I3 l3 ⟨y, hv, hy⟩ => ?_⟩
     obtain ⟨a2, n2, c2, rfl, _⟩ := id hy;have hxl := hx.len;rw [hf1] at hxl;have := fl1_len r j.toNat
     refine ⟨_, _, _, _, hv, by omega, by omega, by omega, wr_i64 (by omega) (by omega) ⟨by simp only [List.length_append, List.length_cons, List.length_nil]; omega, ⟨by omega, by omega, ?_⟩, by omega⟩⟩
     rw [show (j + 1).toNat = j.toNat + 1 by omega, hst]
     have := fr_snoc (t := 2 + j) (bs := formN (IntKind.u64.wrap (numS r j.toNat)).toNat) hx l3 (fN_ok (by omega)) hy
     rw [show fN (2 + (j.toNat : Int)) (numS r j.toNat) = (2 + j, formN (IntKind.u64.wrap (numS r j.toNat)).toNat) by rw [fN, show (2 + (j.toNat : Int)) = 2 + j by omega]]
     exact this
   · have hz : numS r j.toNat = 0 := by simpa using hz
     rw [if_pos hz, List.append_nil] at hst
     refine wr_i64 (by omega) (by omega) ⟨⟨by omega, by omega, ?_⟩, by omega⟩
     rw [show (j + 1).toNat = j.toNat + 1 by omega, hst]
     exact hx
 · have hge := of_decide_eq_false hge
   obtain rfl : j = 5 := by omega
   have hx : FR I2 xs (fl1 r 5) := by rw [hf1] at hx; exact hx
   have hxl := hx.len;have := fl1_len r 5;rw [hg1];refine Br.mk (fun hm => ?_) (fun hm => ?_)
   · refine ⟨by omega, by omega, by omega, by simp only [List.length_append, List.length_cons, List.length_nil]; omega, ?_⟩
     rw [moreF, if_pos hm]
     exact fr_snoc hx (Mem.le_refl _) ⟨by simp, fun z hz => by cases hz⟩ ⟨none, 0, 0, rfl, sl_nil _ _, Nat.le_refl 0, Nat.zero_le _⟩
   · rw [moreF, if_neg (by rw [hm]; simp), List.append_nil]
     exact hx
 · have hxl := hx.len
   rw [hg1, List.length_append] at hxl;have := fl1_len r 5;have := moreF_len r;rw [hg1] at hx;rw [hg2];refine Br.mk (fun hm => ?_) (fun hm => ?_)
   · have hne : r.key ≠ (0, 0, 0) := fun e => by rw [e] at hm; simp at hm
     refine (ct92 r.key.1 r.key.2.1 r.key.2.2 I3).mono fun v I4 l4 hv => ?_;obtain ⟨a2, n2, c2, rfl, hy2⟩ := id hv
     refine ⟨_, _, _, rfl, by omega, by omega, by omega, by simp only [List.length_append, List.length_cons, List.length_nil]; omega, ?_⟩
     rw [keyF, if_neg hne]
     exact fr_snoc hx l4 ⟨by simp, forms_bytes _⟩ hv
   · have he : r.key = (0, 0, 0) := by
      simp only [Bool.and_true, Bool.not_eq_false', Bool.and_eq_true, beq_iff_eq] at hm;exact Prod.ext hm.1 (Prod.ext hm.2.1 hm.2.2)
     rw [keyF, if_pos he, List.append_nil];exact hx
 · have hcn : nc = r.counts.length := by omega
   have hln : nl = r.cells.length := by omega
   have hen : ne = r.events.length := by omega
   have hpn : np = r.ports.length := by omega
   have hhn : nh = r.handles.length := by omega
   have bs := hb.counts;have bs2 := hb.cells;have bs3 := hb.events;have bs4 := hb.ports;have bs5 := hb.handles;have i4 : I.le I4 := Mem.le_trans l1 (Mem.le_trans l2 (Mem.le_trans l3 l4))
   have K1 := fun J (lJ : I4.le J) => ct93 9 r.counts (fun _ _ => trivial) (fun x _ => by have := numF_len x; omega) ac nc cc J (hc.mono (Mem.le_trans i4 lJ)) hcn (by omega)
   have K2 := fun J (lJ : I4.le J) => ct96 10 r.cells (fun x hx => hr.cells x hx) (fun x hx => by have := celF_len (hr.cells x hx); omega) al nl cl J (hl.mono (Mem.le_trans i4 lJ)) hln (by omega)
   have K3 := fun J (lJ : I4.le J) => ct99 11 r.events (fun x hx => (hr.events x hx).2.2) (fun x hx => by have := evF_len (hr.events x hx).2.2; omega) ae ne ce J (he.mono (Mem.le_trans i4 lJ)) hen (by omega)
   have K4 := fun J (lJ : I4.le J) => ct101 12 r.ports (fun x hx => ⟨hb.names x hx, (hr.ports x hx).2.1⟩) (fun x hx => by have := ptF_len x; have := hb.names x hx; omega) ap np cp J (hp.mono (Mem.le_trans i4 lJ)) hpn (by omega)
   have K5 := fun J (lJ : I4.le J) => ct103 13 r.handles (fun x hx => (hr.handles x hx).2) (fun x _ => by have := hdF_len x; omega) ah nh ch J (hh.mono (Mem.le_trans i4 lJ)) hhn (by omega)
   have z4 := Mem.le_refl I4
   repeat' first
    | (refine (K1 _ z4).mono fun v J1 m1 ⟨y1, hv1, hy1⟩ => ?_
       obtain ⟨a1, n1, c1, rfl, _⟩ := id hy1;refine ⟨_, _, _, _, hv1, ?_⟩)
    | (refine (K2 _ m1).mono fun v J2 m2 ⟨y2, hv2, hy2⟩ => ?_
       obtain ⟨a2, n2, c2, rfl, _⟩ := id hy2;have m2' := Mem.le_trans m1 m2;refine ⟨_, _, _, _, hv2, ?_⟩)
    | (refine (K3 _ m2').mono fun v J3 m3 ⟨y3, hv3, hy3⟩ => ?_
       obtain ⟨a3, n3, c3, rfl, _⟩ := id hy3;have m3' := Mem.le_trans m2' m3;refine ⟨_, _, _, _, hv3, ?_⟩)
    | (refine (K4 _ m3').mono fun v J4 m4 ⟨y4, hv4, hy4⟩ => ?_
       obtain ⟨a4, n4, c4, rfl, _⟩ := id hy4;have m4' := Mem.le_trans m3' m4;refine ⟨_, _, _, _, hv4, ?_⟩)
    | (refine (K5 _ m4').mono fun v J5 m5 ⟨y5, hv5, hy5⟩ => ?_
       obtain ⟨a5, n5, c5, rfl, _⟩ := id hy5;have m5' := Mem.le_trans m4' m5;refine ⟨_, _, _, _, hv5, ?_⟩)
    | (intro k J6 m6 hk
       refine ⟨hx.mono (Mem.le_trans m5' m6), k, _, _, _, _, _, rfl, hk, ?_, ?_, ?_, ?_, ?_⟩
       · rw [hbL]; exact hy1.mono (Mem.le_trans m2 (Mem.le_trans m3 (Mem.le_trans m4 (Mem.le_trans m5 m6))))
       · rw [hbL]; exact hy2.mono (Mem.le_trans m3 (Mem.le_trans m4 (Mem.le_trans m5 m6)))
       · rw [hbL]; exact hy3.mono (Mem.le_trans m4 (Mem.le_trans m5 m6))
       · rw [hbL]; exact hy4.mono (Mem.le_trans m5 m6)
       · rw [hbL]; exact hy5.mono m6)
    | apply And.intro
 subst hpk;obtain ⟨a1, n1, c1, rfl, q1⟩ := id b1;obtain ⟨a2, n2, c2, rfl, q2⟩ := id b2;obtain ⟨a3, n3, c3, rfl, q3⟩ := id b3;obtain ⟨a4, n4, c4, rfl, q4⟩ := id b4;obtain ⟨a5, n5, c5, rfl, q5⟩ := id b5
 refine ⟨_, atC hk rfl, _, _, _, atC hk rfl, _, atC hk rfl, _, _, _, atC hk rfl, _, atC hk rfl, _, _, _, atC hk rfl, _, atC hk rfl, _, _, _, atC hk rfl, _, atC hk rfl, _, _, _, atC hk rfl, ⟨by omega, by omega, ?_⟩, fun I6 _ l6 xs j ⟨j0, j1, hx⟩ => Br.mk (fun hlt => ?_) (fun hge => ?_)⟩
 · rw [hf2]
   rw [hg2] at hx;rw [fl2];simpa using hx
 · have hlt := of_decide_eq_true hlt
   have hst := fl2_step (r := r) (j := j.toNat) (by omega)
   rw [<- hf2] at hst;have hxl := hx.len;rw [hf2] at hxl;have := fl2_len r j.toNat
   have look : ∃ a n c, ([SV.v (Value.int .i64 9), .v (.slice a1 n1 c1), .v (.int .i64 10), .v (.slice a2 n2 c2), .v (.int .i64 11), .v (.slice a3 n3 c3), .v (.int .i64 12), .v (.slice a4 n4 c4), .v (.int .i64 13), .v (.slice a5 n5 c5)][j.toNat * 2 + 0]?.bind vOf) = some (.int .i64 (9 + j)) /\
    ([SV.v (Value.int .i64 9), .v (.slice a1 n1 c1), .v (.int .i64 10), .v (.slice a2 n2 c2), .v (.int .i64 11), .v (.slice a3 n3 c3), .v (.int .i64 12), .v (.slice a4 n4 c4), .v (.int .i64 13), .v (.slice a5 n5 c5)][j.toNat * 2 + 1]?.bind vOf) = some (.slice a n c) /\ BySl I5 (.slice a n c) (bL j.toNat) := by
    rcases (by omega : j = 0 \/ j = 1 \/ j = 2 \/ j = 3 \/ j = 4) with rfl | rfl | rfl | rfl | rfl
    · exact ⟨_, _, _, rfl, rfl, b1⟩
    · exact ⟨_, _, _, rfl, rfl, b2⟩
    · exact ⟨_, _, _, rfl, rfl, b3⟩
    · exact ⟨_, _, _, rfl, rfl, b4⟩
    · exact ⟨_, _, _, rfl, rfl, b5⟩
   obtain ⟨a, n, c, w1, w2, hby⟩ := look
   have hnb : n = (bytesL r j.toNat).length := by
    obtain ⟨_, _, _, he, hs, _⟩ := id hby;cases he;rw [hs.numLen, hbL]
   have hok : okFld ((9 + j : Int), bytesL r j.toNat) := lists_ok hr _ (by
    rcases (by omega : j = 0 \/ j = 1 \/ j = 2 \/ j = 3 \/ j = 4) with rfl | rfl | rfl | rfl | rfl <;> simp [listsL, bytesL])
   refine ⟨j0, hlt, _, w1, _, _, _, w2, Br.mk (fun hp => ?_) (fun hp => ?_)⟩
   · have hp := of_decide_eq_true hp
     rw [if_neg (fun e => by rw [e] at hnb; simp at hnb; omega)] at hst
     refine ⟨by omega, by omega, by omega, wr_i64 (by omega) (by omega) ⟨by simp only [List.length_append, List.length_cons, List.length_nil]; omega, ⟨by omega, by omega, ?_⟩, by omega⟩⟩
     rw [show (j + 1).toNat = j.toNat + 1 by omega, hst, show ((9 : Int) + (j.toNat : Int)) = 9 + j by omega]
     rw [hbL] at hby;exact fr_snoc hx (Mem.le_refl _) hok (hby.mono l6)
   · have hp := of_decide_eq_false hp
     rw [if_pos (List.eq_nil_of_length_eq_zero (by omega)), List.append_nil] at hst
     refine wr_i64 (by omega) (by omega) ⟨⟨by omega, by omega, ?_⟩, by omega⟩
     rw [show (j + 1).toNat = j.toNat + 1 by omega, hst]
     exact hx
 · have hge := of_decide_eq_false hge
   obtain rfl : j = 5 := by omega
   intro a' cp' I7 l7 hrow;rw [hf2] at hx;rw [hfin];exact fr_row hrow (hx.mono l7)
set_option maxHeartbeats 1000000
def evOk (x : EvT) : Bool := !negL [x.1.1, x.1.2.1, x.1.2.2, x.2.1]
def ptOk (x : PtT) : Bool := !negL [x.1, x.2.2] && nameB x.2.1
def hdOk (x : HdT) : Bool := !negL [x.1, x.2.1, x.2.2.1, x.2.2.2.1] && decide (x.2.2.2.2 <= 15)
def headOk (r : Rs) : Bool := decide (1 <= r.num) && (decide (r.num <= 281474976710656) && (decide (r.kind <= 9) && (!negL [r.code, r.ser, r.port, r.time, r.key.1, r.key.2.1, r.key.2.2] && !negL r.counts)))
def lenOk (r : Rs) : Bool := decide (r.counts.length <= 16) && (decide (r.cells.length <= 1024) && (decide (r.events.length <= 64) && (decide (r.ports.length <= 64) && decide (r.handles.length <= 64))))
def vokS (r : Rs) : Bool := headOk r && (lenOk r && (r.events.all evOk && (r.ports.all ptOk && r.handles.all hdOk)))
theorem fm_ints {l : List Int} : l.flatMap cI = ints .i64 l := by
 induction l with
 | nil => rfl
 | cons x r ih => rw [List.flatMap_cons, ih]; rfl
theorem strL_strB {bs : List Int} (hb : byteL bs) : strL (strB bs) = bs := by
 show (u8s bs).toArray.toList.map (fun b => (b.toNat : Int)) = bs
 rw [show (u8s bs).toArray.toList = u8s bs from rfl, u8s, List.map_map]
 conv => rhs; rw [<- List.map_id bs]
 apply List.map_congr_left;intro z hz;exact u8_nat (hb z hz)
theorem all_no {α : Type} {p : α -> Bool} {l : List α} {j : Nat} {x : α} (h : l[j]? = some x) (hp : p x = false) : l.all p = false := by
 cases ha : l.all p with
 | false => rfl
 | true => rw [List.all_eq_true.1 ha x (List.mem_of_getElem? h)] at hp; cases hp
theorem all_snoc {α : Type} {p : α -> Bool} {l : List α} {j : Nat} {x : α} (h : l[j]? = some x) (ht : (l.take j).all p = true) (hp : p x = true) : (l.take (j + 1)).all p = true := by
 rw [take_succ' h, List.all_append, ht]; simp [hp]
set_option maxHeartbeats 2000000 in
theorem ct60 (r : Rs) (hr : okRs r) (y : Ys) (I : Mem) (hM : RsM I r y) (hcn : r.counts.length <= 1000000) :
 Ct Tryz.prog (fnv 60) #[.agg (rsV r y).toArray] I (fun v I' => v = .bool (vokS r)) := by
 obtain ⟨⟨ac, nc, cc, h1, hc, _⟩, ⟨al, nl, cl, h2, hl, _⟩, ⟨ae, ne, ce, h3, he, _⟩, ⟨ap, np, cp, h4, hp, _⟩, ⟨ah, nh, ch, h5, hh, _⟩⟩ := hM;obtain ⟨yc, yl, ye, yp, yh⟩ := y;subst h1 h2 h3 h4 h5;obtain ⟨V, hV⟩ : ∃ V, V = vokS r := ⟨_, rfl⟩;obtain ⟨pe, hpe⟩ : ∃ f, f = fun j => ((r.events.take j).all evOk) := ⟨_, rfl⟩;obtain ⟨pp, hpp⟩ : ∃ f, f = fun j => ((r.ports.take j).all ptOk) := ⟨_, rfl⟩;obtain ⟨ph, hph⟩ : ∃ f, f = fun j => ((r.handles.take j).all hdOk) := ⟨_, rfl⟩;rw [<- hV]
 refine viaR (ct_via (A := { loops := [(6, ⟨[(1, .keep), (79, .keep), (80, .keep), (81, .sh (.int .i64))], [(0, .keep)], [], fun vals _ _ _ => match vals with | [.int .i64 j] => 0 <= j /\ j <= ne /\ pe j.toNat = true | _ => False, fun vals _ => match vals with | [.int .i64 j] => (ne - j).toNat | _ => 0⟩), (12, ⟨[(1, .keep), (101, .keep), (102, .keep), (103, .sh (.int .i64))], [(0, .keep)], [], fun vals _ _ _ => match vals with | [.int .i64 j] => 0 <= j /\ j <= np /\ pp j.toNat = true | _ => False, fun vals _ => match vals with | [.int .i64 j] => (np - j).toNat | _ => 0⟩), (18, ⟨[(1, .keep), (122, .keep), (123, .keep), (124, .sh (.int .i64))], [(0, .keep)], [], fun vals _ _ _ => match vals with | [.int .i64 j] => 0 <= j /\ j <= nh /\ ph j.toNat = true | _ => False, fun vals _ => match vals with | [.int .i64 j] => (nh - j).toNat | _ => 0⟩)] }) Tryz.func60 rfl Tryz.call60 rfl rfl) (let E1 := Ent.mk (.cells [.v (.int .i64 r.num), .v (.int .i64 r.code), .v (.int .i64 r.ser), .v (.int .i64 r.port), .v (.int .i64 r.time), .v (.int .u8 r.kind), .v (.bool r.more), .v (.int .i64 r.key.1), .v (.int .i64 r.key.2.1), .v (.int .i64 r.key.2.2), .v (.slice ac nc cc), .v (.slice al nl cl), .v (.slice ae ne ce), .v (.slice ap np cp), .v (.slice ah nh ch)] 34) none
  Br (decide (r.num < 1)) (Value.bool false = .bool V) (Br (decide (281474976710656 < r.num)) (Value.bool false = .bool V) (Br (decide (9 < r.kind)) (Value.bool false = .bool V) (∀ (b : Nat) (a : Mem), I.le a -> a b = some (.cells #[.int .i64 r.code, .int .i64 r.ser, .int .i64 r.port, .int .i64 r.time, .int .i64 r.key.1, .int .i64 r.key.2.1, .int .i64 r.key.2.2] 3 (0, 0)) -> Ct Tryz.prog (fnv 86) #[.slice (some ⟨b, 0, none⟩) 7 7] a fun v c => ∃ d, v = .bool d /\ Br (!d) (Value.bool false = .bool V) (Ct Tryz.prog (fnv 86) #[.slice ac nc cc] c (fun e f => ∃ g, e = .bool g /\ Br (!g) (Value.bool false = .bool V) (Br (decide (16 < (nc : Int))) (Value.bool false = .bool V) (Br (decide (1024 < (nl : Int))) (Value.bool false = .bool V) (Br (decide (64 < (ne : Int))) (Value.bool false = .bool V) (Br (decide (64 < (np : Int))) (Value.bool false = .bool V) (Br (decide (64 < (nh : Int))) (Value.bool false = .bool V) ((Rf E1 /\ Rf (SV.ptr 0 0) /\ Rf (SV.v (.slice ae ne ce)) /\ Rf (SV.v (.int .i64 (ne : Int))) /\ (0 : Int) <= 0 /\ 0 <= (ne : Int) /\ pe 0 = true) /\ ∀ (h : Mem), Mem -> f.le h -> ∀ (n : Int), 0 <= n /\ n <= (ne : Int) /\ pe n.toNat = true -> Br (decide (n < (ne : Int))) (0 <= n /\ n < (ne : Int) /\ ae.isSome = true /\ (5 : Nat) = 5 /\ ∃ i, atI h ae (n.toNat * 5 + 0) = some (.int .i64 i) /\ ∃ j, atI h ae (n.toNat * 5 + 1) = some (.int .i64 j) /\ ∃ k, atI h ae (n.toNat * 5 + 2) = some (.int .i64 k) /\ ∃ l, atI h ae (n.toNat * 5 + 3) = some (.int .i64 l) /\ ∃ m, atI h ae (n.toNat * 5 + 4) = some (.int .i64 m) /\ ∀ (o : Nat) (p : Mem), h.le p -> p o = some (.cells #[.int .i64 i, .int .i64 j, .int .i64 k, .int .i64 l] 3 (0, 0)) -> Ct Tryz.prog (fnv 86) #[.slice (some ⟨o, 0, none⟩) 4 4] p fun q s => ∃ t, q = .bool t /\ Br (!t) (Value.bool false = .bool V) (Wr .i64 (n + 1) (fun u => Rf E1 /\ Rf (SV.ptr 0 0) /\ Rf (SV.v (.slice ae ne ce)) /\ Rf (SV.v (.int .i64 (ne : Int))) /\ (0 <= u /\ u <= (ne : Int) /\ pe u.toNat = true) /\ Int.toNat ((ne : Int) - u) < Int.toNat ((ne : Int) - n)))) ((Rf E1 /\ Rf (SV.ptr 0 0) /\ Rf (SV.v (.slice ap np cp)) /\ Rf (SV.v (.int .i64 (np : Int))) /\ (0 : Int) <= 0 /\ 0 <= (np : Int) /\ pp 0 = true) /\ ∀ (i : Mem), Mem -> h.le i -> ∀ (j : Int), 0 <= j /\ j <= (np : Int) /\ pp j.toNat = true -> Br (decide (j < (np : Int))) (0 <= j /\ j < (np : Int) /\ ap.isSome = true /\ (3 : Nat) = 3 /\ ∃ k, atI i ap (j.toNat * 3 + 0) = some (.int .i64 k) /\ ∃ q, atI i ap (j.toNat * 3 + 1) = some (.string q) /\ ∃ l, atI i ap (j.toNat * 3 + 2) = some (.int .i64 l) /\ ∀ (m : Nat) (o : Mem), i.le o -> o m = some (.cells #[.int .i64 k, .int .i64 l] 3 (0, 0)) -> Ct Tryz.prog (fnv 86) #[.slice (some ⟨m, 0, none⟩) 2 2] o fun p s => ∃ t, p = .bool t /\ Br (!t) (Value.bool false = .bool V) (Ct Tryz.prog (fnv 87) #[.string q] s (fun u w => ∃ x, u = .bool x /\ Br (!x) (Value.bool false = .bool V) (Wr .i64 (j + 1) (fun y => Rf E1 /\ Rf (SV.ptr 0 0) /\ Rf (SV.v (.slice ap np cp)) /\ Rf (SV.v (.int .i64 (np : Int))) /\ (0 <= y /\ y <= (np : Int) /\ pp y.toNat = true) /\ Int.toNat ((np : Int) - y) < Int.toNat ((np : Int) - j)))))) ((Rf E1 /\ Rf (SV.ptr 0 0) /\ Rf (SV.v (.slice ah nh ch)) /\ Rf (SV.v (.int .i64 (nh : Int))) /\ (0 : Int) <= 0 /\ 0 <= (nh : Int) /\ ph 0 = true) /\ ∀ (k : Mem), Mem -> i.le k -> ∀ (l : Int), 0 <= l /\ l <= (nh : Int) /\ ph l.toNat = true -> Br (decide (l < (nh : Int))) (0 <= l /\ l < (nh : Int) /\ ah.isSome = true /\ (5 : Nat) = 5 /\ ∃ m, atI k ah (l.toNat * 5 + 0) = some (.int .i64 m) /\ ∃ o, atI k ah (l.toNat * 5 + 1) = some (.int .i64 o) /\ ∃ p, atI k ah (l.toNat * 5 + 2) = some (.int .i64 p) /\ ∃ q, atI k ah (l.toNat * 5 + 3) = some (.int .i64 q) /\ ∃ s, atI k ah (l.toNat * 5 + 4) = some (.int .u8 s) /\ ∀ (t : Nat) (u : Mem), k.le u -> u t = some (.cells #[.int .i64 m, .int .i64 o, .int .i64 p, .int .i64 q] 3 (0, 0)) -> Ct Tryz.prog (fnv 86) #[.slice (some ⟨t, 0, none⟩) 4 4] u fun w x => ∃ y, w = .bool y /\ Br (!y) (Value.bool false = .bool V) (Ct Tryz.prog (fnv 88) #[.int .u8 s] x (fun z I1 => ∃ b1, z = .bool b1 /\ Br (!b1) (Value.bool false = .bool V) (Wr .i64 (l + 1) (fun c1 => Rf E1 /\ Rf (SV.ptr 0 0) /\ Rf (SV.v (.slice ah nh ch)) /\ Rf (SV.v (.int .i64 (nh : Int))) /\ (0 <= c1 /\ c1 <= (nh : Int) /\ ph c1.toNat = true) /\ Int.toNat ((nh : Int) - c1) < Int.toNat ((nh : Int) - l)))))) (Value.bool true = .bool V))))))))))))))) (by kernel_rfl) ?_
 intro E1;simp only [eq_self, true_and];have lc := fm_len (c := cI) (k := 1) (fun _ => rfl) r.counts;have ll := fm_len (c := cI) (k := 1) (fun _ => rfl) r.cells;have le := fm_len (c := cE) (k := 5) (fun _ => rfl) r.events;have lp := fm_len (c := cP) (k := 3) (fun _ => rfl) r.ports;have lh := fm_len (c := cH) (k := 5) (fun _ => rfl) r.handles;have sc := hc.len;have sl := hl.len;have se' := he.len;have sp := hp.len;have sh := hh.len
 have hcn' : nc = r.counts.length := by omega
 have hln : nl = r.cells.length := by omega
 have hen : ne = r.events.length := by omega
 have hpn : np = r.ports.length := by omega
 have hhn : nh = r.handles.length := by omega
 rw [fm_ints] at hc
 have N1 : headOk r = false -> Value.bool false = Value.bool V := fun h => by rw [hV, vokS, h]; rfl
 have N2 : lenOk r = false -> Value.bool false = Value.bool V := fun h => by rw [hV, vokS, h]; simp
 have N3 : r.events.all evOk = false -> Value.bool false = Value.bool V := fun h => by rw [hV, vokS, h]; simp
 have N4 : r.ports.all ptOk = false -> Value.bool false = Value.bool V := fun h => by rw [hV, vokS, h]; simp
 have N5 : r.handles.all hdOk = false -> Value.bool false = Value.bool V := fun h => by rw [hV, vokS, h]; simp
 refine Br.mk (fun h => N1 ?_) (fun g1 => Br.mk (fun h => N1 ?_) (fun g2 => Br.mk (fun h => N1 ?_) (fun g3 b I1 l1 hb => ?_)))
 · have h := of_decide_eq_true h
   rw [headOk, decide_eq_false (by omega), Bool.false_and]
 · have h := of_decide_eq_true h
   rw [headOk, decide_eq_false (p := r.num <= 281474976710656) (by omega)]; simp
 · have h := of_decide_eq_true h
   rw [headOk, decide_eq_false (p := r.kind <= 9) (by omega)]; simp
 refine (ct86 [r.code, r.ser, r.port, r.time, r.key.1, r.key.2.1, r.key.2.2] _ 7 7 I1 (int_sl hb rfl rfl (by omega)) (by omega)).mono fun v I2 l2 hv => ⟨_, hv, Br.mk (fun h => N1 ?_) (fun g4 => ?_)⟩
 · have h : negL [r.code, r.ser, r.port, r.time, r.key.1, r.key.2.1, r.key.2.2] = true := by simpa using h
   rw [headOk, h]; simp
 refine (ct86 r.counts ac nc cc I2 (hc.mono (Mem.le_trans l1 l2)) (by omega)).mono fun v I3 l3 hv => ⟨_, hv, Br.mk (fun h => N1 ?_) (fun g5 => Br.mk (fun h => N2 ?_) (fun g6 => Br.mk (fun h => N2 ?_) (fun g7 => Br.mk (fun h => N2 ?_) (fun g8 => Br.mk (fun h => N2 ?_) (fun g9 => Br.mk (fun h => N2 ?_) (fun g10 => ?_))))))⟩
 · have h : negL r.counts = true := by simpa using h
   rw [headOk, h]; simp
 · have h := of_decide_eq_true h
   rw [lenOk, decide_eq_false (by omega), Bool.false_and]
 · have h := of_decide_eq_true h
   rw [lenOk, decide_eq_false (p := r.cells.length <= 1024) (by omega)]; simp
 · have h := of_decide_eq_true h
   rw [lenOk, decide_eq_false (p := r.events.length <= 64) (by omega)]; simp
 · have h := of_decide_eq_true h
   rw [lenOk, decide_eq_false (p := r.ports.length <= 64) (by omega)]; simp
 · have h := of_decide_eq_true h
   rw [lenOk, decide_eq_false (p := r.handles.length <= 64) (by omega)]; simp
 have g1 := of_decide_eq_false g1;have g2 := of_decide_eq_false g2;have g3 := of_decide_eq_false g3;have g6 := of_decide_eq_false g6;have g7 := of_decide_eq_false g7;have g8 := of_decide_eq_false g8;have g9 := of_decide_eq_false g9;have g10 := of_decide_eq_false g10
 have H1 : headOk r = true := by
  have h4 : negL [r.code, r.ser, r.port, r.time, r.key.1, r.key.2.1, r.key.2.2] = false := by simpa using g4
  have h5 : negL r.counts = false := by simpa using g5
  rw [headOk, decide_eq_true (by omega), decide_eq_true (p := r.num <= 281474976710656) (by omega), decide_eq_true (p := r.kind <= 9) (by omega), h4, h5]; rfl
 have H2 : lenOk r = true := by
  rw [lenOk, decide_eq_true (by omega), decide_eq_true (p := r.cells.length <= 1024) (by omega), decide_eq_true (p := r.events.length <= 64) (by omega), decide_eq_true (p := r.ports.length <= 64) (by omega), decide_eq_true (p := r.handles.length <= 64) (by omega)]; rfl
 have i3 : I.le I3 := Mem.le_trans l1 (Mem.le_trans l2 l3)
 refine ⟨⟨by omega, by omega, by rw [hpe]; rfl⟩, fun I4 _ l4 j ⟨j0, j1, hj⟩ => Br.mk (fun hlt => ?_) (fun hge => ?_)⟩
 · have hlt := of_decide_eq_true hlt
   rw [hpe] at hj;obtain ⟨x, hx, g⟩ := lst_at (c := cE) (k := 5) (fun _ => rfl) (he.mono (Mem.le_trans i3 l4)) hen j0 hlt
   refine ⟨j0, hlt, he.isSome (by omega), _, g 0 _ (by omega) rfl, _, g 1 _ (by omega) rfl, _, g 2 _ (by omega) rfl, _, g 3 _ (by omega) rfl, _, g 4 _ (by omega) rfl, fun b I5 l5 hb => ?_⟩
   refine (ct86 [x.1.1, x.1.2.1, x.1.2.2, x.2.1] _ 4 4 I5 (int_sl hb rfl rfl (by omega)) (by omega)).mono fun v I6 l6 hv => ⟨_, hv, Br.mk (fun h => N3 (all_no hx ?_)) (fun h => ?_)⟩
   · rw [evOk]; simpa using h
   · refine wr_i64 (by omega) (by omega) ⟨⟨by omega, by omega, ?_⟩, by omega⟩
     rw [hpe, show (j + 1).toNat = j.toNat + 1 by omega]
     exact all_snoc hx hj (by rw [evOk]; simpa using h)
 have hge := of_decide_eq_false hge;rw [hpe] at hj
 have H3 : r.events.all evOk = true := by
  have hj : (r.events.take j.toNat).all evOk = true := hj
  rw [List.take_of_length_le (by omega)] at hj; exact hj
 clear hge hj j0 j1
 refine ⟨⟨by omega, by omega, by rw [hpp]; rfl⟩, fun I5 _ l5 j ⟨j0, j1, hj⟩ => Br.mk (fun hlt => ?_) (fun hge => ?_)⟩
 · have hlt := of_decide_eq_true hlt
   rw [hpp] at hj;obtain ⟨x, hx, g⟩ := lst_at (c := cP) (k := 3) (fun _ => rfl) (hp.mono (Mem.le_trans i3 (Mem.le_trans l4 l5))) hpn j0 hlt;have hbx := (hr.ports x (List.mem_of_getElem? hx)).2.1
   refine ⟨j0, hlt, hp.isSome (by omega), _, g 0 _ (by omega) rfl, _, g 1 _ (by omega) rfl, _, g 2 _ (by omega) rfl, fun b I6 l6 hb => ?_⟩
   refine (ct86 [x.1, x.2.2] _ 2 2 I6 (int_sl hb rfl rfl (by omega)) (by omega)).mono fun v I7 l7 hv => ⟨_, hv, Br.mk (fun h => N4 (all_no hx ?_)) (fun h => (ct87 _ I7).mono fun v I8 l8 hv => ⟨_, hv, Br.mk (fun h' => N4 (all_no hx ?_)) (fun h' => ?_)⟩)⟩
   · have h : negL [x.1, x.2.2] = true := by simpa using h
     rw [ptOk, h]; rfl
   · rw [strL_strB hbx] at h'
     have h' : nameB x.2.1 = false := by simpa using h'
     rw [ptOk, h', Bool.and_false]
   · rw [strL_strB hbx] at h'
     have h : negL [x.1, x.2.2] = false := by simpa using h
     have h' : nameB x.2.1 = true := by simpa using h'
     refine wr_i64 (by omega) (by omega) ⟨⟨by omega, by omega, ?_⟩, by omega⟩
     rw [hpp, show (j + 1).toNat = j.toNat + 1 by omega]
     exact all_snoc hx hj (by rw [ptOk, h, h']; rfl)
 have hge := of_decide_eq_false hge;rw [hpp] at hj
 have H4 : r.ports.all ptOk = true := by
  have hj : (r.ports.take j.toNat).all ptOk = true := hj
  rw [List.take_of_length_le (by omega)] at hj; exact hj
 clear hge hj j0 j1
 refine ⟨⟨by omega, by omega, by rw [hph]; rfl⟩, fun I6 _ l6 j ⟨j0, j1, hj⟩ => Br.mk (fun hlt => ?_) (fun hge => ?_)⟩
 · have hlt := of_decide_eq_true hlt
   rw [hph] at hj;obtain ⟨x, hx, g⟩ := lst_at (c := cH) (k := 5) (fun _ => rfl) (hh.mono (Mem.le_trans i3 (Mem.le_trans l4 (Mem.le_trans l5 l6)))) hhn j0 hlt
   refine ⟨j0, hlt, hh.isSome (by omega), _, g 0 _ (by omega) rfl, _, g 1 _ (by omega) rfl, _, g 2 _ (by omega) rfl, _, g 3 _ (by omega) rfl, _, g 4 _ (by omega) rfl, fun b I7 l7 hb => ?_⟩
   refine (ct86 [x.1, x.2.1, x.2.2.1, x.2.2.2.1] _ 4 4 I7 (int_sl hb rfl rfl (by omega)) (by omega)).mono fun v I8 l8 hv => ⟨_, hv, Br.mk (fun h => N5 (all_no hx ?_)) (fun h => (ct88 _ I8).mono fun v I9 l9 hv => ⟨_, hv, Br.mk (fun h' => N5 (all_no hx ?_)) (fun h' => ?_)⟩)⟩
   · have h : negL [x.1, x.2.1, x.2.2.1, x.2.2.2.1] = true := by simpa using h
     rw [hdOk, h]; rfl
   · rw [hdOk]
     have h' : decide (x.2.2.2.2 <= 15) = false := by simpa using h'
     rw [h', Bool.and_false]
   · have h : negL [x.1, x.2.1, x.2.2.1, x.2.2.2.1] = false := by simpa using h
     have h' : decide (x.2.2.2.2 <= 15) = true := by simpa using h'
     refine wr_i64 (by omega) (by omega) ⟨⟨by omega, by omega, ?_⟩, by omega⟩
     rw [hph, show (j + 1).toNat = j.toNat + 1 by omega]
     exact all_snoc hx hj (by rw [hdOk, h, h']; rfl)
 have hge := of_decide_eq_false hge;rw [hph] at hj
 have H5 : r.handles.all hdOk = true := by
  have hj : (r.handles.take j.toNat).all hdOk = true := hj
  rw [List.take_of_length_le (by omega)] at hj; exact hj
 rw [hV, vokS, H1, H2, H3, H4, H5]; rfl
set_option maxHeartbeats 1000000
def rightS (r : Rs) : Bool := vokS r && (rightF (fieldsS r) && decide ((writeF (fieldsS r)).length <= 16320))
def writeS (r : Rs) : List Int := 1 :: writeF (fieldsS r)
theorem vok_small {r : Rs} (h : vokS r = true) : smallR r := by
 simp only [vokS, lenOk, Bool.and_eq_true, decide_eq_true_eq] at h;obtain ⟨_, ⟨h1, h2, h3, h4, h5⟩, _, h6, _⟩ := h
 refine ⟨by omega, by omega, by omega, by omega, by omega, fun x hx => ?_⟩
 have := List.all_eq_true.1 h6 x hx;simp only [ptOk, nameB, Bool.and_eq_true, decide_eq_true_eq] at this;omega
theorem ct27 (r : Rs) (hr : okRs r) (y : Ys) (I : Mem) (hM : RsM I r y) (hcn : r.counts.length <= 1000000) :
 Ct Tryz.prog (fnv 27) #[.agg (rsV r y).toArray] I (fun v I' => ∃ a n c, v = .tuple #[.slice a n c, .bool (rightS r)] /\ (rightS r = true -> SlM I' a n 1 (ints .u8 (writeF (fieldsS r))) /\ n <= c /\ c <= maxLen /\ n <= 20000)) := by
 obtain ⟨R, hR⟩ : ∃ R, R = rightS r := ⟨_, rfl⟩;obtain ⟨W, hW⟩ : ∃ W, W = writeF (fieldsS r) := ⟨_, rfl⟩;rw [<- hR, <- hW]
 refine viaR (ct_via (A := { }) Tryz.func27 rfl Tryz.call27 rfl rfl) (Ct Tryz.prog (fnv 60) #[.agg #[.int .i64 r.num, .int .i64 r.code, .int .i64 r.ser, .int .i64 r.port, .int .i64 r.time, .int .u8 r.kind, .bool r.more, .int .i64 r.key.1, .int .i64 r.key.2.1, .int .i64 r.key.2.2, y.c, y.l, y.e, y.p, y.h]] I fun v a => ∃ b, v = .bool b /\ Br (!b) (∃ c n d, Value.tuple #[.slice none 0 0, .bool false] = .tuple #[.slice c n d, .bool R] /\ (R = true -> SlM a c n 1 (List.map (Value.int .u8) W) /\ n <= d /\ d <= 9223372036854775807 /\ n <= 20000)) (Ct Tryz.prog (fnv 62) #[.agg #[.int .i64 r.num, .int .i64 r.code, .int .i64 r.ser, .int .i64 r.port, .int .i64 r.time, .int .u8 r.kind, .bool r.more, .int .i64 r.key.1, .int .i64 r.key.2.1, .int .i64 r.key.2.2, y.c, y.l, y.e, y.p, y.h]] a (fun c d => ∃ e n f, c = .slice e n f /\ Ct Tryz.prog (fnv 61) #[.slice e n f] d fun g h => ∃ i j k l, g = .tuple #[.slice i j k, .int .i64 l] /\ Br (l == 0) (∃ m o p, Value.tuple #[.slice i j k, .bool (decide ((j : Int) <= 16320))] = .tuple #[.slice m o p, .bool R] /\ (R = true -> SlM h m o 1 (List.map (Value.int .u8) W) /\ o <= p /\ p <= 9223372036854775807 /\ o <= 20000)) (∃ m o p, Value.tuple #[.slice i j k, .bool false] = .tuple #[.slice m o p, .bool R] /\ (R = true -> SlM h m o 1 (List.map (Value.int .u8) W) /\ o <= p /\ p <= 9223372036854775807 /\ o <= 20000))))) (by kernel_rfl) ?_
 refine (ct60 r hr y I hM hcn).mono fun v I1 l1 hv => ⟨_, hv, Br.mk (fun h => ?_) (fun h => ?_)⟩
 · have h : vokS r = false := by simpa using h
   have : R = false := by rw [hR, rightS, h]; rfl
   rw [this]
   exact ⟨_, _, _, rfl, fun h => by cases h⟩
 have h : vokS r = true := by simpa using h
 have hsm := vok_small h;refine (ct62 r hr hsm y I1 (hM.mono l1)).mono fun v I2 l2 ⟨a, n, c, hv, hF, hn, hc⟩ => ⟨_, _, _, hv, ?_⟩;have hl := hF.len;have hfl := fl2_len r 5;have hfe : fieldsS r = fl2 r 5 := rfl;rw [hfe] at hl
 refine (ct61 (fieldsS r) a n c I2 hF (by omega)).mono fun v I3 l3 ⟨a3, n3, c3, hv, hw, hn3, hc3⟩ => ⟨_, _, _, _, hv, Br.mk (fun g => ?_) (fun g => ?_)⟩
 · cases hrf : rightF (fieldsS r) with
   | false => rw [hrf] at g; cases g
   | true =>
     rw [hrf, if_pos rfl] at hw;have hnl := hw.numLen;have hwl := write_len hrf
     have e : R = decide ((n3 : Int) <= 16320) := by
      rw [hR, rightS, h, hrf, Bool.true_and, Bool.true_and, hnl]
      exact decide_eq_decide.2 (by omega)
     rw [e];rw [<- hW] at hw
     exact ⟨_, _, _, rfl, fun _ => ⟨hw, hn3, hc3, by omega⟩⟩
 · have : rightF (fieldsS r) = false := by
    cases hrf : rightF (fieldsS r) with
    | false => rfl
    | true => rw [hrf] at g; cases g
   have e : R = false := by rw [hR, rightS, this]; simp
   rw [e]
   exact ⟨_, _, _, rfl, fun h => by cases h⟩
theorem ct13 (r : Rs) (hr : okRs r) (y : Ys) (I : Mem) (hM : RsM I r y) (hcn : r.counts.length <= 1000000) :
 Ct Tryz.prog (fnv 13) #[.agg (rsV r y).toArray] I (fun v I' => ∃ a n c, v = .tuple #[.slice a n c, .int .i64 (if rightS r then 0 else 350)] /\ SlM I' a n 1 (ints .u8 (if rightS r then writeS r else [])) /\ n <= c /\ c <= maxLen /\ NewB I I' (.slice a n c)) := by
 obtain ⟨R, hR⟩ : ∃ R, R = rightS r := ⟨_, rfl⟩;have C := ct27 r hr y I hM hcn;obtain ⟨W, hW⟩ : ∃ W, W = writeF (fieldsS r) := ⟨_, rfl⟩;obtain ⟨w, hw⟩ : ∃ w, w = writeS r := ⟨_, rfl⟩;rw [<- hR, <- hW] at C;rw [<- hR, <- hw]
 refine viaR (ctF_via (A := { }) Tryz.func13 rfl Tryz.call13 rfl rfl) (Ct Tryz.prog (fnv 27) #[.agg #[.int .i64 r.num, .int .i64 r.code, .int .i64 r.ser, .int .i64 r.port, .int .i64 r.time, .int .u8 r.kind, .bool r.more, .int .i64 r.key.1, .int .i64 r.key.2.1, .int .i64 r.key.2.2, y.c, y.l, y.e, y.p, y.h]] I fun v a => ∃ b n c d, v = .tuple #[.slice b n c, .bool d] /\ Br (!d) (∃ e f g, Value.tuple #[.slice none 0 0, .int .i64 350] = .tuple #[.slice e f g, .int .i64 (if R = true then 0 else 350)] /\ SlM a e f 1 (List.map (Value.int .u8) (if R = true then w else ([] : List Int))) /\ f <= g /\ g <= 9223372036854775807 /\ NewB I a (.slice e f g)) (∃ e, e.length = n * 1 /\ (b = none -> n = 0) /\ (∀ (j : Nat) (f : Value), e[j]? = some f -> atI a b j = some f) /\ (∀ (f : Value), Membership.mem e f -> f.oneCell' = true) /\ (1 : Nat) = 1 /\ 1 + n <= 9223372036854775807 /\ (1 + n) * 1 <= 140737488355328 /\ ∀ (f : Option Addr) (g : Nat) (h : Mem), a.le h -> RowF a h f g 1 (.int .u8 1 :: e) 5 -> ∃ i j k, Value.tuple #[.slice f (1 + n) g, .int .i64 0] = .tuple #[.slice i j k, .int .i64 (if R = true then 0 else 350)] /\ SlM h i j 1 (List.map (Value.int .u8) (if R = true then w else ([] : List Int))) /\ j <= k /\ k <= 9223372036854775807 /\ NewB I h (.slice i j k))) (by kernel_rfl) ?_
 refine C.mono fun v I1 l1 ⟨a, n, c, hv, hs⟩ => ⟨_, _, _, _, hv, Br.mk (fun h => ?_) (fun h => ?_)⟩
 · have h : R = false := by simpa using h
   rw [h]
   exact ⟨none, 0, 0, rfl, sl_nil _ _, by omega, by omega, newB_sl (fun hc => absurd hc (by omega)) (by omega)⟩
 have h : R = true := by simpa using h
 rw [h];obtain ⟨hs, hn, hc, hn2⟩ := hs h
 refine ⟨_, hs.len, hs.nil, hs.at_, one_ints, rfl, by omega, by omega, fun a2 cp I2 l2 hrow => ?_⟩
 have hl := hs.numLen
 have e : [Value.int .u8 1] ++ ints .u8 W = ints .u8 w := by rw [hw, hW]; rfl
 have hrow : RowF I1 I2 a2 cp 1 ([Value.int .u8 1] ++ ints .u8 W) _ := hrow;rw [e] at hrow
 have hlw : w.length = 1 + n := by rw [hw, writeS, List.length_cons, <- hW]; omega
 have h1 := hrow.row.1;rw [ints_len] at h1
 exact ⟨a2, 1 + n, cp, rfl, hrow.row.sl (by omega) (by rw [ints_len]; omega), by omega, hrow.row.2.1, newB_sl (hrow.newS.anti l1) (by omega)⟩
set_option maxHeartbeats 1000000
theorem strB_inj {xs ys : List Int} (hx : byteL xs) (hy : byteL ys) (h : strB xs = strB ys) : xs = ys := by
 refine u8s_inj hx hy ?_;have := congrArg (fun s : ByteArray => s.data.toList) h;exact this
theorem eE (x z : EvT) : ((x.1.1 == z.1.1 && (x.1.2.1 == z.1.2.1 && (x.1.2.2 == z.1.2.2 && true))) && (x.2.1 == z.2.1 && (x.2.2 == z.2.2 && true))) = decide (x = z) := by
 rw [Bool.eq_iff_iff];simp [Prod.ext_iff, and_assoc]
theorem hE (x z : HdT) : (x.1 == z.1 && (x.2.1 == z.2.1 && (x.2.2.1 == z.2.2.1 && (x.2.2.2.1 == z.2.2.2.1 && (x.2.2.2.2 == z.2.2.2.2 && true))))) = decide (x = z) := by
 rw [Bool.eq_iff_iff];simp [Prod.ext_iff]
theorem pE (x z : PtT) (hx : byteL x.2.1) (hz : byteL z.2.1) : (x.1 == z.1 && ((strB x.2.1).toList == (strB z.2.1).toList && (x.2.2 == z.2.2 && true))) = decide (x = z) := by
 rw [str_eq, Bool.eq_iff_iff];simp only [Bool.and_eq_true, beq_iff_eq, decide_eq_true_eq, and_true];constructor
 · rintro ⟨h1, h2, h3⟩
   exact Prod.ext h1 (Prod.ext (strB_inj hx hz h2) h3)
 · rintro rfl; exact ⟨rfl, rfl, rfl⟩
theorem eq_len {α : Type} [DecidableEq α] {xs ys : List α} (h : xs.length ≠ ys.length) : decide (xs = ys) = false := decide_eq_false fun e => h (by rw [e])
theorem eq_at {α : Type} [DecidableEq α] {xs ys : List α} {j : Nat} {x z : α} (hx : xs[j]? = some x) (hz : ys[j]? = some z) (h : x ≠ z) : decide (xs = ys) = false := decide_eq_false fun e => h (by rw [e, hz] at hx; exact (Option.some.inj hx).symm)
theorem oneI (l : List Int) : ∀ v ∈ l.flatMap cI, v.oneCell' = true := by
 intro v hv; rw [List.mem_flatMap] at hv; obtain ⟨x, _, hx⟩ := hv; simp only [cI, List.mem_singleton] at hx; subst hx; rfl
theorem oneE (l : List EvT) : ∀ v ∈ l.flatMap cE, v.oneCell' = true := by
 intro v hv; rw [List.mem_flatMap] at hv; obtain ⟨x, _, hx⟩ := hv; simp only [cE, List.mem_cons, List.not_mem_nil, or_false] at hx
 rcases hx with rfl | rfl | rfl | rfl | rfl <;> rfl
theorem rowN_lst {sz : Nat} {el : TypeId} {I I' : Mem} {v : Value} {xs : List Value} (hz : 0 < sz) (h : RowN sz el I I' v xs) : LstN sz I I' v xs := by
 obtain ⟨a, n, c, rfl, hl, ⟨rfl, rfl, rfl⟩ | h⟩ := h
 · rw [Nat.zero_mul] at hl
   rw [List.eq_nil_of_length_eq_zero hl]
   exact ⟨none, 0, 0, rfl, sl_nil _ _, Nat.le_refl 0, Nat.zero_le _, fun hc => absurd hc (by omega)⟩
 · exact lstN_row h (Mem.le_refl _) hz hl rfl
theorem ct28R (xs : List Int) (a : Option Addr) (n c : Nat) (I : Mem) (h : SlM I a n 1 (xs.flatMap cI)) (hn : n <= 1000000) :
 Ct Tryz.prog (fnv 23) #[.slice a n c] I (fun v I' => RowN 1 2 I I' v (xs.flatMap cI)) := by
 obtain ⟨L, hL⟩ : ∃ L, L = xs.flatMap cI := ⟨_, rfl⟩;rw [<- hL] at h ⊢
 have h1 : ∀ v ∈ L, v.oneCell' = true := by rw [hL]; exact oneI xs
 refine viaR (ctF_via (A := { }) Tryz.func23 rfl Tryz.call23 rfl rfl) (Br a.isNone (∃ b d e, Value.slice none 0 0 = .slice b d e /\ L.length = d * 1 /\ (b = none /\ d = 0 /\ e = 0 \/ RowF I I b e 1 L 2)) (∃ y, y.length = n * 1 /\ (a = none -> n = 0) /\ (∀ (j : Nat) (v : Value), y[j]? = some v -> atI I a j = some v) /\ (∀ (v : Value), Membership.mem y v -> v.oneCell' = true) /\ (0 : Nat) = 0 /\ 0 + n <= 9223372036854775807 /\ (0 + n) * 8 <= 140737488355328 /\ ∀ (b : Option Addr) (d : Nat) (e : Mem), I.le e -> RowF I e b d 1 y 2 -> ∃ f g i, Value.slice b (0 + n) d = .slice f g i /\ L.length = g * 1 /\ (f = none /\ g = 0 /\ i = 0 \/ RowF I e f i 1 L 2))) (by kernel_rfl) ?_
 refine Br.mk (fun h0 => ?_) (fun h0 => ⟨L, h.len, h.nil, h.at_, h1, rfl, by omega, by omega, fun a' cp I' _ hrow => ⟨_, n, _, by simp, by simpa using h.len, .inr hrow⟩⟩)
 · have h0 : a = none := by simpa using h0
   have hz := h.nil h0;have hl := h.len;rw [hz, Nat.zero_mul] at hl;rw [List.eq_nil_of_length_eq_zero hl];exact ⟨none, 0, 0, rfl, rfl, .inl ⟨rfl, rfl, rfl⟩⟩
theorem ct23 (xs : List Int) (a : Option Addr) (n c : Nat) (I : Mem) (h : SlM I a n 1 (xs.flatMap cI)) (hn : n <= 1000000) :
 Ct Tryz.prog (fnv 23) #[.slice a n c] I (fun v I' => LstN 1 I I' v (xs.flatMap cI)) :=
 (ct28R xs a n c I h hn).mono fun v I' _ h => rowN_lst (by decide) h
set_option maxHeartbeats 1000000
def sameS (r q : Rs) : Bool := decide (r.num = q.num /\ r.code = q.code /\ r.ser = q.ser /\ r.port = q.port /\ r.time = q.time /\ r.kind = q.kind /\ r.more = q.more /\ r.key = q.key /\ r.counts = q.counts /\ r.cells = q.cells /\ r.events = q.events /\ r.ports = q.ports /\ r.handles = q.handles)
theorem sameS_iff {r q : Rs} : sameS r q = true ↔ r = q := by
 rw [sameS, decide_eq_true_eq];constructor
 · rintro ⟨h1, h2, h3, h4, h5, h6, h7, h8, h9, h10, h11, h12, h13⟩
   cases r; cases q
   simp only at *
   subst h1 h2 h3 h4 h5 h6 h7 h8 h9 h10 h11 h12 h13;rfl
 · rintro rfl; simp
set_option maxHeartbeats 1000000
theorem i64_wrapR (x : Int) : i64R (IntKind.i64.wrap x) := by
 rw [IntKind.wrap_i64];unfold i64R;omega
theorem u8_wrapR (x : Int) : 0 <= IntKind.u8.wrap x /\ IntKind.u8.wrap x <= 255 := by
 rw [IntKind.wrap_u8]; omega
theorem unfold_range {y : Int} (h : 0 <= y /\ y <= 18446744073709551615) : i64R (unfoldZ y) := by
 unfold unfoldZ i64R
 split <;> omega
theorem numQ_R (s : RS) : i64R (numQ s).1 := i64_wrapR _
theorem runAll_all {α : Type} {take : RS -> α × RS} {Q : α -> Prop} (h : ∀ s : RS, byteL s.1 -> Q (take s).1 /\ byteL (take s).2.1) : ∀ (k : Nat) (s : RS), byteL s.1 -> ∀ x ∈ (runAll take k s).1, Q x
 | 0, s, _, x, hx => by cases hx
 | k + 1, s, hb, x, hx => by
   rw [runAll] at hx
   split at hx
   · cases hx
   · rcases List.mem_cons.1 hx with rfl | hx
     · exact (h s hb).1
     · exact runAll_all h k _ (h s hb).2 x hx
theorem keyQ_R (s : RS) : i64R (keyQ s).1.1 /\ i64R (keyQ s).1.2.1 /\ i64R (keyQ s).1.2.2 := ⟨numQ_R _, numQ_R _, numQ_R _⟩
theorem ev_all (s : RS) (hb : byteL s.1) : ((i64R (evQ s).1.1.1 /\ i64R (evQ s).1.1.2.1 /\ i64R (evQ s).1.1.2.2) /\ i64R (evQ s).1.2.1 /\ i64R (evQ s).1.2.2) /\ byteL (evQ s).2.1 := by
 obtain ⟨_, b1, _⟩ := key_len hb;obtain ⟨_, b2, _⟩ := num_len b1;obtain ⟨_, b3, _⟩ := next_len b2;exact ⟨⟨keyQ_R s, numQ_R _, unfold_range (nextR_range b2)⟩, b3⟩
theorem sz_bytes {s : RS} (hb : byteL s.1) : byteL (szQ s).2.1 := by
 obtain ⟨_, b1, _⟩ := num_len hb;obtain ⟨_, b2, _⟩ := num_len b1;exact (num_len b2).2.1
theorem port_all (s : RS) (hb : byteL s.1) : (i64R (portQ s).1.1 /\ byteL (portQ s).1.2.1 /\ i64R (portQ s).1.2.2) /\ byteL (portQ s).2.1 := by
 have hz := sz_bytes hb;unfold portQ;split
 · exact ⟨⟨by simp [i64R], (fun z hz => by cases hz), by simp [i64R]⟩, hz⟩
 · exact ⟨⟨numQ_R _, fun z h => hz z (List.mem_of_mem_take h), numQ_R _⟩, fun z h => hz z (List.mem_of_mem_drop h)⟩
theorem hd_all (s : RS) (hb : byteL s.1) : ((i64R (hdQ s).1.1 /\ i64R (hdQ s).1.2.1 /\ i64R (hdQ s).1.2.2.1 /\ i64R (hdQ s).1.2.2.2.1) /\ 0 <= (hdQ s).1.2.2.2.2 /\ (hdQ s).1.2.2.2.2 <= 255) /\ byteL (hdQ s).2.1 := by
 obtain ⟨_, a2, _⟩ := num_len hb;obtain ⟨s1, h1⟩ : ∃ s1, (numQ s).2 = s1 := ⟨_, rfl⟩;rw [h1] at a2;obtain ⟨_, b2, _⟩ := num_len a2;obtain ⟨s2, h2⟩ : ∃ s2, (numQ s1).2 = s2 := ⟨_, rfl⟩;rw [h2] at b2;obtain ⟨_, c2, _⟩ := num_len b2;obtain ⟨s3, h3⟩ : ∃ s3, (numQ s2).2 = s3 := ⟨_, rfl⟩;rw [h3] at c2;obtain ⟨_, d2, _⟩ := num_len c2;obtain ⟨s4, h4⟩ : ∃ s4, (numQ s3).2 = s4 := ⟨_, rfl⟩;rw [h4] at d2;obtain ⟨_, e2, _⟩ := num_len d2;rw [hd_rest h1 h2 h3 h4];refine ⟨?_, e2⟩;rw [hd_eq, h1, h2, h3, h4];exact ⟨⟨numQ_R _, numQ_R _, numQ_R _, numQ_R _⟩, u8_wrapR _⟩
theorem val_all (s : RS) (hb : byteL s.1) : i64R (valQ s).1 /\ byteL (valQ s).2.1 := ⟨unfold_range (nextR_range hb), (next_len hb).2.1⟩
theorem num_all (s : RS) (hb : byteL s.1) : i64R (numQ s).1 /\ byteL (numQ s).2.1 := ⟨numQ_R s, (num_len hb).2.1⟩
theorem ok_take {r : Rs} (h : okRs r) (t : Int) {bs : List Int} (hb : byteL bs) : okRs (takeS r t bs).1 := by
 have hn := numQ_R (bs, false);have hk := keyQ_R (bs, false);have hu := u8_wrapR (imin (numQ (bs, false)).1 255);have h9 := runAll_all num_all bs.length (bs, false) hb;have h10 := runAll_all val_all bs.length (bs, false) hb;have h11 := runAll_all (Q := fun (x : EvT) => (i64R x.1.1 /\ i64R x.1.2.1 /\ i64R x.1.2.2) /\ i64R x.2.1 /\ i64R x.2.2) ev_all bs.length (bs, false) hb;have h12 := runAll_all (Q := fun (x : PtT) => i64R x.1 /\ byteL x.2.1 /\ i64R x.2.2) port_all bs.length (bs, false) hb
 have h13 := runAll_all (Q := fun (x : HdT) => (i64R x.1 /\ i64R x.2.1 /\ i64R x.2.2.1 /\ i64R x.2.2.2.1) /\ 0 <= x.2.2.2.2 /\ x.2.2.2.2 <= 255) hd_all bs.length (bs, false) hb;obtain ⟨a1, a2, a3, a4, a5, a6, a7, a8, a9, a10, a11, a12⟩ := h;rw [takeS]
 by_cases e1 : t = 1
 · rw [if_pos e1]; constructor <;> assumption
 rw [if_neg e1]
 by_cases e2 : t = 2
 · rw [if_pos e2]; constructor <;> assumption
 rw [if_neg e2]
 by_cases e3 : t = 3
 · rw [if_pos e3]; constructor <;> assumption
 rw [if_neg e3]
 by_cases e4 : t = 4
 · rw [if_pos e4]; constructor <;> assumption
 rw [if_neg e4]
 by_cases e5 : t = 5
 · rw [if_pos e5]; constructor <;> assumption
 rw [if_neg e5]
 by_cases e6 : t = 6
 · rw [if_pos e6]; constructor <;> assumption
 rw [if_neg e6]
 by_cases e7 : t = 7
 · rw [if_pos e7]; constructor <;> assumption
 rw [if_neg e7]
 by_cases e8 : t = 8
 · rw [if_pos e8]; constructor <;> assumption
 rw [if_neg e8]
 by_cases e9 : t = 9
 · rw [if_pos e9]; constructor <;> assumption
 rw [if_neg e9]
 by_cases e10 : t = 10
 · rw [if_pos e10]; constructor <;> assumption
 rw [if_neg e10]
 by_cases e11 : t = 11
 · rw [if_pos e11]; constructor <;> assumption
 rw [if_neg e11]
 by_cases e12 : t = 12
 · rw [if_pos e12]; constructor <;> assumption
 rw [if_neg e12]
 by_cases e13 : t = 13
 · rw [if_pos e13]; constructor <;> assumption
 rw [if_neg e13]
 constructor <;> assumption
theorem counts_take {r : Rs} {B : Nat} (h : r.counts.length <= B) (t : Int) {bs : List Int} (hb : bs.length <= B) : (takeS r t bs).1.counts.length <= B := by
 have := runAll_len (take := numQ) bs.length (bs, false);rw [takeS]
 by_cases e1 : t = 1
 · rw [if_pos e1]; first | exact h | exact Nat.le_trans this hb
 rw [if_neg e1]
 by_cases e2 : t = 2
 · rw [if_pos e2]; first | exact h | exact Nat.le_trans this hb
 rw [if_neg e2]
 by_cases e3 : t = 3
 · rw [if_pos e3]; first | exact h | exact Nat.le_trans this hb
 rw [if_neg e3]
 by_cases e4 : t = 4
 · rw [if_pos e4]; first | exact h | exact Nat.le_trans this hb
 rw [if_neg e4]
 by_cases e5 : t = 5
 · rw [if_pos e5]; first | exact h | exact Nat.le_trans this hb
 rw [if_neg e5]
 by_cases e6 : t = 6
 · rw [if_pos e6]; first | exact h | exact Nat.le_trans this hb
 rw [if_neg e6]
 by_cases e7 : t = 7
 · rw [if_pos e7]; first | exact h | exact Nat.le_trans this hb
 rw [if_neg e7]
 by_cases e8 : t = 8
 · rw [if_pos e8]; first | exact h | exact Nat.le_trans this hb
 rw [if_neg e8]
 by_cases e9 : t = 9
 · rw [if_pos e9]; first | exact h | exact Nat.le_trans this hb
 rw [if_neg e9]
 by_cases e10 : t = 10
 · rw [if_pos e10]; first | exact h | exact Nat.le_trans this hb
 rw [if_neg e10]
 by_cases e11 : t = 11
 · rw [if_pos e11]; first | exact h | exact Nat.le_trans this hb
 rw [if_neg e11]
 by_cases e12 : t = 12
 · rw [if_pos e12]; first | exact h | exact Nat.le_trans this hb
 rw [if_neg e12]
 by_cases e13 : t = 13
 · rw [if_pos e13]; first | exact h | exact Nat.le_trans this hb
 rw [if_neg e13];exact h
def zeroRs : Rs := { num := 0, code := 0, ser := 0, port := 0, time := 0, kind := 0, more := false, key := (0, 0, 0), counts := [], cells := [], events := [], ports := [], handles := [] }
def nilY : Ys := ⟨.slice none 0 0, .slice none 0 0, .slice none 0 0, .slice none 0 0, .slice none 0 0⟩
theorem zero_ok : okRs zeroRs := by
 refine ⟨?_, ?_, ?_, ?_, ?_, ?_, ?_, ?_, ?_, ?_, ?_, ?_⟩
 all_goals simp [zeroRs, i64R]
theorem lst_nil (sz : Nat) (I : Mem) : LstM sz I (.slice none 0 0) [] := ⟨none, 0, 0, rfl, sl_nil _ _, Nat.le_refl 0, Nat.zero_le _⟩
theorem zero_M (I : Mem) : RsM I zeroRs nilY := ⟨lst_nil 1 I, lst_nil 1 I, lst_nil 5 I, lst_nil 3 I, lst_nil 5 I⟩
theorem newL_nil (sz : Nat) (I I' : Mem) : NewL sz I I' (.slice none 0 0) := fun a n c h => by cases h; exact fun hc => absurd hc (by omega)
theorem zero_N (I I' : Mem) : NewY I I' nilY := ⟨newL_nil 1 I I', newL_nil 1 I I', newL_nil 5 I I', newL_nil 3 I I', newL_nil 5 I I'⟩
def runTS (r : Rs) : List (Int × List Int) -> Rs × Bool
 | [] => (r, true)
 | f :: l => if okS (takeS r f.1 f.2).2 then runTS (takeS r f.1 f.2).1 l else (r, false)
def flS (bs : List Int) : List (Int × List Int) := (readF (bs.drop 1)).1
def runS (bs : List Int) : Rs × Bool := runTS zeroRs (flS bs)
def accS (bs : List Int) : Bool := decide (1 <= bs.length) && (decide (bs[0]? = some 1) && (decide ((readF (bs.drop 1)).2.2 = 0) && ((runS bs).2 && (rightS (runS bs).1 && decide (writeS (runS bs).1 = bs)))))
def readS (bs : List Int) : Rs × Int := if accS bs then ((runS bs).1, 0) else (zeroRs, 351)
def ReadP (bs : List Int) (I I' : Mem) (v : Value) : Prop := ∃ y, v = .tuple #[.agg (rsV (readS bs).1 y).toArray, .int .i64 (readS bs).2] /\ RsM I' (readS bs).1 y /\ NewY I I' y
theorem cs_agg {P : Program} {fv : SV} {x : SV} {a b : Value} {H : List Ent} {I : Mem} {post : SV -> List Ent -> Mem -> Prop} (h : CtS P fv [x, .v (.agg #[a, b])] H I post) : CtS P fv [x, .agg [.v a, .v b]] H I post :=
 fun e hp hO => h e hp hO
def cellsE : List RSh := [.sh (.int .i64), .sh (.int .i64), .sh (.int .i64), .sh (.int .i64), .sh (.int .i64), .sh (.int .u8), .sh .bool, .sh (.int .i64), .sh (.int .i64), .sh (.int .i64), .sh .sl, .sh .sl, .sh .sl, .sh .sl, .sh .sl]
def cellsA : List TA := [.sh (.int .i64), .sh (.int .i64), .sh (.int .i64), .sh (.int .i64), .sh (.int .i64), .sh (.int .u8), .sh .bool, .sh (.int .i64), .sh (.int .i64), .sh (.int .i64), .sh .sl, .sh .sl, .sh .sl, .sh .sl, .sh .sl]
def cB (x : Int) : List Value := [.int .u8 x]
theorem fm_u8 {l : List Int} : l.flatMap cB = ints .u8 l := by
 induction l with
 | nil => rfl
 | cons x r ih => rw [List.flatMap_cons, ih]; rfl
theorem ct18 (xs ys : List Int) (a b : Option Addr) (n m c d : Nat) (I : Mem) (h : SlM I a n 1 (xs.flatMap cB)) (h' : SlM I b m 1 (ys.flatMap cB)) :
 Ct Tryz.prog (fnv 18) #[.slice a n c, .slice b m d] I (fun v _ => v = .bool (decide (xs = ys))) := by
 obtain ⟨D, hD⟩ : ∃ D, D = decide (xs = ys) := ⟨_, rfl⟩;rw [<- hD]
 refine viaR (ct_via (A := { loops := [(4, ⟨[(0, .keep), (1, .keep), (12, .keep), (13, .sh (.int .i64))], [], [], fun vals _ _ _ => match vals with | [.int .i64 j] => 0 <= j /\ j <= n /\ xs.take j.toNat = ys.take j.toNat | _ => False, fun vals _ => match vals with | [.int .i64 j] => (n - j).toNat | _ => 0⟩)] }) Tryz.func18 rfl Tryz.call18 rfl rfl) (Br ((n : Int) != (m : Int)) (Value.bool false = .bool D) ((Rf (SV.v (.slice a n c)) /\ Rf (SV.v (.slice b m d)) /\ Rf (SV.v (.int .i64 (n : Int))) /\ (0 : Int) <= 0 /\ 0 <= (n : Int) /\ Rf ([] : List Int)) /\ ∀ (e : Mem), Mem -> I.le e -> ∀ (f : Int), 0 <= f /\ f <= (n : Int) /\ List.take f.toNat xs = List.take f.toNat ys -> Br (decide (f < (n : Int))) (0 <= f /\ f < (n : Int) /\ a.isSome = true /\ ∃ g, atI e a (f.toNat * 1 + 0) = some (.int .u8 g) /\ 0 <= f /\ f < (m : Int) /\ b.isSome = true /\ ∃ i, atI e b (f.toNat * 1 + 0) = some (.int .u8 i) /\ Br (g != i) (Value.bool false = .bool D) (Wr .i64 (f + 1) (fun j => Rf (SV.v (.slice a n c)) /\ Rf (SV.v (.slice b m d)) /\ Rf (SV.v (.int .i64 (n : Int))) /\ (0 <= j /\ j <= (n : Int) /\ List.take j.toNat xs = List.take j.toNat ys) /\ Int.toNat ((n : Int) - j) < Int.toNat ((n : Int) - f)))) (Value.bool true = .bool D))) (by kernel_rfl) ?_
 simp only [eq_self, true_and];have hx1 := h.len;have hy1 := h'.len;have hx2 := fm_len (c := cB) (k := 1) (fun _ => rfl) xs;have hy2 := fm_len (c := cB) (k := 1) (fun _ => rfl) ys;have hm := h.max
 have hmx : maxLen = 9223372036854775807 := by decide
 have hn : n = xs.length := by omega
 have hn' : m = ys.length := by omega
 refine Br.mk (fun g => ?_) (fun g => ⟨⟨by omega, by omega, trivial⟩, fun I1 _ l1 j ⟨j0, j1, hj⟩ => Br.mk (fun hlt => ?_) (fun hge => ?_)⟩)
 · have g : (n : Int) ≠ m := by simpa using g
   rw [hD, eq_len (by omega)]
 · have hlt := of_decide_eq_true hlt
   have g : n = m := by have : (n : Int) = m := (by simpa using g); omega
   obtain ⟨x, hx, e1⟩ := lst_at (c := cB) (k := 1) (fun _ => rfl) (h.mono l1) hn j0 hlt
   obtain ⟨z, hz, e2⟩ := lst_at (c := cB) (k := 1) (fun _ => rfl) (h'.mono l1) hn' j0 (by omega)
   refine ⟨j0, hlt, h.isSome (by omega), _, e1 0 _ (by omega) rfl, j0, by omega, h'.isSome (by omega), _, e2 0 _ (by omega) rfl, ?_⟩
   skip
   refine Br.mk (fun hq => ?_) (fun hq => ?_)
   · have hq : x ≠ z := by simpa using hq
     rw [hD, eq_at hx hz hq]
   · have hq : x = z := by simpa using hq
     refine wr_i64 (by omega) (by omega) ⟨⟨by omega, by omega, ?_⟩, by omega⟩
     rw [show (j + 1).toNat = j.toNat + 1 by omega, take_succ' hx, take_succ' hz, hj, hq]
 · have hge := of_decide_eq_false hge
   have g : n = m := by have : (n : Int) = m := (by simpa using g); omega
   rw [List.take_of_length_le (by omega), List.take_of_length_le (by omega)] at hj
   rw [hD, decide_eq_true hj]
set_option maxHeartbeats 2000000 in
theorem ct7 (bs : List Int) (hbs : byteL bs) (a : Option Addr) (n c : Nat) (I : Mem) (h : SlM I a n 1 (ints .u8 bs)) (hn : n <= 1000000) (hc : n <= c) (hm : c <= maxLen) :
 Ct Tryz.prog (fnv 7) #[.slice a n c] I (fun v I' => ReadP bs I I' v) := by
 refine viaR (ctF_via (A := { calls := [(38, .lend [1] (.sh .bool) [.cells cellsE 34])], loops := [(8, ⟨[(0, .keep), (2, .keep), (7, .keep), (31, .keep), (32, .keep), (33, .sh (.int .i64))], [(0, .keep), (1, .cells cellsA)], [], fun vals _ I' _ => match vals with | .int .i64 j :: cs => 0 <= j /\ j <= (flS bs).length /\ ∃ r y, cs = rsV r y /\ okRs r /\ r.counts.length <= 1000000 /\ RsM I' r y /\ NewY I I' y /\ runS bs = runTS r ((flS bs).drop j.toNat) | _ => False, fun vals _ => match vals with | .int .i64 j :: cs => ((flS bs).length - j).toNat | _ => 0⟩)] }) Tryz.func7 rfl Tryz.call7 rfl rfl) (let E1 := Ent.mk (.cells [.v (.int .i64 0), .v (.int .i64 0), .v (.int .i64 0), .v (.int .i64 0), .v (.int .i64 0), .v (.int .u8 0), .v (.bool false), .v (.int .i64 0), .v (.int .i64 0), .v (.int .i64 0), .v (.slice none 0 0), .v (.slice none 0 0), .v (.slice none 0 0), .v (.slice none 0 0), .v (.slice none 0 0)] 34) none
  Br (decide ((n : Int) < 1)) (ReadP bs I I (.tuple #[.agg #[.int .i64 0, .int .i64 0, .int .i64 0, .int .i64 0, .int .i64 0, .int .u8 0, .bool false, .int .i64 0, .int .i64 0, .int .i64 0, .slice none 0 0, .slice none 0 0, .slice none 0 0, .slice none 0 0, .slice none 0 0], .int .i64 351])) ((0 : Int) <= 0 /\ 0 < (n : Int) /\ a.isSome = true /\ ∃ b, atI I a 0 = some (.int .u8 b) /\ Br (b != 1) (ReadP bs I I (.tuple #[.agg #[.int .i64 0, .int .i64 0, .int .i64 0, .int .i64 0, .int .i64 0, .int .u8 0, .bool false, .int .i64 0, .int .i64 0, .int .i64 0, .slice none 0 0, .slice none 0 0, .slice none 0 0, .slice none 0 0, .slice none 0 0], .int .i64 351])) ((0 : Int) <= 1 /\ 1 <= (n : Int) /\ Ct Tryz.prog (fnv 16) #[.slice (sladdr a c 1 1) (n - 1) (c - 1)] I fun v d => ∃ e f g i j, v = .tuple #[.slice e f g, .int .i64 i, .int .i64 j] /\ Br (j != 0) (ReadP bs I d (.tuple #[.agg #[.int .i64 0, .int .i64 0, .int .i64 0, .int .i64 0, .int .i64 0, .int .u8 0, .bool false, .int .i64 0, .int .i64 0, .int .i64 0, .slice none 0 0, .slice none 0 0, .slice none 0 0, .slice none 0 0, .slice none 0 0], .int .i64 351])) ((Rf E1 /\ Rf (SV.v (.slice a n c)) /\ Rf (SV.ptr 0 0) /\ Rf (SV.ptr 1 0) /\ Rf (SV.v (.slice e f g)) /\ Rf (SV.v (.int .i64 (f : Int))) /\ Rf (none : Option Nat) /\ (0 : Int) <= 0 /\ 0 <= ((flS bs).length : Int) /\ ∃ r y, [Value.int .i64 0, .int .i64 0, .int .i64 0, .int .i64 0, .int .i64 0, .int .u8 0, .bool false, .int .i64 0, .int .i64 0, .int .i64 0, .slice none 0 0, .slice none 0 0, .slice none 0 0, .slice none 0 0, .slice none 0 0] = [.int .i64 r.num, .int .i64 r.code, .int .i64 r.ser, .int .i64 r.port, .int .i64 r.time, .int .u8 r.kind, .bool r.more, .int .i64 r.key.1, .int .i64 r.key.2.1, .int .i64 r.key.2.2, y.c, y.l, y.e, y.p, y.h] /\ okRs r /\ r.counts.length <= 1000000 /\ RsM d r y /\ NewY I d y /\ runS bs = runTS r (List.drop 0 (flS bs))) /\ ∀ (k : Mem), Mem -> d.le k -> ∀ (l m o p q r s : Int) (t : Bool) (u w x : Int) (y : Option Addr) (z c1 : Nat) (a1 : Option Addr) (n1 c2 : Nat) (a2 : Option Addr) (n2 c3 : Nat) (a3 : Option Addr) (n3 c4 : Nat) (a4 : Option Addr) (n4 c5 : Nat), 0 <= l /\ l <= ((flS bs).length : Int) /\ (∃ r1 y1, [Value.int .i64 m, .int .i64 o, .int .i64 p, .int .i64 q, .int .i64 r, .int .u8 s, .bool t, .int .i64 u, .int .i64 w, .int .i64 x, .slice y z c1, .slice a1 n1 c2, .slice a2 n2 c3, .slice a3 n3 c4, .slice a4 n4 c5] = [.int .i64 r1.num, .int .i64 r1.code, .int .i64 r1.ser, .int .i64 r1.port, .int .i64 r1.time, .int .u8 r1.kind, .bool r1.more, .int .i64 r1.key.1, .int .i64 r1.key.2.1, .int .i64 r1.key.2.2, y1.c, y1.l, y1.e, y1.p, y1.h] /\ okRs r1 /\ r1.counts.length <= 1000000 /\ RsM k r1 y1 /\ NewY I k y1 /\ runS bs = runTS r1 (List.drop l.toNat (flS bs))) -> Br (decide (l < (f : Int))) (0 <= l /\ l < (f : Int) /\ e.isSome = true /\ (2 : Nat) = 2 /\ ∃ n5, atI k e (l.toNat * 2 + 0) = some (.int .i64 n5) /\ ∃ a5 n6 c6, atI k e (l.toNat * 2 + 1) = some (.slice a5 n6 c6) /\ ∀ (b1 : Nat), CtS Tryz.prog (.v (fnv 17)) [.ptr 0 0, .agg [.v (.int .i64 n5), .v (.slice a5 n6 c6)]] [⟨.cells [.v (.int .i64 m), .v (.int .i64 o), .v (.int .i64 p), .v (.int .i64 q), .v (.int .i64 r), .v (.int .u8 s), .v (.bool t), .v (.int .i64 u), .v (.int .i64 w), .v (.int .i64 x), .v (.slice y z c1), .v (.slice a1 n1 c2), .v (.slice a2 n2 c3), .v (.slice a3 n3 c4), .v (.slice a4 n4 c5)] 34, some b1⟩] k fun s1 H I1 => ∃ b2 n7 n8 n9 n10 n11 n12 b3 n13 n14 n15 a6 n16 c7 a7 n17 c8 a8 n18 c9 a9 n19 c10 a10 n20 c11, s1 = .v (.bool b2) /\ H = [⟨.cells [.v (.int .i64 n7), .v (.int .i64 n8), .v (.int .i64 n9), .v (.int .i64 n10), .v (.int .i64 n11), .v (.int .u8 n12), .v (.bool b3), .v (.int .i64 n13), .v (.int .i64 n14), .v (.int .i64 n15), .v (.slice a6 n16 c7), .v (.slice a7 n17 c8), .v (.slice a8 n18 c9), .v (.slice a9 n19 c10), .v (.slice a10 n20 c11)] 34, some b1⟩] /\ Br (!b2) (ReadP bs I I1 (.tuple #[.agg #[.int .i64 0, .int .i64 0, .int .i64 0, .int .i64 0, .int .i64 0, .int .u8 0, .bool false, .int .i64 0, .int .i64 0, .int .i64 0, .slice none 0 0, .slice none 0 0, .slice none 0 0, .slice none 0 0, .slice none 0 0], .int .i64 351])) (Wr .i64 (l + 1) (fun c12 => Rf E1 /\ Rf (SV.v (.slice a n c)) /\ Rf (SV.ptr 0 0) /\ Rf (SV.ptr 1 0) /\ Rf (SV.v (.slice e f g)) /\ Rf (SV.v (.int .i64 (f : Int))) /\ (0 <= c12 /\ c12 <= ((flS bs).length : Int) /\ ∃ r1 y1, [Value.int .i64 n7, .int .i64 n8, .int .i64 n9, .int .i64 n10, .int .i64 n11, .int .u8 n12, .bool b3, .int .i64 n13, .int .i64 n14, .int .i64 n15, .slice a6 n16 c7, .slice a7 n17 c8, .slice a8 n18 c9, .slice a9 n19 c10, .slice a10 n20 c11] = [.int .i64 r1.num, .int .i64 r1.code, .int .i64 r1.ser, .int .i64 r1.port, .int .i64 r1.time, .int .u8 r1.kind, .bool r1.more, .int .i64 r1.key.1, .int .i64 r1.key.2.1, .int .i64 r1.key.2.2, y1.c, y1.l, y1.e, y1.p, y1.h] /\ okRs r1 /\ r1.counts.length <= 1000000 /\ RsM I1 r1 y1 /\ NewY I I1 y1 /\ runS bs = runTS r1 (List.drop c12.toNat (flS bs))) /\ Int.toNat (((flS bs).length : Int) - c12) < Int.toNat (((flS bs).length : Int) - l)))) (Ct Tryz.prog (fnv 13) #[.agg #[.int .i64 m, .int .i64 o, .int .i64 p, .int .i64 q, .int .i64 r, .int .u8 s, .bool t, .int .i64 u, .int .i64 w, .int .i64 x, .slice y z c1, .slice a1 n1 c2, .slice a2 n2 c3, .slice a3 n3 c4, .slice a4 n4 c5]] k (fun v1 I1 => ∃ a5 n5 c6 n6, v1 = .tuple #[.slice a5 n5 c6, .int .i64 n6] /\ Br (n6 != 0) (ReadP bs I I1 (.tuple #[.agg #[.int .i64 0, .int .i64 0, .int .i64 0, .int .i64 0, .int .i64 0, .int .u8 0, .bool false, .int .i64 0, .int .i64 0, .int .i64 0, .slice none 0 0, .slice none 0 0, .slice none 0 0, .slice none 0 0, .slice none 0 0], .int .i64 351])) (Ct Tryz.prog (fnv 18) #[.slice a5 n5 c6, .slice a n c] I1 (fun v2 I2 => ∃ b1, v2 = .bool b1 /\ Br (!b1) (ReadP bs I I2 (.tuple #[.agg #[.int .i64 0, .int .i64 0, .int .i64 0, .int .i64 0, .int .i64 0, .int .u8 0, .bool false, .int .i64 0, .int .i64 0, .int .i64 0, .slice none 0 0, .slice none 0 0, .slice none 0 0, .slice none 0 0, .slice none 0 0], .int .i64 351])) (ReadP bs I I2 (.tuple #[.agg #[.int .i64 m, .int .i64 o, .int .i64 p, .int .i64 q, .int .i64 r, .int .u8 s, .bool t, .int .i64 u, .int .i64 w, .int .i64 x, .slice y z c1, .slice a1 n1 c2, .slice a2 n2 c3, .slice a3 n3 c4, .slice a4 n4 c5], .int .i64 0])))))))))) (by kernel_rfl) ?_
 intro E1;simp only [eq_self, true_and]
 have hmx : maxLen = 9223372036854775807 := by decide
 have hln := h.numLen
 have Z : ∀ {J : Mem}, accS bs = false -> ReadP bs I J (.tuple #[.agg (rsV zeroRs nilY).toArray, .int .i64 351]) := fun {J} hz => by
  have : readS bs = (zeroRs, 351) := by rw [readS, hz]; rfl
  refine ⟨nilY, ?_, ?_, zero_N _ _⟩
  · rw [this]
  · rw [this]; exact zero_M J
 refine Br.mk (fun h1 => Z ?_) (fun h1 => ?_)
 · have h1 := of_decide_eq_true h1
   rw [accS, decide_eq_false (by omega)]; rfl
 have h1 := of_decide_eq_false h1
 obtain ⟨x0, hx0, e0⟩ := h.intAt (i := 0) (by omega) (by omega)
 have hx0 : bs[0]? = some x0 := hx0
 refine ⟨by omega, by omega, h.isSome (by omega), x0, e0, Br.mk (fun h2 => Z ?_) (fun h2 => ?_)⟩
 · have h2 : x0 ≠ 1 := by simpa using h2
   rw [accS, hx0, decide_eq_false (p := some x0 = some 1) (fun hc => h2 (Option.some.inj hc)), Bool.false_and, Bool.and_false]
 have h2 : x0 = 1 := by simpa using h2
 have hsub := sl_sub h (f := 1) (t := n) (by omega) (by omega) hc
 rw [List.take_of_length_le (by rw [List.length_drop]; omega)] at hsub
 have hbd : byteL (bs.drop 1) := fun z hz => hbs z (List.mem_of_mem_drop hz)
 refine ⟨by omega, by omega, (ct16 (bs.drop 1) hbd _ (n - 1) (c - 1) I hsub (by omega) (by omega) (by omega)).mono fun v I1 l1 ⟨a1, n1, c1, hv, hF, hn1, hc1⟩ => ⟨_, _, _, _, _, hv, Br.mk (fun h3 => Z ?_) (fun h3 => ?_)⟩⟩
 · have h3 : (readF (bs.drop 1)).2.2 ≠ 0 := by simpa using h3
   rw [accS, decide_eq_false (p := (readF (bs.drop 1)).2.2 = 0) h3]
   simp
 have h3 : (readF (bs.drop 1)).2.2 = 0 := by simpa using h3
 have hacc : accS bs = ((runS bs).2 && (rightS (runS bs).1 && decide (writeS (runS bs).1 = bs))) := by
  rw [accS, hx0, h2, decide_eq_true (p := 1 <= bs.length) (by omega), h3]; simp
 have hF : FldM I1 a1 n1 (flS bs) := hF;have hlen := hF.len
 have hle : ∀ f ∈ flS bs, f.2.length <= 16384 := by
  rcases read_cases (bs.drop 1) hbd with ⟨_, _, hr, _⟩ | ⟨hr, _⟩
  · intro f hf
    have := right_at (rightF_iff.1 hr).1 f hf;omega
  · intro f hf
    have : flS bs = [] := hr
    rw [this] at hf; cases hf
 refine ⟨⟨by omega, by omega, zeroRs, nilY, rfl, zero_ok, by simp [zeroRs], zero_M I1, zero_N I I1, rfl⟩, fun I2 _ l2 j y0 y1 y2 y3 y4 y5 y6 y7 y8 y9 ac nc cc al nl cl ae ne ce ap np cp ah nh ch ⟨j0, j1, r, y, heq, okr, hcr, hM, hN, hrun⟩ => ?_⟩
 obtain ⟨yc, yl, ye, yp, yh⟩ := y;simp only [List.cons.injEq, Value.int.injEq, Value.bool.injEq, true_and, and_true] at heq;obtain ⟨rfl, rfl, rfl, rfl, rfl, rfl, rfl, rfl, rfl, rfl, rfl, rfl, rfl, rfl, rfl⟩ := heq;refine Br.mk (fun hlt => ?_) (fun hge => ?_)
 · have hlt := of_decide_eq_true hlt
   obtain ⟨f, b, m, c', hf, hokf, e2, e3, hfs, hm1, hm2⟩ := (hF.mono l2).at_ j0 hlt;have hfm := List.mem_of_getElem? hf;have hml := hfs.numLen;have hf16 := hle f hfm;rw [drop_cons hf, runTS] at hrun
   refine ⟨j0, hlt, hF.isSome (by omega), _, e2, _, _, _, e3, fun kb => ?_⟩
   refine (cs_agg (cs17 f.1 kb r ⟨_, _, _, _, _⟩ f.2 hokf.2 b m c' I I2 hfs hm1 hm2 (by omega))).mono fun sv H' I3 l3 ⟨y', hv, hH, hM', hN'⟩ => ?_
   have hM3 := hM' hM;have hN3 := hN' hN (Mem.le_trans l1 l2);have okr' := ok_take okr f.1 hokf.2
   have hcr' := counts_take hcr f.1 (bs := f.2) (by omega)
   obtain ⟨⟨a5, n5, c5, q1, _⟩, ⟨a6, n6, c6, q2, _⟩, ⟨a7, n7, c7, q3, _⟩, ⟨a8, n8, c8, q4, _⟩, ⟨a9, n9, c9, q5, _⟩⟩ := id hM3;obtain ⟨zc, zl, ze, zp, zh⟩ := y'
   simp only at q1 q2 q3 q4 q5
   subst q1 q2 q3 q4 q5;generalize (takeS r f.1 f.2).1 = r' at *;refine ⟨_, _, _, _, _, _, _, _, _, _, _, _, _, _, _, _, _, _, _, _, _, _, _, _, _, _, hv, hH, Br.mk (fun hb => Z ?_) (fun hb => ?_)⟩
   · have hb : okS (takeS r f.1 f.2).2 = false := by simpa using hb
     rw [if_neg (by rw [hb]; simp)] at hrun
     rw [hacc, hrun]; rfl
   · have hb : okS (takeS r f.1 f.2).2 = true := by simpa using hb
     rw [if_pos hb] at hrun
     refine wr_i64 (by omega) (by omega) ⟨⟨by omega, by omega, r', ⟨_, _, _, _, _⟩, rfl, okr', hcr', hM3, hN3, ?_⟩, by omega⟩
     rw [show (j + 1).toNat = j.toNat + 1 by omega]; exact hrun
 · have hge := of_decide_eq_false hge
   rw [List.drop_eq_nil_of_le (by omega), runTS] at hrun
   rw [hrun, Bool.true_and] at hacc;refine (ct13 r okr _ I2 hM hcr).mono fun v I3 l3 ⟨a3, n3, c3, hv, hs3, hn3, hc3, _⟩ => ⟨_, _, _, _, hv, Br.mk (fun hb => Z ?_) (fun hb => ?_)⟩
   · have hb : rightS r = false := by
      cases hrr : rightS r with
      | false => rfl
      | true => rw [hrr] at hb; cases hb
     rw [hacc, hb]; rfl
   · have hb : rightS r = true := by
      cases hrr : rightS r with
      | true => rfl
      | false => rw [hrr] at hb; cases hb
     rw [hb, if_pos rfl] at hs3;rw [hb, Bool.true_and] at hacc;have hI := h.mono (Mem.le_trans l1 (Mem.le_trans l2 l3));rw [<- fm_u8] at hs3 hI;refine (ct18 (writeS r) bs a3 a n3 n c3 c I3 hs3 hI).mono fun v I4 l4 hv => ⟨_, hv, Br.mk (fun hq => Z ?_) (fun hq => ?_)⟩
     · rw [hacc]; simpa using hq
     · have hq : decide (writeS r = bs) = true := by simpa using hq
       rw [hq] at hacc
       have hR : readS bs = (r, 0) := by rw [readS, hacc, if_pos rfl, hrun]
       refine ⟨⟨_, _, _, _, _⟩, ?_, ?_, hN.mono (Mem.le_trans l3 l4)⟩
       · rw [hR]; rfl
       · rw [hR]; exact hM.mono (Mem.le_trans l3 l4)
set_option maxHeartbeats 1000000
def e1 : Rs := { zeroRs with num := 1, kind := 6, time := 5 }
def e2 : Rs := { zeroRs with num := 300, code := 341 }
def e3 : Rs := { zeroRs with num := 1, cells := [-1] }
theorem ok_e : okRs e1 /\ okRs e2 /\ okRs e3 := by
 refine ⟨?_, ?_, ?_⟩
 all_goals constructor
 all_goals first
  | (intro z hz; cases hz; done)
  | (intro z hz; rw [List.mem_singleton.1 hz]; simp [i64R])
  | (simp [e1, e2, e3, zeroRs, i64R])
theorem f300 : formN 300 = [248, 1, 44] := by simp [formN, digN, be]
theorem f341 : formN 341 = [248, 1, 85] := by simp [formN, digN, be]
theorem fields_e2 : fieldsS e2 = [(1, [248, 1, 44]), (3, [248, 1, 85])] := by
 have h1 : fN 1 300 = (1, [248, 1, 44]) := by
  show (1, formN (IntKind.u64.wrap 300).toNat) = _
  rw [show (IntKind.u64.wrap 300).toNat = 300 by decide, f300]
 have h2 : fN 3 341 = (3, [248, 1, 85]) := by
  show (3, formN (IntKind.u64.wrap 341).toNat) = _
  rw [show (IntKind.u64.wrap 341).toNat = 341 by decide, f341]
 have : fieldsS e2 = [fN 1 300, fN 3 341] := rfl;rw [this, h1, h2]
theorem fields_e1 : fieldsS e1 = [(1, [1]), (2, [6]), (6, [5])] := by decide +kernel
theorem fields_e3 : fieldsS e3 = [(1, [1]), (10, [1])] := by decide +kernel
theorem vok_e : vokS e1 = true /\ vokS e2 = true /\ vokS e3 = true := by decide +kernel
theorem right_e : rightS e1 = true /\ rightS e2 = true /\ rightS e3 = true := by
 obtain ⟨h1, h2, h3⟩ := vok_e;rw [rightS, rightS, rightS, h1, h2, h3, fields_e1, fields_e2, fields_e3]
 decide +kernel
theorem write_e : writeS e1 = [1, 1, 1, 1, 2, 1, 6, 6, 1, 5] /\ writeS e2 = [1, 1, 3, 248, 1, 44, 3, 3, 248, 1, 85] /\ writeS e3 = [1, 1, 1, 1, 10, 1, 1] := by
 rw [writeS, writeS, writeS, fields_e1, fields_e2, fields_e3]
 decide +kernel
theorem acc_no {bs : List Int} (h : (runS bs).2 = false \/ rightS (runS bs).1 = false \/ writeS (runS bs).1 ≠ bs) : accS bs = false := by
 rw [accS]
 rcases h with h | h | h
 · rw [h]; simp
 · rw [h]; simp
 · rw [decide_eq_false (p := writeS _ = _) h]; simp
theorem n1 : accS [1] = false := by
 have h : flS [1] = [] := by show (readF []).1 = []; simp [readF, yields, goF]
 refine acc_no (.inr (.inl ?_))
 rw [runS, h]; decide +kernel
theorem n2 : accS [1, 1, 1, 0] = false := by
 have h : flS [1, 1, 1, 0] = [(1, [0])] := by show (readF [1, 1, 0]).1 = _; simp [readF, yields, fstep, intN, readN, goF]
 refine acc_no (.inr (.inl ?_))
 rw [runS, h]; decide +kernel
theorem n3 : accS [2, 1, 1, 1] = false := by
 rw [accS]; simp
theorem n4 : accS [1, 1, 1, 1, 2, 1, 0] = false := by
 have h : flS [1, 1, 1, 1, 2, 1, 0] = [(1, [1]), (2, [0])] := by show (readF [1, 1, 1, 2, 1, 0]).1 = _; simp [readF, yields, fstep, intN, readN, goF]
 refine acc_no (.inr (.inr ?_))
 rw [runS, h]; decide +kernel
theorem n5 : accS [1, 1, 1, 1, 7, 1, 0] = false := by
 have h : flS [1, 1, 1, 1, 7, 1, 0] = [(1, [1]), (7, [0])] := by show (readF [1, 1, 1, 7, 1, 0]).1 = _; simp [readF, yields, fstep, intN, readN, goF]
 refine acc_no (.inl ?_)
 rw [runS, h]; decide +kernel
theorem bysl_lit {I : Mem} {b n : Nat} {cs : Array Value} {el : TypeId} {bs : List Int} (h : I b = some (.cells cs el)) (hx : cs = (ints .u8 bs).toArray) (hn : n = bs.length) (hm : n <= 100) : SlM I (some ⟨b, 0, none⟩) n 1 (ints .u8 bs) := by
 subst hx
 have := sl_cells (n := n) (sz := 1) h (by simp [ints]; omega) (by simp only [maxLen]; omega)
 simpa using this
theorem ex_step (e : Rs) (hok : okRs e) (y : Ys) (hc : e.counts.length <= 1000000) (hr : rightS e = true) (form : List Int) (hw : writeS e = form) (hf : byteL form) (J : Mem) (hM : RsM J e y) (b : Option Addr) (m c : Nat) (hs : SlM J b m 1 (ints .u8 form)) (Q : Prop) (hq : Q) :
 Ct Tryz.prog (fnv 13) #[.agg (rsV e y).toArray] J (fun v I' => ∃ a n_13 c_1 n_14, v = Value.tuple #[Value.slice a n_13 c_1, Value.int .i64 n_14] /\ Br (n_14 != 0) (Value.bool false = Value.bool true) (Ct Tryz.prog (fnv 14) #[Value.slice a n_13 c_1, Value.slice b m c] I' fun v I' => ∃ b, v = Value.bool b /\ Br (!b) (Value.bool false = Value.bool true) Q)) := by
 refine (ct13 e hok y J hM hc).mono fun v I1 l1 ⟨a, n, c', hv, h1, h2, h3, _⟩ => ⟨_, _, _, _, hv, ?_⟩;rw [hr, if_pos rfl, hw] at h1;rw [hr]
 exact Br.f rfl ((ct14 form form hf hf a b n c' m c I1 h1 (hs.mono l1)).mono fun v I2 l2 hv => ⟨_, hv, Br.f (by simp) hq⟩)
theorem no_step (bs : List Int) (hb : byteL bs) (hno : accS bs = false) (J : Mem) (b : Option Addr) (m : Nat) (hm : m <= 100) (hs : SlM J b m 1 (ints .u8 bs)) (Q : Mem -> Prop) (hq : ∀ J', J.le J' -> Q J') :
 Ct Tryz.prog (fnv 7) #[.slice b m m] J (fun v I' => ∃ n_2 n_3 n_4 n_5 n_6 n_7 b n_8 n_9 n_10 a n_11 c a_1 n_12 c_1 a_2 n_13 c_2 a_3 n_14 c_3 a_4 n_15 c_4 n_16, v = Value.tuple #[Value.agg #[Value.int IntKind.i64 n_2, Value.int IntKind.i64 n_3, Value.int IntKind.i64 n_4, Value.int IntKind.i64 n_5, Value.int IntKind.i64 n_6, Value.int IntKind.u8 n_7, Value.bool b, Value.int IntKind.i64 n_8, Value.int IntKind.i64 n_9, Value.int IntKind.i64 n_10, Value.slice a n_11 c, Value.slice a_1 n_12 c_1, Value.slice a_2 n_13 c_2, Value.slice a_3 n_14 c_3, Value.slice a_4 n_15 c_4], Value.int IntKind.i64 n_16] /\ Br (n_16 != 351) (Value.bool false = Value.bool true) (Q I')) := by
 refine (ct7 bs hb b m m J hs (by omega) (by omega) (by simp only [maxLen]; omega)).mono fun v I1 l1 ⟨y, hv, hM, _⟩ => ?_
 obtain ⟨⟨_, _, _, h1, _⟩, ⟨_, _, _, h2, _⟩, ⟨_, _, _, h3, _⟩, ⟨_, _, _, h4, _⟩, ⟨_, _, _, h5, _⟩⟩ := hM;obtain ⟨yc, yl, ye, yp, yh⟩ := y;subst h1 h2 h3 h4 h5
 have hr : readS bs = (zeroRs, 351) := by rw [readS, hno]; rfl
 rw [hr] at hv;exact ⟨_, _, _, _, _, _, _, _, _, _, _, _, _, _, _, _, _, _, _, _, _, _, _, _, _, _, hv, Br.f rfl (hq I1 l1)⟩
theorem ct5 (I : Mem) : Ct Tryz.prog (fnv 5) #[] I (fun v I' => v = .bool true) := by
 refine viaR (ct_via (A := { befores := [(2, [4]), (9, [10])], loops := [(2, ⟨[(19, .keep), (20, .keep), (21, .sh (.int .i64))], [], [], fun vals _ _ _ => match vals with | [.int .i64 j] => 0 <= j /\ j <= 3 | _ => False, fun vals _ => match vals with | [.int .i64 j] => (3 - j).toNat | _ => 0⟩), (9, ⟨[(46, .keep), (47, .keep), (48, .sh (.int .i64))], [], [], fun vals _ _ _ => match vals with | [.int .i64 j] => 0 <= j /\ j <= 5 | _ => False, fun vals _ => match vals with | [.int .i64 j] => (5 - j).toNat | _ => 0⟩)] }) Tryz.func5 rfl Tryz.call5 rfl rfl) (∀ (b : Nat) (a : Mem), I.le a -> a b = some (.cells #[.int .u8 1, .int .u8 1, .int .u8 1, .int .u8 1, .int .u8 2, .int .u8 1, .int .u8 6, .int .u8 6, .int .u8 1, .int .u8 5] 5 (0, 0)) -> ∀ (c : Nat) (d : Mem), a.le d -> d c = some (.cells #[.int .u8 1, .int .u8 1, .int .u8 3, .int .u8 248, .int .u8 1, .int .u8 44, .int .u8 3, .int .u8 3, .int .u8 248, .int .u8 1, .int .u8 85] 5 (0, 0)) -> ∀ (e : Nat) (f : Mem), d.le f -> f e = some (.cells #[.int .i64 (-1)] 2 (0, 0)) -> ∀ (g : Nat) (h : Mem), f.le h -> h g = some (.cells #[.int .u8 1, .int .u8 1, .int .u8 1, .int .u8 1, .int .u8 10, .int .u8 1, .int .u8 1] 5 (0, 0)) -> ∀ (i : Nat) (j : Mem), h.le j -> j i = some (.cells #[.int .i64 1, .int .i64 0, .int .i64 0, .int .i64 0, .int .i64 5, .int .u8 6, .bool false, .int .i64 0, .int .i64 0, .int .i64 0, .slice none 0 0, .slice none 0 0, .slice none 0 0, .slice none 0 0, .slice none 0 0, .slice (some ⟨b, 0, none⟩) 10 10, .int .i64 300, .int .i64 341, .int .i64 0, .int .i64 0, .int .i64 0, .int .u8 0, .bool false, .int .i64 0, .int .i64 0, .int .i64 0, .slice none 0 0, .slice none 0 0, .slice none 0 0, .slice none 0 0, .slice none 0 0, .slice (some ⟨c, 0, none⟩) 11 11, .int .i64 1, .int .i64 0, .int .i64 0, .int .i64 0, .int .i64 0, .int .u8 0, .bool false, .int .i64 0, .int .i64 0, .int .i64 0, .slice none 0 0, .slice (some ⟨e, 0, none⟩) 1 1, .slice none 0 0, .slice none 0 0, .slice none 0 0, .slice (some ⟨g, 0, none⟩) 7 7] 48 (0, 0)) -> (Rf (SV.v (.slice (some ⟨i, 0, none⟩) 3 3)) /\ Rf (SV.v (.int .i64 3)) /\ (0 : Int) <= 0 /\ (0 : Int) <= 3) /\ ∀ (k : Mem), Mem -> j.le k -> ∀ (n : Int), 0 <= n /\ n <= 3 -> Br (decide (n < 3)) (0 <= n /\ n < 3 /\ true = true /\ (16 : Nat) = 16 /\ ∃ l, atI k (some ⟨i, 0, none⟩) (n.toNat * 16 + 0) = some (.int .i64 l) /\ ∃ m, atI k (some ⟨i, 0, none⟩) (n.toNat * 16 + 1) = some (.int .i64 m) /\ ∃ o, atI k (some ⟨i, 0, none⟩) (n.toNat * 16 + 2) = some (.int .i64 o) /\ ∃ p, atI k (some ⟨i, 0, none⟩) (n.toNat * 16 + 3) = some (.int .i64 p) /\ ∃ q, atI k (some ⟨i, 0, none⟩) (n.toNat * 16 + 4) = some (.int .i64 q) /\ ∃ r, atI k (some ⟨i, 0, none⟩) (n.toNat * 16 + 5) = some (.int .u8 r) /\ ∃ s, atI k (some ⟨i, 0, none⟩) (n.toNat * 16 + 6) = some (.bool s) /\ ∃ t, atI k (some ⟨i, 0, none⟩) (n.toNat * 16 + 7) = some (.int .i64 t) /\ ∃ u, atI k (some ⟨i, 0, none⟩) (n.toNat * 16 + 8) = some (.int .i64 u) /\ ∃ v, atI k (some ⟨i, 0, none⟩) (n.toNat * 16 + 9) = some (.int .i64 v) /\ ∃ w x y, atI k (some ⟨i, 0, none⟩) (n.toNat * 16 + 10) = some (.slice w x y) /\ ∃ z n1 c1, atI k (some ⟨i, 0, none⟩) (n.toNat * 16 + 11) = some (.slice z n1 c1) /\ ∃ a1 n2 c2, atI k (some ⟨i, 0, none⟩) (n.toNat * 16 + 12) = some (.slice a1 n2 c2) /\ ∃ a2 n3 c3, atI k (some ⟨i, 0, none⟩) (n.toNat * 16 + 13) = some (.slice a2 n3 c3) /\ ∃ a3 n4 c4, atI k (some ⟨i, 0, none⟩) (n.toNat * 16 + 14) = some (.slice a3 n4 c4) /\ ∃ a4 n5 c5, atI k (some ⟨i, 0, none⟩) (n.toNat * 16 + 15) = some (.slice a4 n5 c5) /\ Ct Tryz.prog (fnv 13) #[.agg #[.int .i64 l, .int .i64 m, .int .i64 o, .int .i64 p, .int .i64 q, .int .u8 r, .bool s, .int .i64 t, .int .i64 u, .int .i64 v, .slice w x y, .slice z n1 c1, .slice a1 n2 c2, .slice a2 n3 c3, .slice a3 n4 c4]] k fun v1 I1 => ∃ a5 n6 c6 n7, v1 = .tuple #[.slice a5 n6 c6, .int .i64 n7] /\ Br (n7 != 0) (Value.bool false = .bool true) (Ct Tryz.prog (fnv 14) #[.slice a5 n6 c6, .slice a4 n5 c5] I1 (fun v2 I2 => ∃ b1, v2 = .bool b1 /\ Br (!b1) (Value.bool false = .bool true) (Wr .i64 (n + 1) (fun c7 => Rf (SV.v (.slice (some ⟨i, 0, none⟩) 3 3)) /\ Rf (SV.v (.int .i64 3)) /\ (0 <= c7 /\ c7 <= 3) /\ Int.toNat (3 - c7) < Int.toNat (3 - n)))))) (∀ (l : Nat) (m : Mem), k.le m -> m l = some (.cells #[.int .u8 1] 5 (0, 0)) -> ∀ (o : Nat) (p : Mem), m.le p -> p o = some (.cells #[.int .u8 1, .int .u8 1, .int .u8 1, .int .u8 0] 5 (0, 0)) -> ∀ (q : Nat) (r : Mem), p.le r -> r q = some (.cells #[.int .u8 2, .int .u8 1, .int .u8 1, .int .u8 1] 5 (0, 0)) -> ∀ (s : Nat) (t : Mem), r.le t -> t s = some (.cells #[.int .u8 1, .int .u8 1, .int .u8 1, .int .u8 1, .int .u8 2, .int .u8 1, .int .u8 0] 5 (0, 0)) -> ∀ (u : Nat) (v : Mem), t.le v -> v u = some (.cells #[.int .u8 1, .int .u8 1, .int .u8 1, .int .u8 1, .int .u8 7, .int .u8 1, .int .u8 0] 5 (0, 0)) -> ∀ (w : Nat) (x : Mem), v.le x -> x w = some (.cells #[.slice (some ⟨l, 0, none⟩) 1 1, .slice (some ⟨o, 0, none⟩) 4 4, .slice (some ⟨q, 0, none⟩) 4 4, .slice (some ⟨s, 0, none⟩) 7 7, .slice (some ⟨u, 0, none⟩) 7 7] 22 (0, 0)) -> (Rf (SV.v (.slice (some ⟨w, 0, none⟩) 5 5)) /\ Rf (SV.v (.int .i64 5)) /\ (0 : Int) <= 0 /\ (0 : Int) <= 5) /\ ∀ (y : Mem), Mem -> x.le y -> ∀ (z : Int), 0 <= z /\ z <= 5 -> Br (decide (z < 5)) (0 <= z /\ z < 5 /\ true = true /\ ∃ a1 n1 c1, atI y (some ⟨w, 0, none⟩) (z.toNat * 1 + 0) = some (.slice a1 n1 c1) /\ Ct Tryz.prog (fnv 7) #[.slice a1 n1 c1] y fun v1 I1 => ∃ n2 n3 n4 n5 n6 n7 b1 n8 n9 n10 a2 n11 c2 a3 n12 c3 a4 n13 c4 a5 n14 c5 a6 n15 c6 n16, v1 = .tuple #[.agg #[.int .i64 n2, .int .i64 n3, .int .i64 n4, .int .i64 n5, .int .i64 n6, .int .u8 n7, .bool b1, .int .i64 n8, .int .i64 n9, .int .i64 n10, .slice a2 n11 c2, .slice a3 n12 c3, .slice a4 n13 c4, .slice a5 n14 c5, .slice a6 n15 c6], .int .i64 n16] /\ Br (n16 != 351) (Value.bool false = .bool true) (Wr .i64 (z + 1) (fun c7 => Rf (SV.v (.slice (some ⟨w, 0, none⟩) 5 5)) /\ Rf (SV.v (.int .i64 5)) /\ (0 <= c7 /\ c7 <= 5) /\ Int.toNat (5 - c7) < Int.toNat (5 - z)))) (Rf (Value.bool true)))) (by kernel_rfl) ?_
 simp only [eq_self, true_and];intro b1 I1 l1 bh1 b2 I2 l2 bh2 b3 I3 l3 bh3 b4 I4 l4 bh4 b5 I5 l5 bh5;obtain ⟨o1, o2, o3⟩ := ok_e;obtain ⟨r1, r2, r3⟩ := right_e;obtain ⟨w1, w2, w3⟩ := write_e
 refine ⟨⟨by omega, by omega⟩, fun I6 _ l6 n ⟨n0, nn⟩ => Br.mk (fun hlt => ?_) (fun hge => ?_)⟩
 · have hlt := of_decide_eq_true hlt
   have m5 := l6;have m4 := Mem.le_trans l5 m5;have m3 := Mem.le_trans l4 m4;have m2 := Mem.le_trans l3 m3;have m1 := Mem.le_trans l2 m2;have g5 := m5 _ _ bh5;have g4 := m4 _ _ bh4;have g3 := m3 _ _ bh3;have g2 := m2 _ _ bh2;have g1 := m1 _ _ bh1;refine ⟨n0, hlt, ?_⟩
   rcases (by omega : n = 0 \/ n = 1 \/ n = 2) with rfl | rfl | rfl
   · refine ⟨_, atC g5 rfl, _, atC g5 rfl, _, atC g5 rfl, _, atC g5 rfl, _, atC g5 rfl, _, atC g5 rfl, _, atC g5 rfl, _, atC g5 rfl, _, atC g5 rfl, _, atC g5 rfl, _, _, _, atC g5 rfl, _, _, _, atC g5 rfl, _, _, _, atC g5 rfl, _, _, _, atC g5 rfl, _, _, _, atC g5 rfl, _, _, _, atC g5 rfl, ?_⟩
     exact ex_step e1 o1 nilY (by decide) r1 [1, 1, 1, 1, 2, 1, 6, 6, 1, 5] w1 (by simp [byteL]) I6 ⟨lst_nil 1 _, lst_nil 1 _, lst_nil 5 _, lst_nil 3 _, lst_nil 5 _⟩ _ _ _ (bysl_lit g1 rfl rfl (by decide)) _ (wr_i64 (by omega) (by omega) ⟨⟨by omega, by omega⟩, by omega⟩)
   · refine ⟨_, atC g5 rfl, _, atC g5 rfl, _, atC g5 rfl, _, atC g5 rfl, _, atC g5 rfl, _, atC g5 rfl, _, atC g5 rfl, _, atC g5 rfl, _, atC g5 rfl, _, atC g5 rfl, _, _, _, atC g5 rfl, _, _, _, atC g5 rfl, _, _, _, atC g5 rfl, _, _, _, atC g5 rfl, _, _, _, atC g5 rfl, _, _, _, atC g5 rfl, ?_⟩
     exact ex_step e2 o2 nilY (by decide) r2 [1, 1, 3, 248, 1, 44, 3, 3, 248, 1, 85] w2 (by simp [byteL]) I6 ⟨lst_nil 1 _, lst_nil 1 _, lst_nil 5 _, lst_nil 3 _, lst_nil 5 _⟩ _ _ _ (bysl_lit g2 rfl rfl (by decide)) _ (wr_i64 (by omega) (by omega) ⟨⟨by omega, by omega⟩, by omega⟩)
   · refine ⟨_, atC g5 rfl, _, atC g5 rfl, _, atC g5 rfl, _, atC g5 rfl, _, atC g5 rfl, _, atC g5 rfl, _, atC g5 rfl, _, atC g5 rfl, _, atC g5 rfl, _, atC g5 rfl, _, _, _, atC g5 rfl, _, _, _, atC g5 rfl, _, _, _, atC g5 rfl, _, _, _, atC g5 rfl, _, _, _, atC g5 rfl, _, _, _, atC g5 rfl, ?_⟩
     exact ex_step e3 o3 ⟨.slice none 0 0, .slice (some ⟨b3, 0, none⟩) 1 1, .slice none 0 0, .slice none 0 0, .slice none 0 0⟩ (by decide) r3 [1, 1, 1, 1, 10, 1, 1] w3 (by simp [byteL]) I6 ⟨lst_nil 1 _, ⟨_, _, _, rfl, (by have := sl_cells (n := 1) (sz := 1) g3 (by decide) (by decide); simpa [e3, cI, List.flatMap] using this), by decide, by decide⟩, lst_nil 5 _, lst_nil 3 _, lst_nil 5 _⟩ _ _ _ (bysl_lit g4 rfl rfl (by decide)) _ (wr_i64 (by omega) (by omega) ⟨⟨by omega, by omega⟩, by omega⟩)
 intro c1 J1 k1 ch1 c2 J2 k2 ch2 c3 J3 k3 ch3 c4 J4 k4 ch4 c5 J5 k5 ch5 c6 J6 k6 ch6
 refine ⟨⟨by omega, by omega⟩, fun J7 _ k7 n ⟨n0, nn⟩ => Br.mk (fun hlt => ?_) (fun hge => trivial)⟩
 have hlt := of_decide_eq_true hlt;have m6 := k7;have m5 := Mem.le_trans k6 m6;have m4 := Mem.le_trans k5 m5;have m3 := Mem.le_trans k4 m4;have m2 := Mem.le_trans k3 m3;have m1 := Mem.le_trans k2 m2;have g6 := m6 _ _ ch6;have g5 := m5 _ _ ch5;have g4 := m4 _ _ ch4;have g3 := m3 _ _ ch3;have g2 := m2 _ _ ch2;have g1 := m1 _ _ ch1;refine ⟨n0, hlt, ?_⟩
 rcases (by omega : n = 0 \/ n = 1 \/ n = 2 \/ n = 3 \/ n = 4) with rfl | rfl | rfl | rfl | rfl
 · refine ⟨_, _, _, atC g6 rfl, ?_⟩
   exact no_step [1] (by simp [byteL]) n1 J7 _ _ (by decide) (bysl_lit g1 rfl rfl (by decide)) (fun _ => _) fun J' _ => (wr_i64 (by omega) (by omega) ⟨⟨by omega, by omega⟩, by omega⟩)
 · refine ⟨_, _, _, atC g6 rfl, ?_⟩
   exact no_step [1, 1, 1, 0] (by simp [byteL]) n2 J7 _ _ (by decide) (bysl_lit g2 rfl rfl (by decide)) (fun _ => _) fun J' _ => (wr_i64 (by omega) (by omega) ⟨⟨by omega, by omega⟩, by omega⟩)
 · refine ⟨_, _, _, atC g6 rfl, ?_⟩
   exact no_step [2, 1, 1, 1] (by simp [byteL]) n3 J7 _ _ (by decide) (bysl_lit g3 rfl rfl (by decide)) (fun _ => _) fun J' _ => (wr_i64 (by omega) (by omega) ⟨⟨by omega, by omega⟩, by omega⟩)
 · refine ⟨_, _, _, atC g6 rfl, ?_⟩
   exact no_step [1, 1, 1, 1, 2, 1, 0] (by simp [byteL]) n4 J7 _ _ (by decide) (bysl_lit g4 rfl rfl (by decide)) (fun _ => _) fun J' _ => (wr_i64 (by omega) (by omega) ⟨⟨by omega, by omega⟩, by omega⟩)
 · refine ⟨_, _, _, atC g6 rfl, ?_⟩
   exact no_step [1, 1, 1, 1, 7, 1, 0] (by simp [byteL]) n5 J7 _ _ (by decide) (bysl_lit g5 rfl rfl (by decide)) (fun _ => _) fun J' _ => (wr_i64 (by omega) (by omega) ⟨⟨by omega, by omega⟩, by omega⟩)
set_option maxHeartbeats 1000000
def allF (r : Rs) : List (Int × List Int) := [fN 1 r.num, fN 2 r.kind, fN 3 r.code, fN 4 r.ser, fN 5 r.port, fN 6 r.time, (7, []), (8, formsL [r.key.1, r.key.2.1, r.key.2.2]), (9, r.counts.flatMap numF), (10, r.cells.flatMap celF), (11, r.events.flatMap evF), (12, r.ports.flatMap ptF), (13, r.handles.flatMap hdF)]
def hasF (r : Rs) (t : Int) : Bool :=
 if t = 1 then true else if t = 2 then decide (r.kind ≠ 0) else if t = 3 then decide (r.code ≠ 0) else if t = 4 then decide (r.ser ≠ 0) else if t = 5 then decide (r.port ≠ 0) else if t = 6 then decide (r.time ≠ 0) else if t = 7 then r.more else if t = 8 then decide (r.key ≠ (0, 0, 0))
 else if t = 9 then decide (r.counts.flatMap numF ≠ []) else if t = 10 then decide (r.cells.flatMap celF ≠ []) else if t = 11 then decide (r.events.flatMap evF ≠ []) else if t = 12 then decide (r.ports.flatMap ptF ≠ []) else decide (r.handles.flatMap hdF ≠ [])
theorem filter_one {α : Type} {p : α -> Bool} {a : α} {l : List α} : (a :: l).filter p = (if p a then [a] else []) ++ l.filter p := by
 cases h : p a with
 | true => simp [h]
 | false => simp [h]
theorem map_ite {α β : Type} {f : α -> β} {b : Bool} {a : α} : (if b then [a] else []).map f = if b then [f a] else [] := by
 cases b <;> rfl
theorem fields_eq (r : Rs) : fieldsS r = (allF r).filter fun p => hasF r p.1 := by
 have h1 : (numsL r).take 5 = numsL r := rfl;have h2 : (listsL r).take 5 = listsL r := rfl
 have hm : moreF r = if r.more then [(7, [])] else [] := rfl
 have hk : keyF r = if decide (r.key ≠ (0, 0, 0)) then [(8, formsL [r.key.1, r.key.2.1, r.key.2.2])] else [] := by
  unfold keyF
  by_cases h : r.key = (0, 0, 0)
  · rw [if_pos h, decide_eq_false (by simpa using h)]; rfl
  · rw [if_neg h, decide_eq_true h]; rfl
 rw [fieldsS, fl2, fl1, h1, h2, hm, hk, numsL, listsL, allF];simp only [filter_one, List.filter_nil, List.map_append, map_ite, List.append_nil, List.cons_append, List.append_assoc];rfl
theorem tags_in (r : Rs) : ∀ f ∈ fieldsS r, f ∈ allF r /\ hasF r f.1 = true := by
 intro f hf;rw [fields_eq] at hf;exact List.mem_filter.1 hf
set_option maxHeartbeats 1000000
theorem next_form (x : Nat) (h : x < 256 ^ 8) (post : List Int) : nextR (formN x ++ post, false) = ((x : Int), post, false) := by
 have h1 := readN_form [] post x h;simp only [List.nil_append, List.length_nil] at h1;have h1 : readN (formN x ++ post) 0 = ((x : Int), ((formN x).length : Int), 0) := h1
 rw [nextR, h1, if_neg (by simp)]
 simp
theorem num_form {x : Int} (h0 : 0 <= x) (h1 : i64R x) (post : List Int) : numQ (formN (IntKind.u64.wrap x).toNat ++ post, false) = (x, post, false) := by
 have hw : IntKind.u64.wrap x = x := by rw [IntKind.wrap_u64]; unfold i64R at h1; omega
 unfold i64R at h1
 rw [hw, numQ, next_form _ (by omega)]
 have e : ((x.toNat : Nat) : Int) = x := Int.toNat_of_nonneg h0
 have hi : IntKind.i64.wrap x = x := by rw [IntKind.wrap_i64]; omega
 simp only [e, hi]
 rw [decide_eq_false (by omega)]; rfl
theorem forms_cons (x : Int) (l : List Int) : formsL (x :: l) = formN (IntKind.u64.wrap x).toNat ++ formsL l := by simp [formsL]
theorem forms_nil : formsL [] = [] := rfl
theorem key_form {a b c : Int} (ha : 0 <= a /\ i64R a) (hb : 0 <= b /\ i64R b) (hc : 0 <= c /\ i64R c) (post : List Int) : keyQ (formsL [a, b, c] ++ post, false) = ((a, b, c), post, false) := by
 simp only [forms_cons, forms_nil, List.append_nil, List.append_assoc];rw [keyQ, num_form ha.1 ha.2, num_form hb.1 hb.2, num_form hc.1 hc.2]
theorem unfold_fold {x : Int} (h : i64R x) : unfoldZ (foldZ x) = x := by
 unfold foldZ unfoldZ;split
 · rw [if_pos (by omega)]; omega
 · rw [if_neg (by omega)]; omega
theorem val_form {x : Int} (h : i64R x) (post : List Int) : valQ (celF x ++ post, false) = (x, post, false) := by
 have hr := foldZ_range h
 rw [celF, valQ, next_form _ (by omega)]
 have e : (((foldZ x).toNat : Nat) : Int) = foldZ x := Int.toNat_of_nonneg hr.1;simp only [e, unfold_fold h]
theorem ev_form {x : EvT} (hx : evOk x = true) (hr : (i64R x.1.1 /\ i64R x.1.2.1 /\ i64R x.1.2.2) /\ i64R x.2.1 /\ i64R x.2.2) (post : List Int) : evQ (evF x ++ post, false) = (x, post, false) := by
 obtain ⟨⟨a, b, c⟩, d, v⟩ := x
 have hn : (0 <= a /\ 0 <= b /\ 0 <= c /\ 0 <= d) := by
  simp only [evOk, negL, List.any_cons, List.any_nil, Bool.not_eq_true', Bool.or_eq_false_iff, decide_eq_false_iff_not] at hx;omega
 obtain ⟨⟨r1, r2, r3⟩, r4, r5⟩ := hr;have hv := val_form r5 post;rw [evF, List.append_assoc, List.append_assoc, evQ, key_form ⟨hn.1, r1⟩ ⟨hn.2.1, r2⟩ ⟨hn.2.2.1, r3⟩];simp only [forms_cons, forms_nil, List.append_nil];rw [num_form hn.2.2.2 r4];rw [valQ] at hv;obtain ⟨e1, e2⟩ := Prod.mk.inj hv;have e1 : unfoldZ (nextR (formN (foldZ v).toNat ++ post, false)).1 = v := e1;have e2 : (nextR (formN (foldZ v).toNat ++ post, false)).2 = (post, false) := e2;simp only [e1, e2]
theorem pt_form {x : PtT} (hx : ptOk x = true) (hr : i64R x.1 /\ byteL x.2.1 /\ i64R x.2.2) (post : List Int) : portQ (ptF x ++ post, false) = (x, post, false) := by
 obtain ⟨a, s, c⟩ := x;have hx := hx;simp only [ptOk, nameB, negL, List.any_cons, List.any_nil, Bool.and_eq_true, Bool.not_eq_true', Bool.or_eq_false_iff, decide_eq_false_iff_not, decide_eq_true_eq] at hx;obtain ⟨⟨h1, h2, _⟩, h3, h4, _⟩ := hx;obtain ⟨r1, _, r3⟩ := hr
 simp only at h1 h2 h3 h4 r1 r3
 have q1 := num_form (x := a) (by omega) r1
 have q2 := num_form (x := c) (by omega) r3
 have q3 := num_form (x := (s.length : Int)) (by omega) (by unfold i64R; omega)
 rw [ptF];simp only [forms_cons, forms_nil, List.append_nil, List.append_assoc];rw [portQ, szQ, q1, q2, q3];simp only []
 rw [if_neg (by rw [List.length_append]; simp; omega)]
 simp
theorem hd_form {x : HdT} (hx : hdOk x = true) (hr : (i64R x.1 /\ i64R x.2.1 /\ i64R x.2.2.1 /\ i64R x.2.2.2.1) /\ 0 <= x.2.2.2.2 /\ x.2.2.2.2 <= 255) (post : List Int) : hdQ (hdF x ++ post, false) = (x, post, false) := by
 obtain ⟨a, b, c, d, e⟩ := x;have hx := hx;simp only [hdOk, negL, List.any_cons, List.any_nil, Bool.and_eq_true, Bool.not_eq_true', Bool.or_eq_false_iff, decide_eq_false_iff_not, decide_eq_true_eq] at hx;obtain ⟨⟨h1, h2, h3, h4, _⟩, _⟩ := hx;obtain ⟨⟨r1, r2, r3, r4⟩, r5, r6⟩ := hr
 simp only at h1 h2 h3 h4 r1 r2 r3 r4 r5 r6
 have q1 := num_form (x := a) (by omega) r1
 have q2 := num_form (x := b) (by omega) r2
 have q3 := num_form (x := c) (by omega) r3
 have q4 := num_form (x := d) (by omega) r4
 have q5 := num_form (x := e) r5 (by unfold i64R; omega)
 rw [hdF];simp only [forms_cons, forms_nil, List.append_nil, List.append_assoc];rw [hdQ, q1, q2, q3, q4, q5]
 have hw : IntKind.u8.wrap e = e := by rw [IntKind.wrap_u8]; omega
 simp only [hw]
 rw [decide_eq_false (by omega)]; rfl
theorem runAll_flat {α : Type} {take : RS -> α × RS} {F : α -> List Int} : ∀ {l : List α}, (∀ x ∈ l, ∀ post, take (F x ++ post, false) = (x, post, false)) -> (∀ x ∈ l, F x ≠ []) -> ∀ k, l.length <= k -> runAll take k (l.flatMap F, false) = (l, [], false)
 | [], _, _, k, _ => runAll_done (.inl rfl) k
 | x :: l, h1, h2, k, hk => by
   obtain ⟨k, rfl⟩ : ∃ j, k = j + 1 := ⟨k - 1, by simp at hk; omega⟩
   have hne : F x ++ l.flatMap F ≠ [] := fun h => h2 x (by simp) (List.append_eq_nil_iff.1 h).1
   rw [List.flatMap_cons, runAll_step (by simp only [not_or]; exact ⟨hne, by simp⟩), h1 x (by simp)]
   have ih := runAll_flat (l := l) (fun y hy => h1 y (by simp [hy])) (fun y hy => h2 y (by simp [hy])) k (by simp at hk; omega)
   simp only [ih]
theorem flat_len {α : Type} {F : α -> List Int} : ∀ {l : List α}, (∀ x ∈ l, F x ≠ []) -> l.length <= (l.flatMap F).length
 | [], _ => by simp
 | x :: l, h => by
   have ih := flat_len (l := l) fun y hy => h y (by simp [hy])
   have hx : 1 <= (F x).length := by
    rcases hl : F x with _ | ⟨a, r⟩
    · exact absurd hl (h x (by simp))
    · simp
   rw [List.flatMap_cons, List.length_append, List.length_cons]; omega
theorem flat_nil {α : Type} {F : α -> List Int} {l : List α} (h : ∀ x ∈ l, F x ≠ []) (hf : l.flatMap F = []) : l = [] := by
 have := flat_len h;rw [hf] at this;exact List.eq_nil_of_length_eq_zero (Nat.le_zero.1 this)
theorem form_ne (x : Nat) (h : x < 256 ^ 8) : formN x ≠ [] := fun hf => by
 have := (formN_le x h).2
 rw [hf] at this; simp at this
theorem numF_ne (x : Int) : numF x ≠ [] := fun h => by
 rw [numF, forms_cons] at h;have hw := w64_range x
 exact form_ne _ (by omega) (List.append_eq_nil_iff.1 h).1
theorem celF_ne {x : Int} (h : i64R x) : celF x ≠ [] := by
 have := foldZ_range h
 exact form_ne _ (by omega)
theorem evF_ne (x : EvT) : evF x ≠ [] := fun h => by
 rw [evF, forms_cons, List.append_assoc, List.append_assoc] at h;have hw := w64_range x.1.1
 exact form_ne _ (by omega) (List.append_eq_nil_iff.1 h).1
theorem ptF_ne (x : PtT) : ptF x ≠ [] := fun h => by
 rw [ptF, forms_cons, List.append_assoc] at h;have hw := w64_range x.1
 exact form_ne _ (by omega) (List.append_eq_nil_iff.1 h).1
theorem hdF_ne (x : HdT) : hdF x ≠ [] := fun h => by
 rw [hdF, forms_cons] at h;have hw := w64_range x.1
 exact form_ne _ (by omega) (List.append_eq_nil_iff.1 h).1
def copyT (r h : Rs) (t : Int) : Rs :=
 if t = 1 then { h with num := r.num } else if t = 2 then { h with kind := r.kind } else if t = 3 then { h with code := r.code } else if t = 4 then { h with ser := r.ser } else if t = 5 then { h with port := r.port } else if t = 6 then { h with time := r.time }
 else if t = 7 then { h with more := true } else if t = 8 then { h with key := r.key } else if t = 9 then { h with counts := r.counts } else if t = 10 then { h with cells := r.cells } else if t = 11 then { h with events := r.events } else if t = 12 then { h with ports := r.ports } else { h with handles := r.handles }
theorem runNum {l : List Int} (h : ∀ x ∈ l, 0 <= x /\ i64R x) : runAll numQ (l.flatMap numF).length (l.flatMap numF, false) = (l, [], false) :=
 runAll_flat (fun x hx post => by rw [numF, forms_cons, forms_nil, List.append_nil]; exact num_form (h x hx).1 (h x hx).2 post) (fun x _ => numF_ne x) _ (flat_len fun x _ => numF_ne x)
theorem take_all {r : Rs} (hr : okRs r) (hv : vokS r = true) : ∀ f ∈ allF r, ∀ h, takeS h f.1 f.2 = (copyT r h f.1, [], false) := by
 intro f hf h;have hv := hv;simp only [vokS, headOk, negL, List.any_cons, List.any_nil, Bool.and_eq_true, Bool.not_eq_true', Bool.or_eq_false_iff, decide_eq_false_iff_not, decide_eq_true_eq] at hv;obtain ⟨⟨g1, g2, g3, ⟨g4, g5, g6, g7, g8, g9, g10, _⟩, g11⟩, _, g12, g13, g14⟩ := hv
 have hcn : ∀ x ∈ r.counts, 0 <= x /\ i64R x := fun x hx => by
  have := List.any_eq_false.1 g11 x hx;simp only [decide_eq_true_eq] at this
  exact ⟨by omega, hr.counts x hx⟩
 have hk := hr.kind
 have N : ∀ x : Int, 0 <= x -> i64R x -> numQ ((fN 0 x).2, false) = (x, [], false) := fun x h0 h1 => by
  have := num_form h0 h1 [];rw [List.append_nil] at this;exact this
 have n1 := N r.num (by omega) hr.num
 have n2 := N r.kind (by omega) (by unfold i64R; omega)
 have n3 := N r.code (by omega) hr.code
 have n4 := N r.ser (by omega) hr.ser
 have n5 := N r.port (by omega) hr.port
 have n6 := N r.time (by omega) hr.time
 have n8 := key_form (a := r.key.1) (b := r.key.2.1) (c := r.key.2.2) ⟨by omega, hr.key.1⟩ ⟨by omega, hr.key.2.1⟩ ⟨by omega, hr.key.2.2⟩ []
 rw [List.append_nil] at n8;have n9 := runNum hcn;have n10 := runAll_flat (take := valQ) (F := celF) (l := r.cells) (fun x hx post => val_form (hr.cells x hx) post) (fun x hx => celF_ne (hr.cells x hx)) _ (flat_len fun x hx => celF_ne (hr.cells x hx));have n11 := runAll_flat (take := evQ) (F := evF) (l := r.events) (fun x hx post => ev_form (List.all_eq_true.1 g12 x hx) (hr.events x hx) post) (fun x _ => evF_ne x) _ (flat_len fun x _ => evF_ne x)
 have n12 := runAll_flat (take := portQ) (F := ptF) (l := r.ports) (fun x hx post => pt_form (List.all_eq_true.1 g13 x hx) (hr.ports x hx) post) (fun x _ => ptF_ne x) _ (flat_len fun x _ => ptF_ne x);have n13 := runAll_flat (take := hdQ) (F := hdF) (l := r.handles) (fun x hx post => hd_form (List.all_eq_true.1 g14 x hx) (hr.handles x hx) post) (fun x _ => hdF_ne x) _ (flat_len fun x _ => hdF_ne x);simp only [allF, List.mem_cons, List.not_mem_nil, or_false] at hf
 rcases hf with rfl | rfl | rfl | rfl | rfl | rfl | rfl | rfl | rfl | rfl | rfl | rfl | rfl
 · show ({ h with num := (numQ ((fN 0 r.num).2, false)).1 }, (numQ ((fN 0 r.num).2, false)).2) = _
   rw [n1]; rfl
 · show ({ h with kind := IntKind.u8.wrap (imin (numQ ((fN 0 r.kind).2, false)).1 255) }, (numQ ((fN 0 r.kind).2, false)).2) = _
   rw [n2]
   have e : IntKind.u8.wrap (imin r.kind 255) = r.kind := by
    unfold imin
    rw [if_neg (by omega), IntKind.wrap_u8]; omega
   simp only [e]; rfl
 · show ({ h with code := (numQ ((fN 0 r.code).2, false)).1 }, (numQ ((fN 0 r.code).2, false)).2) = _
   rw [n3]; rfl
 · show ({ h with ser := (numQ ((fN 0 r.ser).2, false)).1 }, (numQ ((fN 0 r.ser).2, false)).2) = _
   rw [n4]; rfl
 · show ({ h with port := (numQ ((fN 0 r.port).2, false)).1 }, (numQ ((fN 0 r.port).2, false)).2) = _
   rw [n5]; rfl
 · show ({ h with time := (numQ ((fN 0 r.time).2, false)).1 }, (numQ ((fN 0 r.time).2, false)).2) = _
   rw [n6]; rfl
 · rfl
 · show ({ h with key := (keyQ (formsL [r.key.1, r.key.2.1, r.key.2.2], false)).1 }, (keyQ (formsL [r.key.1, r.key.2.1, r.key.2.2], false)).2) = _
   rw [n8]; rfl
 · show ({ h with counts := (runAll numQ (r.counts.flatMap numF).length (r.counts.flatMap numF, false)).1 }, (runAll numQ (r.counts.flatMap numF).length (r.counts.flatMap numF, false)).2) = _
   rw [n9]; rfl
 · show ({ h with cells := (runAll valQ (r.cells.flatMap celF).length (r.cells.flatMap celF, false)).1 }, (runAll valQ (r.cells.flatMap celF).length (r.cells.flatMap celF, false)).2) = _
   rw [n10]; rfl
 · show ({ h with events := (runAll evQ (r.events.flatMap evF).length (r.events.flatMap evF, false)).1 }, (runAll evQ (r.events.flatMap evF).length (r.events.flatMap evF, false)).2) = _
   rw [n11]; rfl
 · show ({ h with ports := (runAll portQ (r.ports.flatMap ptF).length (r.ports.flatMap ptF, false)).1 }, (runAll portQ (r.ports.flatMap ptF).length (r.ports.flatMap ptF, false)).2) = _
   rw [n12]; rfl
 · show ({ h with handles := (runAll hdQ (r.handles.flatMap hdF).length (r.handles.flatMap hdF, false)).1 }, (runAll hdQ (r.handles.flatMap hdF).length (r.handles.flatMap hdF, false)).2) = _
   rw [n13]; rfl
theorem run_all {r : Rs} (hr : okRs r) (hv : vokS r = true) : ∀ (l : List (Int × List Int)) (h : Rs), (∀ f ∈ l, f ∈ allF r) -> runTS h l = (l.foldl (fun h f => copyT r h f.1) h, true)
 | [], h, _ => rfl
 | f :: l, h, hl => by
   have e := take_all hr hv f (hl f (by simp)) h
   rw [runTS, e, List.foldl_cons]
   show (if okS ([], false) = true then runTS (copyT r h f.1) l else (h, false)) = _
   rw [if_pos (show okS ([], false) = true from rfl)]
   exact run_all hr hv l _ fun g hg => hl g (by simp [hg])
def stF (r h : Rs) (t : Int) : Rs := if hasF r t then copyT r h t else h
theorem stF_eq {r h q : Rs} {t : Int} (hc : copyT r h t = q) (hn : hasF r t = false -> q = h) : stF r h t = q := by
 unfold stF
 cases hb : hasF r t with
 | true => exact hc
 | false => exact (hn hb).symm
theorem of_dec {p : Prop} [Decidable p] (h : decide (¬ p) = false) : p := by
 by_cases hp : p
 · exact hp
 · rw [decide_eq_true hp] at h; cases h
theorem st1 (r h : Rs) : stF r h 1 = { h with num := r.num } := stF_eq rfl fun h => by cases h
theorem st2 (r h : Rs) (h0 : h.kind = 0) : stF r h 2 = { h with kind := r.kind } := stF_eq rfl fun hb => by
 have hb : r.kind = 0 := of_dec hb
 cases h; simp only at h0; rw [hb, h0]
theorem st3 (r h : Rs) (h0 : h.code = 0) : stF r h 3 = { h with code := r.code } := stF_eq rfl fun hb => by
 have hb : r.code = 0 := of_dec hb
 cases h; simp only at h0; rw [hb, h0]
theorem st4 (r h : Rs) (h0 : h.ser = 0) : stF r h 4 = { h with ser := r.ser } := stF_eq rfl fun hb => by
 have hb : r.ser = 0 := of_dec hb
 cases h; simp only at h0; rw [hb, h0]
theorem st5 (r h : Rs) (h0 : h.port = 0) : stF r h 5 = { h with port := r.port } := stF_eq rfl fun hb => by
 have hb : r.port = 0 := of_dec hb
 cases h; simp only at h0; rw [hb, h0]
theorem st6 (r h : Rs) (h0 : h.time = 0) : stF r h 6 = { h with time := r.time } := stF_eq rfl fun hb => by
 have hb : r.time = 0 := of_dec hb
 cases h; simp only at h0; rw [hb, h0]
theorem st7 (r h : Rs) (h0 : h.more = false) : stF r h 7 = { h with more := r.more } := by
 have hh : hasF r 7 = r.more := rfl;unfold stF;rw [hh]
 cases hm : r.more with
 | true => rfl
 | false => cases h; simp only at h0; rw [h0]; rfl
theorem st8 (r h : Rs) (h0 : h.key = (0, 0, 0)) : stF r h 8 = { h with key := r.key } := stF_eq rfl fun hb => by
 have hb : r.key = (0, 0, 0) := of_dec hb
 cases h; simp only at h0; rw [hb, h0]
theorem st9 (r h : Rs) (hr : okRs r) (h0 : h.counts = []) : stF r h 9 = { h with counts := r.counts } := stF_eq rfl fun hb => by
 have hb : r.counts = [] := flat_nil (fun x hx => numF_ne x) (of_dec hb)
 cases h; simp only at h0; rw [hb, h0]
theorem st10 (r h : Rs) (hr : okRs r) (h0 : h.cells = []) : stF r h 10 = { h with cells := r.cells } := stF_eq rfl fun hb => by
 have hb : r.cells = [] := flat_nil (fun x hx => celF_ne (hr.cells x hx)) (of_dec hb)
 cases h; simp only at h0; rw [hb, h0]
theorem st11 (r h : Rs) (hr : okRs r) (h0 : h.events = []) : stF r h 11 = { h with events := r.events } := stF_eq rfl fun hb => by
 have hb : r.events = [] := flat_nil (fun x hx => evF_ne x) (of_dec hb)
 cases h; simp only at h0; rw [hb, h0]
theorem st12 (r h : Rs) (hr : okRs r) (h0 : h.ports = []) : stF r h 12 = { h with ports := r.ports } := stF_eq rfl fun hb => by
 have hb : r.ports = [] := flat_nil (fun x hx => ptF_ne x) (of_dec hb)
 cases h; simp only at h0; rw [hb, h0]
theorem st13 (r h : Rs) (hr : okRs r) (h0 : h.handles = []) : stF r h 13 = { h with handles := r.handles } := stF_eq rfl fun hb => by
 have hb : r.handles = [] := flat_nil (fun x hx => hdF_ne x) (of_dec hb)
 cases h; simp only at h0; rw [hb, h0]
theorem fold_fields {r : Rs} (hr : okRs r) : (fieldsS r).foldl (fun h f => copyT r h f.1) zeroRs = r := by
 rw [fields_eq, List.foldl_filter]
 have e : ∀ (h : Rs), (allF r).foldl (fun x y => if hasF r y.1 = true then copyT r x y.1 else x) h = stF r (stF r (stF r (stF r (stF r (stF r (stF r (stF r (stF r (stF r (stF r (stF r (stF r h 1) 2) 3) 4) 5) 6) 7) 8) 9) 10) 11) 12) 13 := fun h => rfl
 rw [e, st1, st2 _ _ rfl, st3 _ _ rfl, st4 _ _ rfl, st5 _ _ rfl, st6 _ _ rfl, st7 _ _ rfl, st8 _ _ rfl, st9 _ _ hr rfl, st10 _ _ hr rfl, st11 _ _ hr rfl, st12 _ _ hr rfl, st13 _ _ hr rfl]
theorem right_parts {r : Rs} (h : rightS r = true) : vokS r = true /\ rightF (fieldsS r) = true /\ (writeF (fieldsS r)).length <= 16320 := by
 simp only [rightS, Bool.and_eq_true, decide_eq_true_eq] at h;exact h
theorem read_writeS {r : Rs} (hr : okRs r) (h : rightS r = true) : accS (writeS r) = true /\ readS (writeS r) = (r, 0) := by
 obtain ⟨h1, h2, h3⟩ := right_parts h;have hd : (writeS r).drop 1 = writeF (fieldsS r) := rfl;have hrw := read_write h2
 have hf : flS (writeS r) = fieldsS r := by rw [flS, hd, hrw]
 have hrun : runS (writeS r) = (r, true) := by
  rw [runS, hf, run_all hr h1 _ _ fun f hf => (tags_in r f hf).1, fold_fields hr]
 have ha : accS (writeS r) = true := by
  rw [accS, hd, hrw, hrun, h];simp [writeS]
 exact ⟨ha, by rw [readS, ha, if_pos rfl, hrun]⟩
set_option maxHeartbeats 1000000
theorem acc_form {bs : List Int} (h : accS bs = true) : rightS (readS bs).1 = true /\ writeS (readS bs).1 = bs /\ (readS bs).2 = 0 := by
 have hr : readS bs = ((runS bs).1, 0) := by rw [readS, h]; rfl
 simp only [accS, Bool.and_eq_true, decide_eq_true_eq] at h;rw [hr];exact ⟨h.2.2.2.2.1, h.2.2.2.2.2, rfl⟩
theorem run_ok : ∀ (l : List (Int × List Int)) (r : Rs), okRs r -> r.counts.length <= 1000000 -> (∀ f ∈ l, okFld f /\ f.2.length <= 1000000) -> okRs (runTS r l).1 /\ (runTS r l).1.counts.length <= 1000000
 | [], r, h, hc, _ => ⟨h, hc⟩
 | f :: l, r, h, hc, hl => by
   obtain ⟨h1, h2⟩ := hl f (by simp)
   rw [runTS];split
   · exact run_ok l _ (ok_take h f.1 h1.2) (counts_take hc f.1 h2) fun g hg => hl g (by simp [hg])
   · exact ⟨h, hc⟩
theorem fl_ok {bs : List Int} (hb : byteL bs) : ∀ f ∈ flS bs, okFld f /\ f.2.length <= 1000000 := by
 have hbd : byteL (bs.drop 1) := fun z hz => hb z (List.mem_of_mem_drop hz)
 rcases read_cases (bs.drop 1) hbd with ⟨_, _, hr, hw⟩ | ⟨hr, _⟩
 · intro f hf
   have h1 := right_at (rightF_iff.1 hr).1 f hf
   refine ⟨⟨by omega, fun z hz => hbd z ?_⟩, by omega⟩
   rw [<- hw, writeF, List.mem_flatMap]
   exact ⟨f, hf, by simp [hz]⟩
 · intro f hf
   have : flS bs = [] := hr
   rw [this] at hf; cases hf
theorem read_ok {bs : List Int} (hb : byteL bs) : okRs (readS bs).1 /\ (readS bs).1.counts.length <= 1000000 := by
 rw [readS];split
 · exact run_ok (flS bs) zeroRs zero_ok (by simp [zeroRs]) (fl_ok hb)
 · exact ⟨zero_ok, by simp [zeroRs]⟩
set_option maxHeartbeats 1000000
set_option maxHeartbeats 1000000
theorem ct28 (k i : Int) (I : Mem) (hk : 0 <= k /\ k <= 100) (hi : 0 <= i /\ i <= 1000000000000000) :
 Ct Tryz.prog (fnv 28) #[.int .i64 k, .int .i64 i] I (fun v _ => v = .int .i64 (1000003 * (k + 7) + i)) := by
 refine viaR (ct_via (A := { }) Tryz.func28 rfl Tryz.call28 rfl rfl) (Wr .i64 (k + 7) fun c => Wr .i64 (1000003 * c) fun a => Wr .i64 (a + i) fun b => Value.int .i64 b = .int .i64 (1000003 * (k + 7) + i)) (by kernel_rfl) ?_
 exact wr_i64 (by omega) (by omega) (wr_i64 (by omega) (by omega) (wr_i64 (by omega) (by omega) rfl))
def markB (k i : Int) : Int := IntKind.u8.wrap ((IntKind.u64.wrap (IntKind.u64.wrap (1000003 * (k + 7) + i) * 11400714819323198485)).fdiv 72057594037927936)
theorem wrap_u8 (x : Int) : 0 <= IntKind.u8.wrap x /\ IntKind.u8.wrap x <= 255 := by
 have h : IntKind.u8.wrap x = x % 256 := rfl;omega
theorem ct15 (k i : Int) (I : Mem) (hk : 0 <= k /\ k <= 100) (hi : 0 <= i /\ i <= 1000000000000000) :
 Ct Tryz.prog (fnv 15) #[.int .i64 k, .int .i64 i] I (fun v _ => v = .int .u8 (markB k i)) := by
 refine viaR (ct_via (A := { }) Tryz.func15 rfl Tryz.call15 rfl rfl) (Ct Tryz.prog (fnv 28) #[.int .i64 k, .int .i64 i] I fun v a => ∃ n, v = .int .i64 n /\ Wr .u64 n fun c => Wr .u64 (c * 11400714819323198485) fun b => (0 : Int) <= 56 /\ Wr .u8 (b.fdiv 72057594037927936) fun d => Value.int .u8 d = .int .u8 (markB k i)) (by kernel_rfl) ?_
 exact (ct28 k i I hk hi).mono fun v I1 l1 hv => ⟨_, hv, _, rfl, _, rfl, by decide, _, rfl, rfl⟩
def marksB (k : Int) (n : Nat) : List Int := (List.range n).map fun (i : Nat) => markB k (i : Int)
theorem marksB_succ (k : Int) (n : Nat) : marksB k (n + 1) = marksB k n ++ [markB k n] := by simp [marksB, List.range_succ]
theorem marksB_at {k : Int} {n i : Nat} (h : i < n) : (marksB k n)[i]? = some (markB k i) := by simp [marksB, h]
theorem ct6 (xs : List Int) (a : Option Addr) (n c : Nat) (I : Mem) (h : SlM I a n 1 (ints .u8 xs)) (hn : n <= 1000000) :
 Ct Tryz.prog (fnv 6) #[.slice a n c] I (fun v I' => ∃ a' cp, v = .slice a' n cp /\ n + 12 <= cp /\ cp <= maxLen /\ SlM I' a' (n + 12) 1 (ints .u8 (xs ++ marksB 1 12))) := by
 refine viaR (ct_via (A := { loops := [(4, ⟨[(0, .keep), (3, .row 0), (4, .sh (.int .i64))], [(0, .row)], [(3, 1, 5)], fun vals xss _ _ => match vals, xss with | [.int .i64 j], [ys] => 0 <= j /\ j <= 12 /\ ys = ints .u8 (xs ++ marksB 1 j.toNat) | _, _ => False, fun vals _ => match vals with | [.int .i64 j] => (12 - j).toNat | _ => 0⟩)] }) Tryz.func6 rfl Tryz.call6 rfl rfl) (Wr .i64 ((n : Int) + 12) fun b => (0 : Int) <= 0 /\ 0 <= b /\ b <= 281474976710656 /\ 1 * b <= 281474976710656 /\ ∃ y, y.length = n * 1 /\ (a = none -> n = 0) /\ (∀ (j : Nat) (v : Value), y[j]? = some v -> atI I a j = some v) /\ (∀ (v : Value), Membership.mem y v -> v.oneCell' = true) /\ (0 : Nat) = 0 /\ 0 + n <= 9223372036854775807 /\ (0 + n) * 1 <= 140737488355328 /\ (Rf (SV.v (.slice a n c)) /\ 0 + n = y.length /\ (0 : Int) <= 0 /\ (0 : Int) <= 12 /\ y = List.map (Value.int .u8) (xs ++ [])) /\ ∀ (d : Mem), Mem -> I.le d -> ∀ (x : List Value) (e : Int), 0 <= e /\ e <= 12 /\ x = List.map (Value.int .u8) (xs ++ marksB 1 e.toNat) -> Br (decide (e < 12)) (Ct Tryz.prog (fnv 15) #[.int .i64 1, .int .i64 e] d (fun v f => ∃ g, v = .int .u8 g /\ x.length = x.length * 1 /\ x.length + 1 <= 9223372036854775807 /\ (x.length + 1) * 1 <= 140737488355328 /\ Wr .i64 (e + 1) fun i => Rf (SV.v (.slice a n c)) /\ x.length + 1 = List.length (x ++ [.int .u8 g]) /\ (0 <= i /\ i <= 12 /\ x ++ [.int .u8 g] = List.map (Value.int .u8) (xs ++ marksB 1 i.toNat)) /\ Int.toNat (12 - i) < Int.toNat (12 - e))) (0 <= (n : Int) /\ (n : Int) <= (x.length : Int) /\ x.length * 1 <= x.length /\ ∀ (f : Option Addr) (g : Nat) (i : Mem), d.le i -> RowM i f g 1 x -> ∃ j k, Value.slice f n g = .slice j n k /\ n + 12 <= k /\ k <= 9223372036854775807 /\ SlM i j (n + 12) 1 (List.map (Value.int .u8) (xs ++ [190, 92, 250, 152, 55, 213, 115, 17, 175, 78, 236, 138])))) (by kernel_rfl) ?_
 have hnl := h.numLen
 refine wr_i64 (by omega) (by omega) ⟨by omega, by omega, by omega, by omega, ints .u8 xs, h.len, h.nil, h.at_, one_ints, rfl, by omega, by omega, ⟨rfl, by rw [ints_len]; omega, by omega, by omega, by simp [ints]⟩, fun I1 _ l1 zs j ⟨j0, j1, hz⟩ => ?_⟩
 have hzl : zs.length = n + j.toNat := by rw [hz]; simp [marksB]; omega
 refine Br.mk (fun hlt => ?_) (fun hge => ?_)
 · have hlt := of_decide_eq_true hlt
   refine (ct15 1 j I1 (by omega) ⟨j0, by omega⟩).mono fun v I2 l2 hv => ⟨_, hv, by omega, by omega, by omega, wr_i64 (by omega) (by omega) ⟨rfl, by simp, ⟨by omega, by omega, ?_⟩, by omega⟩⟩
   rw [hz, show (j + 1).toNat = j.toNat + 1 by omega, marksB_succ, <- List.append_assoc, show ((j.toNat : Nat) : Int) = j by omega]
   simp
 · have hge := of_decide_eq_false hge
   have hj : j.toNat = 12 := by omega
   have hm : marksB 1 12 = [190, 92, 250, 152, 55, 213, 115, 17, 175, 78, 236, 138] := by decide
   rw [hj, hm] at hz;rw [hj] at hzl
   refine ⟨by omega, by omega, by omega, fun a' cp I2 l2 hrow => ⟨a', cp, rfl, ?_, hrow.2.1, ?_⟩⟩
   · have := hrow.1; omega
   · rw [<- hz]; exact hrow.sl (by omega) (by omega)
theorem ct12 (xs ys : List Int) (a : Option Addr) (n c : Nat) (b : Option Addr) (m d : Nat) (I : Mem) (h : SlM I a (n + 12) 1 (ints .u8 (xs ++ marksB 1 12))) (hx : xs = ys) (hnm : n = m) (hc : n + 12 <= c) (h' : SlM I b m 1 (ints .u8 ys)) (hn : n <= 1000000) :
 Ct Tryz.prog (fnv 12) #[.slice a n c, .slice b m d] I (fun v I' => v = .bool true) := by
 refine viaR (ct_via (A := { loops := [(5, ⟨[(1, .keep), (5, .keep), (6, .sh (.int .i64))], [], [], fun vals _ _ _ => match vals with | [.int .i64 j] => 0 <= j | _ => False, fun vals _ => match vals with | [.int .i64 j] => (n + 12 - j).toNat | _ => 0⟩)] }) Tryz.func12 rfl Tryz.call12 rfl rfl) (Br ((n : Int) != (m : Int)) (Value.bool false = .bool true) (Wr .i64 ((m : Int) + 12) (fun e => 0 <= e /\ e <= (c : Int) /\ (Rf (SV.v (.slice b m d)) /\ Rf (SV.v (.slice a e.toNat c)) /\ (0 : Int) <= 0) /\ ∀ (f : Mem), Mem -> I.le f -> ∀ (g : Int), 0 <= g -> Br (decide (g < (e.toNat : Int))) (Br (decide (g < (m : Int))) (0 <= g /\ g < (e.toNat : Int) /\ a.isSome = true /\ ∃ i, atI f a (g.toNat * 1 + 0) = some (.int .u8 i) /\ 0 <= g /\ g < (m : Int) /\ b.isSome = true /\ ∃ j, atI f b (g.toNat * 1 + 0) = some (.int .u8 j) /\ Br (!(i == j)) (Value.bool false = .bool true) (Br (decide ((m : Int) <= g)) (0 <= g /\ g < (e.toNat : Int) /\ a.isSome = true /\ ∃ k, atI f a (g.toNat * 1 + 0) = some (.int .u8 k) /\ Wr .i64 (g - (m : Int)) fun l => Ct Tryz.prog (fnv 15) #[.int .i64 1, .int .i64 l] f fun v o => ∃ p, v = .int .u8 p /\ Br (!(k == p)) (Value.bool false = .bool true) (Wr .i64 (g + 1) (fun q => Rf (SV.v (.slice b m d)) /\ Rf (SV.v (.slice a e.toNat c)) /\ 0 <= q /\ Int.toNat ((n : Int) + 12 - q) < Int.toNat ((n : Int) + 12 - g)))) (Wr .i64 (g + 1) (fun k => Rf (SV.v (.slice b m d)) /\ Rf (SV.v (.slice a e.toNat c)) /\ 0 <= k /\ Int.toNat ((n : Int) + 12 - k) < Int.toNat ((n : Int) + 12 - g))))) (Br (decide ((m : Int) <= g)) (0 <= g /\ g < (e.toNat : Int) /\ a.isSome = true /\ ∃ i, atI f a (g.toNat * 1 + 0) = some (.int .u8 i) /\ Wr .i64 (g - (m : Int)) fun j => Ct Tryz.prog (fnv 15) #[.int .i64 1, .int .i64 j] f fun v k => ∃ l, v = .int .u8 l /\ Br (!(i == l)) (Value.bool false = .bool true) (Wr .i64 (g + 1) (fun o => Rf (SV.v (.slice b m d)) /\ Rf (SV.v (.slice a e.toNat c)) /\ 0 <= o /\ Int.toNat ((n : Int) + 12 - o) < Int.toNat ((n : Int) + 12 - g)))) (Wr .i64 (g + 1) (fun i => Rf (SV.v (.slice b m d)) /\ Rf (SV.v (.slice a e.toNat c)) /\ 0 <= i /\ Int.toNat ((n : Int) + 12 - i) < Int.toNat ((n : Int) + 12 - g))))) (Rf (Value.bool true))))) (by kernel_rfl) ?_
 subst hx;subst hnm;have hnl := h'.numLen
 refine Br.f (by simp) (wr_i64 (by omega) (by omega) ⟨by omega, by omega, ⟨rfl, rfl, by omega⟩, fun I1 _ l1 j j0 => Br.mk (fun hlt => ?_) (fun hge => rfl)⟩)
 have hlt := of_decide_eq_true hlt
 have ha0 : a.isSome = true := h.isSome (by omega)
 have ha : ∀ x, (xs ++ marksB 1 12)[j.toNat]? = some x -> atI I1 a (j.toNat * 1 + 0) = some (Value.int .u8 x) := fun x hx => by
  rw [Nat.mul_one, Nat.add_zero];exact (h.mono l1).at_ _ _ (ints_get hx)
 refine Br.mk (fun h1 => ?_) (fun h1 => ?_)
 · have h1 := of_decide_eq_true h1
   have hg : xs[j.toNat]? = some xs[j.toNat] := List.getElem?_eq_getElem (by omega)
   have hg2 := ha _ (by rw [List.getElem?_append_left (by omega)]; exact hg)
   refine ⟨j0, hlt, ha0, _, hg2, j0, h1, h'.isSome (by omega), xs[j.toNat], ?_, Br.f (by simp) (Br.f (by simpa using h1) (wr_i64 (by omega) (by omega) ⟨rfl, rfl, by omega, by omega⟩))⟩
   rw [Nat.mul_one, Nat.add_zero];exact (h'.mono l1).at_ _ _ (ints_get hg)
 · have h1 := of_decide_eq_false h1
   have hk : j.toNat - n < 12 := by omega
   have hg2 := ha _ (by rw [List.getElem?_append_right (by omega), <- hnl]; exact marksB_at hk)
   refine Br.t (by simp; omega) ⟨j0, hlt, ha0, _, hg2, wr_i64 (by omega) (by omega) ((ct15 1 (j - n) I1 (by omega) ⟨by omega, by omega⟩).mono fun v I2 l2 hv => ⟨_, hv, Br.f ?_ (wr_i64 (by omega) (by omega) ⟨rfl, rfl, by omega, by omega⟩)⟩)⟩
   rw [show ((j.toNat - n : Nat) : Int) = j - n by omega]
   simp
theorem CtS.rowed {P : Program} {fv : SV} {args : List SV} {H : List Ent} {I : Mem} {el : TypeId} {Q : List Value -> Prop} (h : CtS P fv args H I (fun sv H' _ => ∃ zs, zs.length <= maxLen /\ Q zs /\
 ((sv = .xsl 0 0 zs.length zs.length /\ H' = [⟨.cells (zs.map .v) el, none⟩]) \/ (sv = .rsl 0 zs.length /\ H' = [⟨.row zs 1 el, none⟩])))) :
 CtS P fv args H I (fun sv H' _ => ∃ zs, Q zs /\ sv = .rsl 0 zs.length /\ H' = [⟨.row zs 1 el, none⟩]) := fun e hp hO => by
 refine (h e hp hO).mono ?_
 rintro v I' hp' hle ⟨e', sv, H', h1, h2, zs, hm, hq, ⟨rfl, rfl⟩ | ⟨rfl, rfl⟩⟩
 · obtain ⟨g1, cur, g2, g3, g4⟩ := h2.hold 0 _ rfl rfl
   refine ⟨{ e' with cap := fun _ => zs.length }, .rsl 0 zs.length, [⟨.row zs 1 el, none⟩], ?_, ⟨fun id x hx hal => ?_, fun i j x y hx hy _ _ _ _ hij => ?_, fun b hb => ?_, fun id x b hx hb => ?_⟩, zs, hq, rfl, rfl⟩
   · rw [h1]; simp [den, g1]
   · cases id with
     | zero =>
       simp only [List.getElem?_cons_zero, Option.some.injEq] at hx;subst hx
       refine ⟨by omega, ⟨zs.length, by omega⟩, .inr ⟨g1, cur, (0, 0), g2, thaw_zero _, by simpa using g3, hm, by simp at g3; omega, ?_⟩⟩
       apply List.ext_getElem?;intro k;rw [List.getElem?_take];split
       · rename_i hk
         have := g4 k (.v zs[k]) (by simp [hk]) rfl
         simp only [den] at this;rw [Array.getElem?_toList, this, List.getElem?_eq_getElem hk]
       · rw [List.getElem?_eq_none (by omega)]
     | succ id => simp at hx
   · have hi := (List.getElem?_eq_some_iff.1 hx).1
     have hj := (List.getElem?_eq_some_iff.1 hy).1;simp at hi hj;omega
   · obtain ⟨id, x, hx, hal, hn, hbe⟩ := h2.dom b hb
     have hi := (List.getElem?_eq_some_iff.1 hx).1;simp at hi;subst hi;exact ⟨0, _, rfl, rfl, hn, hbe⟩
   · have hi := (List.getElem?_eq_some_iff.1 hx).1
     simp at hi;subst hi;simp at hx;subst hx;cases hb
 · exact ⟨e', _, _, h1, h2, zs, hq, rfl, rfl⟩
theorem pow8 : ∀ l : Nat, l < 8 -> (256 : Int) ^ (l + 1) <= 18446744073709551616 := by decide
theorem cs105 : ∀ (k : Nat) (x : Int), 0 <= x -> x < 256 ^ (k + 1) -> (k = 0 \/ 256 ^ k <= x) -> k <= 7 -> ∀ (I : Mem),
 CtS Tryz.prog (.v (fnv 105)) [.v (.int .u64 x)] [] I (fun sv H' _ => ∃ zs, zs = ints .u8 (be (k + 1) x.toNat) /\ sv = .rsl 0 zs.length /\ H' = [⟨.row zs 1 5, none⟩]) := by
 intro k
 induction k with
 | zero =>
   intro x h0 h1 h2 hk I;refine CtS.rowed ?_
   refine viaR (ctS_via (A := { calls := [(10, .lend [] (.row 0) [.row 1 5])] }) Tryz.func105 rfl Tryz.call105 [0] rfl) (Br (decide (x < 256)) (Wr .u8 x (fun c => ∃ z, z.length <= 9223372036854775807 /\ z = [.int .u8 ((x.toNat % 256 : Nat) : Int)] /\ (SV.xsl 0 0 1 1 = .xsl 0 0 z.length z.length /\ [Ent.mk (.cells [.v (.int .u8 c)] 5) none] = [⟨.cells (List.map SV.v z) 5, none⟩] \/ SV.xsl 0 0 1 1 = .rsl 0 z.length /\ [Ent.mk (.cells [.v (.int .u8 c)] 5) none] = [⟨.row z 1 5, none⟩]))) ((256 : Int) ≠ 0 /\ Wr .u64 (x.tdiv 256) fun c => CtS Tryz.prog (.v (fnv 105)) [.v (.int .u64 c)] [] I fun s H a => ∃ n b, s = .rsl 0 n /\ H = [⟨.row b 1 5, none⟩] /\ (256 : Int) ≠ 0 /\ Wr .u8 (x.tmod 256) fun d => b.length = n * 1 /\ n + 1 <= 9223372036854775807 /\ (n + 1) * 1 <= 140737488355328 /\ ∃ z, z.length <= 9223372036854775807 /\ z = [.int .u8 ((x.toNat % 256 : Nat) : Int)] /\ (SV.rsl 0 (n + 1) = .xsl 0 0 z.length z.length /\ [Ent.mk (.row (b ++ [.int .u8 d]) 1 5) none] = [⟨.cells (List.map SV.v z) 5, none⟩] \/ SV.rsl 0 (n + 1) = .rsl 0 z.length /\ [Ent.mk (.row (b ++ [.int .u8 d]) 1 5) none] = [⟨.row z 1 5, none⟩]))) (by kernel_rfl) ?_
   have h1 : x < 256 := by simpa using h1
   refine Br.t (by simpa using h1) ⟨_, IntWalk.u8_in x ⟨h0, by omega⟩, [.int .u8 x], by simp, ?_, .inl ⟨rfl, rfl⟩⟩
   rw [show ((x.toNat % 256 : Nat) : Int) = x by omega]
 | succ k ih =>
   intro x h0 h1 h2 hk I;refine CtS.rowed ?_
   refine viaR (ctS_via (A := { calls := [(10, .lend [] (.row 0) [.row 1 5])] }) Tryz.func105 rfl Tryz.call105 [0] rfl) (Br (decide (x < 256)) (Wr .u8 x (fun c => ∃ z, z.length <= 9223372036854775807 /\ z = List.map (Value.int .u8) (be (k + 1 + 1) x.toNat) /\ (SV.xsl 0 0 1 1 = .xsl 0 0 z.length z.length /\ [Ent.mk (.cells [.v (.int .u8 c)] 5) none] = [⟨.cells (List.map SV.v z) 5, none⟩] \/ SV.xsl 0 0 1 1 = .rsl 0 z.length /\ [Ent.mk (.cells [.v (.int .u8 c)] 5) none] = [⟨.row z 1 5, none⟩]))) ((256 : Int) ≠ 0 /\ Wr .u64 (x.tdiv 256) fun c => CtS Tryz.prog (.v (fnv 105)) [.v (.int .u64 c)] [] I fun s H a => ∃ n b, s = .rsl 0 n /\ H = [⟨.row b 1 5, none⟩] /\ (256 : Int) ≠ 0 /\ Wr .u8 (x.tmod 256) fun d => b.length = n * 1 /\ n + 1 <= 9223372036854775807 /\ (n + 1) * 1 <= 140737488355328 /\ ∃ z, z.length <= 9223372036854775807 /\ z = List.map (Value.int .u8) (be (k + 1 + 1) x.toNat) /\ (SV.rsl 0 (n + 1) = .xsl 0 0 z.length z.length /\ [Ent.mk (.row (b ++ [.int .u8 d]) 1 5) none] = [⟨.cells (List.map SV.v z) 5, none⟩] \/ SV.rsl 0 (n + 1) = .rsl 0 z.length /\ [Ent.mk (.row (b ++ [.int .u8 d]) 1 5) none] = [⟨.row z 1 5, none⟩]))) (by kernel_rfl) ?_
   have hge : 256 ^ (k + 1) <= x := h2.elim (fun h => by omega) id
   have hp : (1 : Int) <= 256 ^ k := Int.pow_pos (by omega)
   have hx : 256 <= x := by rw [Int.pow_succ] at hge; omega
   have hx8 : x < 18446744073709551616 := Int.lt_of_lt_of_le h1 (pow8 (k + 1) (by omega))
   have hd : x.tdiv 256 = x / 256 := Int.tdiv_eq_ediv_of_nonneg h0;have hm : x.tmod 256 = x % 256 := Int.tmod_eq_emod_of_nonneg h0;rw [hd, hm]
   refine Br.f (by simpa using hx) ⟨by omega, _, IntWalk.u64_in _ ⟨by omega, by omega⟩, (ih (x / 256) (by omega) (by rw [Int.pow_succ] at h1; omega) (.inr (by rw [Int.pow_succ] at hge; omega)) (by omega) I).mono ?_⟩
   rintro sv H' I' _ ⟨zs, rfl, rfl, rfl⟩
   refine ⟨_, _, rfl, rfl, by omega, _, IntWalk.u8_in _ ⟨by omega, by omega⟩, by omega, by rw [ints_len, be_len]; omega, by rw [ints_len, be_len]; omega, _, ?_, rfl, .inr ⟨?_, ?_⟩⟩
   · simp [be_len]; have : maxLen = 9223372036854775807 := by decide
     omega
   · simp [be_len, ints]
   · have e : x.toNat / 256 = (x / 256).toNat := by omega
     have e2 : ((x.toNat % 256 : Nat) : Int) = x % 256 := by omega
     rw [show be (k + 1 + 1) x.toNat = be (k + 1) (x.toNat / 256) ++ [((x.toNat % 256 : Nat) : Int)] from rfl, e, e2]
     simp [ints]
theorem ct77 (x : Int) (h : 0 <= x /\ x <= 18446744073709551615) (I : Mem) : Ct Tryz.prog (fnv 77) #[.int .u64 x] I (fun v I' => BySl I' v (formN x.toNat)) := by
 refine viaR (ct_via (A := { calls := [(10, .lend [] (.row 0) [.row 1 5])] }) Tryz.func77 rfl Tryz.call77 rfl rfl) (Br (decide (x < 247)) (Wr .u8 x (fun c => ∀ (b : Nat) (a : Mem), I.le a -> a b = some (.cells #[.int .u8 c] 5 (0, 0)) -> ∃ d m e, Value.slice (some ⟨b, 0, none⟩) 1 1 = .slice d m e /\ SlM a d m 1 (List.map (Value.int .u8) (formN x.toNat)) /\ m <= e /\ e <= 9223372036854775807)) (CtS Tryz.prog (.v (fnv 105)) [.v (.int .u64 x)] [] I (fun s H a => ∃ n b, s = .rsl 0 n /\ H = [⟨.row b 1 5, none⟩] /\ Wr .i64 (246 + (n : Int)) fun c => Wr .u8 c fun d => n * 1 <= b.length /\ (∀ (v : Value), Membership.mem (List.take (n * 1) b) v -> v.oneCell' = true) /\ (1 : Nat) = 1 /\ 1 + n <= 9223372036854775807 /\ (1 + n) * 1 <= 140737488355328 /\ ∀ (e : Option Addr) (f : Nat) (g : Mem), a.le g -> RowM g e f 1 (.int .u8 d :: List.append ([] : List Value) (List.take (n * 1) b)) -> ∃ i m j, Value.slice e (1 + n) f = .slice i m j /\ SlM g i m 1 (List.map (Value.int .u8) (formN x.toNat)) /\ m <= j /\ j <= 9223372036854775807))) (by kernel_rfl) ?_
 refine Br.mk (fun h1 => ?_) (fun h1 => ?_)
 · have h1 := of_decide_eq_true h1
   have hf : formN x.toNat = [x] := by rw [formN, if_pos (by omega)]; congr 1; omega
   refine ⟨_, IntWalk.u8_in x ⟨h.1, by omega⟩, fun b I1 l1 hb => ⟨_, _, _, rfl, ?_, by omega, by decide⟩⟩
   rw [hf]
   exact sl_cells (n := 1) (sz := 1) hb rfl (by decide)
 · have h1 := of_decide_eq_false h1
   have hd8 : digN x.toNat <= 8 := digN_le (k := 8) (by omega)
   have hbd := digN_bd (x := x.toNat) (by omega)
   obtain ⟨k, hk⟩ : ∃ k, digN x.toNat = k + 1 := ⟨digN x.toNat - 1, by rw [digN_pos (by omega)]; omega⟩
   have hf : formN x.toNat = ((246 + (k + 1) : Nat) : Int) :: be (k + 1) x.toNat := by rw [formN, if_neg (by omega), hk]
   rw [hk] at hbd
   have c1 : ((256 ^ (k + 1) : Nat) : Int) = (256 : Int) ^ (k + 1) := by simp
   have c2 : ((256 ^ k : Nat) : Int) = (256 : Int) ^ k := by simp
   refine (cs105 k x h.1 (by omega) (.inr (by simp only [Nat.add_sub_cancel] at hbd; omega)) (by omega) I).mono ?_
   rintro sv H' I' _ ⟨zs, rfl, rfl, rfl⟩;refine ⟨_, _, rfl, rfl, ?_⟩
   have hl : (ints IntKind.u8 (be (k + 1) x.toNat)).length = k + 1 := by rw [ints_len, be_len]
   rw [hl, Nat.mul_one, List.take_of_length_le (by omega)]
   refine wr_i64 (by omega) (by omega) ⟨_, IntWalk.u8_in _ ⟨by omega, by omega⟩, by omega, fun v hv => one_ints v hv, rfl, by omega, by omega, fun a' cp I2 l2 hrow => ?_⟩
   rw [hf]
   exact row_bysl (xs := ((246 + (k + 1) : Nat) : Int) :: be (k + 1) x.toNat) hrow (by simp [be_len]; omega)
theorem ct76 (xs ys : List Int) (a b : Option Addr) (n c m d : Nat) (I : Mem) (h : SlM I a n 1 (ints .u8 xs)) (h' : SlM I b m 1 (ints .u8 ys)) (hn : n <= 1000000000) :
 Ct Tryz.prog (fnv 76) #[.slice a n c, .slice b m d] I (fun v _ => v = .bool (decide (xs = ys))) := by
 refine viaR (ct_via (A := { loops := [(4, ⟨[(0, .keep), (1, .keep), (5, .sh (.int .i64))], [], [], fun vals _ _ _ => match vals with | [.int .i64 j] => 0 <= j /\ j <= n /\ ∀ k : Nat, (k : Int) < j -> xs[k]? = ys[k]? | _ => False, fun vals _ => match vals with | [.int .i64 j] => (n - j).toNat | _ => 0⟩)] }) Tryz.func76 rfl Tryz.call76 rfl rfl) (Br ((n : Int) != (m : Int)) (Value.bool false = .bool (decide (xs = ys))) ((Rf (SV.v (.slice a n c)) /\ Rf (SV.v (.slice b m d)) /\ (0 : Int) <= 0 /\ 0 <= (n : Int) /\ ∀ (k : Nat), (k : Int) < 0 -> xs[k]? = ys[k]?) /\ ∀ (e : Mem), Mem -> I.le e -> ∀ (f : Int), 0 <= f /\ f <= (n : Int) /\ (∀ (k : Nat), (k : Int) < f -> xs[k]? = ys[k]?) -> Br (decide (f < (n : Int))) (0 <= f /\ f < (n : Int) /\ a.isSome = true /\ ∃ g, atI e a (f.toNat * 1 + 0) = some (.int .u8 g) /\ 0 <= f /\ f < (m : Int) /\ b.isSome = true /\ ∃ i, atI e b (f.toNat * 1 + 0) = some (.int .u8 i) /\ Br (g != i) (Value.bool false = .bool (decide (xs = ys))) (Wr .i64 (f + 1) (fun j => Rf (SV.v (.slice a n c)) /\ Rf (SV.v (.slice b m d)) /\ (0 <= j /\ j <= (n : Int) /\ ∀ (k : Nat), (k : Int) < j -> xs[k]? = ys[k]?) /\ Int.toNat ((n : Int) - j) < Int.toNat ((n : Int) - f)))) (Value.bool true = .bool (decide (xs = ys))))) (by kernel_rfl) ?_
 have e1 := h.numLen;have e2 := h'.numLen;refine Br.mk (fun hne => ?_) (fun he => ?_)
 · have hne : n ≠ m := by intro e; subst e; simp at hne
   rw [decide_eq_false (fun e => hne (by rw [e1, e2, e]))]
 have he : n = m := by
  have : (n : Int) = m := by simpa using he
  omega
 refine ⟨⟨rfl, rfl, by omega, by omega, fun k hk => by omega⟩, fun I1 _ l1 j ⟨j0, j1, j2⟩ => Br.mk (fun hlt => ?_) (fun hge => ?_)⟩
 · have hlt := of_decide_eq_true hlt
   obtain ⟨x, hx, hxc⟩ := (h.mono l1).intAt (i := j) j0 hlt
   obtain ⟨y, hy, hyc⟩ := (h'.mono l1).intAt (i := j) j0 (by omega)
   refine ⟨j0, hlt, h.isSome (by omega), x, hxc, j0, by omega, h'.isSome (by omega), y, hyc, Br.mk (fun hne => ?_) (fun hxy => ?_)⟩
   · have hne : x ≠ y := by simpa using hne
     rw [decide_eq_false (fun e => hne (by subst e; rw [hx] at hy; exact Option.some.inj hy))]
   · have hxy : x = y := by simpa using hxy
     subst hxy
     refine wr_i64 (by omega) (by omega) ⟨rfl, rfl, ⟨by omega, by omega, fun k hk => ?_⟩, by omega⟩
     by_cases hkj : (k : Int) < j
     · exact j2 k hkj
     · obtain rfl : k = j.toNat := by omega
       rw [hx, hy]
 · have hge := of_decide_eq_false hge
   have : xs = ys := List.ext_getElem? fun k => by
    by_cases hk : k < n
    · exact j2 k (by omega)
    · rw [List.getElem?_eq_none (by omega), List.getElem?_eq_none (by omega)]
   rw [decide_eq_true this]
theorem ref_end {bs : List Int} (hbs : ∀ b ∈ bs, 0 <= b /\ b <= 255) {at_ x m : Int} (h0 : 0 <= at_) (hx : 0 <= x /\ x <= 18446744073709551615) (hm0 : 0 <= m) (hm : at_ + m <= bs.length) (hacc : readN bs at_ = (0, 0, 11) \/ readN bs at_ = (x, m, 0)) :
 readN bs at_ = if formN x.toNat = (bs.drop at_.toNat).take m.toNat then (x, m, 0) else (0, 0, 11) := by
 split
 · rename_i he
   have hl : (formN x.toNat).length = m.toNat := by rw [he]; simp; omega
   have hb : bs = bs.take at_.toNat ++ (formN x.toNat ++ bs.drop (at_.toNat + m.toNat)) := by
    rw [he, <- List.drop_drop, List.take_append_drop, List.take_append_drop]
   have h1 := readN_form (bs.take at_.toNat) (bs.drop (at_.toNat + m.toNat)) x.toNat (by omega)
   rw [<- hb, List.length_take, show ((min at_.toNat bs.length : Nat) : Int) = at_ by omega, hl] at h1
   rw [h1]
   congr 1
   · omega
   · congr 1; omega
 · rename_i hne
   rcases hacc with h | h
   · exact h
   · exfalso
     obtain ⟨_, _, _, _, g1, g2, g3⟩ := readN_back hbs h;refine hne ?_
     rw [g2, List.take_left' (by omega)]
theorem ct49 (bs : List Int) (hbs : ∀ b ∈ bs, 0 <= b /\ b <= 255) (a : Option Addr) (n c : Nat) (at_ : Int) (hat : -1000000 <= at_ /\ at_ <= 1000000000) (I : Mem) (h : SlM I a n 1 (ints .u8 bs)) (hl : n <= 1000000000) (hc : n <= c) :
 Ct Tryz.prog (fnv 49) #[.slice a n c, .int .i64 at_] I (fun v _ => v = T3 (readN bs at_)) := by
 refine viaR (ct_via (A := { loops := [(14, ⟨[(0, .keep), (1, .keep), (7, .keep), (8, .sh (.int .u64)), (9, .sh (.int .i64))], [], [], fun vals _ _ _ => match vals with | [.int .u64 v8, .int .i64 i] => 1 <= i /\ i <= (bs[at_.toNat]?).getD 0 - 245 /\ v8 = valN ((digs bs at_ ((bs[at_.toNat]?).getD 0)).take (i.toNat - 1)) | _ => False, fun vals _ => match vals with | [_, .int .i64 i] => (20 - i).toNat | _ => 0⟩)] }) Tryz.func49 rfl Tryz.call49 rfl rfl) (Br (decide (at_ < 0)) (Value.tuple #[.int .u64 0, .int .i64 0, .int .i64 2] = .tuple #[.int .u64 (readN bs at_).1, .int .i64 (readN bs at_).2.1, .int .i64 (readN bs at_).2.2]) (Br (decide ((n : Int) < at_)) (Value.tuple #[.int .u64 0, .int .i64 0, .int .i64 2] = .tuple #[.int .u64 (readN bs at_).1, .int .i64 (readN bs at_).2.1, .int .i64 (readN bs at_).2.2]) (Br (at_ == (n : Int)) (Value.tuple #[.int .u64 0, .int .i64 0, .int .i64 10] = .tuple #[.int .u64 (readN bs at_).1, .int .i64 (readN bs at_).2.1, .int .i64 (readN bs at_).2.2]) (0 <= at_ /\ at_ < (n : Int) /\ a.isSome = true /\ ∃ b, atI I a (at_.toNat * 1 + 0) = some (.int .u8 b) /\ Br (decide (246 < b)) (0 <= at_ /\ at_ < (n : Int) /\ a.isSome = true /\ ∃ d, atI I a (at_.toNat * 1 + 0) = some (.int .u8 d) /\ Br (decide (d < 255)) (0 <= at_ /\ at_ < (n : Int) /\ a.isSome = true /\ ∃ e, atI I a (at_.toNat * 1 + 0) = some (.int .u8 e) /\ Wr .i64 e fun f => Wr .i64 (f - 245) fun g => Wr .i64 ((n : Int) - at_) fun i => Br (decide (i < g)) (Value.tuple #[.int .u64 0, .int .i64 0, .int .i64 10] = .tuple #[.int .u64 (readN bs at_).1, .int .i64 (readN bs at_).2.1, .int .i64 (readN bs at_).2.2]) (0 <= at_ /\ at_ < (n : Int) /\ a.isSome = true /\ ∃ j, atI I a (at_.toNat * 1 + 0) = some (.int .u8 j) /\ Wr .u64 j fun k => Br (decide (1 < g)) ((Rf (SV.v (.slice a n c)) /\ Rf (SV.v (.int .i64 at_)) /\ Rf (SV.v (.int .i64 g)) /\ (1 : Int) <= 1 /\ 1 <= bs[at_.toNat]?.getD (0 : Int) - 245 /\ (0 : Int) = 0) /\ ∀ (l : Mem), Mem -> I.le l -> ∀ (m o : Int), 1 <= o /\ o <= bs[at_.toNat]?.getD (0 : Int) - 245 /\ m = valN (List.take (o.toNat - 1) (digs bs at_ (bs[at_.toNat]?.getD (0 : Int)))) -> Br (decide (o < g)) (Wr .u64 (256 * m) (fun p => Wr .i64 (at_ + o) fun q => 0 <= q /\ q < (n : Int) /\ a.isSome = true /\ ∃ r, atI l a (q.toNat * 1 + 0) = some (.int .u8 r) /\ Wr .u64 r fun s => Wr .u64 (p + s) fun t => Wr .i64 (o + 1) fun u => Rf (SV.v (.slice a n c)) /\ Rf (SV.v (.int .i64 at_)) /\ Rf (SV.v (.int .i64 g)) /\ (1 <= u /\ u <= bs[at_.toNat]?.getD (0 : Int) - 245 /\ t = valN (List.take (u.toNat - 1) (digs bs at_ (bs[at_.toNat]?.getD (0 : Int))))) /\ Int.toNat (20 - u) < Int.toNat (20 - o))) (Wr .i64 (at_ + g) (fun p => 0 <= at_ /\ at_ <= p /\ p <= (c : Int) /\ Ct Tryz.prog (fnv 77) #[.int .u64 m] l fun v q => ∃ r s t, v = .slice r s t /\ Ct Tryz.prog (fnv 76) #[.slice r s t, .slice (sladdr a c at_.toNat 1) (p.toNat - at_.toNat) (c - at_.toNat)] q fun u w => ∃ x, u = .bool x /\ Br (!x) (Value.tuple #[.int .u64 0, .int .i64 0, .int .i64 11] = .tuple #[.int .u64 (readN bs at_).1, .int .i64 (readN bs at_).2.1, .int .i64 (readN bs at_).2.2]) (Value.tuple #[.int .u64 m, .int .i64 g, .int .i64 0] = .tuple #[.int .u64 (readN bs at_).1, .int .i64 (readN bs at_).2.1, .int .i64 (readN bs at_).2.2])))) (Wr .i64 (at_ + g) (fun l => 0 <= at_ /\ at_ <= l /\ l <= (c : Int) /\ Ct Tryz.prog (fnv 77) #[.int .u64 k] I fun v m => ∃ o p q, v = .slice o p q /\ Ct Tryz.prog (fnv 76) #[.slice o p q, .slice (sladdr a c at_.toNat 1) (l.toNat - at_.toNat) (c - at_.toNat)] m fun r s => ∃ t, r = .bool t /\ Br (!t) (Value.tuple #[.int .u64 0, .int .i64 0, .int .i64 11] = .tuple #[.int .u64 (readN bs at_).1, .int .i64 (readN bs at_).2.1, .int .i64 (readN bs at_).2.2]) (Value.tuple #[.int .u64 k, .int .i64 g, .int .i64 0] = .tuple #[.int .u64 (readN bs at_).1, .int .i64 (readN bs at_).2.1, .int .i64 (readN bs at_).2.2]))))) (Wr .i64 ((n : Int) - at_) (fun e => Br (decide (e < 1)) (Value.tuple #[.int .u64 0, .int .i64 0, .int .i64 10] = .tuple #[.int .u64 (readN bs at_).1, .int .i64 (readN bs at_).2.1, .int .i64 (readN bs at_).2.2]) (0 <= at_ /\ at_ < (n : Int) /\ a.isSome = true /\ ∃ f, atI I a (at_.toNat * 1 + 0) = some (.int .u8 f) /\ Wr .u64 f fun g => Wr .i64 (at_ + 1) fun i => 0 <= at_ /\ at_ <= i /\ i <= (c : Int) /\ Ct Tryz.prog (fnv 77) #[.int .u64 g] I fun v j => ∃ k l m, v = .slice k l m /\ Ct Tryz.prog (fnv 76) #[.slice k l m, .slice (sladdr a c at_.toNat 1) (i.toNat - at_.toNat) (c - at_.toNat)] j fun o p => ∃ q, o = .bool q /\ Br (!q) (Value.tuple #[.int .u64 0, .int .i64 0, .int .i64 11] = .tuple #[.int .u64 (readN bs at_).1, .int .i64 (readN bs at_).2.1, .int .i64 (readN bs at_).2.2]) (Value.tuple #[.int .u64 g, .int .i64 1, .int .i64 0] = .tuple #[.int .u64 (readN bs at_).1, .int .i64 (readN bs at_).2.1, .int .i64 (readN bs at_).2.2]))))) (Wr .i64 ((n : Int) - at_) (fun d => Br (decide (d < 1)) (Value.tuple #[.int .u64 0, .int .i64 0, .int .i64 10] = .tuple #[.int .u64 (readN bs at_).1, .int .i64 (readN bs at_).2.1, .int .i64 (readN bs at_).2.2]) (0 <= at_ /\ at_ < (n : Int) /\ a.isSome = true /\ ∃ e, atI I a (at_.toNat * 1 + 0) = some (.int .u8 e) /\ Wr .u64 e fun f => Wr .i64 (at_ + 1) fun g => 0 <= at_ /\ at_ <= g /\ g <= (c : Int) /\ Ct Tryz.prog (fnv 77) #[.int .u64 f] I fun v i => ∃ j k l, v = .slice j k l /\ Ct Tryz.prog (fnv 76) #[.slice j k l, .slice (sladdr a c at_.toNat 1) (g.toNat - at_.toNat) (c - at_.toNat)] i fun m o => ∃ p, m = .bool p /\ Br (!p) (Value.tuple #[.int .u64 0, .int .i64 0, .int .i64 11] = .tuple #[.int .u64 (readN bs at_).1, .int .i64 (readN bs at_).2.1, .int .i64 (readN bs at_).2.2]) (Value.tuple #[.int .u64 f, .int .i64 1, .int .i64 0] = .tuple #[.int .u64 (readN bs at_).1, .int .i64 (readN bs at_).2.1, .int .i64 (readN bs at_).2.2])))))))) (by kernel_rfl) ?_
 have hn := h.numLen
 have fin : ∀ (I1 : Mem) (x m : Int), I.le I1 -> 0 <= at_ -> (0 <= x /\ x <= 18446744073709551615) -> 0 <= m -> at_ + m <= bs.length -> (readN bs at_ = (0, 0, 11) \/ readN bs at_ = (x, m, 0)) ->
  Ct Tryz.prog (Value.func (Fn.func 77) #[] #[]) #[Value.int IntKind.u64 x] I1 fun v I' => ∃ a_3 n c_6, v = Value.slice a_3 n c_6 /\ Ct Tryz.prog (Value.func (Fn.func 76) #[] #[]) #[Value.slice a_3 n c_6, Value.slice (sladdr a c at_.toNat 1) ((at_ + m).toNat - at_.toNat) (c - at_.toNat)] I' fun v I' => ∃ b, v = Value.bool b /\ Br (!b) (Value.tuple #[Value.int IntKind.u64 0, Value.int IntKind.i64 0, Value.int IntKind.i64 11] = Value.tuple #[Value.int IntKind.u64 (readN bs at_).fst, Value.int IntKind.i64 (readN bs at_).snd.fst, Value.int IntKind.i64 (readN bs at_).snd.snd]) (Value.tuple #[Value.int IntKind.u64 x, Value.int IntKind.i64 m, Value.int IntKind.i64 0] = Value.tuple #[Value.int IntKind.u64 (readN bs at_).fst, Value.int IntKind.i64 (readN bs at_).snd.fst, Value.int IntKind.i64 (readN bs at_).snd.snd]) := by
  intro I1 x m l1 a0 hx m0 hm hacc;refine (ct77 x hx I1).mono fun v I2 l2 ⟨a3, n3, c3, hv, hs, hc3, hm3⟩ => ⟨a3, n3, c3, hv, ?_⟩
  have hsub := sl_sub (f := at_.toNat) (t := (at_ + m).toNat) ((h.mono l1).mono l2) (by omega) (by omega) hc
  have hf8 := formN_le x.toNat (by omega)
  have hn3 := hs.numLen
  refine (ct76 _ _ _ _ _ _ _ _ I2 hs hsub (by omega)).mono fun v I3 l3 hv => ⟨_, hv, ?_⟩
  rw [show (at_ + m).toNat - at_.toNat = m.toNat by omega, ref_end hbs a0 hx m0 hm hacc]
  by_cases he : formN x.toNat = (bs.drop at_.toNat).take m.toNat
  · rw [decide_eq_true he, if_pos he]; exact Br.f rfl rfl
  · rw [decide_eq_false he, if_neg he]; exact Br.t rfl rfl
 refine Br.mk (fun h0 => ?_) (fun h0 => Br.mk (fun h1 => ?_) (fun h1 => Br.mk (fun h2 => ?_) (fun h2 => ?_)))
 · have h0 := of_decide_eq_true h0
   rw [readN, if_pos (.inl h0)]
 · have h1 := of_decide_eq_true h1
   rw [readN, if_pos (.inr (by omega))]
 · have h2 : at_ = n := by simpa using h2
   rw [readN, if_neg (by omega), List.getElem?_eq_none (by omega)]
 have h0 := of_decide_eq_false h0;have h1 := of_decide_eq_false h1
 have h2 : at_ ≠ n := by simpa using h2
 obtain ⟨b, hb, hcell⟩ := h.intAt (i := at_) (by omega) (by omega)
 have hbr := hbs b (List.mem_of_getElem? hb)
 have hrd : readN bs at_ = if b <= 246 then (b, 1, 0) else if b = 255 then (0, 0, 11) else
  if (bs.length : Int) - at_ - 1 < b - 246 then (0, 0, 10) else
  if (digs bs at_ b)[0]? = some 0 then (0, 0, 11) else
  if valN (digs bs at_ b) <= 246 then (0, 0, 11) else (valN (digs bs at_ b), b - 246 + 1, 0) := by
  rw [readN, if_neg (by omega), hb]
 have hsome := h.isSome (by omega)
 have one : (b <= 246 \/ b = 255) -> readN bs at_ = (0, 0, 11) \/ readN bs at_ = (b, 1, 0) := fun hc => by
  rw [hrd]
  rcases hc with hc | hc
  · rw [if_pos hc]; exact .inr rfl
  · rw [if_neg (by omega), if_pos hc]; exact .inl rfl
 simp only [hb, Option.getD_some]
 refine ⟨by omega, by omega, hsome, b, hcell, Br.mk (fun h3 => ?_) (fun h3 => ?_)⟩
 · have h3 := of_decide_eq_true h3
   refine ⟨by omega, by omega, hsome, b, hcell, Br.mk (fun h4 => ?_) (fun h4 => ?_)⟩
   · have h4 := of_decide_eq_true h4
     rw [if_neg (by omega), if_neg (by omega)] at hrd
     refine ⟨by omega, by omega, hsome, b, hcell, wr_i64 (by omega) (by omega) (wr_i64 (by omega) (by omega) (wr_i64 (by omega) (by omega) (Br.mk (fun h5 => ?_) (fun h5 => ?_))))⟩
     · have h5 := of_decide_eq_true h5
       rw [hrd, if_pos (by omega)]
     have h5 := of_decide_eq_false h5
     rw [if_neg (by omega)] at hrd
     have hdl : (digs bs at_ b).length = (b - 246).toNat := by simp only [digs, List.length_take, List.length_drop]; omega
     have hdat : ∀ i : Nat, i < (b - 246).toNat -> (digs bs at_ b)[i]? = bs[at_.toNat + 1 + i]? := fun i hi => by
      rw [digs, List.getElem?_take, if_pos hi, List.getElem?_drop]
     have hdb : ∀ d ∈ digs bs at_ b, 0 <= d /\ d <= 255 := fun d hd => hbs d (List.mem_of_mem_drop (List.mem_of_mem_take hd))
     refine ⟨by omega, by omega, hsome, b, hcell, b, IntWalk.u64_in b ⟨hbr.1, by omega⟩, Br.t (by simp; omega) ⟨⟨trivial, trivial, trivial, by omega, by omega, trivial⟩, fun I1 G1 l1 x i ⟨k0, k1, k2⟩ => Br.mk (fun hlt => ?_) (fun hge => ?_)⟩⟩
     · have hlt := of_decide_eq_true hlt
       have hxb := valN_bd ((digs bs at_ b).take (i.toNat - 1)) fun y hy => hdb y (List.mem_of_mem_take hy)
       have hxl : ((digs bs at_ b).take (i.toNat - 1)).length <= 7 := by rw [List.length_take]; omega
       have hx7 : x < 72057594037927936 := by
        rw [k2];refine Int.lt_of_lt_of_le hxb.2 ?_
        exact pow7 _ (by omega)
       have hx0 : 0 <= x := by rw [k2]; exact hxb.1
       obtain ⟨d, hd, hdc⟩ := (h.mono l1).intAt (i := at_ + i) (by omega) (by omega)
       have hdr := hbs d (List.mem_of_getElem? hd)
       have hdi : (digs bs at_ b)[i.toNat - 1]? = some d := by rw [hdat _ (by omega), <- hd]; congr 1; omega
       refine ⟨_, IntWalk.u64_in _ ⟨by omega, by omega⟩, wr_i64 (by omega) (by omega) ⟨by omega, by omega, hsome, d, hdc, _, IntWalk.u64_in _ ⟨hdr.1, by omega⟩, _, IntWalk.u64_in _ ⟨by omega, by omega⟩, wr_i64 (by omega) (by omega) ⟨trivial, trivial, trivial, ⟨by omega, by omega, ?_⟩, by omega⟩⟩⟩
       rw [show (i + 1).toNat - 1 = i.toNat - 1 + 1 by omega, take_succ' hdi, valN_snoc, <- k2]
       omega
     · have hge := of_decide_eq_false hge
       have hix : x = valN (digs bs at_ b) := by rw [k2, List.take_of_length_le (by rw [hdl]; omega)]
       have hxb := valN_bd (digs bs at_ b) hdb
       have hp8 : (256 : Int) ^ (digs bs at_ b).length <= 18446744073709551616 := by
        rw [hdl]
        obtain ⟨k, hk⟩ : ∃ k, (b - 246).toNat = k + 1 := ⟨(b - 246).toNat - 1, by omega⟩
        rw [hk]
        exact pow8 k (by omega)
       refine wr_i64 (by omega) (by omega) ⟨by omega, by omega, by omega, fin I1 x (b - 245) l1 (by omega) ⟨by omega, by omega⟩ (by omega) (by omega) ?_⟩
       rw [hrd, hix];split
       · exact .inl rfl
       · split
         · exact .inl rfl
         · right; congr 2; omega
   · have h4 := of_decide_eq_false h4
     refine wr_i64 (by omega) (by omega) (Br.f (by simp; omega) ⟨by omega, by omega, hsome, b, hcell, b, IntWalk.u64_in b ⟨hbr.1, by omega⟩, wr_i64 (by omega) (by omega) ⟨by omega, by omega, by omega, fin I b 1 (Mem.le_refl _) (by omega) ⟨hbr.1, by omega⟩ (by omega) (by omega) (one (.inr (by omega)))⟩⟩)
 · have h3 := of_decide_eq_false h3
   refine wr_i64 (by omega) (by omega) (Br.f (by simp; omega) ⟨by omega, by omega, hsome, b, hcell, b, IntWalk.u64_in b ⟨hbr.1, by omega⟩, wr_i64 (by omega) (by omega) ⟨by omega, by omega, by omega, fin I b 1 (Mem.le_refl _) (by omega) ⟨hbr.1, by omega⟩ (by omega) (by omega) (one (.inl (by omega)))⟩⟩)
set_option maxHeartbeats 1000000
def KeepG (G G' : Mem) : Prop := ∀ b cur el fz, G b = some (.cells cur el fz) -> ∃ cur', G' b = some (.cells cur' el fz) /\ cur'.size = cur.size
theorem KeepG.refl (G : Mem) : KeepG G G := fun b cur el fz h => ⟨cur, h, rfl⟩
theorem KeepG.trans {G G' G'' : Mem} (h : KeepG G G') (h' : KeepG G' G'') : KeepG G G'' := fun b cur el fz hb => by
 obtain ⟨c1, h1, s1⟩ := h b cur el fz hb;obtain ⟨c2, h2, s2⟩ := h' b c1 el fz h1
 exact ⟨c2, h2, by omega⟩
theorem KeepG.own {G G' : Mem} (h : KeepG G G') {sz : Nat} {a : Option Addr} {c : Nat} (ho : OwnS sz G a c) : OwnS sz G' a c := fun hc => by
 obtain ⟨b, off, cur, el, fz, h1, h2, h3, h4⟩ := ho hc;obtain ⟨c1, g1, g2⟩ := h b cur el fz h2
 exact ⟨b, off, c1, el, fz, h1, g1, by rw [g2]; exact h3, by omega⟩
theorem keepG_put {G G' : Mem} {a : Option Addr} {k : Nat} {vs : List Value} (hp : PutG G a k vs G') : KeepG G G' := by
 obtain ⟨b, off, cur, el, fz, h1, h2, h3, h4, rfl⟩ := hp;intro b' cur' el' fz' hb
 by_cases e : b' = b
 · subst e
   rw [h2] at hb; cases hb
   refine ⟨_, if_pos rfl, ?_⟩;simp only [List.size_toArray, List.length_append, List.length_take, List.length_drop, Array.length_toList];omega
 · exact ⟨cur', by simp only; rw [if_neg e]; exact hb, rfl⟩
theorem own_put {sz : Nat} {G : Mem} {a : Option Addr} {c i : Nat} (h : OwnS sz G a c) (hi : i < c) (vs : List Value) (hv : vs.length <= sz) : ∃ G', PutG G a (i * sz + 0) vs G' /\ KeepG G G' := by
 obtain ⟨b, off, cur, el, fz, h1, h2, h3, h4⟩ := h (by omega)
 have : i * sz + sz <= c * sz := by
  have := Nat.mul_le_mul_right sz hi;rw [Nat.succ_mul] at this;exact this
 have hp : PutG G a (i * sz + 0) vs _ := ⟨b, off, cur, el, fz, h1, h2, h3, by omega, rfl⟩
 exact ⟨_, hp, keepG_put hp⟩
theorem ct25 (a : Option Addr) (n c : Nat) (I G : Mem) (hn : n <= c) (hc : n <= 1000000) (h : OwnS 1 G a c) :
 CtH Tryz.prog (fnv 25) #[.slice a n c] I G (fun v I' G' => v = .tuple #[] /\ KeepG G G') := by
 refine viaR (ctG_via (A := { calls := [(22, .st)], loops := [(2, ⟨[(2, .keep), (3, .sh (.int .i64))], [], [], fun vals _ _ G' => match vals with | [.int .i64 j] => 0 <= j /\ j <= n + 12 /\ KeepG G G' | _ => False, fun vals _ => match vals with | [.int .i64 j] => (n + 12 - j).toNat | _ => 0⟩)] }) Tryz.func25 rfl Tryz.call25 rfl rfl) (Wr .i64 ((n : Int) + 12) fun b => 0 <= (bif false then imax (c : Int) b else imin (c : Int) b) /\ (bif false then imax (c : Int) b else imin (c : Int) b) <= (c : Int) /\ (Rf (SV.v (.slice a (bif false then imax (c : Int) b else imin (c : Int) b).toNat c)) /\ (0 : Int) <= 0 /\ 0 <= (n : Int) + 12 /\ KeepG G G) /\ ∀ (d e : Mem), I.le d -> ∀ (f : Int), 0 <= f /\ f <= (n : Int) + 12 /\ KeepG G e -> Br (decide (f < ((bif false then imax (c : Int) b else imin (c : Int) b).toNat : Int))) (Ct Tryz.prog (fnv 28) #[.int .i64 2, .int .i64 f] d (fun v g => ∃ i, v = .int .i64 i /\ 0 <= f /\ f < ((bif false then imax (c : Int) b else imin (c : Int) b).toNat : Int) /\ a.isSome = true /\ ∃ j, PutG e a (f.toNat * 1) [.int .i64 i] j /\ Wr .i64 (f + 1) fun k => Rf (SV.v (.slice a (bif false then imax (c : Int) b else imin (c : Int) b).toNat c)) /\ (0 <= k /\ k <= (n : Int) + 12 /\ KeepG G j) /\ Int.toNat ((n : Int) + 12 - k) < Int.toNat ((n : Int) + 12 - f))) (Rf (Value.tuple #[]) /\ KeepG G e)) (by kernel_rfl) ?_
 have hs : 0 <= (bif false then imax (c : Int) (n + 12) else imin (c : Int) (n + 12)) /\ (bif false then imax (c : Int) (n + 12) else imin (c : Int) (n + 12)) <= c /\ (bif false then imax (c : Int) (n + 12) else imin (c : Int) (n + 12)) <= n + 12 := by
  simp only [cond_false, imin]
  split <;> omega
 refine wr_i64 (by omega) (by omega) ?_
 obtain ⟨m0, m1, m2⟩ := hs;generalize (bif false then imax (c : Int) (n + 12) else imin (c : Int) (n + 12)) = m at m0 m1 m2 ⊢
 refine ⟨m0, m1, ⟨rfl, by omega, by omega, KeepG.refl G⟩, fun I1 G1 l1 j ⟨j0, j1, j2⟩ => Br.mk (fun hlt => ?_) (fun hge => ⟨rfl, j2⟩)⟩
 have hlt := of_decide_eq_true hlt
 refine (ct28 2 j I1 (by omega) ⟨j0, by omega⟩).mono fun v I2 l2 hv => ⟨_, hv, j0, hlt, ?_⟩
 have ho := j2.own h
 obtain ⟨G', hp, hk⟩ := own_put (i := j.toNat) ho (by omega) [.int .i64 (1000003 * (2 + 7) + j)] (by simp)
 refine ⟨?_, _, hp, wr_i64 (by omega) (by omega) ⟨rfl, ⟨by omega, by omega, j2.trans hk⟩, by omega⟩⟩
 obtain ⟨b, off, cur, el, fz, h1, _⟩ := ho (by omega)
 rw [h1]; rfl
theorem ct28W (k i : Int) (I : Mem) : Ct Tryz.prog (fnv 28) #[.int .i64 k, .int .i64 i] I (fun v _ => ∃ x, v = .int .i64 x) := by
 refine viaR (ct_via (A := { }) Tryz.func28 rfl Tryz.call28 rfl rfl) (Wr .i64 (k + 7) fun c => Wr .i64 (1000003 * c) fun a => Wr .i64 (a + i) fun b => ∃ x, Value.int .i64 b = .int .i64 x) (by kernel_rfl) ?_
 exact ⟨_, rfl, _, rfl, _, rfl, _, rfl⟩
theorem ct109 (k i : Int) (I : Mem) :
 Ct Tryz.prog (fnv 109) #[.int .i64 k, .int .i64 i] I (fun v _ => ∃ x y z, v = .agg #[.int .i64 x, .int .i64 y, .int .i64 z]) := by
 refine viaR (ct_via (A := { }) Tryz.func109 rfl Tryz.call109 rfl rfl) (Ct Tryz.prog (fnv 28) #[.int .i64 k, .int .i64 i] I fun v a => ∃ n, v = .int .i64 n /\ Wr .i64 (-8 - k) fun c => Wr .i64 (-9 - i) fun b => ∃ x y z, Value.agg #[.int .i64 n, .int .i64 c, .int .i64 b] = .agg #[.int .i64 x, .int .i64 y, .int .i64 z]) (by kernel_rfl) ?_
 exact (ct28W k i I).mono fun v I1 l1 ⟨x, hv⟩ => ⟨_, hv, _, rfl, _, rfl, _, _, _, rfl⟩
theorem ct85 (k i : Int) (I : Mem) :
 Ct Tryz.prog (fnv 85) #[.int .i64 k, .int .i64 i] I (fun v _ => ∃ x y z u w, v = .agg #[.int .i64 x, .int .i64 y, .int .i64 z, .int .i64 u, .int .i64 w]) := by
 refine viaR (ct_via (A := { }) Tryz.func85 rfl Tryz.call85 rfl rfl) (Ct Tryz.prog (fnv 109) #[.int .i64 k, .int .i64 i] I fun v a => ∃ n b c, v = .agg #[.int .i64 n, .int .i64 b, .int .i64 c] /\ Wr .i64 (-7 - k) fun d => Ct Tryz.prog (fnv 28) #[.int .i64 k, .int .i64 i] a fun e f => ∃ g, e = .int .i64 g /\ ∃ x y z u w, Value.agg #[.int .i64 n, .int .i64 b, .int .i64 c, .int .i64 d, .int .i64 g] = .agg #[.int .i64 x, .int .i64 y, .int .i64 z, .int .i64 u, .int .i64 w]) (by kernel_rfl) ?_
 exact (ct109 k i I).mono fun v I1 l1 ⟨x, y, z, hv⟩ => ⟨_, _, _, hv, _, rfl, (ct28W k i I1).mono fun v I2 l2 ⟨w, hv⟩ => ⟨_, hv, _, _, _, _, _, rfl⟩⟩
def EvW (G G' : Mem) (a : Option Addr) (j : Nat) : Prop := KeepG G G' /\ (0 < j -> ∃ b off cur el fz, a = some ⟨b, off, none⟩ /\ G' b = some (.cells cur el fz) /\ ∀ k, k < j * 5 -> ∃ x, cur[off + k]? = some (.int .i64 x))
theorem evW_put {G G' : Mem} {a : Option Addr} {c j : Nat} (h : EvW G G' a j) (ho : OwnS 5 G a c) (hj : j < c) (x y z u w : Int) : ∃ g, PutG G' a (j * 5 + 0) [.int .i64 x, .int .i64 y, .int .i64 z, .int .i64 u, .int .i64 w] g /\ EvW G g a (j + 1) := by
 obtain ⟨b, off, cur, el, fz, h1, h2, h3, h4⟩ := h.1.own ho (by omega)
 have hp : PutG G' a (j * 5 + 0) [.int .i64 x, .int .i64 y, .int .i64 z, .int .i64 u, .int .i64 w] _ := ⟨b, off, cur, el, fz, h1, h2, h3, by simp only [List.length_cons, List.length_nil]; omega, rfl⟩
 refine ⟨_, hp, h.1.trans (keepG_put hp), fun _ => ⟨b, off, _, el, fz, h1, if_pos rfl, fun k hk => ?_⟩⟩;simp only [List.getElem?_toArray, List.getElem?_append, List.length_append, List.length_take, List.getElem?_take, List.getElem?_drop, List.length_cons, List.length_nil, Array.length_toList, Array.getElem?_toList]
 by_cases hlt : k < j * 5
 · obtain ⟨b', off', cur', el', fz', g1, g2, g3⟩ := h.2 (by omega)
   rw [h1] at g1; cases g1
   rw [h2] at g2; cases g2
   obtain ⟨x, hx⟩ := g3 k hlt
   exact ⟨x, by rw [if_pos (by omega), if_pos (by omega), if_pos (by omega)]; exact hx⟩
 · rw [if_pos (by omega), if_neg (by omega)]
   rcases (by omega : k = j * 5 \/ k = j * 5 + 1 \/ k = j * 5 + 2 \/ k = j * 5 + 3 \/ k = j * 5 + 4) with rfl | rfl | rfl | rfl | rfl
   · exact ⟨x, by rw [show off + j * 5 - min (off + (j * 5 + 0)) cur.size = 0 by omega]; rfl⟩
   · exact ⟨y, by rw [show off + (j * 5 + 1) - min (off + (j * 5 + 0)) cur.size = 1 by omega]; rfl⟩
   · exact ⟨z, by rw [show off + (j * 5 + 2) - min (off + (j * 5 + 0)) cur.size = 2 by omega]; rfl⟩
   · exact ⟨u, by rw [show off + (j * 5 + 3) - min (off + (j * 5 + 0)) cur.size = 3 by omega]; rfl⟩
   · exact ⟨w, by rw [show off + (j * 5 + 4) - min (off + (j * 5 + 0)) cur.size = 4 by omega]; rfl⟩
theorem evW_at {G G' : Mem} {a : Option Addr} {c q k : Nat} (h : EvW G G' a c) (hq : q < c) (hk : k < 5) : ∃ x, atI G' a (q * 5 + k) = some (.int .i64 x) := by
 obtain ⟨b, off, cur, el, fz, h1, h2, h3⟩ := h.2 (by omega)
 obtain ⟨x, hx⟩ := h3 (q * 5 + k) (by omega)
 refine ⟨x, ?_⟩;subst h1;simp only [atI, Option.bind_some, Addr.add_lit, cellM, h2];exact hx
theorem ct84 (a : Option Addr) (n c : Nat) (I G : Mem) (hn : n <= c) (hc : c <= maxLen) (b : Option Addr) (hb : SlM I b 1 1 [.slice a n c]) (h : OwnS 5 G a c) :
 CtH Tryz.prog (fnv 84) #[.slice b 1 1, fnv 85] I G (fun v I' G' => (∃ f, v = .bool f) /\ KeepG G G') := by
 refine viaR (ctG_via (A := { calls := [(35, .st), (57, .g)], loops := [(2, ⟨[(0, .keep), (1, .keep), (13, .keep), (14, .keep), (15, .sh (.int .i64))], [], [], fun vals _ _ G' => match vals with | [.int .i64 j] => 0 <= j /\ j <= 1 /\ EvW G G' a (if j = 0 then 0 else c) | _ => False, fun vals _ => match vals with | [.int .i64 j] => (1 - j).toNat | _ => 0⟩), (6, ⟨[(0, .keep), (1, .keep), (5, .keep), (7, .keep), (13, .keep), (14, .keep), (15, .keep), (25, .keep), (26, .sh (.int .i64))], [], [], fun vals _ _ G' => match vals with | [.int .i64 j] => 0 <= j /\ j <= c /\ EvW G G' a j.toNat | _ => False, fun vals _ => match vals with | [.int .i64 j] => (c - j).toNat | _ => 0⟩), (12, ⟨[(0, .keep), (1, .keep), (38, .keep), (39, .keep), (40, .sh (.int .i64))], [], [], fun vals _ _ G' => match vals with | [.int .i64 j] => 0 <= j /\ j <= 1 /\ EvW G G' a c | _ => False, fun vals _ => match vals with | [.int .i64 j] => (1 - j).toNat | _ => 0⟩), (16, ⟨[(0, .keep), (1, .keep), (9, .keep), (11, .keep), (38, .keep), (39, .keep), (40, .keep), (50, .keep), (51, .sh (.int .i64))], [], [], fun vals _ _ G' => match vals with | [.int .i64 j] => 0 <= j /\ j <= c /\ EvW G G' a c | _ => False, fun vals _ => match vals with | [.int .i64 j] => (c - j).toNat | _ => 0⟩)] }) Tryz.func84 rfl Tryz.call84 rfl rfl) (let E1 := SV.v (.slice b 1 1)
  let E2 := SV.v (fnv 85)
  (Rf E1 /\ Rf E2 /\ Rf E1 /\ Rf (SV.v (.int .i64 1)) /\ (0 : Int) <= 0 /\ (0 : Int) <= 1 /\ EvW G G a 0) /\ ∀ (d e : Mem), I.le d -> ∀ (f : Int), 0 <= f /\ f <= 1 /\ EvW G e a (if f = 0 then 0 else c) -> Br (decide (f < 1)) (0 <= f /\ f < 1 /\ b.isSome = true /\ ∃ g i j, atI d b (f.toNat * 1 + 0) = some (.slice g i j) /\ 0 <= (j : Int) /\ (j : Int) <= (j : Int) /\ (Rf E1 /\ Rf E2 /\ Rf (SV.v (.int .i64 f)) /\ Rf (SV.v (.slice g j j)) /\ Rf E1 /\ Rf (SV.v (.int .i64 1)) /\ Rf (SV.v (.int .i64 f)) /\ Rf (SV.v (.int .i64 (j : Int))) /\ (0 : Int) <= 0 /\ 0 <= (c : Int) /\ EvW G e a 0) /\ ∀ (k l : Mem), d.le k -> ∀ (m : Int), 0 <= m /\ m <= (c : Int) /\ EvW G l a m.toNat -> Br (decide (m < (j : Int))) (Ct Tryz.prog (fnv 85) #[.int .i64 f, .int .i64 m] k (fun v o => ∃ p q r s t, v = .agg #[.int .i64 p, .int .i64 q, .int .i64 r, .int .i64 s, .int .i64 t] /\ 0 <= m /\ m < (j : Int) /\ g.isSome = true /\ ∃ u, PutG l g (m.toNat * 5) [.int .i64 p, .int .i64 q, .int .i64 r, .int .i64 s, .int .i64 t] u /\ Wr .i64 (m + 1) fun w => Rf E1 /\ Rf E2 /\ Rf (SV.v (.int .i64 f)) /\ Rf (SV.v (.slice g j j)) /\ Rf E1 /\ Rf (SV.v (.int .i64 1)) /\ Rf (SV.v (.int .i64 f)) /\ Rf (SV.v (.int .i64 (j : Int))) /\ (0 <= w /\ w <= (c : Int) /\ EvW G u a w.toNat) /\ Int.toNat ((c : Int) - w) < Int.toNat ((c : Int) - m))) (Wr .i64 (f + 1) (fun o => Rf E1 /\ Rf E2 /\ Rf E1 /\ Rf (SV.v (.int .i64 1)) /\ (0 <= o /\ o <= 1 /\ EvW G l a (if o = 0 then 0 else c)) /\ Int.toNat (1 - o) < Int.toNat (1 - f)))) ((Rf E1 /\ Rf E2 /\ Rf E1 /\ Rf (SV.v (.int .i64 1)) /\ (0 : Int) <= 0 /\ (0 : Int) <= 1 /\ EvW G e a c) /\ ∀ (g i : Mem), d.le g -> ∀ (j : Int), 0 <= j /\ j <= 1 /\ EvW G i a c -> Br (decide (j < 1)) (0 <= j /\ j < 1 /\ b.isSome = true /\ ∃ k l m, atI g b (j.toNat * 1 + 0) = some (.slice k l m) /\ 0 <= (m : Int) /\ (m : Int) <= (m : Int) /\ (Rf E1 /\ Rf E2 /\ Rf (SV.v (.int .i64 j)) /\ Rf (SV.v (.slice k m m)) /\ Rf E1 /\ Rf (SV.v (.int .i64 1)) /\ Rf (SV.v (.int .i64 j)) /\ Rf (SV.v (.int .i64 (m : Int))) /\ (0 : Int) <= 0 /\ 0 <= (c : Int) /\ EvW G i a c) /\ ∀ (o p : Mem), g.le o -> ∀ (q : Int), 0 <= q /\ q <= (c : Int) /\ EvW G p a c -> Br (decide (q < (m : Int))) (0 <= q /\ q < (m : Int) /\ k.isSome = true /\ ((5 : Nat) = 5 /\ ∃ r, atI p k (q.toNat * 5 + 0) = some (.int .i64 r) /\ ∃ s, atI p k (q.toNat * 5 + 1) = some (.int .i64 s) /\ ∃ t, atI p k (q.toNat * 5 + 2) = some (.int .i64 t) /\ ∃ u, atI p k (q.toNat * 5 + 3) = some (.int .i64 u) /\ ∃ v, atI p k (q.toNat * 5 + 4) = some (.int .i64 v) /\ Ct Tryz.prog (fnv 85) #[.int .i64 j, .int .i64 q] o fun w x => ∃ y z n1 n2 n3, w = .agg #[.int .i64 y, .int .i64 z, .int .i64 n1, .int .i64 n2, .int .i64 n3] /\ Br (!((r == y && (s == z && (t == n1 && true))) && (u == n2 && (v == n3 && true)))) ((∃ f1, Value.bool false = .bool f1) /\ KeepG G p) (Wr .i64 (q + 1) (fun c1 => Rf E1 /\ Rf E2 /\ Rf (SV.v (.int .i64 j)) /\ Rf (SV.v (.slice k m m)) /\ Rf E1 /\ Rf (SV.v (.int .i64 1)) /\ Rf (SV.v (.int .i64 j)) /\ Rf (SV.v (.int .i64 (m : Int))) /\ (0 <= c1 /\ c1 <= (c : Int) /\ EvW G p a c) /\ Int.toNat ((c : Int) - c1) < Int.toNat ((c : Int) - q)))) /\ Ct Tryz.prog (fnv 85) #[.int .i64 j, .int .i64 q] o fun v r => ∃ s t u w x, v = .agg #[.int .i64 s, .int .i64 t, .int .i64 u, .int .i64 w, .int .i64 x] /\ (5 : Nat) = 5 /\ ∃ y, atI p k (q.toNat * 5 + 0) = some (.int .i64 y) /\ ∃ z, atI p k (q.toNat * 5 + 1) = some (.int .i64 z) /\ ∃ n1, atI p k (q.toNat * 5 + 2) = some (.int .i64 n1) /\ ∃ n2, atI p k (q.toNat * 5 + 3) = some (.int .i64 n2) /\ ∃ n3, atI p k (q.toNat * 5 + 4) = some (.int .i64 n3) /\ Br (!((y == s && (z == t && (n1 == u && true))) && (n2 == w && (n3 == x && true)))) ((∃ f1, Value.bool false = .bool f1) /\ KeepG G p) (Wr .i64 (q + 1) (fun c1 => Rf E1 /\ Rf E2 /\ Rf (SV.v (.int .i64 j)) /\ Rf (SV.v (.slice k m m)) /\ Rf E1 /\ Rf (SV.v (.int .i64 1)) /\ Rf (SV.v (.int .i64 j)) /\ Rf (SV.v (.int .i64 (m : Int))) /\ (0 <= c1 /\ c1 <= (c : Int) /\ EvW G p a c) /\ Int.toNat ((c : Int) - c1) < Int.toNat ((c : Int) - q)))) (Wr .i64 (j + 1) (fun r => Rf E1 /\ Rf E2 /\ Rf E1 /\ Rf (SV.v (.int .i64 1)) /\ (0 <= r /\ r <= 1 /\ EvW G p a c) /\ Int.toNat (1 - r) < Int.toNat (1 - j)))) ((∃ k, Value.bool true = .bool k) /\ KeepG G i))) (by kernel_rfl) ?_
 intro E1 E2
 have hmx : maxLen = 9223372036854775807 := by decide
 have ha : ∀ {J : Mem} {f : Int}, I.le J -> 0 <= f -> f < 1 -> atI J b (f.toNat * 1 + 0) = some (.slice a n c) := fun {J f} hJ h0 h1 => by
  have : f.toNat * 1 + 0 = 0 := by omega
  rw [this];exact (hb.mono hJ).at_ 0 _ rfl
 have hbs : b.isSome = true := by
  cases b with
  | none => have := hb.nil rfl; omega
  | some _ => rfl
 have has : 0 < c -> a.isSome = true := fun h0 => by
  obtain ⟨b, off, cur, el, fz, h1, _⟩ := h h0
  rw [h1]; rfl
 refine ⟨⟨rfl, rfl, rfl, rfl, by omega, by omega, KeepG.refl G, fun h0 => by omega⟩, fun I1 G1 l1 f ⟨f0, f1, f2⟩ => Br.mk (fun hlt => ?_) (fun hge => ?_)⟩
 · have hlt := of_decide_eq_true hlt
   refine ⟨f0, hlt, hbs, _, _, _, ha l1 f0 hlt, by omega, by omega, ⟨rfl, rfl, rfl, rfl, rfl, rfl, rfl, rfl, by omega, by omega, f2.1, fun h0 => by omega⟩, fun I2 G2 l2 m ⟨m0, m1, m2⟩ => Br.mk (fun hm => ?_) (fun hm => ?_)⟩
   · have hm := of_decide_eq_true hm
     refine (ct85 f m I2).mono fun v I3 l3 ⟨x, y, z, u, w, hv⟩ => ⟨_, _, _, _, _, hv, m0, hm, has (by omega), ?_⟩
     obtain ⟨g, hp, hg⟩ := evW_put (c := c) m2 h (by omega) x y z u w
     refine ⟨g, hp, wr_i64 (by omega) (by omega) ⟨rfl, rfl, rfl, rfl, rfl, rfl, rfl, rfl, ⟨by omega, by omega, ?_⟩, by omega⟩⟩
     rw [show (m + 1).toNat = m.toNat + 1 by omega]
     exact hg
   · have hm := of_decide_eq_false hm
     refine wr_i64 (by omega) (by omega) ⟨rfl, rfl, rfl, rfl, ⟨by omega, by omega, ?_⟩, by omega⟩
     rw [if_neg (by omega)]
     rw [show m.toNat = c by omega] at m2
     exact m2
 · have hge := of_decide_eq_false hge
   have f2 : EvW G G1 a c := by
    rw [if_neg (by omega)] at f2
    exact f2
   refine ⟨⟨rfl, rfl, rfl, rfl, by omega, by omega, f2⟩, fun I2 G2 l2 j ⟨j0, j1, j2⟩ => Br.mk (fun hlt => ?_) (fun hge => ⟨⟨_, rfl⟩, j2.1⟩)⟩
   have hlt := of_decide_eq_true hlt
   refine ⟨j0, hlt, hbs, _, _, _, ha (Mem.le_trans l1 l2) j0 hlt, by omega, by omega, ⟨rfl, rfl, rfl, rfl, rfl, rfl, rfl, rfl, by omega, by omega, j2⟩, fun I3 G3 l3 q ⟨q0, q1, q2⟩ => Br.mk (fun hq => ?_) (fun hq => ?_)⟩
   · have hq := of_decide_eq_true hq
     obtain ⟨x0, e0⟩ := evW_at (q := q.toNat) (k := 0) q2 (by omega) (by omega)
     obtain ⟨x1, e1⟩ := evW_at (q := q.toNat) (k := 1) q2 (by omega) (by omega)
     obtain ⟨x2, e2⟩ := evW_at (q := q.toNat) (k := 2) q2 (by omega) (by omega)
     obtain ⟨x3, e3⟩ := evW_at (q := q.toNat) (k := 3) q2 (by omega) (by omega)
     obtain ⟨x4, e4⟩ := evW_at (q := q.toNat) (k := 4) q2 (by omega) (by omega)
     refine ⟨q0, hq, has (by omega), ⟨rfl, _, e0, _, e1, _, e2, _, e3, _, e4, (ct85 j q I3).mono fun v I4 l4 ⟨x, y, z, u, w, hv⟩ => ⟨_, _, _, _, _, hv, Br.mk (fun _ => ⟨⟨_, rfl⟩, q2.1⟩) (fun _ => wr_i64 (by omega) (by omega) ⟨rfl, rfl, rfl, rfl, rfl, rfl, rfl, rfl, ⟨by omega, by omega, q2⟩, by omega⟩)⟩⟩, (ct85 j q I3).mono fun v I4 l4 ⟨x, y, z, u, w, hv⟩ => ⟨_, _, _, _, _, hv, rfl, _, e0, _, e1, _, e2, _, e3, _, e4, Br.mk (fun _ => ⟨⟨_, rfl⟩, q2.1⟩) (fun _ => wr_i64 (by omega) (by omega) ⟨rfl, rfl, rfl, rfl, rfl, rfl, rfl, rfl, ⟨by omega, by omega, q2⟩, by omega⟩)⟩⟩
   · exact wr_i64 (by omega) (by omega) ⟨rfl, rfl, rfl, rfl, ⟨by omega, by omega, q2⟩, by omega⟩
theorem ct59 (a : Option Addr) (n c : Nat) (I G : Mem) (hn : n <= c) (hc : c <= maxLen) (b : Option Addr) (hb : SlM I b 1 1 [.slice a n c]) (h : OwnS 5 G a c) :
 CtH Tryz.prog (fnv 59) #[.slice b 1 1] I G (fun v I' G' => (∃ f, v = .bool f) /\ KeepG G G') := by
 refine viaR (ctG_via (A := { calls := [(4, .g)] }) Tryz.func59 rfl Tryz.call59 rfl rfl) (CtH Tryz.prog (fnv 84) #[.slice b 1 1, .func (.func 85) #[] #[]] I G fun v d e => ∃ f, v = .bool f /\ (∃ g, Value.bool f = .bool g) /\ KeepG G e) (by kernel_rfl) ?_
 exact (ct84 a n c I G hn hc b hb h).mono fun v I1 G1 l1 ⟨⟨f, hv⟩, hk⟩ => ⟨_, hv, ⟨_, rfl⟩, hk⟩
theorem ct26 (a : Option Addr) (n c : Nat) (I G : Mem) (hn : n <= c) (hc : c <= maxLen) (h : OwnS 5 G a c) :
 CtH Tryz.prog (fnv 26) #[.slice a n c] I G (fun v I' G' => v = .tuple #[] /\ KeepG G G') := by
 refine viaR (ctG_via (A := { calls := [(4, .hg)] }) Tryz.func26 rfl Tryz.call26 rfl rfl) (∀ (b : Nat) (d : Mem), I.le d -> d b = some (.cells #[.slice a n c] 30 (0, 0)) -> CtH Tryz.prog (fnv 59) #[.slice (some ⟨b, 0, none⟩) 1 1] d G fun v e f => ∃ g, v = .bool g /\ Rf (Value.tuple #[]) /\ KeepG G f) (by kernel_rfl) ?_
 intro b I1 l1 hb
 refine (ct59 a n c I1 G hn hc _ ⟨rfl, fun h => (by cases h), by decide, fun j v hj => ?_⟩ h).mono fun v I2 G2 l2 ⟨⟨f, hv⟩, hk⟩ => ⟨_, hv, rfl, hk⟩
 cases j with
 | zero =>
   cases hj;simp [atI, Addr.add, cellM, hb]
 | succ j => simp at hj
set_option maxHeartbeats 1000000
structure OwnY (G : Mem) (ac al ae ap ah : Option Addr) (cc cl ce cp ch : Nat) : Prop where
 c : OwnS 1 G ac cc
 l : OwnS 1 G al cl
 e : OwnS 5 G ae ce
 p : OwnS 3 G ap cp
 h : OwnS 5 G ah ch
theorem KeepG.ownY {G G' : Mem} (h : KeepG G G') {ac al ae ap ah : Option Addr} {cc cl ce cp ch : Nat} (o : OwnY G ac al ae ap ah cc cl ce cp ch) : OwnY G' ac al ae ap ah cc cl ce cp ch := ⟨h.own o.c, h.own o.l, h.own o.e, h.own o.p, h.own o.h⟩
theorem ownS_some {sz : Nat} {G : Mem} {a : Option Addr} {c : Nat} (h : OwnS sz G a c) (hc : 0 < c) : a.isSome = true := by
 obtain ⟨b, off, cur, el, fz, h1, _⟩ := h hc
 rw [h1]; rfl
theorem ct11 (r : Rs) (ac al ae ap ah : Option Addr) (nc nl ne np nh cc cl ce cp ch : Nat) (I G : Mem) (hn : (nc <= cc /\ nl <= cl /\ ne <= ce /\ np <= cp /\ nh <= ch) /\ (nc <= 1000000 /\ nl <= 1000000 /\ np <= 1000000 /\ nh <= 1000000) /\ ce <= maxLen)
 (h : OwnY G ac al ae ap ah cc cl ce cp ch) :
 CtH Tryz.prog (fnv 11) #[.agg (rsV r ⟨.slice ac nc cc, .slice al nl cl, .slice ae ne ce, .slice ap np cp, .slice ah nh ch⟩).toArray] I G (fun v I' G' => v = .tuple #[]) := by
 refine viaR (ctG_via (A := { calls := [(7, .g), (10, .g), (20, .st), (32, .st), (44, .st)], loops := [(4, ⟨[(1, .keep), (13, .keep), (14, .sh (.int .i64))], [(0, .keep)], [], fun vals _ _ G' => match vals with | [.int .i64 j] => 0 <= j /\ j <= nl /\ OwnY G' ac al ae ap ah cc cl ce cp ch | _ => False, fun vals _ => match vals with | [.int .i64 j] => (nl - j).toNat | _ => 0⟩), (9, ⟨[(1, .keep), (24, .keep), (25, .sh (.int .i64))], [(0, .keep)], [], fun vals _ _ G' => match vals with | [.int .i64 j] => 0 <= j /\ j <= np /\ OwnY G' ac al ae ap ah cc cl ce cp ch | _ => False, fun vals _ => match vals with | [.int .i64 j] => (np - j).toNat | _ => 0⟩), (14, ⟨[(1, .keep), (36, .keep), (37, .sh (.int .i64))], [(0, .keep)], [], fun vals _ _ G' => match vals with | [.int .i64 j] => 0 <= j /\ j <= nh /\ OwnY G' ac al ae ap ah cc cl ce cp ch | _ => False, fun vals _ => match vals with | [.int .i64 j] => (nh - j).toNat | _ => 0⟩)] }) Tryz.func11 rfl Tryz.call11 rfl rfl) (let E1 := Ent.mk (.cells [.v (.int .i64 r.num), .v (.int .i64 r.code), .v (.int .i64 r.ser), .v (.int .i64 r.port), .v (.int .i64 r.time), .v (.int .u8 r.kind), .v (.bool r.more), .v (.int .i64 r.key.1), .v (.int .i64 r.key.2.1), .v (.int .i64 r.key.2.2), .v (.slice ac nc cc), .v (.slice al nl cl), .v (.slice ae ne ce), .v (.slice ap np cp), .v (.slice ah nh ch)] 34) none
  CtH Tryz.prog (fnv 25) #[.slice ac nc cc] I G fun v a b => v = .tuple #[] /\ CtH Tryz.prog (fnv 26) #[.slice ae ne ce] a b fun c d e => c = .tuple #[] /\ (Rf E1 /\ Rf (SV.ptr 0 0) /\ Rf (SV.v (.int .i64 (nl : Int))) /\ (0 : Int) <= 0 /\ 0 <= (nl : Int) /\ OwnY e ac al ae ap ah cc cl ce cp ch) /\ ∀ (f g : Mem), d.le f -> ∀ (n : Int), 0 <= n /\ n <= (nl : Int) /\ OwnY g ac al ae ap ah cc cl ce cp ch -> Br (decide (n < (nl : Int))) (0 <= n /\ n < (nl : Int) /\ al.isSome = true /\ ∃ i, PutG g al (n.toNat * 1) [.int .i64 (-77)] i /\ Wr .i64 (n + 1) fun j => Rf E1 /\ Rf (SV.ptr 0 0) /\ Rf (SV.v (.int .i64 (nl : Int))) /\ (0 <= j /\ j <= (nl : Int) /\ OwnY i ac al ae ap ah cc cl ce cp ch) /\ Int.toNat ((nl : Int) - j) < Int.toNat ((nl : Int) - n)) ((Rf E1 /\ Rf (SV.ptr 0 0) /\ Rf (SV.v (.int .i64 (np : Int))) /\ (0 : Int) <= 0 /\ 0 <= (np : Int) /\ OwnY g ac al ae ap ah cc cl ce cp ch) /\ ∀ (i j : Mem), f.le i -> ∀ (k : Int), 0 <= k /\ k <= (np : Int) /\ OwnY j ac al ae ap ah cc cl ce cp ch -> Br (decide (k < (np : Int))) (0 <= k /\ k < (np : Int) /\ ap.isSome = true /\ ∃ l, PutG j ap (k.toNat * 3) [.int .i64 (-7), .string ⟨#[]⟩, .int .i64 0] l /\ Wr .i64 (k + 1) fun m => Rf E1 /\ Rf (SV.ptr 0 0) /\ Rf (SV.v (.int .i64 (np : Int))) /\ (0 <= m /\ m <= (np : Int) /\ OwnY l ac al ae ap ah cc cl ce cp ch) /\ Int.toNat ((np : Int) - m) < Int.toNat ((np : Int) - k)) ((Rf E1 /\ Rf (SV.ptr 0 0) /\ Rf (SV.v (.int .i64 (nh : Int))) /\ (0 : Int) <= 0 /\ 0 <= (nh : Int) /\ OwnY j ac al ae ap ah cc cl ce cp ch) /\ ∀ (l m : Mem), i.le l -> ∀ (o : Int), 0 <= o /\ o <= (nh : Int) /\ OwnY m ac al ae ap ah cc cl ce cp ch -> Br (decide (o < (nh : Int))) (0 <= o /\ o < (nh : Int) /\ ah.isSome = true /\ ∃ p, PutG m ah (o.toNat * 5) [.int .i64 (-7), .int .i64 0, .int .i64 0, .int .i64 0, .int .u8 0] p /\ Wr .i64 (o + 1) fun q => Rf E1 /\ Rf (SV.ptr 0 0) /\ Rf (SV.v (.int .i64 (nh : Int))) /\ (0 <= q /\ q <= (nh : Int) /\ OwnY p ac al ae ap ah cc cl ce cp ch) /\ Int.toNat ((nh : Int) - q) < Int.toNat ((nh : Int) - o)) (Rf (Value.tuple #[]))))) (by kernel_rfl) ?_
 intro E1;simp only [Rf, eq_self, true_and, and_true];obtain ⟨⟨k1, k2, k3, k4, k5⟩, ⟨b1, b2, b3, b4⟩, hce⟩ := hn
 refine (ct25 ac nc cc I G k1 b1 h.c).mono fun v I1 G1 l1 ⟨hv, q1⟩ => ⟨hv, (ct26 ae ne ce I1 G1 k3 hce (q1.ownY h).e).mono fun v I2 G2 l2 ⟨hv, q2⟩ => ⟨hv, ⟨by omega, by omega, q2.ownY (q1.ownY h)⟩, fun I3 G3 l3 j ⟨j0, j1, o3⟩ => Br.mk (fun hj => ?_) (fun hj => ?_)⟩⟩
 · have hj := of_decide_eq_true hj
   obtain ⟨g, hp, hk⟩ := own_put (i := j.toNat) o3.l (by omega) [.int .i64 (-77)] (by simp)
   exact ⟨j0, hj, ownS_some o3.l (by omega), g, hp, wr_i64 (by omega) (by omega) ⟨⟨by omega, by omega, hk.ownY o3⟩, by omega⟩⟩
 · refine ⟨⟨by omega, by omega, o3⟩, fun I4 G4 l4 j ⟨j0, j1, o4⟩ => Br.mk (fun hj => ?_) (fun hj => ?_)⟩
   · have hj := of_decide_eq_true hj
     obtain ⟨g, hp, hk⟩ := own_put (i := j.toNat) o4.p (by omega) [.int .i64 (-7), .string ⟨#[]⟩, .int .i64 0] (by simp)
     exact ⟨j0, hj, ownS_some o4.p (by omega), g, hp, wr_i64 (by omega) (by omega) ⟨⟨by omega, by omega, hk.ownY o4⟩, by omega⟩⟩
   · refine ⟨⟨by omega, by omega, o4⟩, fun I5 G5 l5 j ⟨j0, j1, o5⟩ => Br.mk (fun hj => ?_) (fun hj => ?_)⟩
     · have hj := of_decide_eq_true hj
       obtain ⟨g, hp, hk⟩ := own_put (i := j.toNat) o5.h (by omega) [.int .i64 (-7), .int .i64 0, .int .i64 0, .int .i64 0, .int .u8 0] (by simp)
       exact ⟨j0, hj, ownS_some o5.h (by omega), g, hp, wr_i64 (by omega) (by omega) ⟨⟨by omega, by omega, hk.ownY o5⟩, by omega⟩⟩
     · trivial
set_option maxHeartbeats 1000000
def chainT : Int -> List (Int × List Int) -> Bool
 | _, [] => true
 | last, f :: r => decide (last < f.1) && (decide (f.1 <= 200) && chainT f.1 r)
def sumL : List (Int × List Int) -> Int
 | [] => 0
 | f :: r => f.2.length + sumL r
theorem sumL_nonneg : ∀ l, 0 <= sumL l
 | [] => by simp [sumL]
 | f :: r => by have := sumL_nonneg r; rw [sumL]; omega
theorem sumL_app : ∀ k l, sumL (k ++ l) = sumL k + sumL l
 | [], l => by simp [sumL]
 | f :: r, l => by rw [List.cons_append, sumL, sumL, sumL_app r l]; omega
theorem step_split : ∀ (l : List (Int × List Int)) (last left : Int), 0 <= left -> rightStep last left l = (chainT last l && decide (sumL l <= left))
 | [], last, left, h => by simp [rightStep, chainT, sumL, h]
 | f :: r, last, left, h => by
   have hs := sumL_nonneg r;rw [rightStep, chainT, sumL];split
   · rename_i hc
     by_cases h1 : last < f.1
     · by_cases h2 : f.1 <= 200
       · rw [decide_eq_false (p := (f.2.length : Int) + sumL r <= left) (by omega)]; simp
       · simp [h2]
     · simp [h1]
   · rename_i hc
     rw [step_split r _ _ (by omega), decide_eq_true (p := last < f.1) (by omega), decide_eq_true (p := f.1 <= 200) (by omega)]
     simp only [Bool.true_and]
     congr 1
     exact decide_eq_decide.2 (by omega)
theorem right_split (l : List (Int × List Int)) : rightF l = (decide (l.length <= 64) && (chainT 0 l && decide (sumL l <= 16384))) := by
 rw [Bool.eq_iff_iff, rightF_iff, step_split _ _ _ (by omega)]
 simp only [Bool.and_eq_true, decide_eq_true_eq];exact ⟨fun h => ⟨h.2, h.1⟩, fun h => ⟨h.2, h.1⟩⟩
theorem sumL_take {l : List (Int × List Int)} {B : Int} (h : ∀ f ∈ l, (f.2.length : Int) <= B) : ∀ j, 0 <= B -> sumL (l.take j) <= B * j := by
 intro j hB
 induction j generalizing l with
 | zero => simp [sumL]
 | succ j ih =>
   cases l with
   | nil => simp only [List.take_nil, sumL]; exact Int.mul_nonneg hB (by omega)
   | cons f r =>
     have h1 := h f (by simp)
     have h2 := ih (l := r) fun g hg => h g (by simp [hg])
     rw [List.take_succ_cons, sumL]
     have : B * ((j + 1 : Nat) : Int) = B * j + B := by rw [Int.natCast_add, Int.mul_add]; simp
     omega
theorem ct51 (l : List (Int × List Int)) (a : Option Addr) (n c : Nat) (I : Mem) (h : FldM I a n l) (hb : ∀ f ∈ l, f.2.length <= 1000000) :
 Ct Tryz.prog (fnv 51) #[.slice a n c] I (fun v _ => v = .bool (rightF l)) := by
 refine viaR (ct_via (A := { loops := [(5, ⟨[(0, .keep), (3, .sh (.int .i64)), (4, .sh (.int .i64))], [], [], fun vals _ _ _ => match vals with | [.int .i64 sum, .int .i64 j] => 0 <= j /\ j <= n /\ sum = sumL (l.take j.toNat) /\ ∃ last, (j = 0 -> last = 0) /\ (0 < j -> ∃ bs, l[j.toNat - 1]? = some (last, bs)) /\ 0 <= last /\ chainT 0 l = chainT last (l.drop j.toNat) | _ => False, fun vals _ => match vals with | [_, .int .i64 j] => (n - j).toNat | _ => 0⟩)] }) Tryz.func51 rfl Tryz.call51 rfl rfl) (Br (decide (64 < (n : Int))) (Value.bool false = .bool (rightF l)) ((Rf (SV.v (.slice a n c)) /\ (0 : Int) <= 0 /\ 0 <= (n : Int) /\ (0 : Int) = 0 /\ ∃ b, ((0 : Int) = 0 -> b = 0) /\ ((0 : Int) < 0 -> ∃ d, l[0]? = some (b, d)) /\ 0 <= b /\ chainT 0 l = chainT b l) /\ ∀ (b : Mem), Mem -> I.le b -> ∀ (d e : Int), 0 <= e /\ e <= (n : Int) /\ d = sumL (List.take e.toNat l) /\ (∃ f, (e = 0 -> f = 0) /\ (0 < e -> ∃ g, l[e.toNat - 1]? = some (f, g)) /\ 0 <= f /\ chainT 0 l = chainT f (List.drop e.toNat l)) -> Br (decide (e < (n : Int))) (0 <= e /\ e < (n : Int) /\ a.isSome = true /\ a.isSome = true /\ ∃ f g i, atI b a (e.toNat * 2 + 1 + 0) = some (.slice f g i) /\ Wr .i64 (d + (g : Int)) fun j => 0 <= e /\ e < (n : Int) /\ a.isSome = true /\ a.isSome = true /\ ∃ k, atI b a (e.toNat * 2 + 0 + 0) = some (.int .i64 k) /\ Br (decide (k < 1)) (Value.bool false = .bool (rightF l)) (0 <= e /\ e < (n : Int) /\ a.isSome = true /\ a.isSome = true /\ ∃ m, atI b a (e.toNat * 2 + 0 + 0) = some (.int .i64 m) /\ Br (decide (200 < m)) (Value.bool false = .bool (rightF l)) (Br (decide (0 < e)) (0 <= e /\ e < (n : Int) /\ a.isSome = true /\ a.isSome = true /\ ∃ o, atI b a (e.toNat * 2 + 0 + 0) = some (.int .i64 o) /\ Wr .i64 (e - 1) fun p => 0 <= p /\ p < (n : Int) /\ a.isSome = true /\ a.isSome = true /\ ∃ q, atI b a (p.toNat * 2 + 0 + 0) = some (.int .i64 q) /\ Br (decide (o <= q)) (Value.bool false = .bool (rightF l)) (Wr .i64 (e + 1) (fun r => Rf (SV.v (.slice a n c)) /\ (0 <= r /\ r <= (n : Int) /\ j = sumL (List.take r.toNat l) /\ ∃ s, (r = 0 -> s = 0) /\ (0 < r -> ∃ t, l[r.toNat - 1]? = some (s, t)) /\ 0 <= s /\ chainT 0 l = chainT s (List.drop r.toNat l)) /\ Int.toNat ((n : Int) - r) < Int.toNat ((n : Int) - e)))) (Wr .i64 (e + 1) (fun o => Rf (SV.v (.slice a n c)) /\ (0 <= o /\ o <= (n : Int) /\ j = sumL (List.take o.toNat l) /\ ∃ p, (o = 0 -> p = 0) /\ (0 < o -> ∃ q, l[o.toNat - 1]? = some (p, q)) /\ 0 <= p /\ chainT 0 l = chainT p (List.drop o.toNat l)) /\ Int.toNat ((n : Int) - o) < Int.toNat ((n : Int) - e)))))) (Value.bool (decide (d <= 16384)) = .bool (rightF l)))) (by kernel_rfl) ?_
 have hl := h.len;have hmx := h.max;refine Br.mk (fun h64 => ?_) (fun h64 => ?_)
 · have h64 := of_decide_eq_true h64
   rw [right_split, decide_eq_false (by omega)]; rfl
 have h64 := of_decide_eq_false h64
 refine ⟨⟨rfl, by omega, by omega, rfl, 0, fun _ => rfl, fun h => by omega, by omega, rfl⟩, fun I1 _ l1 sum j ⟨j0, j1, js, last, q1, q2, q3, q4⟩ => ?_⟩
 have hsb := sumL_take (l := l) (B := 1000000) (fun f hf => by have := hb f hf; omega) j.toNat (by omega)
 have hs0 := sumL_nonneg (l.take j.toNat);refine Br.mk (fun hlt => ?_) (fun hge => ?_)
 · have hlt := of_decide_eq_true hlt
   have hsome := h.isSome (by omega)
   obtain ⟨f, b', m', c', hf, hok, e1, e2, hfs, hm1, hm2⟩ := (h.mono l1).at_ j0 hlt;have hfl := hfs.numLen;have hfb := hb f (List.mem_of_getElem? hf);rw [drop_cons hf, chainT] at q4
   have hj1 : (j + 1).toNat = j.toNat + 1 := by omega
   have hsum : sum + m' = sumL (l.take (j + 1).toNat) := by
    rw [hj1, take_succ' hf, sumL_app, js]
    simp only [sumL]; omega
   have bad : chainT 0 l = false -> Value.bool false = Value.bool (rightF l) := fun hc => by rw [right_split, hc]; simp
   have next : last < f.1 -> f.1 <= 200 -> Wr IntKind.i64 (j + 1) fun c_4 => SV.v (Value.slice a n c) = SV.v (Value.slice a n c) /\ (0 <= c_4 /\ c_4 <= ↑n /\ sum + m' = sumL (List.take c_4.toNat l) /\ ∃ last, (c_4 = 0 -> last = 0) /\ (0 < c_4 -> ∃ bs, l[c_4.toNat - 1]? = some (last, bs)) /\ 0 <= last /\ chainT 0 l = chainT last (List.drop c_4.toNat l)) /\ (↑n - c_4).toNat < (↑n - j).toNat := fun g1 g2 => by
    refine wr_i64 (by omega) (by omega) ⟨rfl, ⟨by omega, by omega, hsum, f.1, fun h => by omega, fun _ => ⟨f.2, ?_⟩, by omega, ?_⟩, by omega⟩
    · rw [hj1, Nat.add_sub_cancel]; exact hf
    · rw [q4, hj1]; simp [g1, g2]
   refine ⟨j0, hlt, hsome, hsome, b', m', c', e2, wr_i64 (by omega) (by omega) ⟨j0, hlt, hsome, hsome, f.1, e1, Br.mk (fun g1 => bad ?_) (fun g1 => ⟨j0, hlt, hsome, hsome, f.1, e1, Br.mk (fun g2 => bad ?_) (fun g2 => Br.mk (fun g3 => ?_) (fun g3 => ?_))⟩)⟩⟩
   · have g1 := of_decide_eq_true g1
     rw [q4, decide_eq_false (by omega)]; rfl
   · have g2 := of_decide_eq_true g2
     rw [q4, decide_eq_false (p := f.1 <= 200) (by omega)]; simp
   · have g1 := of_decide_eq_false g1
     have g2 := of_decide_eq_false g2;have g3 := of_decide_eq_true g3
     obtain ⟨p, b2, m2, c2, hp, _, e3, _⟩ := (h.mono l1).at_ (i := j - 1) (by omega) (by omega)
     obtain ⟨bs, hq⟩ := q2 g3
     rw [show (j - 1).toNat = j.toNat - 1 by omega, hq] at hp
     cases hp
     refine ⟨j0, hlt, hsome, hsome, f.1, e1, wr_i64 (by omega) (by omega) ⟨by omega, by omega, hsome, hsome, last, e3, Br.mk (fun g4 => bad ?_) (fun g4 => next ?_ (by omega))⟩⟩
     · have g4 := of_decide_eq_true g4
       rw [q4, decide_eq_false (by omega)]; rfl
     · have g4 := of_decide_eq_false g4; omega
   · have g1 := of_decide_eq_false g1
     have g2 := of_decide_eq_false g2;have g3 := of_decide_eq_false g3
     have := q1 (by omega)
     exact next (by omega) (by omega)
 · have hge := of_decide_eq_false hge
   have hj : j.toNat = l.length := by omega
   rw [hj, List.drop_length, chainT] at q4;rw [hj, List.take_length] at js
   rw [right_split, q4, decide_eq_true (p := l.length <= 64) (by omega), js]
   rfl
theorem dup2 {Q : Prop} (h : Q) : Q /\ Q := ⟨h, h⟩
theorem ct50 (xs : List Int) (a : Option Addr) (n c : Nat) (I : Mem) (h : SlM I a n 1 (ints .u8 xs)) (hn : n <= 1000000) :
 Ct Tryz.prog (fnv 50) #[.slice a n c] I (fun v I' => BySl I' v xs) := by
 refine viaR (ct_via (A := { }) Tryz.func50 rfl Tryz.call50 rfl rfl) (∃ y, y.length = n * 1 /\ (a = none -> n = 0) /\ (∀ (j : Nat) (v : Value), y[j]? = some v -> atI I a j = some v) /\ (∀ (v : Value), Membership.mem y v -> v.oneCell' = true) /\ (0 : Nat) = 0 /\ 0 + n <= 9223372036854775807 /\ (0 + n) * 1 <= 140737488355328 /\ ∀ (b : Option Addr) (d : Nat) (e : Mem), I.le e -> RowM e b d 1 y -> ∃ f m g, Value.slice b (0 + n) d = .slice f m g /\ SlM e f m 1 (List.map (Value.int .u8) xs) /\ m <= g /\ g <= 9223372036854775807) (by kernel_rfl) ?_
 exact ⟨ints .u8 xs, h.len, h.nil, h.at_, one_ints, rfl, by omega, by omega, fun a' cp I' _ hrow => row_bysl hrow (by have := h.numLen; omega)⟩
def lastT : Int -> List (Int × List Int) -> Int
 | a, [] => a
 | _, f :: r => lastT f.1 r
theorem chainT_snoc (f : Int × List Int) : ∀ (L : List (Int × List Int)) (a : Int), chainT a (L ++ [f]) = (chainT a L && (decide (lastT a L < f.1) && decide (f.1 <= 200)))
 | [], a => by simp only [List.nil_append, chainT, lastT, Bool.and_true, Bool.true_and]; rfl
 | g :: r, a => by
   rw [List.cons_append, chainT, chainT, lastT, chainT_snoc f r g.1];simp [Bool.and_assoc]
theorem lastT_snoc (f : Int × List Int) : ∀ (L : List (Int × List Int)) (a : Int), lastT a (L ++ [f]) = f.1
 | [], a => rfl
 | g :: r, a => lastT_snoc f r g.1
theorem lastT_nonneg : ∀ (L : List (Int × List Int)) (a : Int), 0 <= a -> chainT a L = true -> a <= lastT a L
 | [], a, h, _ => Int.le_refl _
 | g :: r, a, h, hc => by
   simp only [chainT, Bool.and_eq_true, decide_eq_true_eq] at hc
   have := lastT_nonneg r g.1 (by omega) hc.2.2
   rw [lastT]; omega
theorem right_snoc {L : List (Int × List Int)} (h : rightF L = true) (f : Int × List Int) :
 rightF (L ++ [f]) = !decide (f.1 <= lastT 0 L \/ 200 < f.1 \/ 16384 - sumL L < f.2.length \/ 64 <= L.length) := by
 rw [right_split] at h ⊢;simp only [Bool.and_eq_true, decide_eq_true_eq] at h
 have hs : sumL (L ++ [f]) = sumL L + f.2.length := by rw [sumL_app]; simp [sumL]
 rw [chainT_snoc, h.2.1, Bool.true_and, List.length_append, List.length_singleton, hs];rw [Bool.eq_iff_iff];simp only [Bool.and_eq_true, decide_eq_true_eq, Bool.not_eq_true', decide_eq_false_iff_not];omega
theorem goF_bad {bs : List Int} {k : Nat} {last left : Int} {L : List (Int × List Int)} (hk : k < bs.length) (h : fstep bs k = none) (h0 : 0 <= last) : goF (yields bs k) last left L = ((k : Int), []) := by
 rw [yields, dif_pos hk, h];simp only [goF];rw [if_pos (.inl h0)]
theorem goF_step {bs : List Int} {k nx : Nat} {body : List Int} {last left : Int} {L : List (Int × List Int)} {b : Int} (hk : k < bs.length) (h : fstep bs k = some (body, nx)) (hb : bs[k]? = some b) (hn : k < nx) :
 goF (yields bs k) last left L = if b <= last \/ 200 < b \/ left < body.length \/ 64 <= L.length then ((k : Int), []) else goF (yields bs nx) b (left - body.length) (L ++ [(b, body)]) := by
 rw [yields, dif_pos hk, h];simp only [dif_pos hn, hb, Option.getD_some];rw [goF]
theorem readN_m {bs : List Int} (hbs : ∀ b ∈ bs, 0 <= b /\ b <= 255) (at_ : Int) : 0 <= (readN bs at_).2.1 /\ (readN bs at_).2.1 <= 9 := by
 unfold readN;split
 · simp
 · split
   · simp
   · rename_i b hb
     have := hbs b (List.mem_of_getElem? hb);split
     · simp
     · split
       · simp
       · split
         · simp
         · split
           · simp
           · split
             · simp
             · simp only; omega
theorem ct19 (bs : List Int) (hbs : byteL bs) (a : Option Addr) (n c : Nat) (I : Mem) (h : SlM I a n 1 (ints .u8 bs)) (hn : n <= 1000000) (hc : n <= c) (hm : c <= maxLen) :
 Ct Tryz.prog (fnv 19) #[.slice a n c] I (fun v I' => ∃ a' n' c', v = .tuple #[.slice a' n' c', .int .i64 (readF bs).2.1, .int .i64 (readF bs).2.2] /\ FldM I' a' n' (readF bs).1 /\ n' <= c' /\ c' <= maxLen) := by
 refine viaR (ct_via (A := { calls := [(68, .ro)], loops := [(5, ⟨[(0, .keep), (5, .row 0), (6, .sh (.int .i64)), (7, .sh (.int .i64))], [(0, .row)], [(5, 2, 65)], fun vals xss I' _ => match vals, xss with | [.int .i64 at_, .int .i64 sum], [xs] => 0 <= at_ /\ ∃ L, FR I' xs L /\ rightF L = true /\ sum = sumL L /\ goF (yields bs 0) 0 16384 [] = goF (yields bs at_.toNat) (lastT 0 L) (16384 - sumL L) L | _, _ => False, fun vals _ => match vals with | [.int .i64 at_, _] => (n - at_).toNat | _ => 0⟩)] }) Tryz.func19 rfl Tryz.call19 rfl rfl) (Br (decide (16768 < (n : Int))) (∃ b d e, Value.tuple #[.slice none 0 0, .int .i64 0, .int .i64 3] = .tuple #[.slice b d e, .int .i64 (readF bs).2.1, .int .i64 (readF bs).2.2] /\ FldM I b d (readF bs).1 /\ d <= e /\ e <= 9223372036854775807) ((Rf (SV.v (.slice a n c)) /\ (0 : Nat) = 0 /\ (0 : Int) <= 0 /\ ∃ L, FR I [] L /\ rightF L = true /\ 0 = sumL L /\ goF (yields bs 0) 0 16384 [] = goF (yields bs 0) (lastT 0 L) (16384 - sumL L) L) /\ ∀ (b : Mem), Mem -> I.le b -> ∀ (x : List Value) (d e : Int), 0 <= d /\ (∃ L, FR b x L /\ rightF L = true /\ e = sumL L /\ goF (yields bs 0) 0 16384 [] = goF (yields bs d.toNat) (lastT 0 L) (16384 - sumL L) L) -> Br (decide (d < (n : Int))) (Wr .i64 (d + 1) (fun f => Ct Tryz.prog (fnv 49) #[.slice a n c, .int .i64 f] b fun v g => ∃ i j k, v = .tuple #[.int .u64 i, .int .i64 j, .int .i64 k] /\ Wr .i64 (d + 1) fun l => Wr .i64 (l + j) fun m => Br (k != 0) (∃ o p q, Value.tuple #[.slice none 0 0, .int .i64 d, .int .i64 21] = .tuple #[.slice o p q, .int .i64 (readF bs).2.1, .int .i64 (readF bs).2.2] /\ FldM g o p (readF bs).1 /\ p <= q /\ q <= 9223372036854775807) (Wr .i64 ((n : Int) - m) (fun o => Wr .u64 o fun p => Br (decide (p < i)) (∃ q r s, Value.tuple #[.slice none 0 0, .int .i64 d, .int .i64 21] = .tuple #[.slice q r s, .int .i64 (readF bs).2.1, .int .i64 (readF bs).2.2] /\ FldM g q r (readF bs).1 /\ r <= s /\ s <= 9223372036854775807) (0 <= d /\ d < (n : Int) /\ a.isSome = true /\ ∃ q, atI g a (d.toNat * 1 + 0) = some (.int .u8 q) /\ Wr .i64 q fun r => Wr .i64 i fun s => Wr .i64 (m + s) fun t => 0 <= m /\ m <= t /\ t <= (c : Int) /\ Ct Tryz.prog (fnv 50) #[.slice (sladdr a c m.toNat 1) (t.toNat - m.toNat) (c - m.toNat)] g (fun u w => ∃ y z c1, u = .slice y z c1 /\ Wr .i64 (e + (z : Int)) fun c2 => x.length = x.length / 2 * 2 /\ x.length / 2 + 1 <= 9223372036854775807 /\ (x.length / 2 + 1) * 32 <= 140737488355328 /\ ∀ (a1 : Option Addr) (c3 : Nat) (I1 : Mem), w.le I1 -> RowM I1 a1 c3 2 (x ++ [.int .i64 r, .slice y z c1]) -> Ct Tryz.prog (fnv 51) #[.slice a1 (x.length / 2 + 1) c3] I1 fun v1 x1 => ∃ b1, v1 = .bool b1 /\ Br (!b1) (∃ a2 n1 c4, Value.tuple #[.slice none 0 0, .int .i64 d, .int .i64 21] = .tuple #[.slice a2 n1 c4, .int .i64 (readF bs).2.1, .int .i64 (readF bs).2.2] /\ FldM w a2 n1 (readF bs).1 /\ n1 <= c4 /\ c4 <= 9223372036854775807) (Br (decide (16384 < c2)) (∃ a2 n1 c4, Value.tuple #[.slice none 0 0, .int .i64 d, .int .i64 21] = .tuple #[.slice a2 n1 c4, .int .i64 (readF bs).2.1, .int .i64 (readF bs).2.2] /\ FldM w a2 n1 (readF bs).1 /\ n1 <= c4 /\ c4 <= 9223372036854775807) (Wr .i64 i (fun c4 => Wr .i64 (m + c4) fun c5 => Rf (SV.v (.slice a n c)) /\ x.length / 2 + 1 = List.length (x ++ [.int .i64 r, .slice y z c1]) / 2 /\ (0 <= c5 /\ ∃ L, FR w (x ++ [.int .i64 r, .slice y z c1]) L /\ rightF L = true /\ c2 = sumL L /\ goF (yields bs 0) 0 16384 [] = goF (yields bs c5.toNat) (lastT 0 L) (16384 - sumL L) L) /\ Int.toNat ((n : Int) - c5) < Int.toNat ((n : Int) - d))))) /\ Ct Tryz.prog (fnv 50) #[.slice (sladdr a c m.toNat 1) (t.toNat - m.toNat) (c - m.toNat)] g fun u w => ∃ y z c1, u = .slice y z c1 /\ Wr .i64 (e + (z : Int)) fun c2 => x.length = x.length / 2 * 2 /\ x.length / 2 + 1 <= 9223372036854775807 /\ (x.length / 2 + 1) * 32 <= 140737488355328 /\ ∀ (a1 : Option Addr) (c3 : Nat) (I1 : Mem), w.le I1 -> RowM I1 a1 c3 2 (x ++ [.int .i64 r, .slice y z c1]) -> Ct Tryz.prog (fnv 51) #[.slice a1 (x.length / 2 + 1) c3] I1 fun v1 x1 => ∃ b1, v1 = .bool b1 /\ Br (!b1) (∃ a2 n1 c4, Value.tuple #[.slice none 0 0, .int .i64 d, .int .i64 21] = .tuple #[.slice a2 n1 c4, .int .i64 (readF bs).2.1, .int .i64 (readF bs).2.2] /\ FldM w a2 n1 (readF bs).1 /\ n1 <= c4 /\ c4 <= 9223372036854775807) (Br (decide (16384 < c2)) (∃ a2 n1 c4, Value.tuple #[.slice none 0 0, .int .i64 d, .int .i64 21] = .tuple #[.slice a2 n1 c4, .int .i64 (readF bs).2.1, .int .i64 (readF bs).2.2] /\ FldM w a2 n1 (readF bs).1 /\ n1 <= c4 /\ c4 <= 9223372036854775807) (Wr .i64 i (fun c4 => Wr .i64 (m + c4) fun c5 => Rf (SV.v (.slice a n c)) /\ x.length / 2 + 1 = List.length (x ++ [.int .i64 r, .slice y z c1]) / 2 /\ (0 <= c5 /\ ∃ L, FR w (x ++ [.int .i64 r, .slice y z c1]) L /\ rightF L = true /\ c2 = sumL L /\ goF (yields bs 0) 0 16384 [] = goF (yields bs c5.toNat) (lastT 0 L) (16384 - sumL L) L) /\ Int.toNat ((n : Int) - c5) < Int.toNat ((n : Int) - d))))))))) (∀ (f : Option Addr) (g : Nat) (i : Mem), b.le i -> RowM i f g 2 x -> ∃ j k l, Value.tuple #[.slice f (x.length / 2) g, .int .i64 0, .int .i64 0] = .tuple #[.slice j k l, .int .i64 (readF bs).2.1, .int .i64 (readF bs).2.2] /\ FldM i j k (readF bs).1 /\ k <= l /\ l <= 9223372036854775807))) (by kernel_rfl) ?_
 simp only [eq_self, true_and];have hnl := h.numLen;refine Br.mk (fun hlong => ?_) (fun hlong => ?_)
 · have hlong := of_decide_eq_true hlong
   have : readF bs = ([], 0, 3) := by rw [readF, if_pos (by omega)]
   rw [this]
   exact ⟨none, 0, 0, rfl, fldM_nil _, by omega, by omega⟩
 have hlong := of_decide_eq_false hlong
 have hrd0 : readF bs = if 0 <= (goF (yields bs 0) 0 16384 []).1 then ([], (goF (yields bs 0) 0 16384 []).1, 21) else ((goF (yields bs 0) 0 16384 []).2, 0, 0) := by rw [readF, if_neg (by omega)]
 refine ⟨⟨by omega, [], trivial, rfl, rfl, rfl⟩, fun I1 _ l1 xs at_ sum ⟨a0, L, hL, hR, hs, hg⟩ => ?_⟩
 obtain ⟨k, rfl⟩ : ∃ k : Nat, at_ = k := ⟨at_.toNat, by omega⟩
 rw [Int.toNat_natCast] at hg ⊢;have hRs := hR;rw [right_split] at hRs;simp only [Bool.and_eq_true, decide_eq_true_eq] at hRs;obtain ⟨r1, r2, r3⟩ := hRs
 have hl0 := lastT_nonneg L 0 (by omega) r2
 have hs0 := sumL_nonneg L;have hxl := hL.len;refine Br.mk (fun hlt => ?_) (fun hge => ?_)
 · have hlt := of_decide_eq_true hlt
   have hkl : k < bs.length := by omega
   have fail : goF (yields bs k) (lastT 0 L) (16384 - sumL L) L = ((k : Int), []) -> ∀ J, ∃ a' n' c', Value.tuple #[Value.slice none 0 0, Value.int IntKind.i64 k, Value.int IntKind.i64 21] = Value.tuple #[Value.slice a' n' c', Value.int IntKind.i64 (readF bs).snd.fst, Value.int IntKind.i64 (readF bs).snd.snd] /\ FldM J a' n' (readF bs).fst /\ n' <= c' /\ c' <= 9223372036854775807 := by
    intro hf J;rw [hf] at hg
    have : readF bs = ([], (k : Int), 21) := by rw [hrd0, hg, if_pos (by simp only; omega)]
    rw [this]
    exact ⟨none, 0, 0, rfl, fldM_nil _, by omega, by omega⟩
   refine wr_i64 (by omega) (by omega) ((ct49 bs hbs a n c (k + 1) (by omega) I1 (h.mono l1) (by omega) hc).mono fun v I2 l2 hv => ?_)
   have hm9 := readN_m hbs (k + 1)
   rcases hre : readN bs (k + 1) with ⟨x, m, er⟩
   rw [hre] at hv hm9
   simp only at hm9
   refine ⟨x, m, er, hv, wr_i64 (by omega) (by omega) (wr_i64 (by omega) (by omega) (Br.mk (fun he => ?_) (fun he => ?_)))⟩
   · have he : er ≠ 0 := by simpa using he
     refine fail (goF_bad hkl ?_ hl0) _
     have hin : (intN bs (k + 1) 0 16384).2.2 ≠ 0 := by
      unfold intN;rw [hre, if_pos he];exact he
     rw [fstep, if_pos (.inl hin)]
   have he : er = 0 := by simpa using he
   subst he;obtain ⟨g0, g1, g2, g3, g4, g5, g6⟩ := readN_back hbs hre
   refine wr_i64 (by omega) (by omega) ⟨_, IntWalk.u64_in _ ⟨by omega, by omega⟩, Br.mk (fun hlx => ?_) (fun hlx => ?_)⟩
   · have hlx := of_decide_eq_true hlx
     refine fail (goF_bad hkl ?_ hl0) _
     by_cases hx : 16384 < x
     · have hin : (intN bs (k + 1) 0 16384).2.2 ≠ 0 := by
        unfold intN
        rw [hre, if_neg (by simp), if_pos (by simp only; omega)]
        simp
       rw [fstep, if_pos (.inl hin)]
     · have hin : intN bs (k + 1) 0 16384 = (x, m, 0) := by rw [intN, hre, if_neg (by simp), if_neg (by simp only; omega)]
       rw [fstep, hin, if_pos (.inr (by simp only; omega))]
   have hlx := of_decide_eq_false hlx
   obtain ⟨b, hb, hcell⟩ := (h.mono (Mem.le_trans l1 l2)).intAt (i := (k : Int)) (by omega) hlt
   rw [Int.toNat_natCast] at hb hcell;have hbr := hbs b (List.mem_of_getElem? hb)
   refine ⟨by omega, hlt, h.isSome (by omega), b, hcell, wr_i64 (by omega) (by omega) (wr_i64 (by omega) (by omega) (wr_i64 (by omega) (by omega) ⟨by omega, by omega, by omega, dup2 ?_⟩))⟩
   have hsub := sl_sub (f := ((k : Int) + 1 + m).toNat) (t := ((k : Int) + 1 + m + x).toNat) ((h.mono l1).mono l2) (by omega) (by omega) hc
   have hbl : ((bs.drop ((k : Int) + 1 + m).toNat).take (((k : Int) + 1 + m + x).toNat - ((k : Int) + 1 + m).toNat)).length = x.toNat := by simp only [List.length_take, List.length_drop]; omega
   have hbb : byteL ((bs.drop ((k : Int) + 1 + m).toNat).take (((k : Int) + 1 + m + x).toNat - ((k : Int) + 1 + m).toNat)) := fun z hz => hbs z (List.mem_of_mem_drop (List.mem_of_mem_take hz))
   have hst : ¬ 16384 < x -> fstep bs k = some ((bs.drop ((k : Int) + 1 + m).toNat).take (((k : Int) + 1 + m + x).toNat - ((k : Int) + 1 + m).toNat), ((k : Int) + 1 + m + x).toNat) := fun hx => by
    have hin : intN bs (k + 1) 0 16384 = (x, m, 0) := by rw [intN, hre, if_neg (by simp), if_neg (by simp only; omega)]
    rw [fstep, hin, if_neg (by simp only; omega)]
    simp only
    congr 3
    omega
   generalize (bs.drop ((k : Int) + 1 + m).toNat).take (((k : Int) + 1 + m + x).toNat - ((k : Int) + 1 + m).toNat) = body at hsub hbl hbb hst
   refine (ct50 body _ _ _ I2 hsub (by omega)).mono fun v I3 l3 hv => ?_
   have hv2 := hv;obtain ⟨b2, m2, c2, rfl, hv3, _⟩ := hv;have hm2 := hv3.numLen
   have hL2 : FR I3 (xs ++ [.int .i64 b, .slice b2 m2 c2]) (L ++ [(b, body)]) := FR.snoc (hL.mono (Mem.le_trans l2 l3)) ⟨⟨by simp only; omega, hbb⟩, rfl, hv2⟩
   refine ⟨b2, m2, c2, rfl, wr_i64 (by omega) (by omega) ⟨by omega, by omega, by omega, fun a4 cp I4 l4 hrow => ?_⟩⟩
   have hf4 := fldM_row hrow (hL2.mono l4)
   have hbnd : ∀ f ∈ L ++ [(b, body)], f.2.length <= 1000000 := fun f hf => by
    rcases List.mem_append.1 hf with hf | hf
    · have := right_at (rightF_iff.1 hR).1 f hf
      omega
    · cases List.mem_singleton.1 hf
      simp only
      omega
   have hll : (L ++ [(b, body)]).length = xs.length / 2 + 1 := by simp; omega
   rw [hll] at hf4;refine (ct51 (L ++ [(b, body)]) _ _ _ I4 hf4 hbnd).mono fun v I5 l5 hv => ⟨_, hv, ?_⟩;rw [right_snoc hR]
   by_cases hx : 16384 < x
   · refine Br.t ?_ (fail (goF_bad hkl ?_ hl0) _)
     · rw [decide_eq_true (by simp only; omega)]; rfl
     · have hin : (intN bs (k + 1) 0 16384).2.2 ≠ 0 := by
        unfold intN
        rw [hre, if_neg (by simp), if_pos (by simp only; omega)]
        simp
       rw [fstep, if_pos (.inl hin)]
   have hstep := goF_step (last := lastT 0 L) (left := 16384 - sumL L) (L := L) hkl (hst hx) hb (by omega)
   refine Br.mk (fun hbad => ?_) (fun hgood => ?_)
   · have hbad : b <= lastT 0 L \/ 200 < b \/ 16384 - sumL L < body.length \/ 64 <= L.length := by simpa using hbad
     rw [if_pos hbad] at hstep;exact fail hstep _
   · have hgood : ¬ (b <= lastT 0 L \/ 200 < b \/ 16384 - sumL L < body.length \/ 64 <= L.length) := by simpa using hgood
     rw [if_neg hgood] at hstep
     refine Br.f (by simp; omega) (wr_i64 (by omega) (by omega) (wr_i64 (by omega) (by omega) ⟨by simp, ⟨by omega, L ++ [(b, body)], hL2, ?_, ?_, ?_⟩, by omega⟩))
     · rw [right_snoc hR, decide_eq_false hgood]; rfl
     · rw [sumL_app]; simp only [sumL]; omega
     · rw [hg, hstep, lastT_snoc, sumL_app]
       simp only [sumL]
       congr 1
       omega
 · have hge := of_decide_eq_false hge
   intro a4 cp I4 l4 hrow
   have hy : yields bs k = [] := by rw [yields, dif_neg (by omega)]
   rw [hy, goF] at hg
   have : readF bs = (L, 0, 0) := by rw [hrd0, hg]; rfl
   rw [this];obtain ⟨a3, n3, c3, e1, e2⟩ := fr_row hrow (hL.mono l4);cases e1;exact ⟨_, _, _, rfl, e2⟩
theorem ct58 (l : List (Int × List Int)) (hb : ∀ f ∈ l, f.2.length <= 1000000) (a : Option Addr) (n c : Nat) (I : Mem) (h : FldM I a n l) (hn : n <= 1000000) :
 Ct Tryz.prog (fnv 58) #[.slice a n c] I (fun v I' => ∃ a' n' c', v = .tuple #[.slice a' n' c', .int .i64 (if rightF l then 0 else 20)] /\ SlM I' a' n' 1 (ints .u8 (if rightF l then writeF l else [])) /\ n' <= c' /\ c' <= maxLen) := by
 refine viaR (ct_via (A := { loops := [(5, ⟨[(0, .keep), (4, .row 0), (5, .sh (.int .i64))], [(0, .row)], [(4, 1, 5)], fun vals xss I' _ => match vals, xss with | [.int .i64 j], [xs] => 0 <= j /\ j <= n /\ xs = ints .u8 (writeF (l.take j.toNat)) /\ rightF l = true | _, _ => False, fun vals _ => match vals with | [.int .i64 j] => (n - j).toNat | _ => 0⟩)] }) Tryz.func58 rfl Tryz.call58 rfl rfl) (Ct Tryz.prog (fnv 51) #[.slice a n c] I fun v b => ∃ d, v = .bool d /\ Br (!d) (∃ e f g, Value.tuple #[.slice none 0 0, .int .i64 20] = .tuple #[.slice e f g, .int .i64 (if rightF l = true then 0 else 20)] /\ SlM b e f 1 (List.map (Value.int .u8) (if rightF l = true then writeF l else ([] : List Int))) /\ f <= g /\ g <= 9223372036854775807) ((Rf (SV.v (.slice a n c)) /\ (0 : Nat) = 0 /\ (0 : Int) <= 0 /\ 0 <= (n : Int) /\ Rf ([] : List Value) /\ rightF l = true) /\ ∀ (e : Mem), Mem -> b.le e -> ∀ (x : List Value) (f : Int), 0 <= f /\ f <= (n : Int) /\ x = List.map (Value.int .u8) (writeF (List.take f.toNat l)) /\ rightF l = true -> Br (decide (f < (n : Int))) (0 <= f /\ f < (n : Int) /\ a.isSome = true /\ a.isSome = true /\ ∃ g, atI e a (f.toNat * 2 + 0 + 0) = some (.int .i64 g) /\ Wr .u8 g fun i => x.length = x.length * 1 /\ x.length + 1 <= 9223372036854775807 /\ (x.length + 1) * 1 <= 140737488355328 /\ 0 <= f /\ f < (n : Int) /\ a.isSome = true /\ a.isSome = true /\ ∃ j k m, atI e a (f.toNat * 2 + 1 + 0) = some (.slice j k m) /\ Wr .u64 (k : Int) fun o => Ct Tryz.prog (fnv 77) #[.int .u64 o] e fun p q => ∃ r s t, p = .slice r s t /\ ∃ y, y.length = s * 1 /\ (r = none -> s = 0) /\ (∀ (u : Nat) (w : Value), y[u]? = some w -> atI q r u = some w) /\ (∀ (u : Value), Membership.mem y u -> u.oneCell' = true) /\ List.length (x ++ [.int .u8 i]) = (x.length + 1) * 1 /\ x.length + 1 + s <= 9223372036854775807 /\ (x.length + 1 + s) * 1 <= 140737488355328 /\ 0 <= f /\ f < (n : Int) /\ a.isSome = true /\ a.isSome = true /\ ∃ u w z, atI q a (f.toNat * 2 + 1 + 0) = some (.slice u w z) /\ ∃ y1, y1.length = w * 1 /\ (u = none -> w = 0) /\ (∀ (j1 : Nat) (v1 : Value), y1[j1]? = some v1 -> atI q u j1 = some v1) /\ (∀ (v1 : Value), Membership.mem y1 v1 -> v1.oneCell' = true) /\ List.length (x ++ [.int .u8 i] ++ y) = (x.length + 1 + s) * 1 /\ x.length + 1 + s + w <= 9223372036854775807 /\ (x.length + 1 + s + w) * 1 <= 140737488355328 /\ Wr .i64 (f + 1) fun c1 => Rf (SV.v (.slice a n c)) /\ x.length + 1 + s + w = List.length (x ++ [.int .u8 i] ++ y ++ y1) /\ (0 <= c1 /\ c1 <= (n : Int) /\ x ++ [.int .u8 i] ++ y ++ y1 = List.map (Value.int .u8) (writeF (List.take c1.toNat l)) /\ rightF l = true) /\ Int.toNat ((n : Int) - c1) < Int.toNat ((n : Int) - f)) (∀ (g : Option Addr) (i : Nat) (j : Mem), e.le j -> RowM j g i 1 x -> ∃ k m o, Value.tuple #[.slice g x.length i, .int .i64 0] = .tuple #[.slice k m o, .int .i64 (if rightF l = true then 0 else 20)] /\ SlM j k m 1 (List.map (Value.int .u8) (if rightF l = true then writeF l else ([] : List Int))) /\ m <= o /\ o <= 9223372036854775807))) (by kernel_rfl) ?_
 have hl := h.len;refine (ct51 l a n c I h hb).mono fun v I0 l0 hv => ⟨_, hv, Br.mk (fun hr => ?_) (fun hr => ?_)⟩
 · have hr : rightF l = false := by simpa using hr
   rw [hr]
   exact ⟨none, 0, 0, rfl, sl_nil _ _, by omega, by omega⟩
 have hr : rightF l = true := by simpa using hr
 obtain ⟨hs, hl64⟩ := rightF_iff.1 hr
 refine ⟨⟨rfl, rfl, by omega, by omega, rfl, hr⟩, fun I1 _ l1 xs j ⟨h0, h1, h2, _⟩ => Br.mk (fun hlt => ?_) (fun hge => ?_)⟩
 · have hlt := of_decide_eq_true hlt
   obtain ⟨f, b, m, c', hf, hok, e1, e2, hfs, hm1, hm2⟩ := (h.mono (Mem.le_trans l0 l1)).at_ h0 hlt;have hm := hfs.numLen;have hfr := right_at hs f (List.mem_of_getElem? hf)
   have hsome := h.isSome (by omega)
   have hwl := right_len (by omega) hs j.toNat
   have hxl : xs.length = (writeF (l.take j.toNat)).length := by rw [h2]; exact ints_len
   refine ⟨h0, hlt, hsome, hsome, f.1, e1, _, IntWalk.u8_in f.1 ⟨by omega, by omega⟩, by omega, by omega, by omega, h0, hlt, hsome, hsome, b, m, c', e2, _, IntWalk.u64_in _ ⟨by omega, by omega⟩, ?_⟩
   refine (ct77 (m : Int) ⟨by omega, by omega⟩ I1).mono fun v I2 l2 ⟨b2, m2, c2, hv, hs2, hm3, hm4⟩ => ⟨b2, m2, c2, hv, ?_⟩
   rw [Int.toNat_natCast] at hs2;have hm2 := hs2.numLen
   have hf9 := formN_le m (by omega)
   obtain ⟨f2, b', m', c2', hf', _, _, e2', hfs', _⟩ := (h.mono (Mem.le_trans l0 (Mem.le_trans l1 l2))).at_ h0 hlt;rw [hf] at hf'
   cases hf'
   refine ⟨_, hs2.len, hs2.nil, hs2.at_, one_ints, by simp, by omega, by omega, h0, hlt, hsome, hsome, b', m', c2', e2', _, hfs'.len, hfs'.nil, hfs'.at_, one_ints, ?_, ?_, ?_, wr_i64 (by omega) (by omega) ⟨rfl, ?_, ⟨by omega, by omega, ?_, hr⟩, by omega⟩⟩
   · simp [ints_len]; omega
   · have := hfs'.numLen; omega
   · have := hfs'.numLen; omega
   · have := hfs'.numLen
     simp [ints_len]; omega
   · rw [h2, show (j + 1).toNat = j.toNat + 1 by omega, take_succ' hf, writeF_app, show writeF [f] = f.1 :: (formN f.2.length ++ f.2) by simp [writeF], <- hm]
     simp [ints]
 · have hge := of_decide_eq_false hge
   intro a4 cp I4 l4 hrow
   rw [List.take_of_length_le (by omega)] at h2
   have hxl : xs.length = (writeF l).length := by rw [h2]; exact ints_len
   refine ⟨a4, xs.length, cp, ?_, ?_, ?_, hrow.2.1⟩
   · rw [hr]; rfl
   · rw [if_pos hr, <- h2]; exact hrow.sl (by omega) (by omega)
   · have := hrow.1; omega
