/- Part of a proof by the rules of the symbolic walk (see the law's own text): contracts of functions of the program. -/
import Derived.Test.YtdmhilnnendcoaaGre4
import Derived.Test.YtdmhilnnendcoaaGre3
set_option linter.unusedVariables false
set_option linter.unusedSimpArgs false
open Go Go.Proofs Go.SE Go.RowKit
set_option linter.unusedVariables false
set_option maxRecDepth 100000
def formsL (l : List Int) : List Int := l.flatMap fun n => formN (IntKind.u64.wrap n).toNat
theorem w64_range (x : Int) : 0 <= IntKind.u64.wrap x /\ IntKind.u64.wrap x <= 18446744073709551615 := by
 rw [w64]; omega
theorem forms_snoc {l : List Int} {j : Nat} {x : Int} (h : l[j]? = some x) : formsL (l.take (j + 1)) = formsL (l.take j) ++ formN (IntKind.u64.wrap x).toNat := by
 rw [take_succ' h, formsL, List.flatMap_append]; simp [formsL]
theorem forms_len (l : List Int) : (formsL l).length <= 9 * l.length := by
 induction l with
 | nil => simp [formsL]
 | cons x r ih =>
   have h1 := w64_range x
   have h2 := (formN_le (IntKind.u64.wrap x).toNat (by omega)).1
   have e : formsL (x :: r) = formN (IntKind.u64.wrap x).toNat ++ formsL r := rfl;rw [e, List.length_append, List.length_cons];omega
theorem forms_take (l : List Int) (j : Nat) : (formsL (l.take j)).length <= 9 * l.length := by
 have := forms_len (l.take j);have := List.length_take_le j l
 have : (l.take j).length <= l.length := by rw [List.length_take]; omega
 omega
theorem cs64 (l : List Int) (a : Option Addr) (n c : Nat) (I : Mem) (h : SlM I a n 1 (ints .i64 l)) (hn : n <= 10000) :
 CtS Try.prog (.v (fnv 64)) [.v (.slice a n c)] [] I (fun sv H' _ => sv = .rsl 0 (formsL l).length /\ H' = [⟨.row (ints .u8 (formsL l)) 1 5, none⟩]) := by
 refine viaR (ctS_via (A := { calls := [(15, .lend [0] (.row 0) [.row 1 5])], loops := [(3, ⟨[(3, .row 0), (6, .keep), (7, .keep), (8, .sh (.int .i64))], [(0, .row)], [(3, 1, 5)], fun vals xss _ _ => match vals, xss with | [.int .i64 j], [xs] => 0 <= j /\ j <= n /\ xs = ints .u8 (formsL (l.take j.toNat)) | _, _ => False, fun vals _ => match vals with | [.int .i64 j] => (n - j).toNat | _ => 0⟩)] }) Try.func64 rfl Try.call64 [0] rfl) (((0 : Nat) = 0 /\ Rf (SV.v (.slice a n c)) /\ Rf (SV.v (.int .i64 (n : Int))) /\ (0 : Int) <= 0 /\ 0 <= (n : Int) /\ Rf ([] : List Value)) /\ ∀ (b : Mem), Mem -> I.le b -> ∀ (x : List Value) (d : Int), 0 <= d /\ d <= (n : Int) /\ x = List.map (Value.int .u8) (formsL (List.take d.toNat l)) -> Br (decide (d < (n : Int))) (0 <= d /\ d < (n : Int) /\ a.isSome = true /\ ∃ e, atI b a (d.toNat * 1 + 0) = some (.int .i64 e) /\ Wr .u64 e fun f => CtS Try.prog (.v (fnv 59)) [.rsl 0 x.length, .v (.int .u64 f)] [⟨.row x 1 5, none⟩] b fun s H g => ∃ i j, s = .rsl 0 i /\ H = [⟨.row j 1 5, none⟩] /\ Wr .i64 (d + 1) fun k => i = j.length /\ Rf (SV.v (.slice a n c)) /\ Rf (SV.v (.int .i64 (n : Int))) /\ (0 <= k /\ k <= (n : Int) /\ j = List.map (Value.int .u8) (formsL (List.take k.toNat l))) /\ Int.toNat ((n : Int) - k) < Int.toNat ((n : Int) - d)) (SV.rsl 0 x.length = .rsl 0 (formsL l).length /\ [Ent.mk (.row x 1 5) none] = [⟨.row (List.map (Value.int .u8) (formsL l)) 1 5, none⟩])) (by kernel_rfl) ?_
 simp only [eq_self, true_and, and_true];have hln := h.numLen
 refine ⟨⟨by omega, by omega⟩, fun I1 _ l1 xs j ⟨j0, j1, hx⟩ => Br.mk (fun hlt => ?_) (fun hge => ?_)⟩
 · have hlt := of_decide_eq_true hlt
   obtain ⟨x, hxj, e⟩ := (h.mono l1).intAt j0 hlt;have hwr := w64_range x;have hfl := forms_take l j.toNat
   have hxl : xs.length <= 90000 := by rw [hx]; simp only [List.length_map]; omega
   refine ⟨j0, hlt, h.isSome (by omega), x, e, _, rfl, (cs59 xs xs.length _ hwr rfl (by omega) I1).mono fun v H' I2 l2 ⟨hv, hH⟩ => ?_⟩
   refine ⟨_, _, hv, hH, wr_i64 (by omega) (by omega) ⟨by simp [ints], ⟨by omega, by omega, ?_⟩, by omega⟩⟩
   rw [show (j + 1).toNat = j.toNat + 1 by omega, forms_snoc hxj, hx]
   simp [ints]
 · have hge := of_decide_eq_false hge
   rw [List.take_of_length_le (by omega)] at hx
   subst hx
   exact ⟨by rw [List.length_map], rfl⟩
theorem ct64 (l : List Int) (a : Option Addr) (n c : Nat) (I : Mem) (h : SlM I a n 1 (ints .i64 l)) (hn : n <= 10000) :
 Ct Try.prog (fnv 64) #[.slice a n c] I (fun v I' => BySl I' v (formsL l)) := by
 refine viaR (ct_via (A := { calls := [(15, .lend [0] (.row 0) [.row 1 5])], loops := [(3, ⟨[(3, .row 0), (6, .keep), (7, .keep), (8, .sh (.int .i64))], [(0, .row)], [(3, 1, 5)], fun vals xss _ _ => match vals, xss with | [.int .i64 j], [xs] => 0 <= j /\ j <= n /\ xs = ints .u8 (formsL (l.take j.toNat)) | _, _ => False, fun vals _ => match vals with | [.int .i64 j] => (n - j).toNat | _ => 0⟩)] }) Try.func64 rfl Try.call64 rfl rfl) (((0 : Nat) = 0 /\ Rf (SV.v (.slice a n c)) /\ Rf (SV.v (.int .i64 (n : Int))) /\ (0 : Int) <= 0 /\ 0 <= (n : Int) /\ Rf ([] : List Value)) /\ ∀ (b : Mem), Mem -> I.le b -> ∀ (x : List Value) (d : Int), 0 <= d /\ d <= (n : Int) /\ x = List.map (Value.int .u8) (formsL (List.take d.toNat l)) -> Br (decide (d < (n : Int))) (0 <= d /\ d < (n : Int) /\ a.isSome = true /\ ∃ e, atI b a (d.toNat * 1 + 0) = some (.int .i64 e) /\ Wr .u64 e fun f => CtS Try.prog (.v (fnv 59)) [.rsl 0 x.length, .v (.int .u64 f)] [⟨.row x 1 5, none⟩] b fun s H g => ∃ i j, s = .rsl 0 i /\ H = [⟨.row j 1 5, none⟩] /\ Wr .i64 (d + 1) fun k => i = j.length /\ Rf (SV.v (.slice a n c)) /\ Rf (SV.v (.int .i64 (n : Int))) /\ (0 <= k /\ k <= (n : Int) /\ j = List.map (Value.int .u8) (formsL (List.take k.toNat l))) /\ Int.toNat ((n : Int) - k) < Int.toNat ((n : Int) - d)) (∀ (e : Option Addr) (f : Nat) (g : Mem), b.le g -> RowM g e f 1 x -> ∃ i m j, Value.slice e x.length f = .slice i m j /\ SlM g i m 1 (List.map (Value.int .u8) (formsL l)) /\ m <= j /\ j <= 9223372036854775807)) (by kernel_rfl) ?_
 simp only [eq_self, true_and, and_true];have hln := h.numLen
 refine ⟨⟨by omega, by omega⟩, fun I1 _ l1 xs j ⟨j0, j1, hx⟩ => Br.mk (fun hlt => ?_) (fun hge => ?_)⟩
 · have hlt := of_decide_eq_true hlt
   obtain ⟨x, hxj, e⟩ := (h.mono l1).intAt j0 hlt;have hwr := w64_range x;have hfl := forms_take l j.toNat
   have hxl : xs.length <= 90000 := by rw [hx]; simp only [List.length_map]; omega
   refine ⟨j0, hlt, h.isSome (by omega), x, e, _, rfl, (cs59 xs xs.length _ hwr rfl (by omega) I1).mono fun v H' I2 l2 ⟨hv, hH⟩ => ?_⟩
   refine ⟨_, _, hv, hH, wr_i64 (by omega) (by omega) ⟨by simp [ints], ⟨by omega, by omega, ?_⟩, by omega⟩⟩
   rw [show (j + 1).toNat = j.toNat + 1 by omega, forms_snoc hxj, hx]
   simp [ints]
 · have hge := of_decide_eq_false hge
   rw [List.take_of_length_le (by omega)] at hx
   subst hx
   exact fun a' cp I2 l2 hrow => row_bysl hrow (by rw [List.length_map])
theorem int_sl {I : Mem} {b : Nat} {l : List Int} {el : TypeId} {n : Nat} {cs : Array Value} (h : I b = some (.cells cs el)) (hc : cs = (ints .i64 l).toArray) (hn : n = l.length) (hm : n <= 10000) : SlM I (some ⟨b, 0, none⟩) n 1 (ints .i64 l) := by
 subst hc
 have := sl_cells (n := n) (sz := 1) h (by simp [ints]; omega) (by simp only [maxLen]; omega)
 simpa using this
theorem ct61 (k1 k2 k3 : Int) (I : Mem) :
 Ct Try.prog (fnv 61) #[.agg #[.int .i64 k1, .int .i64 k2, .int .i64 k3]] I (fun v I' => BySl I' v (formsL [k1, k2, k3])) := by
 refine viaR (ct_via (A := { }) Try.func61 rfl Try.call61 rfl rfl) (∀ (b : Nat) (a : Mem), I.le a -> a b = some (.cells #[.int .i64 k1, .int .i64 k2, .int .i64 k3] 3 (0, 0)) -> Ct Try.prog (fnv 64) #[.slice (some ⟨b, 0, none⟩) 3 3] a fun v c => ∃ d n e, v = .slice d n e /\ ∃ f m g, Value.slice d n e = .slice f m g /\ SlM c f m 1 (List.map (Value.int .u8) (formsL [k1, k2, k3])) /\ m <= g /\ g <= 9223372036854775807) (by kernel_rfl) ?_
 intro b I1 l1 hb
 refine (ct64 [k1, k2, k3] _ 3 3 I1 (int_sl hb rfl rfl (by omega)) (by omega)).mono fun v I2 l2 hv => ?_
 obtain ⟨a, n, c, rfl, h1⟩ := hv;exact ⟨_, _, _, rfl, _, _, _, rfl, h1⟩
theorem cs61 (k1 k2 k3 : Int) (I : Mem) :
 CtS Try.prog (.v (fnv 61)) [.v (.agg #[.int .i64 k1, .int .i64 k2, .int .i64 k3])] [] I (fun sv H' _ => sv = .rsl 0 (formsL [k1, k2, k3]).length /\ H' = [⟨.row (ints .u8 (formsL [k1, k2, k3])) 1 5, none⟩]) := by
 obtain ⟨l, hl⟩ : ∃ l, l = formsL [k1, k2, k3] := ⟨_, rfl⟩;rw [<- hl]
 refine viaR (ctS_via (A := { calls := [(10, .lend [] (.row 0) [.row 1 5])] }) Try.func61 rfl Try.call61 [2] rfl) (∀ (b : Nat) (a : Mem), I.le a -> a b = some (.cells #[.int .i64 k1, .int .i64 k2, .int .i64 k3] 3 (0, 0)) -> CtS Try.prog (.v (fnv 64)) [.v (.slice (some ⟨b, 0, none⟩) 3 3)] [] a fun s H c => ∃ n x, s = .rsl 0 n /\ H = [⟨.row x 1 5, none⟩] /\ SV.rsl 0 n = .rsl 0 l.length /\ [Ent.mk (.row x 1 5) none] = [⟨.row (List.map (Value.int .u8) l) 1 5, none⟩]) (by kernel_rfl) ?_
 intro b I1 l1 hb
 refine (cs64 [k1, k2, k3] _ 3 3 I1 (int_sl hb rfl rfl (by omega)) (by omega)).mono fun sv H' I2 l2 ⟨h1, h2⟩ => ⟨_, _, h1, h2, ?_⟩
 rw [hl];exact ⟨rfl, rfl⟩
theorem bysl_split {I : Mem} {P : Nat -> Nat -> Option Addr -> Prop} {bs : List Int} {v : Value} (h : BySl I v bs) (hp : ∀ a n c, BySl I (.slice a n c) bs -> P n c a) : ∃ a n c, v = .slice a n c /\ P n c a := by
 obtain ⟨a, n, c, rfl, h1⟩ := h;exact ⟨a, n, c, rfl, hp a n c ⟨_, _, _, rfl, h1⟩⟩
def numF (x : Int) : List Int := formsL [x]
def celF (x : Int) : List Int := formN (foldZ x).toNat
def evF (x : EvT) : List Int := formsL [x.1.1, x.1.2.1, x.1.2.2] ++ formsL [x.2.1] ++ formN (foldZ x.2.2).toNat
def ptF (x : PtT) : List Int := formsL [x.1, x.2.2, (x.2.1.length : Int)] ++ x.2.1
def hdF (x : HdT) : List Int := formsL [x.1, x.2.1, x.2.2.1, x.2.2.2.1, x.2.2.2.2]
def i64R (x : Int) : Prop := -9223372036854775808 <= x /\ x <= 9223372036854775807
theorem foldZ_range {x : Int} (h : i64R x) : 0 <= foldZ x /\ foldZ x <= 18446744073709551615 := by
 obtain ⟨h1, h2⟩ := h;unfold foldZ
 split <;> omega
theorem cs_agg3 {P : Program} {fv : SV} {a b c : Value} {H : List Ent} {I : Mem} {post : SV -> List Ent -> Mem -> Prop} (h : CtS P fv [.v (.agg #[a, b, c])] H I post) : CtS P fv [.agg [.v a, .v b, .v c]] H I post := fun e hp hO => h e hp hO
theorem ct63 (x : Int) (I : Mem) : Ct Try.prog (fnv 63) #[.int .i64 x] I (fun v I' => BySl I' v (numF x)) := by
 refine viaR (ct_via (A := { }) Try.func63 rfl Try.call63 rfl rfl) (∀ (b : Nat) (a : Mem), I.le a -> a b = some (.cells #[.int .i64 x] 3 (0, 0)) -> Ct Try.prog (fnv 64) #[.slice (some ⟨b, 0, none⟩) 1 1] a fun v c => ∃ d n e, v = .slice d n e /\ ∃ f m g, Value.slice d n e = .slice f m g /\ SlM c f m 1 (List.map (Value.int .u8) (numF x)) /\ m <= g /\ g <= 9223372036854775807) (by kernel_rfl) ?_
 intro b I1 l1 hb
 exact (ct64 [x] _ 1 1 I1 (int_sl hb rfl rfl (by omega)) (by omega)).mono fun v I2 l2 h => bysl_split h fun a n c h => ⟨a, n, c, rfl, by obtain ⟨_, _, _, he, h1⟩ := h; cases he; exact h1⟩
theorem ct66 (x : Int) (hx : i64R x) (I : Mem) : Ct Try.prog (fnv 66) #[.int .i64 x] I (fun v I' => BySl I' v (celF x)) := by
 refine viaR (ct_via (A := { }) Try.func66 rfl Try.call66 rfl rfl) (Ct Try.prog (fnv 67) #[.int .i64 x] I fun v a => ∃ n, v = .int .u64 n /\ Ct Try.prog (fnv 59) #[.slice none 0 0, .int .u64 n] a fun b c => ∃ d e f, b = .slice d e f /\ ∃ g m h, Value.slice d e f = .slice g m h /\ SlM c g m 1 (List.map (Value.int .u8) (celF x)) /\ m <= h /\ h <= 9223372036854775807) (by kernel_rfl) ?_
 exact (ct67 x hx I).mono fun v I1 l1 hv => ⟨_, hv, (ct59 _ (foldZ_range hx) I1).mono fun v I2 l2 h => bysl_split h fun a n c h => ⟨a, n, c, rfl, by obtain ⟨_, _, _, he, h1⟩ := h; cases he; exact h1⟩⟩
theorem ct69 (x : EvT) (hx : i64R x.2.2) (I : Mem) : Ct Try.prog (fnv 69) #[.agg #[.int .i64 x.1.1, .int .i64 x.1.2.1, .int .i64 x.1.2.2, .int .i64 x.2.1, .int .i64 x.2.2]] I (fun v I' => BySl I' v (evF x)) := by
 refine viaR (ct_via (A := { calls := [(5, .lend [] (.row 0) [.row 1 5]), (14, .lendT [10] (.row 0) [.row 1 5])] }) Try.func69 rfl Try.call69 rfl rfl) (CtS Try.prog (.v (fnv 61)) [.agg [.v (.int .i64 x.1.1), .v (.int .i64 x.1.2.1), .v (.int .i64 x.1.2.2)]] [] I (fun s H a => ∃ n b, s = .rsl 0 n /\ H = [⟨.row b 1 5, none⟩] /\ ∀ (c : Nat) (d : Mem), a.le d -> d c = some (.cells #[.int .i64 x.2.1] 3 (0, 0)) -> Ct Try.prog (fnv 64) #[.slice (some ⟨c, 0, none⟩) 1 1] d fun v e => ∃ f g h, v = .slice f g h /\ ∃ y, y.length = g * 1 /\ (f = none -> g = 0) /\ (∀ (j : Nat) (i : Value), y[j]? = some i -> atI e f j = some i) /\ (∀ (i : Value), Membership.mem y i -> i.oneCell' = true) /\ b.length = n * 1 /\ n + g <= 9223372036854775807 /\ (n + g) * 1 <= 140737488355328 /\ Ct Try.prog (fnv 67) #[.int .i64 x.2.2] e fun i j => ∃ k, i = .int .u64 k /\ CtS Try.prog (.v (fnv 59)) [.rsl 0 (n + g), .v (.int .u64 k)] [⟨.row (b ++ y) 1 5, none⟩] j fun l m o => ∃ p q, l = .rsl 0 p /\ m = [⟨.row q 1 5, none⟩] /\ ∀ (r : Option Addr) (t : Nat) (u : Mem), o.le u -> RowM u r t 1 q -> ∃ w z c1, Value.slice r p t = .slice w z c1 /\ SlM u w z 1 (List.map (Value.int .u8) (evF x)) /\ z <= c1 /\ c1 <= 9223372036854775807) /\ CtS Try.prog (.v (fnv 61)) [.agg [.v (.int .i64 x.1.1), .v (.int .i64 x.1.2.1), .v (.int .i64 x.1.2.2)]] [] I fun s H a => ∃ n b, s = .rsl 0 n /\ H = [⟨.row b 1 5, none⟩] /\ ∀ (c : Nat) (d : Mem), a.le d -> d c = some (.cells #[.int .i64 x.2.1] 3 (0, 0)) -> Ct Try.prog (fnv 64) #[.slice (some ⟨c, 0, none⟩) 1 1] d fun v e => ∃ f g h, v = .slice f g h /\ ∃ y, y.length = g * 1 /\ (f = none -> g = 0) /\ (∀ (j : Nat) (i : Value), y[j]? = some i -> atI e f j = some i) /\ (∀ (i : Value), Membership.mem y i -> i.oneCell' = true) /\ b.length = n * 1 /\ n + g <= 9223372036854775807 /\ (n + g) * 1 <= 140737488355328 /\ Ct Try.prog (fnv 67) #[.int .i64 x.2.2] e fun i j => ∃ k, i = .int .u64 k /\ CtS Try.prog (.v (fnv 59)) [.rsl 0 (n + g), .v (.int .u64 k)] [⟨.row (b ++ y) 1 5, none⟩] j fun l m o => ∃ p q, l = .rsl 0 p /\ m = [⟨.row q 1 5, none⟩] /\ ∀ (r : Option Addr) (t : Nat) (u : Mem), o.le u -> RowM u r t 1 q -> ∃ w z c1, Value.slice r p t = .slice w z c1 /\ SlM u w z 1 (List.map (Value.int .u8) (evF x)) /\ z <= c1 /\ c1 <= 9223372036854775807) (by kernel_rfl) ?_
 have e : ints .u8 (evF x) = ints .u8 (formsL [x.1.1, x.1.2.1, x.1.2.2]) ++ ints .u8 (formsL [x.2.1]) ++ ints .u8 (formN (foldZ x.2.2).toNat) := by simp [ints, evF]
 have f1 := forms_len [x.1.1, x.1.2.1, x.1.2.2];have f2 := forms_len [x.2.1];have hf := foldZ_range hx
 have f3 := (formN_le (foldZ x.2.2).toNat (by omega)).1
 simp only [List.length_cons, List.length_nil] at f1 f2;refine ⟨?_, ?_⟩
 all_goals
  refine (cs_agg3 (cs61 x.1.1 x.1.2.1 x.1.2.2 I)).mono fun sv H' I1 l1 ⟨h1, h2⟩ => ⟨_, _, h1, h2, fun b I2 l2 hb => ?_⟩
  refine (ct64 [x.2.1] _ 1 1 I2 (int_sl hb rfl rfl (by omega)) (by omega)).mono fun v I3 l3 ⟨a, n, c, hv, hs, hc, hm⟩ => ⟨a, n, c, hv, ints .u8 (formsL [x.2.1]), hs.len, hs.nil, hs.at_, one_ints, by rw [ints_len]; omega, ?_⟩
  have hnl := hs.numLen
  refine ⟨by omega, by omega, (ct67 x.2.2 hx I3).mono fun v I4 l4 hv => ⟨_, hv, (cs59 _ _ _ hf (by rw [List.length_append, ints_len, ints_len]; omega) (by rw [List.length_append, ints_len, ints_len]; omega) I4).mono fun sv H' I5 l5 ⟨h3, h4⟩ => ⟨_, _, h3, h4, fun a cp I6 l6 hrow => ?_⟩⟩⟩
  rw [<- e] at hrow
  exact row_bysl hrow (by rw [<- ints_len (k := .u8) (l := evF x), e, List.length_append, List.length_append, ints_len, ints_len, ints_len]; omega)
theorem strB_size (bs : List Int) : (strB bs).size = bs.length := by
 show (u8s bs).toArray.size = _
 rw [List.size_toArray, u8s, List.length_map]
theorem u8s_ints {bs : List Int} (hb : byteL bs) : (u8s bs).map (fun b => Value.int .u8 (b.toNat : Nat)) = ints .u8 bs := by
 rw [u8s, List.map_map, ints];apply List.map_congr_left;intro z hz
 show Value.int .u8 (((UInt8.ofNat z.toNat).toNat : Nat) : Int) = _
 rw [u8_nat (hb z hz)]
theorem ct71 (x : PtT) (hx : x.2.1.length <= 1000) (hb : byteL x.2.1) (I : Mem) : Ct Try.prog (fnv 71) #[.agg #[.int .i64 x.1, .string (strB x.2.1), .int .i64 x.2.2]] I (fun v I' => BySl I' v (ptF x)) := by
 refine viaR (ct_via (A := { calls := [(11, .lend [] (.row 0) [.row 1 5])] }) Try.func71 rfl Try.call71 rfl rfl) (∀ (b : Nat) (a : Mem), I.le a -> a b = some (.cells #[.int .i64 x.1, .int .i64 x.2.2, .int .i64 ((strB x.2.1).size : Int)] 3 (0, 0)) -> CtS Try.prog (.v (fnv 64)) [.v (.slice (some ⟨b, 0, none⟩) 3 3)] [] a fun s H c => ∃ n d, s = .rsl 0 n /\ H = [⟨.row d 1 5, none⟩] /\ (1 : Nat) = 1 /\ d.length = n * 1 /\ n + (strB x.2.1).size <= 9223372036854775807 /\ (n + (strB x.2.1).size) * 1 <= 140737488355328 /\ ∀ (e : Option Addr) (f : Nat) (g : Mem), c.le g -> RowM g e f 1 (d ++ bytesV (strB x.2.1)) -> ∃ h m i, Value.slice e (n + (strB x.2.1).size) f = .slice h m i /\ SlM g h m 1 (List.map (Value.int .u8) (ptF x)) /\ m <= i /\ i <= 9223372036854775807) (by kernel_rfl) ?_
 have hsz := strB_size x.2.1;intro b I1 l1 hbk;rw [hsz] at hbk ⊢
 rw [show bytesV (strB x.2.1) = List.map (fun b => Value.int .u8 (b.toNat : Int)) (u8s x.2.1) from rfl, u8s_ints hb]
 have f1 := forms_len [x.1, x.2.2, (x.2.1.length : Int)];simp only [List.length_cons, List.length_nil] at f1
 have e : ints .u8 (ptF x) = ints .u8 (formsL [x.1, x.2.2, (x.2.1.length : Int)]) ++ ints .u8 x.2.1 := by simp [ints, ptF]
 refine (cs64 [x.1, x.2.2, (x.2.1.length : Int)] _ 3 3 I1 (int_sl hbk rfl rfl (by omega)) (by omega)).mono fun sv H' I2 l2 ⟨h1, h2⟩ => ⟨_, _, h1, h2, rfl, by rw [ints_len]; omega, by omega, by omega, fun a cp I3 l3 hrow => ?_⟩
 rw [<- e] at hrow
 exact row_bysl hrow (by rw [<- ints_len (k := .u8) (l := ptF x), e, List.length_append, ints_len, ints_len])
theorem ct73 (x : HdT) (hr : 0 <= x.2.2.2.2 /\ x.2.2.2.2 <= 255) (I : Mem) : Ct Try.prog (fnv 73) #[.agg #[.int .i64 x.1, .int .i64 x.2.1, .int .i64 x.2.2.1, .int .i64 x.2.2.2.1, .int .u8 x.2.2.2.2]] I (fun v I' => BySl I' v (hdF x)) := by
 refine viaR (ct_via (A := { }) Try.func73 rfl Try.call73 rfl rfl) (Wr .i64 x.2.2.2.2 fun c => ∀ (b : Nat) (a : Mem), I.le a -> a b = some (.cells #[.int .i64 x.1, .int .i64 x.2.1, .int .i64 x.2.2.1, .int .i64 x.2.2.2.1, .int .i64 c] 3 (0, 0)) -> Ct Try.prog (fnv 64) #[.slice (some ⟨b, 0, none⟩) 5 5] a fun v d => ∃ e n f, v = .slice e n f /\ ∃ g m h, Value.slice e n f = .slice g m h /\ SlM d g m 1 (List.map (Value.int .u8) (hdF x)) /\ m <= h /\ h <= 9223372036854775807) (by kernel_rfl) ?_
 refine wr_i64 (by omega) (by omega) ?_
 intro b I1 l1 hb
 exact (ct64 [x.1, x.2.1, x.2.2.1, x.2.2.2.1, x.2.2.2.2] _ 5 5 I1 (int_sl hb rfl rfl (by omega)) (by omega)).mono fun v I2 l2 h => bysl_split h fun a n c h => ⟨a, n, c, rfl, by obtain ⟨_, _, _, he, h1⟩ := h; cases he; exact h1⟩
theorem fm_get {α : Type} {c : α -> List Value} {k : Nat} (hk : ∀ x, (c x).length = k) : ∀ {l : List α} {j : Nat} {x : α} {i : Nat}, l[j]? = some x -> i < k -> (l.flatMap c)[j * k + i]? = (c x)[i]?
 | y :: l, 0, x, i, h, hi => by
   simp only [List.getElem?_cons_zero, Option.some.injEq] at h;subst h
   rw [List.flatMap_cons, Nat.zero_mul, Nat.zero_add, List.getElem?_append_left (by rw [hk]; exact hi)]
 | y :: l, j + 1, x, i, h, hi => by
   have h : l[j]? = some x := by simpa using h
   rw [List.flatMap_cons, List.getElem?_append_right (by rw [hk, Nat.succ_mul]; omega), hk, <- fm_get hk h hi]
   congr 1
   rw [Nat.succ_mul]; omega
theorem lst_at {α : Type} {c : α -> List Value} {k : Nat} (hk : ∀ x, (c x).length = k) {I : Mem} {a : Option Addr} {n : Nat} {L : List α} (h : SlM I a n k (L.flatMap c)) (hn : n = L.length) {j : Int} (h0 : 0 <= j) (h1 : j < n) :
 ∃ x, L[j.toNat]? = some x /\ ∀ (i : Nat) (v : Value), i < k -> (c x)[i]? = some v -> atI I a (j.toNat * k + i) = some v := by
 have hlt : j.toNat < L.length := by omega
 refine ⟨_, List.getElem?_eq_getElem hlt, fun i v hi hv => h.at_ _ _ ?_⟩;rw [fm_get hk (List.getElem?_eq_getElem hlt) hi];exact hv
theorem fm_bound {α : Type} {F : α -> List Int} {B : Nat} : ∀ {l : List α}, (∀ x ∈ l, (F x).length <= B) -> (l.flatMap F).length <= B * l.length
 | [], _ => by simp
 | x :: l, h => by
   have h1 := h x (by simp)
   have h2 := fm_bound (l := l) fun y hy => h y (by simp [hy])
   rw [List.flatMap_cons, List.length_append, List.length_cons, Nat.mul_succ];omega
theorem fm_take {α : Type} {F : α -> List Int} {B : Nat} {l : List α} (h : ∀ x ∈ l, (F x).length <= B) (j : Nat) : ((l.take j).flatMap F).length <= B * l.length := by
 have h1 := fm_bound (l := l.take j) fun y hy => h y (List.mem_of_mem_take hy)
 have h2 : (l.take j).length <= l.length := by rw [List.length_take]; omega
 exact Nat.le_trans h1 (Nat.mul_le_mul_left _ h2)
set_option maxHeartbeats 1000000 in
theorem ct62 (tag : Int) (L : List Int) (hX : ∀ x ∈ L, True) (hF : ∀ x ∈ L, (numF x).length <= 2000) (a : Option Addr) (n c : Nat) (I : Mem) (h : SlM I a n 1 (L.flatMap cI)) (hn : n = L.length) (hn2 : n <= 10000) :
 Ct Try.prog (fnv 62) #[.int .i64 tag, .slice a n c, fnv 63] I (fun v I' => ∃ y, v = .agg #[.int .i64 tag, y] /\ BySl I' y (L.flatMap numF)) := by
 obtain ⟨F, hFe⟩ : ∃ F, F = numF := ⟨_, rfl⟩;rw [<- hFe] at hF ⊢
 refine viaR (ct_via (A := { loops := [(3, ⟨[(2, .keep), (6, .keep), (7, .keep), (12, .keep), (13, .keep), (14, .sh (.int .i64))], [(0, .keep), (1, .cells [.keep, .row 2]), (2, .row)], [(7, 1001, 5)], fun vals xss _ _ => match vals, xss with | [.int .i64 j], [xs] => 0 <= j /\ j <= n /\ xs = ints .u8 ((L.take j.toNat).flatMap F) | _, _ => False, fun vals _ => match vals with | [.int .i64 j] => (n - j).toNat | _ => 0⟩)] }) Try.func62 rfl Try.call62 rfl rfl) ((Rf (Ent.mk (.cells [.v (.int .i64 0), .v (.slice none 0 0)] 77) none) /\ Rf (SV.v (fnv 63)) /\ Rf (SV.ptr 0 0) /\ Rf (SV.ptr 1 0) /\ Rf (SV.v (.slice a n c)) /\ Rf (SV.v (.int .i64 (n : Int))) /\ Rf (none : Option Nat) /\ Rf (SV.v (.int .i64 tag)) /\ (0 : Nat) = 0 /\ (0 : Int) <= 0 /\ 0 <= (n : Int) /\ Rf ([] : List Value)) /\ ∀ (b : Mem), Mem -> I.le b -> ∀ (x : List Value) (d : Int), 0 <= d /\ d <= (n : Int) /\ x = List.map (Value.int .u8) (List.flatMap F (List.take d.toNat L)) -> Br (decide (d < (n : Int))) (0 <= d /\ d < (n : Int) /\ a.isSome = true /\ ∃ e, atI b a (d.toNat * 1 + 0) = some (.int .i64 e) /\ Ct Try.prog (fnv 63) #[.int .i64 e] b fun v f => ∃ g i j, v = .slice g i j /\ ∃ y, y.length = i * 1 /\ (g = none -> i = 0) /\ (∀ (k : Nat) (l : Value), y[k]? = some l -> atI f g k = some l) /\ (∀ (k : Value), Membership.mem y k -> k.oneCell' = true) /\ x.length = x.length * 1 /\ x.length + i <= 9223372036854775807 /\ (x.length + i) * 1 <= 140737488355328 /\ Wr .i64 (d + 1) fun k => Rf (Ent.mk (.cells [.v (.int .i64 0), .v (.slice none 0 0)] 77) none) /\ Rf (SV.v (fnv 63)) /\ Rf (SV.ptr 0 0) /\ Rf (SV.ptr 1 0) /\ Rf (SV.v (.slice a n c)) /\ Rf (SV.v (.int .i64 (n : Int))) /\ Rf (none : Option Nat) /\ Rf (SV.v (.int .i64 tag)) /\ x.length + i = List.length (x ++ y) /\ (0 <= k /\ k <= (n : Int) /\ x ++ y = List.map (Value.int .u8) (List.flatMap F (List.take k.toNat L))) /\ Int.toNat ((n : Int) - k) < Int.toNat ((n : Int) - d)) (∀ (e : Option Addr) (f : Nat) (g : Mem), b.le g -> RowM g e f 1 x -> ∃ y, Value.agg #[.int .i64 tag, .slice e x.length f] = .agg #[.int .i64 tag, y] /\ ∃ i m j, y = .slice i m j /\ SlM g i m 1 (List.map (Value.int .u8) (List.flatMap F L)) /\ m <= j /\ j <= 9223372036854775807)) (by kernel_rfl) ?_
 simp only [eq_self, true_and, and_true]
 refine ⟨⟨by omega, by omega⟩, fun I1 _ l1 xs j ⟨j0, j1, hx⟩ => Br.mk (fun hlt => ?_) (fun hge => ?_)⟩
 · have hlt := of_decide_eq_true hlt
   obtain ⟨x, hxj, g⟩ := lst_at (c := cI) (k := 1) (fun _ => rfl) (h.mono l1) hn j0 hlt;have hxm := hX x (List.mem_of_getElem? hxj);have hxf := hF x (List.mem_of_getElem? hxj);have hbd := fm_take hF j.toNat
   have hxl : xs.length <= 20000000 := by rw [hx]; simp only [List.length_map]; omega
   refine ⟨j0, hlt, h.isSome (by omega), _, g 0 _ (by omega) rfl, ?_⟩
   all_goals
    refine (ct63 x  I1).mono fun v I2 l2 ⟨a2, n2, c2, hv, hs2, _, _⟩ => ?_;rw [<- hFe] at hs2;have hl2 := hs2.numLen
    refine ⟨a2, n2, c2, hv, ints .u8 (F x), hs2.len, hs2.nil, hs2.at_, one_ints, by omega, by omega, by omega, wr_i64 (by omega) (by omega) ⟨by rw [List.length_append, ints_len]; omega, ⟨by omega, by omega, ?_⟩, by omega⟩⟩
    rw [show (j + 1).toNat = j.toNat + 1 by omega, take_succ' hxj, List.flatMap_append, hx]
    simp [ints]
 · have hge := of_decide_eq_false hge
   rw [List.take_of_length_le (by omega)] at hx
   subst hx
   exact fun a' cp I2 l2 hrow => ⟨_, rfl, row_bysl hrow (by rw [List.length_map])⟩
set_option maxHeartbeats 1000000 in
theorem ct65 (tag : Int) (L : List Int) (hX : ∀ x ∈ L, i64R x) (hF : ∀ x ∈ L, (celF x).length <= 2000) (a : Option Addr) (n c : Nat) (I : Mem) (h : SlM I a n 1 (L.flatMap cI)) (hn : n = L.length) (hn2 : n <= 10000) :
 Ct Try.prog (fnv 65) #[.int .i64 tag, .slice a n c, fnv 66] I (fun v I' => ∃ y, v = .agg #[.int .i64 tag, y] /\ BySl I' y (L.flatMap celF)) := by
 obtain ⟨F, hFe⟩ : ∃ F, F = celF := ⟨_, rfl⟩;rw [<- hFe] at hF ⊢
 refine viaR (ct_via (A := { loops := [(3, ⟨[(2, .keep), (6, .keep), (7, .keep), (12, .keep), (13, .keep), (14, .sh (.int .i64))], [(0, .keep), (1, .cells [.keep, .row 2]), (2, .row)], [(7, 1001, 5)], fun vals xss _ _ => match vals, xss with | [.int .i64 j], [xs] => 0 <= j /\ j <= n /\ xs = ints .u8 ((L.take j.toNat).flatMap F) | _, _ => False, fun vals _ => match vals with | [.int .i64 j] => (n - j).toNat | _ => 0⟩)] }) Try.func65 rfl Try.call65 rfl rfl) ((Rf (Ent.mk (.cells [.v (.int .i64 0), .v (.slice none 0 0)] 77) none) /\ Rf (SV.v (fnv 66)) /\ Rf (SV.ptr 0 0) /\ Rf (SV.ptr 1 0) /\ Rf (SV.v (.slice a n c)) /\ Rf (SV.v (.int .i64 (n : Int))) /\ Rf (none : Option Nat) /\ Rf (SV.v (.int .i64 tag)) /\ (0 : Nat) = 0 /\ (0 : Int) <= 0 /\ 0 <= (n : Int) /\ Rf ([] : List Value)) /\ ∀ (b : Mem), Mem -> I.le b -> ∀ (x : List Value) (d : Int), 0 <= d /\ d <= (n : Int) /\ x = List.map (Value.int .u8) (List.flatMap F (List.take d.toNat L)) -> Br (decide (d < (n : Int))) (0 <= d /\ d < (n : Int) /\ a.isSome = true /\ ∃ e, atI b a (d.toNat * 1 + 0) = some (.int .i64 e) /\ Ct Try.prog (fnv 66) #[.int .i64 e] b fun v f => ∃ g i j, v = .slice g i j /\ ∃ y, y.length = i * 1 /\ (g = none -> i = 0) /\ (∀ (k : Nat) (l : Value), y[k]? = some l -> atI f g k = some l) /\ (∀ (k : Value), Membership.mem y k -> k.oneCell' = true) /\ x.length = x.length * 1 /\ x.length + i <= 9223372036854775807 /\ (x.length + i) * 1 <= 140737488355328 /\ Wr .i64 (d + 1) fun k => Rf (Ent.mk (.cells [.v (.int .i64 0), .v (.slice none 0 0)] 77) none) /\ Rf (SV.v (fnv 66)) /\ Rf (SV.ptr 0 0) /\ Rf (SV.ptr 1 0) /\ Rf (SV.v (.slice a n c)) /\ Rf (SV.v (.int .i64 (n : Int))) /\ Rf (none : Option Nat) /\ Rf (SV.v (.int .i64 tag)) /\ x.length + i = List.length (x ++ y) /\ (0 <= k /\ k <= (n : Int) /\ x ++ y = List.map (Value.int .u8) (List.flatMap F (List.take k.toNat L))) /\ Int.toNat ((n : Int) - k) < Int.toNat ((n : Int) - d)) (∀ (e : Option Addr) (f : Nat) (g : Mem), b.le g -> RowM g e f 1 x -> ∃ y, Value.agg #[.int .i64 tag, .slice e x.length f] = .agg #[.int .i64 tag, y] /\ ∃ i m j, y = .slice i m j /\ SlM g i m 1 (List.map (Value.int .u8) (List.flatMap F L)) /\ m <= j /\ j <= 9223372036854775807)) (by kernel_rfl) ?_
 simp only [eq_self, true_and, and_true]
 refine ⟨⟨by omega, by omega⟩, fun I1 _ l1 xs j ⟨j0, j1, hx⟩ => Br.mk (fun hlt => ?_) (fun hge => ?_)⟩
 · have hlt := of_decide_eq_true hlt
   obtain ⟨x, hxj, g⟩ := lst_at (c := cI) (k := 1) (fun _ => rfl) (h.mono l1) hn j0 hlt;have hxm := hX x (List.mem_of_getElem? hxj);have hxf := hF x (List.mem_of_getElem? hxj);have hbd := fm_take hF j.toNat
   have hxl : xs.length <= 20000000 := by rw [hx]; simp only [List.length_map]; omega
   refine ⟨j0, hlt, h.isSome (by omega), _, g 0 _ (by omega) rfl, ?_⟩
   all_goals
    refine (ct66 x hxm I1).mono fun v I2 l2 ⟨a2, n2, c2, hv, hs2, _, _⟩ => ?_;rw [<- hFe] at hs2;have hl2 := hs2.numLen
    refine ⟨a2, n2, c2, hv, ints .u8 (F x), hs2.len, hs2.nil, hs2.at_, one_ints, by omega, by omega, by omega, wr_i64 (by omega) (by omega) ⟨by rw [List.length_append, ints_len]; omega, ⟨by omega, by omega, ?_⟩, by omega⟩⟩
    rw [show (j + 1).toNat = j.toNat + 1 by omega, take_succ' hxj, List.flatMap_append, hx]
    simp [ints]
 · have hge := of_decide_eq_false hge
   rw [List.take_of_length_le (by omega)] at hx
   subst hx
   exact fun a' cp I2 l2 hrow => ⟨_, rfl, row_bysl hrow (by rw [List.length_map])⟩
set_option maxHeartbeats 1000000 in
theorem ct68 (tag : Int) (L : List EvT) (hX : ∀ x ∈ L, i64R x.2.2) (hF : ∀ x ∈ L, (evF x).length <= 2000) (a : Option Addr) (n c : Nat) (I : Mem) (h : SlM I a n 5 (L.flatMap cE)) (hn : n = L.length) (hn2 : n <= 10000) :
 Ct Try.prog (fnv 68) #[.int .i64 tag, .slice a n c, fnv 69] I (fun v I' => ∃ y, v = .agg #[.int .i64 tag, y] /\ BySl I' y (L.flatMap evF)) := by
 obtain ⟨F, hFe⟩ : ∃ F, F = evF := ⟨_, rfl⟩;rw [<- hFe] at hF ⊢
 refine viaR (ct_via (A := { loops := [(3, ⟨[(2, .keep), (6, .keep), (7, .keep), (12, .keep), (13, .keep), (14, .sh (.int .i64))], [(0, .keep), (1, .cells [.keep, .row 2]), (2, .row)], [(7, 1001, 5)], fun vals xss _ _ => match vals, xss with | [.int .i64 j], [xs] => 0 <= j /\ j <= n /\ xs = ints .u8 ((L.take j.toNat).flatMap F) | _, _ => False, fun vals _ => match vals with | [.int .i64 j] => (n - j).toNat | _ => 0⟩)] }) Try.func68 rfl Try.call68 rfl rfl) ((Rf (Ent.mk (.cells [.v (.int .i64 0), .v (.slice none 0 0)] 77) none) /\ Rf (SV.v (fnv 69)) /\ Rf (SV.ptr 0 0) /\ Rf (SV.ptr 1 0) /\ Rf (SV.v (.slice a n c)) /\ Rf (SV.v (.int .i64 (n : Int))) /\ Rf (none : Option Nat) /\ Rf (SV.v (.int .i64 tag)) /\ (0 : Nat) = 0 /\ (0 : Int) <= 0 /\ 0 <= (n : Int) /\ Rf ([] : List Value)) /\ ∀ (b : Mem), Mem -> I.le b -> ∀ (x : List Value) (d : Int), 0 <= d /\ d <= (n : Int) /\ x = List.map (Value.int .u8) (List.flatMap F (List.take d.toNat L)) -> Br (decide (d < (n : Int))) (0 <= d /\ d < (n : Int) /\ a.isSome = true /\ (5 : Nat) = 5 /\ ∃ e, atI b a (d.toNat * 5 + 0) = some (.int .i64 e) /\ ∃ f, atI b a (d.toNat * 5 + 1) = some (.int .i64 f) /\ ∃ g, atI b a (d.toNat * 5 + 2) = some (.int .i64 g) /\ ∃ i, atI b a (d.toNat * 5 + 3) = some (.int .i64 i) /\ ∃ j, atI b a (d.toNat * 5 + 4) = some (.int .i64 j) /\ Ct Try.prog (fnv 69) #[.agg #[.int .i64 e, .int .i64 f, .int .i64 g, .int .i64 i, .int .i64 j]] b fun v k => ∃ l m o, v = .slice l m o /\ ∃ y, y.length = m * 1 /\ (l = none -> m = 0) /\ (∀ (p : Nat) (q : Value), y[p]? = some q -> atI k l p = some q) /\ (∀ (p : Value), Membership.mem y p -> p.oneCell' = true) /\ x.length = x.length * 1 /\ x.length + m <= 9223372036854775807 /\ (x.length + m) * 1 <= 140737488355328 /\ Wr .i64 (d + 1) fun p => Rf (Ent.mk (.cells [.v (.int .i64 0), .v (.slice none 0 0)] 77) none) /\ Rf (SV.v (fnv 69)) /\ Rf (SV.ptr 0 0) /\ Rf (SV.ptr 1 0) /\ Rf (SV.v (.slice a n c)) /\ Rf (SV.v (.int .i64 (n : Int))) /\ Rf (none : Option Nat) /\ Rf (SV.v (.int .i64 tag)) /\ x.length + m = List.length (x ++ y) /\ (0 <= p /\ p <= (n : Int) /\ x ++ y = List.map (Value.int .u8) (List.flatMap F (List.take p.toNat L))) /\ Int.toNat ((n : Int) - p) < Int.toNat ((n : Int) - d)) (∀ (e : Option Addr) (f : Nat) (g : Mem), b.le g -> RowM g e f 1 x -> ∃ y, Value.agg #[.int .i64 tag, .slice e x.length f] = .agg #[.int .i64 tag, y] /\ ∃ i m j, y = .slice i m j /\ SlM g i m 1 (List.map (Value.int .u8) (List.flatMap F L)) /\ m <= j /\ j <= 9223372036854775807)) (by kernel_rfl) ?_
 simp only [eq_self, true_and, and_true]
 refine ⟨⟨by omega, by omega⟩, fun I1 _ l1 xs j ⟨j0, j1, hx⟩ => Br.mk (fun hlt => ?_) (fun hge => ?_)⟩
 · have hlt := of_decide_eq_true hlt
   obtain ⟨x, hxj, g⟩ := lst_at (c := cE) (k := 5) (fun _ => rfl) (h.mono l1) hn j0 hlt;have hxm := hX x (List.mem_of_getElem? hxj);have hxf := hF x (List.mem_of_getElem? hxj);have hbd := fm_take hF j.toNat
   have hxl : xs.length <= 20000000 := by rw [hx]; simp only [List.length_map]; omega
   refine ⟨j0, hlt, h.isSome (by omega), _, g 0 _ (by omega) rfl, _, g 1 _ (by omega) rfl, _, g 2 _ (by omega) rfl, _, g 3 _ (by omega) rfl, _, g 4 _ (by omega) rfl, ?_⟩
   all_goals
    refine (ct69 x hxm I1).mono fun v I2 l2 ⟨a2, n2, c2, hv, hs2, _, _⟩ => ?_;rw [<- hFe] at hs2;have hl2 := hs2.numLen
    refine ⟨a2, n2, c2, hv, ints .u8 (F x), hs2.len, hs2.nil, hs2.at_, one_ints, by omega, by omega, by omega, wr_i64 (by omega) (by omega) ⟨by rw [List.length_append, ints_len]; omega, ⟨by omega, by omega, ?_⟩, by omega⟩⟩
    rw [show (j + 1).toNat = j.toNat + 1 by omega, take_succ' hxj, List.flatMap_append, hx]
    simp [ints]
 · have hge := of_decide_eq_false hge
   rw [List.take_of_length_le (by omega)] at hx
   subst hx
   exact fun a' cp I2 l2 hrow => ⟨_, rfl, row_bysl hrow (by rw [List.length_map])⟩
set_option maxHeartbeats 1000000 in
theorem ct70 (tag : Int) (L : List PtT) (hX : ∀ x ∈ L, x.2.1.length <= 1000 /\ byteL x.2.1) (hF : ∀ x ∈ L, (ptF x).length <= 2000) (a : Option Addr) (n c : Nat) (I : Mem) (h : SlM I a n 3 (L.flatMap cP)) (hn : n = L.length) (hn2 : n <= 10000) :
 Ct Try.prog (fnv 70) #[.int .i64 tag, .slice a n c, fnv 71] I (fun v I' => ∃ y, v = .agg #[.int .i64 tag, y] /\ BySl I' y (L.flatMap ptF)) := by
 obtain ⟨F, hFe⟩ : ∃ F, F = ptF := ⟨_, rfl⟩;rw [<- hFe] at hF ⊢
 refine viaR (ct_via (A := { loops := [(3, ⟨[(2, .keep), (6, .keep), (7, .keep), (12, .keep), (13, .keep), (14, .sh (.int .i64))], [(0, .keep), (1, .cells [.keep, .row 2]), (2, .row)], [(7, 1001, 5)], fun vals xss _ _ => match vals, xss with | [.int .i64 j], [xs] => 0 <= j /\ j <= n /\ xs = ints .u8 ((L.take j.toNat).flatMap F) | _, _ => False, fun vals _ => match vals with | [.int .i64 j] => (n - j).toNat | _ => 0⟩)] }) Try.func70 rfl Try.call70 rfl rfl) ((Rf (Ent.mk (.cells [.v (.int .i64 0), .v (.slice none 0 0)] 77) none) /\ Rf (SV.v (fnv 71)) /\ Rf (SV.ptr 0 0) /\ Rf (SV.ptr 1 0) /\ Rf (SV.v (.slice a n c)) /\ Rf (SV.v (.int .i64 (n : Int))) /\ Rf (none : Option Nat) /\ Rf (SV.v (.int .i64 tag)) /\ (0 : Nat) = 0 /\ (0 : Int) <= 0 /\ 0 <= (n : Int) /\ Rf ([] : List Value)) /\ ∀ (b : Mem), Mem -> I.le b -> ∀ (x : List Value) (d : Int), 0 <= d /\ d <= (n : Int) /\ x = List.map (Value.int .u8) (List.flatMap F (List.take d.toNat L)) -> Br (decide (d < (n : Int))) (0 <= d /\ d < (n : Int) /\ a.isSome = true /\ (3 : Nat) = 3 /\ ∃ e, atI b a (d.toNat * 3 + 0) = some (.int .i64 e) /\ ∃ q, atI b a (d.toNat * 3 + 1) = some (.string q) /\ ∃ f, atI b a (d.toNat * 3 + 2) = some (.int .i64 f) /\ Ct Try.prog (fnv 71) #[.agg #[.int .i64 e, .string q, .int .i64 f]] b fun v g => ∃ i j k, v = .slice i j k /\ ∃ y, y.length = j * 1 /\ (i = none -> j = 0) /\ (∀ (l : Nat) (m : Value), y[l]? = some m -> atI g i l = some m) /\ (∀ (l : Value), Membership.mem y l -> l.oneCell' = true) /\ x.length = x.length * 1 /\ x.length + j <= 9223372036854775807 /\ (x.length + j) * 1 <= 140737488355328 /\ Wr .i64 (d + 1) fun l => Rf (Ent.mk (.cells [.v (.int .i64 0), .v (.slice none 0 0)] 77) none) /\ Rf (SV.v (fnv 71)) /\ Rf (SV.ptr 0 0) /\ Rf (SV.ptr 1 0) /\ Rf (SV.v (.slice a n c)) /\ Rf (SV.v (.int .i64 (n : Int))) /\ Rf (none : Option Nat) /\ Rf (SV.v (.int .i64 tag)) /\ x.length + j = List.length (x ++ y) /\ (0 <= l /\ l <= (n : Int) /\ x ++ y = List.map (Value.int .u8) (List.flatMap F (List.take l.toNat L))) /\ Int.toNat ((n : Int) - l) < Int.toNat ((n : Int) - d)) (∀ (e : Option Addr) (f : Nat) (g : Mem), b.le g -> RowM g e f 1 x -> ∃ y, Value.agg #[.int .i64 tag, .slice e x.length f] = .agg #[.int .i64 tag, y] /\ ∃ i m j, y = .slice i m j /\ SlM g i m 1 (List.map (Value.int .u8) (List.flatMap F L)) /\ m <= j /\ j <= 9223372036854775807)) (by kernel_rfl) ?_
 simp only [eq_self, true_and, and_true]
 refine ⟨⟨by omega, by omega⟩, fun I1 _ l1 xs j ⟨j0, j1, hx⟩ => Br.mk (fun hlt => ?_) (fun hge => ?_)⟩
 · have hlt := of_decide_eq_true hlt
   obtain ⟨x, hxj, g⟩ := lst_at (c := cP) (k := 3) (fun _ => rfl) (h.mono l1) hn j0 hlt;have hxm := hX x (List.mem_of_getElem? hxj);have hxf := hF x (List.mem_of_getElem? hxj);have hbd := fm_take hF j.toNat
   have hxl : xs.length <= 20000000 := by rw [hx]; simp only [List.length_map]; omega
   refine ⟨j0, hlt, h.isSome (by omega), _, g 0 _ (by omega) rfl, _, g 1 _ (by omega) rfl, _, g 2 _ (by omega) rfl, ?_⟩
   all_goals
    refine (ct71 x hxm.1 hxm.2 I1).mono fun v I2 l2 ⟨a2, n2, c2, hv, hs2, _, _⟩ => ?_;rw [<- hFe] at hs2;have hl2 := hs2.numLen
    refine ⟨a2, n2, c2, hv, ints .u8 (F x), hs2.len, hs2.nil, hs2.at_, one_ints, by omega, by omega, by omega, wr_i64 (by omega) (by omega) ⟨by rw [List.length_append, ints_len]; omega, ⟨by omega, by omega, ?_⟩, by omega⟩⟩
    rw [show (j + 1).toNat = j.toNat + 1 by omega, take_succ' hxj, List.flatMap_append, hx]
    simp [ints]
 · have hge := of_decide_eq_false hge
   rw [List.take_of_length_le (by omega)] at hx
   subst hx
   exact fun a' cp I2 l2 hrow => ⟨_, rfl, row_bysl hrow (by rw [List.length_map])⟩
set_option maxHeartbeats 1000000 in
theorem ct72 (tag : Int) (L : List HdT) (hX : ∀ x ∈ L, 0 <= x.2.2.2.2 /\ x.2.2.2.2 <= 255) (hF : ∀ x ∈ L, (hdF x).length <= 2000) (a : Option Addr) (n c : Nat) (I : Mem) (h : SlM I a n 5 (L.flatMap cH)) (hn : n = L.length) (hn2 : n <= 10000) :
 Ct Try.prog (fnv 72) #[.int .i64 tag, .slice a n c, fnv 73] I (fun v I' => ∃ y, v = .agg #[.int .i64 tag, y] /\ BySl I' y (L.flatMap hdF)) := by
 obtain ⟨F, hFe⟩ : ∃ F, F = hdF := ⟨_, rfl⟩;rw [<- hFe] at hF ⊢
 refine viaR (ct_via (A := { loops := [(3, ⟨[(2, .keep), (6, .keep), (7, .keep), (12, .keep), (13, .keep), (14, .sh (.int .i64))], [(0, .keep), (1, .cells [.keep, .row 2]), (2, .row)], [(7, 1001, 5)], fun vals xss _ _ => match vals, xss with | [.int .i64 j], [xs] => 0 <= j /\ j <= n /\ xs = ints .u8 ((L.take j.toNat).flatMap F) | _, _ => False, fun vals _ => match vals with | [.int .i64 j] => (n - j).toNat | _ => 0⟩)] }) Try.func72 rfl Try.call72 rfl rfl) ((Rf (Ent.mk (.cells [.v (.int .i64 0), .v (.slice none 0 0)] 77) none) /\ Rf (SV.v (fnv 73)) /\ Rf (SV.ptr 0 0) /\ Rf (SV.ptr 1 0) /\ Rf (SV.v (.slice a n c)) /\ Rf (SV.v (.int .i64 (n : Int))) /\ Rf (none : Option Nat) /\ Rf (SV.v (.int .i64 tag)) /\ (0 : Nat) = 0 /\ (0 : Int) <= 0 /\ 0 <= (n : Int) /\ Rf ([] : List Value)) /\ ∀ (b : Mem), Mem -> I.le b -> ∀ (x : List Value) (d : Int), 0 <= d /\ d <= (n : Int) /\ x = List.map (Value.int .u8) (List.flatMap F (List.take d.toNat L)) -> Br (decide (d < (n : Int))) (0 <= d /\ d < (n : Int) /\ a.isSome = true /\ (5 : Nat) = 5 /\ ∃ e, atI b a (d.toNat * 5 + 0) = some (.int .i64 e) /\ ∃ f, atI b a (d.toNat * 5 + 1) = some (.int .i64 f) /\ ∃ g, atI b a (d.toNat * 5 + 2) = some (.int .i64 g) /\ ∃ i, atI b a (d.toNat * 5 + 3) = some (.int .i64 i) /\ ∃ j, atI b a (d.toNat * 5 + 4) = some (.int .u8 j) /\ Ct Try.prog (fnv 73) #[.agg #[.int .i64 e, .int .i64 f, .int .i64 g, .int .i64 i, .int .u8 j]] b fun v k => ∃ l m o, v = .slice l m o /\ ∃ y, y.length = m * 1 /\ (l = none -> m = 0) /\ (∀ (p : Nat) (q : Value), y[p]? = some q -> atI k l p = some q) /\ (∀ (p : Value), Membership.mem y p -> p.oneCell' = true) /\ x.length = x.length * 1 /\ x.length + m <= 9223372036854775807 /\ (x.length + m) * 1 <= 140737488355328 /\ Wr .i64 (d + 1) fun p => Rf (Ent.mk (.cells [.v (.int .i64 0), .v (.slice none 0 0)] 77) none) /\ Rf (SV.v (fnv 73)) /\ Rf (SV.ptr 0 0) /\ Rf (SV.ptr 1 0) /\ Rf (SV.v (.slice a n c)) /\ Rf (SV.v (.int .i64 (n : Int))) /\ Rf (none : Option Nat) /\ Rf (SV.v (.int .i64 tag)) /\ x.length + m = List.length (x ++ y) /\ (0 <= p /\ p <= (n : Int) /\ x ++ y = List.map (Value.int .u8) (List.flatMap F (List.take p.toNat L))) /\ Int.toNat ((n : Int) - p) < Int.toNat ((n : Int) - d)) (∀ (e : Option Addr) (f : Nat) (g : Mem), b.le g -> RowM g e f 1 x -> ∃ y, Value.agg #[.int .i64 tag, .slice e x.length f] = .agg #[.int .i64 tag, y] /\ ∃ i m j, y = .slice i m j /\ SlM g i m 1 (List.map (Value.int .u8) (List.flatMap F L)) /\ m <= j /\ j <= 9223372036854775807)) (by kernel_rfl) ?_
 simp only [eq_self, true_and, and_true]
 refine ⟨⟨by omega, by omega⟩, fun I1 _ l1 xs j ⟨j0, j1, hx⟩ => Br.mk (fun hlt => ?_) (fun hge => ?_)⟩
 · have hlt := of_decide_eq_true hlt
   obtain ⟨x, hxj, g⟩ := lst_at (c := cH) (k := 5) (fun _ => rfl) (h.mono l1) hn j0 hlt;have hxm := hX x (List.mem_of_getElem? hxj);have hxf := hF x (List.mem_of_getElem? hxj);have hbd := fm_take hF j.toNat
   have hxl : xs.length <= 20000000 := by rw [hx]; simp only [List.length_map]; omega
   refine ⟨j0, hlt, h.isSome (by omega), _, g 0 _ (by omega) rfl, _, g 1 _ (by omega) rfl, _, g 2 _ (by omega) rfl, _, g 3 _ (by omega) rfl, _, g 4 _ (by omega) rfl, ?_⟩
   all_goals
    refine (ct73 x hxm I1).mono fun v I2 l2 ⟨a2, n2, c2, hv, hs2, _, _⟩ => ?_;rw [<- hFe] at hs2;have hl2 := hs2.numLen
    refine ⟨a2, n2, c2, hv, ints .u8 (F x), hs2.len, hs2.nil, hs2.at_, one_ints, by omega, by omega, by omega, wr_i64 (by omega) (by omega) ⟨by rw [List.length_append, ints_len]; omega, ⟨by omega, by omega, ?_⟩, by omega⟩⟩
    rw [show (j + 1).toNat = j.toNat + 1 by omega, take_succ' hxj, List.flatMap_append, hx]
    simp [ints]
 · have hge := of_decide_eq_false hge
   rw [List.take_of_length_le (by omega)] at hx
   subst hx
   exact fun a' cp I2 l2 hrow => ⟨_, rfl, row_bysl hrow (by rw [List.length_map])⟩
structure okRs (r : Rs) : Prop where
 num : i64R r.num
 code : i64R r.code
 ser : i64R r.ser
 port : i64R r.port
 time : i64R r.time
 kind : 0 <= r.kind /\ r.kind <= 255
 key : i64R r.key.1 /\ i64R r.key.2.1 /\ i64R r.key.2.2
 counts : ∀ x ∈ r.counts, i64R x
 cells : ∀ x ∈ r.cells, i64R x
 events : ∀ x ∈ r.events, (i64R x.1.1 /\ i64R x.1.2.1 /\ i64R x.1.2.2) /\ i64R x.2.1 /\ i64R x.2.2
 ports : ∀ x ∈ r.ports, i64R x.1 /\ byteL x.2.1 /\ i64R x.2.2
 handles : ∀ x ∈ r.handles, (i64R x.1 /\ i64R x.2.1 /\ i64R x.2.2.1 /\ i64R x.2.2.2.1) /\ 0 <= x.2.2.2.2 /\ x.2.2.2.2 <= 255
structure smallR (r : Rs) : Prop where
 counts : r.counts.length <= 10000
 cells : r.cells.length <= 10000
 events : r.events.length <= 10000
 ports : r.ports.length <= 10000
 handles : r.handles.length <= 10000
 names : ∀ x ∈ r.ports, x.2.1.length <= 1000
def fN (t x : Int) : Int × List Int := (t, formN (IntKind.u64.wrap x).toNat)
def numsL (r : Rs) : List (Int × Int) := [(2, r.kind), (3, r.code), (4, r.ser), (5, r.port), (6, r.time)]
def fl1 (r : Rs) (j : Nat) : List (Int × List Int) := fN 1 r.num :: (((numsL r).take j).filter fun p => decide (p.2 ≠ 0)).map fun p => fN p.1 p.2
def moreF (r : Rs) : List (Int × List Int) := if r.more then [(7, [])] else []
def keyF (r : Rs) : List (Int × List Int) := if r.key = (0, 0, 0) then [] else [(8, formsL [r.key.1, r.key.2.1, r.key.2.2])]
def listsL (r : Rs) : List (Int × List Int) := [(9, r.counts.flatMap numF), (10, r.cells.flatMap celF), (11, r.events.flatMap evF), (12, r.ports.flatMap ptF), (13, r.handles.flatMap hdF)]
def fl2 (r : Rs) (j : Nat) : List (Int × List Int) := fl1 r 5 ++ moreF r ++ keyF r ++ ((listsL r).take j).filter fun p => decide (p.2 ≠ [])
def fieldsS (r : Rs) : List (Int × List Int) := fl2 r 5
theorem numF_len (x : Int) : (numF x).length <= 9 := by have := forms_len [x]; simpa [numF] using this
theorem celF_len {x : Int} (h : i64R x) : (celF x).length <= 9 := by
 have := foldZ_range h
 exact (formN_le _ (by omega)).1
theorem evF_len {x : EvT} (h : i64R x.2.2) : (evF x).length <= 45 := by
 have h1 := forms_len [x.1.1, x.1.2.1, x.1.2.2];have h2 := forms_len [x.2.1];have h3 := celF_len h;simp only [List.length_cons, List.length_nil] at h1 h2;unfold celF at h3
 rw [evF, List.length_append, List.length_append]; omega
theorem ptF_len (x : PtT) : (ptF x).length <= 27 + x.2.1.length := by
 have h1 := forms_len [x.1, x.2.2, (x.2.1.length : Int)];simp only [List.length_cons, List.length_nil] at h1
 rw [ptF, List.length_append]; omega
theorem hdF_len (x : HdT) : (hdF x).length <= 45 := by
 have h1 := forms_len [x.1, x.2.1, x.2.2.1, x.2.2.2.1, x.2.2.2.2];simp only [List.length_cons, List.length_nil] at h1;exact h1
theorem forms_bytes (l : List Int) : byteL (formsL l) := by
 intro z hz;rw [formsL, List.mem_flatMap] at hz;obtain ⟨x, _, hx⟩ := hz;have := w64_range x
 exact formN_bytes (by omega) z hx
theorem fm_bytes {α : Type} {F : α -> List Int} {l : List α} (h : ∀ x ∈ l, byteL (F x)) : byteL (l.flatMap F) := by
 intro z hz;rw [List.mem_flatMap] at hz;obtain ⟨x, hx, hzx⟩ := hz;exact h x hx z hzx
theorem byteL_app {a b : List Int} (ha : byteL a) (hb : byteL b) : byteL (a ++ b) := fun z hz => by
 rcases List.mem_append.1 hz with h | h
 · exact ha z h
 · exact hb z h
theorem celF_bytes {x : Int} (h : i64R x) : byteL (celF x) := by
 have := foldZ_range h
 exact formN_bytes (by omega)
theorem fN_ok {t x : Int} (ht : 0 <= t /\ t <= 1000) : okFld (fN t x) := by
 have := w64_range x
 exact ⟨by simp only [fN]; omega, formN_bytes (by omega)⟩
theorem lists_ok {r : Rs} (hr : okRs r) : ∀ p ∈ listsL r, okFld p := by
 intro p hp;simp only [listsL, List.mem_cons, List.not_mem_nil, or_false] at hp
 rcases hp with rfl | rfl | rfl | rfl | rfl
 · exact ⟨by simp, fm_bytes fun x _ => forms_bytes _⟩
 · exact ⟨by simp, fm_bytes fun x hx => celF_bytes (hr.cells x hx)⟩
 · exact ⟨by simp, fm_bytes fun x hx => byteL_app (byteL_app (forms_bytes _) (forms_bytes _)) (celF_bytes (hr.events x hx).2.2)⟩
 · exact ⟨by simp, fm_bytes fun x hx => byteL_app (forms_bytes _) (hr.ports x hx).2.1⟩
 · exact ⟨by simp, fm_bytes fun x _ => forms_bytes _⟩
def ArrM (I : Mem) (p : Option Addr) (L : Nat -> List Int) : Prop := ∃ k y1 y2 y3 y4 y5, p = some ⟨k, 0, none⟩ /\ I k = some (.cells #[.int .i64 9, y1, .int .i64 10, y2, .int .i64 11, y3, .int .i64 12, y4, .int .i64 13, y5] 146) /\ BySl I y1 (L 0) /\ BySl I y2 (L 1) /\ BySl I y3 (L 2) /\ BySl I y4 (L 3) /\ BySl I y5 (L 4)
def bytesL (r : Rs) (i : Nat) : List Int := ((listsL r)[i]?.map (·.2)).getD []
def numS (r : Rs) (i : Nat) : Int := ((numsL r)[i]?.map (·.2)).getD 0
theorem fr_snoc {I J : Mem} {xs : List Value} {l : List (Int × List Int)} {t : Int} {y : Value} {bs : List Int} (h : FR I xs l) (hle : I.le J) (hok : okFld (t, bs)) (hy : BySl J y bs) : FR J (xs ++ [.int .i64 t, y]) (l ++ [(t, bs)]) := FR.snoc (f := (t, bs)) (h.mono hle) ⟨hok, rfl, hy⟩
theorem fl1_step {r : Rs} {j : Nat} (hj : j < 5) : fl1 r (j + 1) = fl1 r j ++ if numS r j = 0 then [] else [fN (2 + j) (numS r j)] := by
 have h : (numsL r)[j]? = some ((2 + j : Int), numS r j) := by
  rcases (by omega : j = 0 \/ j = 1 \/ j = 2 \/ j = 3 \/ j = 4) with rfl | rfl | rfl | rfl | rfl <;> rfl
 rw [fl1, fl1, take_succ' h, List.filter_append, List.map_append, List.cons_append]
 congr 2
 by_cases hz : numS r j = 0
 · simp [hz]
 · simp [hz]
theorem fl2_step {r : Rs} {j : Nat} (hj : j < 5) : fl2 r (j + 1) = fl2 r j ++ if bytesL r j = [] then [] else [((9 + j : Int), bytesL r j)] := by
 have h : (listsL r)[j]? = some ((9 + j : Int), bytesL r j) := by
  rcases (by omega : j = 0 \/ j = 1 \/ j = 2 \/ j = 3 \/ j = 4) with rfl | rfl | rfl | rfl | rfl <;> rfl
 rw [fl2, fl2, take_succ' h, List.filter_append, <- List.append_assoc]
 congr 1
 by_cases hz : bytesL r j = []
 · simp [hz]
 · simp [hz]
theorem fl1_len (r : Rs) (j : Nat) : (fl1 r j).length <= 6 := by
 rw [fl1, List.length_cons, List.length_map];have h1 := List.length_filter_le (fun p : Int × Int => decide (p.2 ≠ 0)) ((numsL r).take j)
 have h2 : ((numsL r).take j).length <= 5 := by rw [List.length_take]; simp only [numsL, List.length_cons, List.length_nil]; omega
 omega
theorem moreF_len (r : Rs) : (moreF r).length <= 1 := by unfold moreF; split <;> simp
theorem keyF_len (r : Rs) : (keyF r).length <= 1 := by unfold keyF; split <;> simp
theorem fl2_len (r : Rs) (j : Nat) : (fl2 r j).length <= 13 := by
 have h0 := fl1_len r 5;have h3 := moreF_len r;have h4 := keyF_len r;have h1 := List.length_filter_le (fun p : Int × List Int => decide (p.2 ≠ [])) ((listsL r).take j)
 have h2 : ((listsL r).take j).length <= 5 := by rw [List.length_take]; simp only [listsL, List.length_cons, List.length_nil]; omega
 rw [fl2, List.length_append, List.length_append, List.length_append];omega
set_option maxHeartbeats 2000000 in
theorem ct34 (r : Rs) (hr : okRs r) (hb : smallR r) (y : Ys) (I : Mem) (hM : RsM I r y) :
 Ct Try.prog (fnv 34) #[.agg (rsV r y).toArray] I (fun v I' => ∃ a n c, v = .slice a n c /\ FldM I' a n (fieldsS r) /\ n <= c /\ c <= maxLen) := by
 obtain ⟨⟨ac, nc, cc, h1, hc, _⟩, ⟨al, nl, cl, h2, hl, _⟩, ⟨ae, ne, ce, h3, he, _⟩, ⟨ap, np, cp, h4, hp, _⟩, ⟨ah, nh, ch, h5, hh, _⟩⟩ := hM;obtain ⟨yc, yl, ye, yp, yh⟩ := y;subst h1 h2 h3 h4 h5;obtain ⟨f1, hf1⟩ : ∃ f, f = fl1 r := ⟨_, rfl⟩;obtain ⟨f2, hf2⟩ : ∃ f, f = fl2 r := ⟨_, rfl⟩;obtain ⟨g1, hg1⟩ : ∃ f, f = fl1 r 5 ++ moreF r := ⟨_, rfl⟩;obtain ⟨g2, hg2⟩ : ∃ f, f = fl1 r 5 ++ moreF r ++ keyF r := ⟨_, rfl⟩;obtain ⟨bL, hbL⟩ : ∃ f, f = bytesL r := ⟨_, rfl⟩;obtain ⟨fin, hfin⟩ : ∃ f, f = fieldsS r := ⟨_, rfl⟩;rw [<- hfin]
 refine viaR (ct_via (A := { chands := [(13, [6])], cuts := [(10, ⟨[(1, .keep), (3, .row 1)], [(0, .keep), (1, .row)], [], fun _ xss I' _ => match xss with | [xs] => FR I' xs g1 | _ => False, fun _ _ => 0⟩), (12, ⟨[(1, .keep), (3, .row 1)], [(0, .keep), (1, .row)], [], fun _ xss I' _ => match xss with | [xs] => FR I' xs g2 | _ => False, fun _ _ => 0⟩), (13, ⟨[(1, .keep), (3, .row 1), (6, .sh .ptr)], [(0, .keep), (1, .row)], [], fun vals xss I' _ => match vals, xss with | [.pointer p], [xs] => FR I' xs g2 /\ ArrM I' p bL | _, _ => False, fun _ _ => 0⟩)], loops := [(3, ⟨[(1, .keep), (3, .row 1), (25, .keep), (26, .sh (.int .i64))], [(0, .keep), (1, .row)], [(3, 2, 77)], fun vals xss I' _ => match vals, xss with | [.int .i64 j], [xs] => 0 <= j /\ j <= 5 /\ FR I' xs (f1 j.toNat) | _, _ => False, fun vals _ => match vals with | [.int .i64 j] => (5 - j).toNat | _ => 0⟩), (14, ⟨[(1, .keep), (3, .row 1), (74, .keep), (75, .sh (.int .i64))], [(0, .keep), (1, .row)], [], fun vals xss I' _ => match vals, xss with | [.int .i64 j], [xs] => 0 <= j /\ j <= 5 /\ FR I' xs (f2 j.toNat) | _, _ => False, fun vals _ => match vals with | [.int .i64 j] => (5 - j).toNat | _ => 0⟩)] }) Try.func34 rfl Try.call34 rfl rfl) (let E1 := Ent.mk (.cells [.v (.int .i64 r.num), .v (.int .i64 r.code), .v (.int .i64 r.ser), .v (.int .i64 r.port), .v (.int .i64 r.time), .v (.int .u8 r.kind), .v (.bool r.more), .v (.int .i64 r.key.1), .v (.int .i64 r.key.2.1), .v (.int .i64 r.key.2.2), .v (.slice ac nc cc), .v (.slice al nl cl), .v (.slice ae ne ce), .v (.slice ap np cp), .v (.slice ah nh ch)] 37) none
  Wr .u64 r.num fun c => Ct Try.prog (fnv 60) #[.int .i64 1, .int .u64 c] I fun v a => ∃ n b d e, v = .agg #[.int .i64 n, .slice b d e] /\ Wr .i64 r.kind fun f => (Rf E1 /\ Rf (SV.ptr 0 0) /\ (1 : Nat) = 1 /\ Rf (SV.agg [.v (.int .i64 f), .v (.int .i64 r.code), .v (.int .i64 r.ser), .v (.int .i64 r.port), .v (.int .i64 r.time)]) /\ (0 : Int) <= 0 /\ (0 : Int) <= 5 /\ FR a [.int .i64 n, .slice b d e] (f1 0)) /\ ∀ (g : Mem), Mem -> a.le g -> ∀ (x : List Value) (h : Int), 0 <= h /\ h <= 5 /\ FR g x (f1 h.toNat) -> Br (decide (h < 5)) (0 <= h /\ h < 5 /\ ∃ i, [SV.v (.int .i64 f), .v (.int .i64 r.code), .v (.int .i64 r.ser), .v (.int .i64 r.port), .v (.int .i64 r.time)][h.toNat * 1 + 0]?.bind (fun (j : SV) => (match j with
  | SV.v x => some x
  | x => none)) = some (.int .i64 i) /\ Br (i != 0) (Wr .i64 (2 + h) (fun j => Wr .u64 i fun k => Ct Try.prog (fnv 60) #[.int .i64 j, .int .u64 k] g fun l m => ∃ o p q s, l = .agg #[.int .i64 o, .slice p q s] /\ x.length = x.length / 2 * 2 /\ x.length / 2 + 1 <= 9223372036854775807 /\ (x.length / 2 + 1) * 32 <= 140737488355328 /\ Wr .i64 (h + 1) fun t => Rf E1 /\ Rf (SV.ptr 0 0) /\ x.length / 2 + 1 = List.length (x ++ [.int .i64 o, .slice p q s]) / 2 /\ Rf (SV.agg [.v (.int .i64 f), .v (.int .i64 r.code), .v (.int .i64 r.ser), .v (.int .i64 r.port), .v (.int .i64 r.time)]) /\ (0 <= t /\ t <= 5 /\ FR m (x ++ [.int .i64 o, .slice p q s]) (f1 t.toNat)) /\ Int.toNat (5 - t) < Int.toNat (5 - h))) (Wr .i64 (h + 1) (fun j => Rf E1 /\ Rf (SV.ptr 0 0) /\ Rf (x.length / 2) /\ Rf (SV.agg [.v (.int .i64 f), .v (.int .i64 r.code), .v (.int .i64 r.ser), .v (.int .i64 r.port), .v (.int .i64 r.time)]) /\ (0 <= j /\ j <= 5 /\ FR g x (f1 j.toNat)) /\ Int.toNat (5 - j) < Int.toNat (5 - h)))) (Br r.more (x.length = x.length / 2 * 2 /\ x.length / 2 + 1 <= 9223372036854775807 /\ (x.length / 2 + 1) * 32 <= 140737488355328 /\ Rf E1 /\ Rf (SV.ptr 0 0) /\ x.length / 2 + 1 = List.length (x ++ [.int .i64 7, .slice none 0 0]) / 2 /\ FR g (x ++ [.int .i64 7, .slice none 0 0]) g1) (Rf E1 /\ Rf (SV.ptr 0 0) /\ Rf (x.length / 2) /\ FR g x g1) /\ ∀ (i : Mem), Mem -> g.le i -> ∀ (j : List Value), FR i j g1 -> Br (!(r.key.1 == 0 && (r.key.2.1 == 0 && (r.key.2.2 == 0 && true)))) (Ct Try.prog (fnv 61) #[.agg #[.int .i64 r.key.1, .int .i64 r.key.2.1, .int .i64 r.key.2.2]] i (fun k l => ∃ m o p, k = .slice m o p /\ j.length = j.length / 2 * 2 /\ j.length / 2 + 1 <= 9223372036854775807 /\ (j.length / 2 + 1) * 32 <= 140737488355328 /\ Rf E1 /\ Rf (SV.ptr 0 0) /\ j.length / 2 + 1 = List.length (j ++ [.int .i64 8, .slice m o p]) / 2 /\ FR l (j ++ [.int .i64 8, .slice m o p]) g2)) (Rf E1 /\ Rf (SV.ptr 0 0) /\ Rf (j.length / 2) /\ FR i j g2) /\ ∀ (k : Mem), Mem -> i.le k -> ∀ (l : List Value), FR k l g2 -> (Ct Try.prog (fnv 62) #[.int .i64 9, .slice ac nc cc, .func (.func 63) #[] #[]] k (fun m o => ∃ p q s t, m = .agg #[.int .i64 p, .slice q s t] /\ Ct Try.prog (fnv 65) #[.int .i64 10, .slice al nl cl, .func (.func 66) #[] #[]] o (fun u w => ∃ y z n1 c1, u = .agg #[.int .i64 y, .slice z n1 c1] /\ Ct Try.prog (fnv 68) #[.int .i64 11, .slice ae ne ce, .func (.func 69) #[] #[]] w (fun v1 I1 => ∃ n2 a1 n3 c2, v1 = .agg #[.int .i64 n2, .slice a1 n3 c2] /\ Ct Try.prog (fnv 70) #[.int .i64 12, .slice ap np cp, .func (.func 71) #[] #[]] I1 (fun v2 I2 => ∃ n4 a2 n5 c3, v2 = .agg #[.int .i64 n4, .slice a2 n5 c3] /\ Ct Try.prog (fnv 72) #[.int .i64 13, .slice ah nh ch, .func (.func 73) #[] #[]] I2 (fun v3 I3 => ∃ n6 a3 n7 c4, v3 = .agg #[.int .i64 n6, .slice a3 n7 c4] /\ ∀ (b1 : Nat) (I4 : Mem), I3.le I4 -> I4 b1 = some (.cells #[.int .i64 p, .slice q s t, .int .i64 y, .slice z n1 c1, .int .i64 n2, .slice a1 n3 c2, .int .i64 n4, .slice a2 n5 c3, .int .i64 n6, .slice a3 n7 c4] 146 (0, 0)) -> Rf E1 /\ Rf (SV.ptr 0 0) /\ Rf (l.length / 2) /\ FR I4 l g2 /\ ArrM I4 (some ⟨b1, 0, none⟩) bL) /\ Ct Try.prog (fnv 72) #[.int .i64 13, .slice ah nh ch, .func (.func 73) #[] #[]] I2 fun v3 I3 => ∃ n6 a3 n7 c4, v3 = .agg #[.int .i64 n6, .slice a3 n7 c4] /\ ∀ (b1 : Nat) (I4 : Mem), I3.le I4 -> I4 b1 = some (.cells #[.int .i64 p, .slice q s t, .int .i64 y, .slice z n1 c1, .int .i64 n2, .slice a1 n3 c2, .int .i64 n4, .slice a2 n5 c3, .int .i64 n6, .slice a3 n7 c4] 146 (0, 0)) -> Rf E1 /\ Rf (SV.ptr 0 0) /\ Rf (l.length / 2) /\ FR I4 l g2 /\ ArrM I4 (some ⟨b1, 0, none⟩) bL) /\ Ct Try.prog (fnv 70) #[.int .i64 12, .slice ap np cp, .func (.func 71) #[] #[]] I1 fun v2 I2 => ∃ n4 a2 n5 c3, v2 = .agg #[.int .i64 n4, .slice a2 n5 c3] /\ Ct Try.prog (fnv 72) #[.int .i64 13, .slice ah nh ch, .func (.func 73) #[] #[]] I2 fun v3 I3 => ∃ n6 a3 n7 c4, v3 = .agg #[.int .i64 n6, .slice a3 n7 c4] /\ ∀ (b1 : Nat) (I4 : Mem), I3.le I4 -> I4 b1 = some (.cells #[.int .i64 p, .slice q s t, .int .i64 y, .slice z n1 c1, .int .i64 n2, .slice a1 n3 c2, .int .i64 n4, .slice a2 n5 c3, .int .i64 n6, .slice a3 n7 c4] 146 (0, 0)) -> Rf E1 /\ Rf (SV.ptr 0 0) /\ Rf (l.length / 2) /\ FR I4 l g2 /\ ArrM I4 (some ⟨b1, 0, none⟩) bL) /\ Ct Try.prog (fnv 68) #[.int .i64 11, .slice ae ne ce, .func (.func 69) #[] #[]] w fun v1 I1 => ∃ n2 a1 n3 c2, v1 = .agg #[.int .i64 n2, .slice a1 n3 c2] /\ Ct Try.prog (fnv 70) #[.int .i64 12, .slice ap np cp, .func (.func 71) #[] #[]] I1 fun v2 I2 => ∃ n4 a2 n5 c3, v2 = .agg #[.int .i64 n4, .slice a2 n5 c3] /\ Ct Try.prog (fnv 72) #[.int .i64 13, .slice ah nh ch, .func (.func 73) #[] #[]] I2 fun v3 I3 => ∃ n6 a3 n7 c4, v3 = .agg #[.int .i64 n6, .slice a3 n7 c4] /\ ∀ (b1 : Nat) (I4 : Mem), I3.le I4 -> I4 b1 = some (.cells #[.int .i64 p, .slice q s t, .int .i64 y, .slice z n1 c1, .int .i64 n2, .slice a1 n3 c2, .int .i64 n4, .slice a2 n5 c3, .int .i64 n6, .slice a3 n7 c4] 146 (0, 0)) -> Rf E1 /\ Rf (SV.ptr 0 0) /\ Rf (l.length / 2) /\ FR I4 l g2 /\ ArrM I4 (some ⟨b1, 0, none⟩) bL) /\ Ct Try.prog (fnv 65) #[.int .i64 10, .slice al nl cl, .func (.func 66) #[] #[]] o fun u w => ∃ y z n1 c1, u = .agg #[.int .i64 y, .slice z n1 c1] /\ Ct Try.prog (fnv 68) #[.int .i64 11, .slice ae ne ce, .func (.func 69) #[] #[]] w fun v1 I1 => ∃ n2 a1 n3 c2, v1 = .agg #[.int .i64 n2, .slice a1 n3 c2] /\ Ct Try.prog (fnv 70) #[.int .i64 12, .slice ap np cp, .func (.func 71) #[] #[]] I1 fun v2 I2 => ∃ n4 a2 n5 c3, v2 = .agg #[.int .i64 n4, .slice a2 n5 c3] /\ Ct Try.prog (fnv 72) #[.int .i64 13, .slice ah nh ch, .func (.func 73) #[] #[]] I2 fun v3 I3 => ∃ n6 a3 n7 c4, v3 = .agg #[.int .i64 n6, .slice a3 n7 c4] /\ ∀ (b1 : Nat) (I4 : Mem), I3.le I4 -> I4 b1 = some (.cells #[.int .i64 p, .slice q s t, .int .i64 y, .slice z n1 c1, .int .i64 n2, .slice a1 n3 c2, .int .i64 n4, .slice a2 n5 c3, .int .i64 n6, .slice a3 n7 c4] 146 (0, 0)) -> Rf E1 /\ Rf (SV.ptr 0 0) /\ Rf (l.length / 2) /\ FR I4 l g2 /\ ArrM I4 (some ⟨b1, 0, none⟩) bL) /\ Ct Try.prog (fnv 62) #[.int .i64 9, .slice ac nc cc, .func (.func 63) #[] #[]] k fun m o => ∃ p q s t, m = .agg #[.int .i64 p, .slice q s t] /\ Ct Try.prog (fnv 65) #[.int .i64 10, .slice al nl cl, .func (.func 66) #[] #[]] o fun u w => ∃ y z n1 c1, u = .agg #[.int .i64 y, .slice z n1 c1] /\ Ct Try.prog (fnv 68) #[.int .i64 11, .slice ae ne ce, .func (.func 69) #[] #[]] w fun v1 I1 => ∃ n2 a1 n3 c2, v1 = .agg #[.int .i64 n2, .slice a1 n3 c2] /\ Ct Try.prog (fnv 70) #[.int .i64 12, .slice ap np cp, .func (.func 71) #[] #[]] I1 fun v2 I2 => ∃ n4 a2 n5 c3, v2 = .agg #[.int .i64 n4, .slice a2 n5 c3] /\ Ct Try.prog (fnv 72) #[.int .i64 13, .slice ah nh ch, .func (.func 73) #[] #[]] I2 fun v3 I3 => ∃ n6 a3 n7 c4, v3 = .agg #[.int .i64 n6, .slice a3 n7 c4] /\ ∀ (b1 : Nat) (I4 : Mem), I3.le I4 -> I4 b1 = some (.cells #[.int .i64 p, .slice q s t, .int .i64 y, .slice z n1 c1, .int .i64 n2, .slice a1 n3 c2, .int .i64 n4, .slice a2 n5 c3, .int .i64 n6, .slice a3 n7 c4] 146 (0, 0)) -> Rf E1 /\ Rf (SV.ptr 0 0) /\ Rf (l.length / 2) /\ FR I4 l g2 /\ ArrM I4 (some ⟨b1, 0, none⟩) bL) /\ ∀ (m : Mem), Mem -> k.le m -> ∀ (o : List Value) (p : Option Addr), FR m o g2 /\ ArrM m p bL -> (10 : Nat) = 10 /\ ∃ q, atI m p 0 = some (.int .i64 q) /\ ∃ s t u, atI m p 1 = some (.slice s t u) /\ ∃ w, atI m p 2 = some (.int .i64 w) /\ ∃ y z c1, atI m p 3 = some (.slice y z c1) /\ ∃ n1, atI m p 4 = some (.int .i64 n1) /\ ∃ a1 n2 c2, atI m p 5 = some (.slice a1 n2 c2) /\ ∃ n3, atI m p 6 = some (.int .i64 n3) /\ ∃ a2 n4 c3, atI m p 7 = some (.slice a2 n4 c3) /\ ∃ n5, atI m p 8 = some (.int .i64 n5) /\ ∃ a3 n6 c4, atI m p 9 = some (.slice a3 n6 c4) /\ (Rf E1 /\ Rf (SV.ptr 0 0) /\ Rf (o.length / 2) /\ Rf (SV.agg [.v (.int .i64 q), .v (.slice s t u), .v (.int .i64 w), .v (.slice y z c1), .v (.int .i64 n1), .v (.slice a1 n2 c2), .v (.int .i64 n3), .v (.slice a2 n4 c3), .v (.int .i64 n5), .v (.slice a3 n6 c4)]) /\ (0 : Int) <= 0 /\ (0 : Int) <= 5 /\ FR m o (f2 0)) /\ ∀ (I1 : Mem), Mem -> m.le I1 -> ∀ (x1 : List Value) (n7 : Int), 0 <= n7 /\ n7 <= 5 /\ FR I1 x1 (f2 n7.toNat) -> Br (decide (n7 < 5)) (0 <= n7 /\ n7 < 5 /\ (2 : Nat) = 2 /\ ∃ n8, [SV.v (.int .i64 q), .v (.slice s t u), .v (.int .i64 w), .v (.slice y z c1), .v (.int .i64 n1), .v (.slice a1 n2 c2), .v (.int .i64 n3), .v (.slice a2 n4 c3), .v (.int .i64 n5), .v (.slice a3 n6 c4)][n7.toNat * 2 + 0]?.bind (fun (x2 : SV) => (match x2 with
  | SV.v x => some x
  | x => none)) = some (.int .i64 n8) /\ ∃ a4 n9 c5, [SV.v (.int .i64 q), .v (.slice s t u), .v (.int .i64 w), .v (.slice y z c1), .v (.int .i64 n1), .v (.slice a1 n2 c2), .v (.int .i64 n3), .v (.slice a2 n4 c3), .v (.int .i64 n5), .v (.slice a3 n6 c4)][n7.toNat * 2 + 1]?.bind (fun (x2 : SV) => (match x2 with
  | SV.v x => some x
  | x => none)) = some (.slice a4 n9 c5) /\ Br (decide (0 < (n9 : Int))) (x1.length = x1.length / 2 * 2 /\ x1.length / 2 + 1 <= 9223372036854775807 /\ (x1.length / 2 + 1) * 32 <= 140737488355328 /\ Wr .i64 (n7 + 1) fun c6 => Rf E1 /\ Rf (SV.ptr 0 0) /\ x1.length / 2 + 1 = List.length (x1 ++ [.int .i64 n8, .slice a4 n9 c5]) / 2 /\ Rf (SV.agg [.v (.int .i64 q), .v (.slice s t u), .v (.int .i64 w), .v (.slice y z c1), .v (.int .i64 n1), .v (.slice a1 n2 c2), .v (.int .i64 n3), .v (.slice a2 n4 c3), .v (.int .i64 n5), .v (.slice a3 n6 c4)]) /\ (0 <= c6 /\ c6 <= 5 /\ FR I1 (x1 ++ [.int .i64 n8, .slice a4 n9 c5]) (f2 c6.toNat)) /\ Int.toNat (5 - c6) < Int.toNat (5 - n7)) (Wr .i64 (n7 + 1) (fun c6 => Rf E1 /\ Rf (SV.ptr 0 0) /\ Rf (x1.length / 2) /\ Rf (SV.agg [.v (.int .i64 q), .v (.slice s t u), .v (.int .i64 w), .v (.slice y z c1), .v (.int .i64 n1), .v (.slice a1 n2 c2), .v (.int .i64 n3), .v (.slice a2 n4 c3), .v (.int .i64 n5), .v (.slice a3 n6 c4)]) /\ (0 <= c6 /\ c6 <= 5 /\ FR I1 x1 (f2 c6.toNat)) /\ Int.toNat (5 - c6) < Int.toNat (5 - n7)))) (∀ (a4 : Option Addr) (c5 : Nat) (I2 : Mem), I1.le I2 -> RowM I2 a4 c5 2 x1 -> ∃ a5 n8 c6, Value.slice a4 (x1.length / 2) c5 = .slice a5 n8 c6 /\ FldM I2 a5 n8 fin /\ n8 <= c6 /\ c6 <= 9223372036854775807))) (by kernel_rfl) ?_
 intro E1;simp only [eq_self, true_and];have hw := w64_range r.num;have lc := fm_len (c := cI) (k := 1) (fun _ => rfl) r.counts;have ll := fm_len (c := cI) (k := 1) (fun _ => rfl) r.cells;have le := fm_len (c := cE) (k := 5) (fun _ => rfl) r.events;have lp := fm_len (c := cP) (k := 3) (fun _ => rfl) r.ports;have lh := fm_len (c := cH) (k := 5) (fun _ => rfl) r.handles;have sc := hc.len;have sl := hl.len;have se' := he.len;have sp := hp.len;have sh := hh.len;refine ⟨_, rfl, (ct60 1 _ hw I).mono fun v I1 l1 ⟨y, hv, hy⟩ => ?_⟩;obtain ⟨a1, n1, c1, rfl, hy1⟩ := id hy
 refine ⟨_, _, _, _, hv, wr_i64 (by have := hr.kind; omega) (by have := hr.kind; omega) ⟨⟨by omega, by omega, ?_⟩, fun I2 _ l2 xs j ⟨j0, j1, hx⟩ => Br.mk (fun hlt => ?_) (fun hge => ⟨?_, fun I3 _ l3 xs hx => ⟨?_, fun I4 _ l4 xs hx => ⟨?_, fun I5 _ l5 xs p ⟨hx, k, y1, y2, y3, y4, y5, hpk, hk, b1, b2, b3, b4, b5⟩ => ?_⟩⟩⟩)⟩⟩
 · rw [hf1]
   exact FR.cons ⟨fN_ok (x := r.num) (by omega), rfl, hy⟩ FR.nil
 · have hlt := of_decide_eq_true hlt
   have hnum : ([SV.v (Value.int .i64 r.kind), .v (.int .i64 r.code), .v (.int .i64 r.ser), .v (.int .i64 r.port), .v (.int .i64 r.time)][j.toNat * 1 + 0]?.bind vOf) = some (.int .i64 (numS r j.toNat)) := by
    rcases (by omega : j = 0 \/ j = 1 \/ j = 2 \/ j = 3 \/ j = 4) with rfl | rfl | rfl | rfl | rfl <;> rfl
   have hst := fl1_step (r := r) (j := j.toNat) (by omega)
   rw [<- hf1] at hst;refine ⟨j0, hlt, numS r j.toNat, hnum, Br.mk (fun hz => ?_) (fun hz => ?_)⟩
   · have hz : numS r j.toNat ≠ 0 := by simpa using hz
     rw [if_neg hz] at hst
     refine wr_i64 (by omega) (by omega) ⟨_, rfl, (ct60 _ _ (w64_range _) I2).mono fun v I3 l3 ⟨y, hv, hy⟩ => ?_⟩
     obtain ⟨a2, n2, c2, rfl, _⟩ := id hy;have hxl := hx.len;rw [hf1] at hxl;have := fl1_len r j.toNat
     refine ⟨_, _, _, _, hv, by omega, by omega, by omega, wr_i64 (by omega) (by omega) ⟨by simp only [List.length_append, List.length_cons, List.length_nil]; omega, ⟨by omega, by omega, ?_⟩, by omega⟩⟩
     rw [show (j + 1).toNat = j.toNat + 1 by omega, hst]
     have := fr_snoc (t := 2 + j) (bs := formN (IntKind.u64.wrap (numS r j.toNat)).toNat) hx l3 (fN_ok (by omega)) hy
     rw [show fN (2 + (j.toNat : Int)) (numS r j.toNat) = (2 + j, formN (IntKind.u64.wrap (numS r j.toNat)).toNat) by rw [fN, show (2 + (j.toNat : Int)) = 2 + j by omega]]
     exact this
   · have hz : numS r j.toNat = 0 := by simpa using hz
     rw [if_pos hz, List.append_nil] at hst
     refine wr_i64 (by omega) (by omega) ⟨⟨by omega, by omega, ?_⟩, by omega⟩
     rw [show (j + 1).toNat = j.toNat + 1 by omega, hst]
     exact hx
 · have hge := of_decide_eq_false hge
   obtain rfl : j = 5 := by omega
   have hx : FR I2 xs (fl1 r 5) := by rw [hf1] at hx; exact hx
   have hxl := hx.len;have := fl1_len r 5;rw [hg1];refine Br.mk (fun hm => ?_) (fun hm => ?_)
   · refine ⟨by omega, by omega, by omega, by simp only [List.length_append, List.length_cons, List.length_nil]; omega, ?_⟩
     rw [moreF, if_pos hm]
     exact fr_snoc hx (Mem.le_refl _) ⟨by simp, fun z hz => by cases hz⟩ ⟨none, 0, 0, rfl, sl_nil _ _, Nat.le_refl 0, Nat.zero_le _⟩
   · rw [moreF, if_neg (by rw [hm]; simp), List.append_nil]
     exact hx
 · have hxl := hx.len
   rw [hg1, List.length_append] at hxl;have := fl1_len r 5;have := moreF_len r;rw [hg1] at hx;rw [hg2];refine Br.mk (fun hm => ?_) (fun hm => ?_)
   · have hne : r.key ≠ (0, 0, 0) := fun e => by rw [e] at hm; simp at hm
     refine (ct61 r.key.1 r.key.2.1 r.key.2.2 I3).mono fun v I4 l4 hv => ?_;obtain ⟨a2, n2, c2, rfl, hy2⟩ := id hv
     refine ⟨_, _, _, rfl, by omega, by omega, by omega, by simp only [List.length_append, List.length_cons, List.length_nil]; omega, ?_⟩
     rw [keyF, if_neg hne]
     exact fr_snoc hx l4 ⟨by simp, forms_bytes _⟩ hv
   · have he : r.key = (0, 0, 0) := by
      simp only [Bool.and_true, Bool.not_eq_false', Bool.and_eq_true, beq_iff_eq] at hm;exact Prod.ext hm.1 (Prod.ext hm.2.1 hm.2.2)
     rw [keyF, if_pos he, List.append_nil];exact hx
 · have hcn : nc = r.counts.length := by omega
   have hln : nl = r.cells.length := by omega
   have hen : ne = r.events.length := by omega
   have hpn : np = r.ports.length := by omega
   have hhn : nh = r.handles.length := by omega
   have bs := hb.counts;have bs2 := hb.cells;have bs3 := hb.events;have bs4 := hb.ports;have bs5 := hb.handles;have i4 : I.le I4 := Mem.le_trans l1 (Mem.le_trans l2 (Mem.le_trans l3 l4))
   have K1 := fun J (lJ : I4.le J) => ct62 9 r.counts (fun _ _ => trivial) (fun x _ => by have := numF_len x; omega) ac nc cc J (hc.mono (Mem.le_trans i4 lJ)) hcn (by omega)
   have K2 := fun J (lJ : I4.le J) => ct65 10 r.cells (fun x hx => hr.cells x hx) (fun x hx => by have := celF_len (hr.cells x hx); omega) al nl cl J (hl.mono (Mem.le_trans i4 lJ)) hln (by omega)
   have K3 := fun J (lJ : I4.le J) => ct68 11 r.events (fun x hx => (hr.events x hx).2.2) (fun x hx => by have := evF_len (hr.events x hx).2.2; omega) ae ne ce J (he.mono (Mem.le_trans i4 lJ)) hen (by omega)
   have K4 := fun J (lJ : I4.le J) => ct70 12 r.ports (fun x hx => ⟨hb.names x hx, (hr.ports x hx).2.1⟩) (fun x hx => by have := ptF_len x; have := hb.names x hx; omega) ap np cp J (hp.mono (Mem.le_trans i4 lJ)) hpn (by omega)
   have K5 := fun J (lJ : I4.le J) => ct72 13 r.handles (fun x hx => (hr.handles x hx).2) (fun x _ => by have := hdF_len x; omega) ah nh ch J (hh.mono (Mem.le_trans i4 lJ)) hhn (by omega)
   have z4 := Mem.le_refl I4
   repeat' first
    | (refine (K1 _ z4).mono fun v J1 m1 ⟨y1, hv1, hy1⟩ => ?_
       obtain ⟨a1, n1, c1, rfl, _⟩ := id hy1;refine ⟨_, _, _, _, hv1, ?_⟩)
    | (refine (K2 _ m1).mono fun v J2 m2 ⟨y2, hv2, hy2⟩ => ?_
       obtain ⟨a2, n2, c2, rfl, _⟩ := id hy2;have m2' := Mem.le_trans m1 m2;refine ⟨_, _, _, _, hv2, ?_⟩)
    | (refine (K3 _ m2').mono fun v J3 m3 ⟨y3, hv3, hy3⟩ => ?_
       obtain ⟨a3, n3, c3, rfl, _⟩ := id hy3;have m3' := Mem.le_trans m2' m3;refine ⟨_, _, _, _, hv3, ?_⟩)
    | (refine (K4 _ m3').mono fun v J4 m4 ⟨y4, hv4, hy4⟩ => ?_
       obtain ⟨a4, n4, c4, rfl, _⟩ := id hy4;have m4' := Mem.le_trans m3' m4;refine ⟨_, _, _, _, hv4, ?_⟩)
    | (refine (K5 _ m4').mono fun v J5 m5 ⟨y5, hv5, hy5⟩ => ?_
       obtain ⟨a5, n5, c5, rfl, _⟩ := id hy5;have m5' := Mem.le_trans m4' m5;refine ⟨_, _, _, _, hv5, ?_⟩)
    | (intro k J6 m6 hk
       refine ⟨hx.mono (Mem.le_trans m5' m6), k, _, _, _, _, _, rfl, hk, ?_, ?_, ?_, ?_, ?_⟩
       · rw [hbL]; exact hy1.mono (Mem.le_trans m2 (Mem.le_trans m3 (Mem.le_trans m4 (Mem.le_trans m5 m6))))
       · rw [hbL]; exact hy2.mono (Mem.le_trans m3 (Mem.le_trans m4 (Mem.le_trans m5 m6)))
       · rw [hbL]; exact hy3.mono (Mem.le_trans m4 (Mem.le_trans m5 m6))
       · rw [hbL]; exact hy4.mono (Mem.le_trans m5 m6)
       · rw [hbL]; exact hy5.mono m6)
    | apply And.intro
 subst hpk;obtain ⟨a1, n1, c1, rfl, q1⟩ := id b1;obtain ⟨a2, n2, c2, rfl, q2⟩ := id b2;obtain ⟨a3, n3, c3, rfl, q3⟩ := id b3;obtain ⟨a4, n4, c4, rfl, q4⟩ := id b4;obtain ⟨a5, n5, c5, rfl, q5⟩ := id b5
 refine ⟨_, atC hk rfl, _, _, _, atC hk rfl, _, atC hk rfl, _, _, _, atC hk rfl, _, atC hk rfl, _, _, _, atC hk rfl, _, atC hk rfl, _, _, _, atC hk rfl, _, atC hk rfl, _, _, _, atC hk rfl, ⟨by omega, by omega, ?_⟩, fun I6 _ l6 xs j ⟨j0, j1, hx⟩ => Br.mk (fun hlt => ?_) (fun hge => ?_)⟩
 · rw [hf2]
   rw [hg2] at hx;rw [fl2];simpa using hx
 · have hlt := of_decide_eq_true hlt
   have hst := fl2_step (r := r) (j := j.toNat) (by omega)
   rw [<- hf2] at hst;have hxl := hx.len;rw [hf2] at hxl;have := fl2_len r j.toNat
   have look : ∃ a n c, ([SV.v (Value.int .i64 9), .v (.slice a1 n1 c1), .v (.int .i64 10), .v (.slice a2 n2 c2), .v (.int .i64 11), .v (.slice a3 n3 c3), .v (.int .i64 12), .v (.slice a4 n4 c4), .v (.int .i64 13), .v (.slice a5 n5 c5)][j.toNat * 2 + 0]?.bind vOf) = some (.int .i64 (9 + j)) /\
    ([SV.v (Value.int .i64 9), .v (.slice a1 n1 c1), .v (.int .i64 10), .v (.slice a2 n2 c2), .v (.int .i64 11), .v (.slice a3 n3 c3), .v (.int .i64 12), .v (.slice a4 n4 c4), .v (.int .i64 13), .v (.slice a5 n5 c5)][j.toNat * 2 + 1]?.bind vOf) = some (.slice a n c) /\ BySl I5 (.slice a n c) (bL j.toNat) := by
    rcases (by omega : j = 0 \/ j = 1 \/ j = 2 \/ j = 3 \/ j = 4) with rfl | rfl | rfl | rfl | rfl
    · exact ⟨_, _, _, rfl, rfl, b1⟩
    · exact ⟨_, _, _, rfl, rfl, b2⟩
    · exact ⟨_, _, _, rfl, rfl, b3⟩
    · exact ⟨_, _, _, rfl, rfl, b4⟩
    · exact ⟨_, _, _, rfl, rfl, b5⟩
   obtain ⟨a, n, c, w1, w2, hby⟩ := look
   have hnb : n = (bytesL r j.toNat).length := by
    obtain ⟨_, _, _, he, hs, _⟩ := id hby;cases he;rw [hs.numLen, hbL]
   have hok : okFld ((9 + j : Int), bytesL r j.toNat) := lists_ok hr _ (by
    rcases (by omega : j = 0 \/ j = 1 \/ j = 2 \/ j = 3 \/ j = 4) with rfl | rfl | rfl | rfl | rfl <;> simp [listsL, bytesL])
   refine ⟨j0, hlt, _, w1, _, _, _, w2, Br.mk (fun hp => ?_) (fun hp => ?_)⟩
   · have hp := of_decide_eq_true hp
     rw [if_neg (fun e => by rw [e] at hnb; simp at hnb; omega)] at hst
     refine ⟨by omega, by omega, by omega, wr_i64 (by omega) (by omega) ⟨by simp only [List.length_append, List.length_cons, List.length_nil]; omega, ⟨by omega, by omega, ?_⟩, by omega⟩⟩
     rw [show (j + 1).toNat = j.toNat + 1 by omega, hst, show ((9 : Int) + (j.toNat : Int)) = 9 + j by omega]
     rw [hbL] at hby;exact fr_snoc hx (Mem.le_refl _) hok (hby.mono l6)
   · have hp := of_decide_eq_false hp
     rw [if_pos (List.eq_nil_of_length_eq_zero (by omega)), List.append_nil] at hst
     refine wr_i64 (by omega) (by omega) ⟨⟨by omega, by omega, ?_⟩, by omega⟩
     rw [show (j + 1).toNat = j.toNat + 1 by omega, hst]
     exact hx
 · have hge := of_decide_eq_false hge
   obtain rfl : j = 5 := by omega
   intro a' cp' I7 l7 hrow;rw [hf2] at hx;rw [hfin];exact fr_row hrow (hx.mono l7)
def evOk (x : EvT) : Bool := !negL [x.1.1, x.1.2.1, x.1.2.2, x.2.1]
def ptOk (x : PtT) : Bool := !negL [x.1, x.2.2] && nameB x.2.1
def hdOk (x : HdT) : Bool := !negL [x.1, x.2.1, x.2.2.1, x.2.2.2.1] && decide (x.2.2.2.2 <= 15)
def headOk (r : Rs) : Bool := decide (1 <= r.num) && (decide (r.num <= 281474976710656) && (decide (r.kind <= 9) && (!negL [r.code, r.ser, r.port, r.time, r.key.1, r.key.2.1, r.key.2.2] && !negL r.counts)))
def lenOk (r : Rs) : Bool := decide (r.counts.length <= 16) && (decide (r.cells.length <= 1024) && (decide (r.events.length <= 64) && (decide (r.ports.length <= 64) && decide (r.handles.length <= 64))))
def vokS (r : Rs) : Bool := headOk r && (lenOk r && (r.events.all evOk && (r.ports.all ptOk && r.handles.all hdOk)))
theorem fm_ints {l : List Int} : l.flatMap cI = ints .i64 l := by
 induction l with
 | nil => rfl
 | cons x r ih => rw [List.flatMap_cons, ih]; rfl
theorem strL_strB {bs : List Int} (hb : byteL bs) : strL (strB bs) = bs := by
 show (u8s bs).toArray.toList.map (fun b => (b.toNat : Int)) = bs
 rw [show (u8s bs).toArray.toList = u8s bs from rfl, u8s, List.map_map]
 conv => rhs; rw [<- List.map_id bs]
 apply List.map_congr_left;intro z hz;exact u8_nat (hb z hz)
theorem all_no {α : Type} {p : α -> Bool} {l : List α} {j : Nat} {x : α} (h : l[j]? = some x) (hp : p x = false) : l.all p = false := by
 cases ha : l.all p with
 | false => rfl
 | true => rw [List.all_eq_true.1 ha x (List.mem_of_getElem? h)] at hp; cases hp
theorem all_snoc {α : Type} {p : α -> Bool} {l : List α} {j : Nat} {x : α} (h : l[j]? = some x) (ht : (l.take j).all p = true) (hp : p x = true) : (l.take (j + 1)).all p = true := by
 rw [take_succ' h, List.all_append, ht]; simp [hp]
set_option maxHeartbeats 2000000 in
theorem ct32 (r : Rs) (hr : okRs r) (y : Ys) (I : Mem) (hM : RsM I r y) (hcn : r.counts.length <= 1000000) :
 Ct Try.prog (fnv 32) #[.agg (rsV r y).toArray] I (fun v I' => v = .bool (vokS r)) := by
 obtain ⟨⟨ac, nc, cc, h1, hc, _⟩, ⟨al, nl, cl, h2, hl, _⟩, ⟨ae, ne, ce, h3, he, _⟩, ⟨ap, np, cp, h4, hp, _⟩, ⟨ah, nh, ch, h5, hh, _⟩⟩ := hM;obtain ⟨yc, yl, ye, yp, yh⟩ := y;subst h1 h2 h3 h4 h5;obtain ⟨V, hV⟩ : ∃ V, V = vokS r := ⟨_, rfl⟩;obtain ⟨pe, hpe⟩ : ∃ f, f = fun j => ((r.events.take j).all evOk) := ⟨_, rfl⟩;obtain ⟨pp, hpp⟩ : ∃ f, f = fun j => ((r.ports.take j).all ptOk) := ⟨_, rfl⟩;obtain ⟨ph, hph⟩ : ∃ f, f = fun j => ((r.handles.take j).all hdOk) := ⟨_, rfl⟩;rw [<- hV]
 refine viaR (ct_via (A := { loops := [(6, ⟨[(1, .keep), (79, .keep), (80, .keep), (81, .sh (.int .i64))], [(0, .keep)], [], fun vals _ _ _ => match vals with | [.int .i64 j] => 0 <= j /\ j <= ne /\ pe j.toNat = true | _ => False, fun vals _ => match vals with | [.int .i64 j] => (ne - j).toNat | _ => 0⟩), (12, ⟨[(1, .keep), (101, .keep), (102, .keep), (103, .sh (.int .i64))], [(0, .keep)], [], fun vals _ _ _ => match vals with | [.int .i64 j] => 0 <= j /\ j <= np /\ pp j.toNat = true | _ => False, fun vals _ => match vals with | [.int .i64 j] => (np - j).toNat | _ => 0⟩), (18, ⟨[(1, .keep), (122, .keep), (123, .keep), (124, .sh (.int .i64))], [(0, .keep)], [], fun vals _ _ _ => match vals with | [.int .i64 j] => 0 <= j /\ j <= nh /\ ph j.toNat = true | _ => False, fun vals _ => match vals with | [.int .i64 j] => (nh - j).toNat | _ => 0⟩)] }) Try.func32 rfl Try.call32 rfl rfl) (let E1 := Ent.mk (.cells [.v (.int .i64 r.num), .v (.int .i64 r.code), .v (.int .i64 r.ser), .v (.int .i64 r.port), .v (.int .i64 r.time), .v (.int .u8 r.kind), .v (.bool r.more), .v (.int .i64 r.key.1), .v (.int .i64 r.key.2.1), .v (.int .i64 r.key.2.2), .v (.slice ac nc cc), .v (.slice al nl cl), .v (.slice ae ne ce), .v (.slice ap np cp), .v (.slice ah nh ch)] 37) none
  Br (decide (r.num < 1)) (Value.bool false = .bool V) (Br (decide (281474976710656 < r.num)) (Value.bool false = .bool V) (Br (decide (9 < r.kind)) (Value.bool false = .bool V) (∀ (b : Nat) (a : Mem), I.le a -> a b = some (.cells #[.int .i64 r.code, .int .i64 r.ser, .int .i64 r.port, .int .i64 r.time, .int .i64 r.key.1, .int .i64 r.key.2.1, .int .i64 r.key.2.2] 3 (0, 0)) -> Ct Try.prog (fnv 55) #[.slice (some ⟨b, 0, none⟩) 7 7] a fun v c => ∃ d, v = .bool d /\ Br (!d) (Value.bool false = .bool V) (Ct Try.prog (fnv 55) #[.slice ac nc cc] c (fun e f => ∃ g, e = .bool g /\ Br (!g) (Value.bool false = .bool V) (Br (decide (16 < (nc : Int))) (Value.bool false = .bool V) (Br (decide (1024 < (nl : Int))) (Value.bool false = .bool V) (Br (decide (64 < (ne : Int))) (Value.bool false = .bool V) (Br (decide (64 < (np : Int))) (Value.bool false = .bool V) (Br (decide (64 < (nh : Int))) (Value.bool false = .bool V) ((Rf E1 /\ Rf (SV.ptr 0 0) /\ Rf (SV.v (.slice ae ne ce)) /\ Rf (SV.v (.int .i64 (ne : Int))) /\ (0 : Int) <= 0 /\ 0 <= (ne : Int) /\ pe 0 = true) /\ ∀ (h : Mem), Mem -> f.le h -> ∀ (n : Int), 0 <= n /\ n <= (ne : Int) /\ pe n.toNat = true -> Br (decide (n < (ne : Int))) (0 <= n /\ n < (ne : Int) /\ ae.isSome = true /\ (5 : Nat) = 5 /\ ∃ i, atI h ae (n.toNat * 5 + 0) = some (.int .i64 i) /\ ∃ j, atI h ae (n.toNat * 5 + 1) = some (.int .i64 j) /\ ∃ k, atI h ae (n.toNat * 5 + 2) = some (.int .i64 k) /\ ∃ l, atI h ae (n.toNat * 5 + 3) = some (.int .i64 l) /\ ∃ m, atI h ae (n.toNat * 5 + 4) = some (.int .i64 m) /\ ∀ (o : Nat) (p : Mem), h.le p -> p o = some (.cells #[.int .i64 i, .int .i64 j, .int .i64 k, .int .i64 l] 3 (0, 0)) -> Ct Try.prog (fnv 55) #[.slice (some ⟨o, 0, none⟩) 4 4] p fun q s => ∃ t, q = .bool t /\ Br (!t) (Value.bool false = .bool V) (Wr .i64 (n + 1) (fun u => Rf E1 /\ Rf (SV.ptr 0 0) /\ Rf (SV.v (.slice ae ne ce)) /\ Rf (SV.v (.int .i64 (ne : Int))) /\ (0 <= u /\ u <= (ne : Int) /\ pe u.toNat = true) /\ Int.toNat ((ne : Int) - u) < Int.toNat ((ne : Int) - n)))) ((Rf E1 /\ Rf (SV.ptr 0 0) /\ Rf (SV.v (.slice ap np cp)) /\ Rf (SV.v (.int .i64 (np : Int))) /\ (0 : Int) <= 0 /\ 0 <= (np : Int) /\ pp 0 = true) /\ ∀ (i : Mem), Mem -> h.le i -> ∀ (j : Int), 0 <= j /\ j <= (np : Int) /\ pp j.toNat = true -> Br (decide (j < (np : Int))) (0 <= j /\ j < (np : Int) /\ ap.isSome = true /\ (3 : Nat) = 3 /\ ∃ k, atI i ap (j.toNat * 3 + 0) = some (.int .i64 k) /\ ∃ q, atI i ap (j.toNat * 3 + 1) = some (.string q) /\ ∃ l, atI i ap (j.toNat * 3 + 2) = some (.int .i64 l) /\ ∀ (m : Nat) (o : Mem), i.le o -> o m = some (.cells #[.int .i64 k, .int .i64 l] 3 (0, 0)) -> Ct Try.prog (fnv 55) #[.slice (some ⟨m, 0, none⟩) 2 2] o fun p s => ∃ t, p = .bool t /\ Br (!t) (Value.bool false = .bool V) (Ct Try.prog (fnv 56) #[.string q] s (fun u w => ∃ x, u = .bool x /\ Br (!x) (Value.bool false = .bool V) (Wr .i64 (j + 1) (fun y => Rf E1 /\ Rf (SV.ptr 0 0) /\ Rf (SV.v (.slice ap np cp)) /\ Rf (SV.v (.int .i64 (np : Int))) /\ (0 <= y /\ y <= (np : Int) /\ pp y.toNat = true) /\ Int.toNat ((np : Int) - y) < Int.toNat ((np : Int) - j)))))) ((Rf E1 /\ Rf (SV.ptr 0 0) /\ Rf (SV.v (.slice ah nh ch)) /\ Rf (SV.v (.int .i64 (nh : Int))) /\ (0 : Int) <= 0 /\ 0 <= (nh : Int) /\ ph 0 = true) /\ ∀ (k : Mem), Mem -> i.le k -> ∀ (l : Int), 0 <= l /\ l <= (nh : Int) /\ ph l.toNat = true -> Br (decide (l < (nh : Int))) (0 <= l /\ l < (nh : Int) /\ ah.isSome = true /\ (5 : Nat) = 5 /\ ∃ m, atI k ah (l.toNat * 5 + 0) = some (.int .i64 m) /\ ∃ o, atI k ah (l.toNat * 5 + 1) = some (.int .i64 o) /\ ∃ p, atI k ah (l.toNat * 5 + 2) = some (.int .i64 p) /\ ∃ q, atI k ah (l.toNat * 5 + 3) = some (.int .i64 q) /\ ∃ s, atI k ah (l.toNat * 5 + 4) = some (.int .u8 s) /\ ∀ (t : Nat) (u : Mem), k.le u -> u t = some (.cells #[.int .i64 m, .int .i64 o, .int .i64 p, .int .i64 q] 3 (0, 0)) -> Ct Try.prog (fnv 55) #[.slice (some ⟨t, 0, none⟩) 4 4] u fun w x => ∃ y, w = .bool y /\ Br (!y) (Value.bool false = .bool V) (Ct Try.prog (fnv 57) #[.int .u8 s] x (fun z I1 => ∃ b1, z = .bool b1 /\ Br (!b1) (Value.bool false = .bool V) (Wr .i64 (l + 1) (fun c1 => Rf E1 /\ Rf (SV.ptr 0 0) /\ Rf (SV.v (.slice ah nh ch)) /\ Rf (SV.v (.int .i64 (nh : Int))) /\ (0 <= c1 /\ c1 <= (nh : Int) /\ ph c1.toNat = true) /\ Int.toNat ((nh : Int) - c1) < Int.toNat ((nh : Int) - l)))))) (Value.bool true = .bool V))))))))))))))) (by kernel_rfl) ?_
 intro E1;simp only [eq_self, true_and];have lc := fm_len (c := cI) (k := 1) (fun _ => rfl) r.counts;have ll := fm_len (c := cI) (k := 1) (fun _ => rfl) r.cells;have le := fm_len (c := cE) (k := 5) (fun _ => rfl) r.events;have lp := fm_len (c := cP) (k := 3) (fun _ => rfl) r.ports;have lh := fm_len (c := cH) (k := 5) (fun _ => rfl) r.handles;have sc := hc.len;have sl := hl.len;have se' := he.len;have sp := hp.len;have sh := hh.len
 have hcn' : nc = r.counts.length := by omega
 have hln : nl = r.cells.length := by omega
 have hen : ne = r.events.length := by omega
 have hpn : np = r.ports.length := by omega
 have hhn : nh = r.handles.length := by omega
 rw [fm_ints] at hc
 have N1 : headOk r = false -> Value.bool false = Value.bool V := fun h => by rw [hV, vokS, h]; rfl
 have N2 : lenOk r = false -> Value.bool false = Value.bool V := fun h => by rw [hV, vokS, h]; simp
 have N3 : r.events.all evOk = false -> Value.bool false = Value.bool V := fun h => by rw [hV, vokS, h]; simp
 have N4 : r.ports.all ptOk = false -> Value.bool false = Value.bool V := fun h => by rw [hV, vokS, h]; simp
 have N5 : r.handles.all hdOk = false -> Value.bool false = Value.bool V := fun h => by rw [hV, vokS, h]; simp
 refine Br.mk (fun h => N1 ?_) (fun g1 => Br.mk (fun h => N1 ?_) (fun g2 => Br.mk (fun h => N1 ?_) (fun g3 b I1 l1 hb => ?_)))
 · have h := of_decide_eq_true h
   rw [headOk, decide_eq_false (by omega), Bool.false_and]
 · have h := of_decide_eq_true h
   rw [headOk, decide_eq_false (p := r.num <= 281474976710656) (by omega)]; simp
 · have h := of_decide_eq_true h
   rw [headOk, decide_eq_false (p := r.kind <= 9) (by omega)]; simp
 refine (ct55 [r.code, r.ser, r.port, r.time, r.key.1, r.key.2.1, r.key.2.2] _ 7 7 I1 (int_sl hb rfl rfl (by omega)) (by omega)).mono fun v I2 l2 hv => ⟨_, hv, Br.mk (fun h => N1 ?_) (fun g4 => ?_)⟩
 · have h : negL [r.code, r.ser, r.port, r.time, r.key.1, r.key.2.1, r.key.2.2] = true := by simpa using h
   rw [headOk, h]; simp
 refine (ct55 r.counts ac nc cc I2 (hc.mono (Mem.le_trans l1 l2)) (by omega)).mono fun v I3 l3 hv => ⟨_, hv, Br.mk (fun h => N1 ?_) (fun g5 => Br.mk (fun h => N2 ?_) (fun g6 => Br.mk (fun h => N2 ?_) (fun g7 => Br.mk (fun h => N2 ?_) (fun g8 => Br.mk (fun h => N2 ?_) (fun g9 => Br.mk (fun h => N2 ?_) (fun g10 => ?_))))))⟩
 · have h : negL r.counts = true := by simpa using h
   rw [headOk, h]; simp
 · have h := of_decide_eq_true h
   rw [lenOk, decide_eq_false (by omega), Bool.false_and]
 · have h := of_decide_eq_true h
   rw [lenOk, decide_eq_false (p := r.cells.length <= 1024) (by omega)]; simp
 · have h := of_decide_eq_true h
   rw [lenOk, decide_eq_false (p := r.events.length <= 64) (by omega)]; simp
 · have h := of_decide_eq_true h
   rw [lenOk, decide_eq_false (p := r.ports.length <= 64) (by omega)]; simp
 · have h := of_decide_eq_true h
   rw [lenOk, decide_eq_false (p := r.handles.length <= 64) (by omega)]; simp
 have g1 := of_decide_eq_false g1;have g2 := of_decide_eq_false g2;have g3 := of_decide_eq_false g3;have g6 := of_decide_eq_false g6;have g7 := of_decide_eq_false g7;have g8 := of_decide_eq_false g8;have g9 := of_decide_eq_false g9;have g10 := of_decide_eq_false g10
 have H1 : headOk r = true := by
  have h4 : negL [r.code, r.ser, r.port, r.time, r.key.1, r.key.2.1, r.key.2.2] = false := by simpa using g4
  have h5 : negL r.counts = false := by simpa using g5
  rw [headOk, decide_eq_true (by omega), decide_eq_true (p := r.num <= 281474976710656) (by omega), decide_eq_true (p := r.kind <= 9) (by omega), h4, h5]; rfl
 have H2 : lenOk r = true := by
  rw [lenOk, decide_eq_true (by omega), decide_eq_true (p := r.cells.length <= 1024) (by omega), decide_eq_true (p := r.events.length <= 64) (by omega), decide_eq_true (p := r.ports.length <= 64) (by omega), decide_eq_true (p := r.handles.length <= 64) (by omega)]; rfl
 have i3 : I.le I3 := Mem.le_trans l1 (Mem.le_trans l2 l3)
 refine ⟨⟨by omega, by omega, by rw [hpe]; rfl⟩, fun I4 _ l4 j ⟨j0, j1, hj⟩ => Br.mk (fun hlt => ?_) (fun hge => ?_)⟩
 · have hlt := of_decide_eq_true hlt
   rw [hpe] at hj;obtain ⟨x, hx, g⟩ := lst_at (c := cE) (k := 5) (fun _ => rfl) (he.mono (Mem.le_trans i3 l4)) hen j0 hlt
   refine ⟨j0, hlt, he.isSome (by omega), _, g 0 _ (by omega) rfl, _, g 1 _ (by omega) rfl, _, g 2 _ (by omega) rfl, _, g 3 _ (by omega) rfl, _, g 4 _ (by omega) rfl, fun b I5 l5 hb => ?_⟩
   refine (ct55 [x.1.1, x.1.2.1, x.1.2.2, x.2.1] _ 4 4 I5 (int_sl hb rfl rfl (by omega)) (by omega)).mono fun v I6 l6 hv => ⟨_, hv, Br.mk (fun h => N3 (all_no hx ?_)) (fun h => ?_)⟩
   · rw [evOk]; simpa using h
   · refine wr_i64 (by omega) (by omega) ⟨⟨by omega, by omega, ?_⟩, by omega⟩
     rw [hpe, show (j + 1).toNat = j.toNat + 1 by omega]
     exact all_snoc hx hj (by rw [evOk]; simpa using h)
 have hge := of_decide_eq_false hge;rw [hpe] at hj
 have H3 : r.events.all evOk = true := by
  have hj : (r.events.take j.toNat).all evOk = true := hj
  rw [List.take_of_length_le (by omega)] at hj; exact hj
 clear hge hj j0 j1
 refine ⟨⟨by omega, by omega, by rw [hpp]; rfl⟩, fun I5 _ l5 j ⟨j0, j1, hj⟩ => Br.mk (fun hlt => ?_) (fun hge => ?_)⟩
 · have hlt := of_decide_eq_true hlt
   rw [hpp] at hj;obtain ⟨x, hx, g⟩ := lst_at (c := cP) (k := 3) (fun _ => rfl) (hp.mono (Mem.le_trans i3 (Mem.le_trans l4 l5))) hpn j0 hlt;have hbx := (hr.ports x (List.mem_of_getElem? hx)).2.1
   refine ⟨j0, hlt, hp.isSome (by omega), _, g 0 _ (by omega) rfl, _, g 1 _ (by omega) rfl, _, g 2 _ (by omega) rfl, fun b I6 l6 hb => ?_⟩
   refine (ct55 [x.1, x.2.2] _ 2 2 I6 (int_sl hb rfl rfl (by omega)) (by omega)).mono fun v I7 l7 hv => ⟨_, hv, Br.mk (fun h => N4 (all_no hx ?_)) (fun h => (ct56 _ I7).mono fun v I8 l8 hv => ⟨_, hv, Br.mk (fun h' => N4 (all_no hx ?_)) (fun h' => ?_)⟩)⟩
   · have h : negL [x.1, x.2.2] = true := by simpa using h
     rw [ptOk, h]; rfl
   · rw [strL_strB hbx] at h'
     have h' : nameB x.2.1 = false := by simpa using h'
     rw [ptOk, h', Bool.and_false]
   · rw [strL_strB hbx] at h'
     have h : negL [x.1, x.2.2] = false := by simpa using h
     have h' : nameB x.2.1 = true := by simpa using h'
     refine wr_i64 (by omega) (by omega) ⟨⟨by omega, by omega, ?_⟩, by omega⟩
     rw [hpp, show (j + 1).toNat = j.toNat + 1 by omega]
     exact all_snoc hx hj (by rw [ptOk, h, h']; rfl)
 have hge := of_decide_eq_false hge;rw [hpp] at hj
 have H4 : r.ports.all ptOk = true := by
  have hj : (r.ports.take j.toNat).all ptOk = true := hj
  rw [List.take_of_length_le (by omega)] at hj; exact hj
 clear hge hj j0 j1
 refine ⟨⟨by omega, by omega, by rw [hph]; rfl⟩, fun I6 _ l6 j ⟨j0, j1, hj⟩ => Br.mk (fun hlt => ?_) (fun hge => ?_)⟩
 · have hlt := of_decide_eq_true hlt
   rw [hph] at hj;obtain ⟨x, hx, g⟩ := lst_at (c := cH) (k := 5) (fun _ => rfl) (hh.mono (Mem.le_trans i3 (Mem.le_trans l4 (Mem.le_trans l5 l6)))) hhn j0 hlt
   refine ⟨j0, hlt, hh.isSome (by omega), _, g 0 _ (by omega) rfl, _, g 1 _ (by omega) rfl, _, g 2 _ (by omega) rfl, _, g 3 _ (by omega) rfl, _, g 4 _ (by omega) rfl, fun b I7 l7 hb => ?_⟩
   refine (ct55 [x.1, x.2.1, x.2.2.1, x.2.2.2.1] _ 4 4 I7 (int_sl hb rfl rfl (by omega)) (by omega)).mono fun v I8 l8 hv => ⟨_, hv, Br.mk (fun h => N5 (all_no hx ?_)) (fun h => (ct57 _ I8).mono fun v I9 l9 hv => ⟨_, hv, Br.mk (fun h' => N5 (all_no hx ?_)) (fun h' => ?_)⟩)⟩
   · have h : negL [x.1, x.2.1, x.2.2.1, x.2.2.2.1] = true := by simpa using h
     rw [hdOk, h]; rfl
   · rw [hdOk]
     have h' : decide (x.2.2.2.2 <= 15) = false := by simpa using h'
     rw [h', Bool.and_false]
   · have h : negL [x.1, x.2.1, x.2.2.1, x.2.2.2.1] = false := by simpa using h
     have h' : decide (x.2.2.2.2 <= 15) = true := by simpa using h'
     refine wr_i64 (by omega) (by omega) ⟨⟨by omega, by omega, ?_⟩, by omega⟩
     rw [hph, show (j + 1).toNat = j.toNat + 1 by omega]
     exact all_snoc hx hj (by rw [hdOk, h, h']; rfl)
 have hge := of_decide_eq_false hge;rw [hph] at hj
 have H5 : r.handles.all hdOk = true := by
  have hj : (r.handles.take j.toNat).all hdOk = true := hj
  rw [List.take_of_length_le (by omega)] at hj; exact hj
 rw [hV, vokS, H1, H2, H3, H4, H5]; rfl
def rightS (r : Rs) : Bool := vokS r && (rightF (fieldsS r) && decide ((writeF (fieldsS r)).length <= 16320))
def writeS (r : Rs) : List Int := 1 :: writeF (fieldsS r)
theorem vok_small {r : Rs} (h : vokS r = true) : smallR r := by
 simp only [vokS, lenOk, Bool.and_eq_true, decide_eq_true_eq] at h;obtain ⟨_, ⟨h1, h2, h3, h4, h5⟩, _, h6, _⟩ := h
 refine ⟨by omega, by omega, by omega, by omega, by omega, fun x hx => ?_⟩
 have := List.all_eq_true.1 h6 x hx;simp only [ptOk, nameB, Bool.and_eq_true, decide_eq_true_eq] at this;omega
theorem ct18 (r : Rs) (hr : okRs r) (y : Ys) (I : Mem) (hM : RsM I r y) (hcn : r.counts.length <= 1000000) :
 Ct Try.prog (fnv 18) #[.agg (rsV r y).toArray] I (fun v I' => ∃ a n c, v = .tuple #[.slice a n c, .bool (rightS r)] /\ (rightS r = true -> SlM I' a n 1 (ints .u8 (writeF (fieldsS r))) /\ n <= c /\ c <= maxLen /\ n <= 20000)) := by
 obtain ⟨R, hR⟩ : ∃ R, R = rightS r := ⟨_, rfl⟩;obtain ⟨W, hW⟩ : ∃ W, W = writeF (fieldsS r) := ⟨_, rfl⟩;rw [<- hR, <- hW]
 refine viaR (ct_via (A := { }) Try.func18 rfl Try.call18 rfl rfl) (Ct Try.prog (fnv 32) #[.agg #[.int .i64 r.num, .int .i64 r.code, .int .i64 r.ser, .int .i64 r.port, .int .i64 r.time, .int .u8 r.kind, .bool r.more, .int .i64 r.key.1, .int .i64 r.key.2.1, .int .i64 r.key.2.2, y.c, y.l, y.e, y.p, y.h]] I fun v a => ∃ b, v = .bool b /\ Br (!b) (∃ c n d, Value.tuple #[.slice none 0 0, .bool false] = .tuple #[.slice c n d, .bool R] /\ (R = true -> SlM a c n 1 (List.map (Value.int .u8) W) /\ n <= d /\ d <= 9223372036854775807 /\ n <= 20000)) (Ct Try.prog (fnv 34) #[.agg #[.int .i64 r.num, .int .i64 r.code, .int .i64 r.ser, .int .i64 r.port, .int .i64 r.time, .int .u8 r.kind, .bool r.more, .int .i64 r.key.1, .int .i64 r.key.2.1, .int .i64 r.key.2.2, y.c, y.l, y.e, y.p, y.h]] a (fun c d => ∃ e n f, c = .slice e n f /\ Ct Try.prog (fnv 33) #[.slice e n f] d fun g h => ∃ i j k l, g = .tuple #[.slice i j k, .int .i64 l] /\ Br (l == 0) (∃ m o p, Value.tuple #[.slice i j k, .bool (decide ((j : Int) <= 16320))] = .tuple #[.slice m o p, .bool R] /\ (R = true -> SlM h m o 1 (List.map (Value.int .u8) W) /\ o <= p /\ p <= 9223372036854775807 /\ o <= 20000)) (∃ m o p, Value.tuple #[.slice i j k, .bool false] = .tuple #[.slice m o p, .bool R] /\ (R = true -> SlM h m o 1 (List.map (Value.int .u8) W) /\ o <= p /\ p <= 9223372036854775807 /\ o <= 20000))))) (by kernel_rfl) ?_
 refine (ct32 r hr y I hM hcn).mono fun v I1 l1 hv => ⟨_, hv, Br.mk (fun h => ?_) (fun h => ?_)⟩
 · have h : vokS r = false := by simpa using h
   have : R = false := by rw [hR, rightS, h]; rfl
   rw [this]
   exact ⟨_, _, _, rfl, fun h => by cases h⟩
 have h : vokS r = true := by simpa using h
 have hsm := vok_small h;refine (ct34 r hr hsm y I1 (hM.mono l1)).mono fun v I2 l2 ⟨a, n, c, hv, hF, hn, hc⟩ => ⟨_, _, _, hv, ?_⟩;have hl := hF.len;have hfl := fl2_len r 5;have hfe : fieldsS r = fl2 r 5 := rfl;rw [hfe] at hl
 refine (ct33 (fieldsS r) a n c I2 hF (by omega)).mono fun v I3 l3 ⟨a3, n3, c3, hv, hw, hn3, hc3⟩ => ⟨_, _, _, _, hv, Br.mk (fun g => ?_) (fun g => ?_)⟩
 · cases hrf : rightF (fieldsS r) with
   | false => rw [hrf] at g; cases g
   | true =>
     rw [hrf, if_pos rfl] at hw;have hnl := hw.numLen;have hwl := write_len hrf
     have e : R = decide ((n3 : Int) <= 16320) := by
      rw [hR, rightS, h, hrf, Bool.true_and, Bool.true_and, hnl]
      exact decide_eq_decide.2 (by omega)
     rw [e];rw [<- hW] at hw
     exact ⟨_, _, _, rfl, fun _ => ⟨hw, hn3, hc3, by omega⟩⟩
 · have : rightF (fieldsS r) = false := by
    cases hrf : rightF (fieldsS r) with
    | false => rfl
    | true => rw [hrf] at g; cases g
   have e : R = false := by rw [hR, rightS, this]; simp
   rw [e]
   exact ⟨_, _, _, rfl, fun h => by cases h⟩
theorem ct11 (r : Rs) (hr : okRs r) (y : Ys) (I : Mem) (hM : RsM I r y) (hcn : r.counts.length <= 1000000) :
 Ct Try.prog (fnv 11) #[.agg (rsV r y).toArray] I (fun v I' => v = .bool (rightS r)) := by
 obtain ⟨R, hR⟩ : ∃ R, R = rightS r := ⟨_, rfl⟩;have C := ct18 r hr y I hM hcn;rw [<- hR] at C ⊢
 refine viaR (ct_via (A := { }) Try.func11 rfl Try.call11 rfl rfl) (Ct Try.prog (fnv 18) #[.agg #[.int .i64 r.num, .int .i64 r.code, .int .i64 r.ser, .int .i64 r.port, .int .i64 r.time, .int .u8 r.kind, .bool r.more, .int .i64 r.key.1, .int .i64 r.key.2.1, .int .i64 r.key.2.2, y.c, y.l, y.e, y.p, y.h]] I fun v a => ∃ b n c d, v = .tuple #[.slice b n c, .bool d] /\ Value.bool d = .bool R) (by kernel_rfl) ?_
 exact C.mono fun v I1 l1 ⟨a, n, c, hv, _⟩ => ⟨_, _, _, _, hv, rfl⟩
theorem ct10 (r : Rs) (hr : okRs r) (y : Ys) (I : Mem) (hM : RsM I r y) (hcn : r.counts.length <= 1000000) :
 Ct Try.prog (fnv 10) #[.agg (rsV r y).toArray] I (fun v I' => ∃ a n c, v = .tuple #[.slice a n c, .int .i64 (if rightS r then 0 else 350)] /\ SlM I' a n 1 (ints .u8 (if rightS r then writeS r else [])) /\ n <= c /\ c <= maxLen /\ NewB I I' (.slice a n c)) := by
 obtain ⟨R, hR⟩ : ∃ R, R = rightS r := ⟨_, rfl⟩;have C := ct18 r hr y I hM hcn;obtain ⟨W, hW⟩ : ∃ W, W = writeF (fieldsS r) := ⟨_, rfl⟩;obtain ⟨w, hw⟩ : ∃ w, w = writeS r := ⟨_, rfl⟩;rw [<- hR, <- hW] at C;rw [<- hR, <- hw]
 refine viaR (ctF_via (A := { }) Try.func10 rfl Try.call10 rfl rfl) (Ct Try.prog (fnv 18) #[.agg #[.int .i64 r.num, .int .i64 r.code, .int .i64 r.ser, .int .i64 r.port, .int .i64 r.time, .int .u8 r.kind, .bool r.more, .int .i64 r.key.1, .int .i64 r.key.2.1, .int .i64 r.key.2.2, y.c, y.l, y.e, y.p, y.h]] I fun v a => ∃ b n c d, v = .tuple #[.slice b n c, .bool d] /\ Br (!d) (∃ e f g, Value.tuple #[.slice none 0 0, .int .i64 350] = .tuple #[.slice e f g, .int .i64 (if R = true then 0 else 350)] /\ SlM a e f 1 (List.map (Value.int .u8) (if R = true then w else ([] : List Int))) /\ f <= g /\ g <= 9223372036854775807 /\ NewB I a (.slice e f g)) (∃ e, e.length = n * 1 /\ (b = none -> n = 0) /\ (∀ (j : Nat) (f : Value), e[j]? = some f -> atI a b j = some f) /\ (∀ (f : Value), Membership.mem e f -> f.oneCell' = true) /\ (1 : Nat) = 1 /\ 1 + n <= 9223372036854775807 /\ (1 + n) * 1 <= 140737488355328 /\ ∀ (f : Option Addr) (g : Nat) (h : Mem), a.le h -> RowF a h f g 1 (.int .u8 1 :: e) 5 -> ∃ i j k, Value.tuple #[.slice f (1 + n) g, .int .i64 0] = .tuple #[.slice i j k, .int .i64 (if R = true then 0 else 350)] /\ SlM h i j 1 (List.map (Value.int .u8) (if R = true then w else ([] : List Int))) /\ j <= k /\ k <= 9223372036854775807 /\ NewB I h (.slice i j k))) (by kernel_rfl) ?_
 refine C.mono fun v I1 l1 ⟨a, n, c, hv, hs⟩ => ⟨_, _, _, _, hv, Br.mk (fun h => ?_) (fun h => ?_)⟩
 · have h : R = false := by simpa using h
   rw [h]
   exact ⟨none, 0, 0, rfl, sl_nil _ _, by omega, by omega, newB_sl (fun hc => absurd hc (by omega)) (by omega)⟩
 have h : R = true := by simpa using h
 rw [h];obtain ⟨hs, hn, hc, hn2⟩ := hs h
 refine ⟨_, hs.len, hs.nil, hs.at_, one_ints, rfl, by omega, by omega, fun a2 cp I2 l2 hrow => ?_⟩
 have hl := hs.numLen
 have e : [Value.int .u8 1] ++ ints .u8 W = ints .u8 w := by rw [hw, hW]; rfl
 have hrow : RowF I1 I2 a2 cp 1 ([Value.int .u8 1] ++ ints .u8 W) _ := hrow;rw [e] at hrow
 have hlw : w.length = 1 + n := by rw [hw, writeS, List.length_cons, <- hW]; omega
 have h1 := hrow.row.1;rw [ints_len] at h1
 exact ⟨a2, 1 + n, cp, rfl, hrow.row.sl (by omega) (by rw [ints_len]; omega), by omega, hrow.row.2.1, newB_sl (hrow.newS.anti l1) (by omega)⟩
theorem strB_inj {xs ys : List Int} (hx : byteL xs) (hy : byteL ys) (h : strB xs = strB ys) : xs = ys := by
 refine u8s_inj hx hy ?_;have := congrArg (fun s : ByteArray => s.data.toList) h;exact this
theorem eE (x z : EvT) : ((x.1.1 == z.1.1 && (x.1.2.1 == z.1.2.1 && (x.1.2.2 == z.1.2.2 && true))) && (x.2.1 == z.2.1 && (x.2.2 == z.2.2 && true))) = decide (x = z) := by
 rw [Bool.eq_iff_iff];simp [Prod.ext_iff, and_assoc]
theorem hE (x z : HdT) : (x.1 == z.1 && (x.2.1 == z.2.1 && (x.2.2.1 == z.2.2.1 && (x.2.2.2.1 == z.2.2.2.1 && (x.2.2.2.2 == z.2.2.2.2 && true))))) = decide (x = z) := by
 rw [Bool.eq_iff_iff];simp [Prod.ext_iff]
theorem pE (x z : PtT) (hx : byteL x.2.1) (hz : byteL z.2.1) : (x.1 == z.1 && ((strB x.2.1).toList == (strB z.2.1).toList && (x.2.2 == z.2.2 && true))) = decide (x = z) := by
 rw [str_eq, Bool.eq_iff_iff];simp only [Bool.and_eq_true, beq_iff_eq, decide_eq_true_eq, and_true];constructor
 · rintro ⟨h1, h2, h3⟩
   exact Prod.ext h1 (Prod.ext (strB_inj hx hz h2) h3)
 · rintro rfl; exact ⟨rfl, rfl, rfl⟩
theorem eq_len {α : Type} [DecidableEq α] {xs ys : List α} (h : xs.length ≠ ys.length) : decide (xs = ys) = false := decide_eq_false fun e => h (by rw [e])
theorem eq_at {α : Type} [DecidableEq α] {xs ys : List α} {j : Nat} {x z : α} (hx : xs[j]? = some x) (hz : ys[j]? = some z) (h : x ≠ z) : decide (xs = ys) = false := decide_eq_false fun e => h (by rw [e, hz] at hx; exact (Option.some.inj hx).symm)
theorem oneI (l : List Int) : ∀ v ∈ l.flatMap cI, v.oneCell' = true := by
 intro v hv; rw [List.mem_flatMap] at hv; obtain ⟨x, _, hx⟩ := hv; simp only [cI, List.mem_singleton] at hx; subst hx; rfl
theorem oneE (l : List EvT) : ∀ v ∈ l.flatMap cE, v.oneCell' = true := by
 intro v hv; rw [List.mem_flatMap] at hv; obtain ⟨x, _, hx⟩ := hv; simp only [cE, List.mem_cons, List.not_mem_nil, or_false] at hx
 rcases hx with rfl | rfl | rfl | rfl | rfl <;> rfl
theorem oneP (l : List PtT) : ∀ v ∈ l.flatMap cP, v.oneCell' = true := by
 intro v hv; rw [List.mem_flatMap] at hv; obtain ⟨x, _, hx⟩ := hv; simp only [cP, List.mem_cons, List.not_mem_nil, or_false] at hx
 rcases hx with rfl | rfl | rfl <;> rfl
theorem oneH (l : List HdT) : ∀ v ∈ l.flatMap cH, v.oneCell' = true := by
 intro v hv; rw [List.mem_flatMap] at hv; obtain ⟨x, _, hx⟩ := hv; simp only [cH, List.mem_cons, List.not_mem_nil, or_false] at hx
 rcases hx with rfl | rfl | rfl | rfl | rfl <;> rfl
theorem ct22 (xs ys : List Int) (a b : Option Addr) (n m c d : Nat) (I : Mem) (h : SlM I a n 1 (xs.flatMap cI)) (h' : SlM I b m 1 (ys.flatMap cI)) :
 Ct Try.prog (fnv 22) #[.slice a n c, .slice b m d] I (fun v _ => v = .bool (decide (xs = ys))) := by
 obtain ⟨D, hD⟩ : ∃ D, D = decide (xs = ys) := ⟨_, rfl⟩;rw [<- hD]
 refine viaR (ct_via (A := { loops := [(4, ⟨[(0, .keep), (1, .keep), (12, .keep), (13, .sh (.int .i64))], [], [], fun vals _ _ _ => match vals with | [.int .i64 j] => 0 <= j /\ j <= n /\ xs.take j.toNat = ys.take j.toNat | _ => False, fun vals _ => match vals with | [.int .i64 j] => (n - j).toNat | _ => 0⟩)] }) Try.func22 rfl Try.call22 rfl rfl) (Br ((n : Int) != (m : Int)) (Value.bool false = .bool D) ((Rf (SV.v (.slice a n c)) /\ Rf (SV.v (.slice b m d)) /\ Rf (SV.v (.int .i64 (n : Int))) /\ (0 : Int) <= 0 /\ 0 <= (n : Int) /\ Rf ([] : List Int)) /\ ∀ (e : Mem), Mem -> I.le e -> ∀ (f : Int), 0 <= f /\ f <= (n : Int) /\ List.take f.toNat xs = List.take f.toNat ys -> Br (decide (f < (n : Int))) (0 <= f /\ f < (n : Int) /\ a.isSome = true /\ ∃ g, atI e a (f.toNat * 1 + 0) = some (.int .i64 g) /\ 0 <= f /\ f < (m : Int) /\ b.isSome = true /\ ∃ i, atI e b (f.toNat * 1 + 0) = some (.int .i64 i) /\ Br (g != i) (Value.bool false = .bool D) (Wr .i64 (f + 1) (fun j => Rf (SV.v (.slice a n c)) /\ Rf (SV.v (.slice b m d)) /\ Rf (SV.v (.int .i64 (n : Int))) /\ (0 <= j /\ j <= (n : Int) /\ List.take j.toNat xs = List.take j.toNat ys) /\ Int.toNat ((n : Int) - j) < Int.toNat ((n : Int) - f)))) (Value.bool true = .bool D))) (by kernel_rfl) ?_
 simp only [eq_self, true_and];have hx1 := h.len;have hy1 := h'.len;have hx2 := fm_len (c := cI) (k := 1) (fun _ => rfl) xs;have hy2 := fm_len (c := cI) (k := 1) (fun _ => rfl) ys;have hm := h.max
 have hmx : maxLen = 9223372036854775807 := by decide
 have hn : n = xs.length := by omega
 have hn' : m = ys.length := by omega
 refine Br.mk (fun g => ?_) (fun g => ⟨⟨by omega, by omega, trivial⟩, fun I1 _ l1 j ⟨j0, j1, hj⟩ => Br.mk (fun hlt => ?_) (fun hge => ?_)⟩)
 · have g : (n : Int) ≠ m := by simpa using g
   rw [hD, eq_len (by omega)]
 · have hlt := of_decide_eq_true hlt
   have g : n = m := by have : (n : Int) = m := (by simpa using g); omega
   obtain ⟨x, hx, e1⟩ := lst_at (c := cI) (k := 1) (fun _ => rfl) (h.mono l1) hn j0 hlt
   obtain ⟨z, hz, e2⟩ := lst_at (c := cI) (k := 1) (fun _ => rfl) (h'.mono l1) hn' j0 (by omega)
   refine ⟨j0, hlt, h.isSome (by omega), _, e1 0 _ (by omega) rfl, j0, by omega, h'.isSome (by omega), _, e2 0 _ (by omega) rfl, ?_⟩
   skip
   refine Br.mk (fun hq => ?_) (fun hq => ?_)
   · have hq : x ≠ z := by simpa using hq
     rw [hD, eq_at hx hz hq]
   · have hq : x = z := by simpa using hq
     refine wr_i64 (by omega) (by omega) ⟨⟨by omega, by omega, ?_⟩, by omega⟩
     rw [show (j + 1).toNat = j.toNat + 1 by omega, take_succ' hx, take_succ' hz, hj, hq]
 · have hge := of_decide_eq_false hge
   have g : n = m := by have : (n : Int) = m := (by simpa using g); omega
   rw [List.take_of_length_le (by omega), List.take_of_length_le (by omega)] at hj
   rw [hD, decide_eq_true hj]
theorem ct27R (xs : List Int) (a : Option Addr) (n c : Nat) (I : Mem) (h : SlM I a n 1 (xs.flatMap cI)) (hn : n <= 1000000) :
 Ct Try.prog (fnv 27) #[.slice a n c] I (fun v I' => RowN 1 3 I I' v (xs.flatMap cI)) := by
 obtain ⟨L, hL⟩ : ∃ L, L = xs.flatMap cI := ⟨_, rfl⟩;rw [<- hL] at h ⊢
 have h1 : ∀ v ∈ L, v.oneCell' = true := by rw [hL]; exact oneI xs
 refine viaR (ctF_via (A := { }) Try.func27 rfl Try.call27 rfl rfl) (Br a.isNone (∃ b d e, Value.slice none 0 0 = .slice b d e /\ L.length = d * 1 /\ (b = none /\ d = 0 /\ e = 0 \/ RowF I I b e 1 L 3)) (∃ y, y.length = n * 1 /\ (a = none -> n = 0) /\ (∀ (j : Nat) (v : Value), y[j]? = some v -> atI I a j = some v) /\ (∀ (v : Value), Membership.mem y v -> v.oneCell' = true) /\ (0 : Nat) = 0 /\ 0 + n <= 9223372036854775807 /\ (0 + n) * 8 <= 140737488355328 /\ ∀ (b : Option Addr) (d : Nat) (e : Mem), I.le e -> RowF I e b d 1 y 3 -> ∃ f g i, Value.slice b (0 + n) d = .slice f g i /\ L.length = g * 1 /\ (f = none /\ g = 0 /\ i = 0 \/ RowF I e f i 1 L 3))) (by kernel_rfl) ?_
 refine Br.mk (fun h0 => ?_) (fun h0 => ⟨L, h.len, h.nil, h.at_, h1, rfl, by omega, by omega, fun a' cp I' _ hrow => ⟨_, n, _, by simp, by simpa using h.len, .inr hrow⟩⟩)
 · have h0 : a = none := by simpa using h0
   have hz := h.nil h0;have hl := h.len;rw [hz, Nat.zero_mul] at hl;rw [List.eq_nil_of_length_eq_zero hl];exact ⟨none, 0, 0, rfl, rfl, .inl ⟨rfl, rfl, rfl⟩⟩
theorem ct23 (xs ys : List Int) (a b : Option Addr) (n m c d : Nat) (I : Mem) (h : SlM I a n 1 (xs.flatMap cI)) (h' : SlM I b m 1 (ys.flatMap cI)) :
 Ct Try.prog (fnv 23) #[.slice a n c, .slice b m d] I (fun v _ => v = .bool (decide (xs = ys))) := by
 obtain ⟨D, hD⟩ : ∃ D, D = decide (xs = ys) := ⟨_, rfl⟩;rw [<- hD]
 refine viaR (ct_via (A := { loops := [(4, ⟨[(0, .keep), (1, .keep), (12, .keep), (13, .sh (.int .i64))], [], [], fun vals _ _ _ => match vals with | [.int .i64 j] => 0 <= j /\ j <= n /\ xs.take j.toNat = ys.take j.toNat | _ => False, fun vals _ => match vals with | [.int .i64 j] => (n - j).toNat | _ => 0⟩)] }) Try.func23 rfl Try.call23 rfl rfl) (Br ((n : Int) != (m : Int)) (Value.bool false = .bool D) ((Rf (SV.v (.slice a n c)) /\ Rf (SV.v (.slice b m d)) /\ Rf (SV.v (.int .i64 (n : Int))) /\ (0 : Int) <= 0 /\ 0 <= (n : Int) /\ Rf ([] : List Int)) /\ ∀ (e : Mem), Mem -> I.le e -> ∀ (f : Int), 0 <= f /\ f <= (n : Int) /\ List.take f.toNat xs = List.take f.toNat ys -> Br (decide (f < (n : Int))) (0 <= f /\ f < (n : Int) /\ a.isSome = true /\ ∃ g, atI e a (f.toNat * 1 + 0) = some (.int .i64 g) /\ 0 <= f /\ f < (m : Int) /\ b.isSome = true /\ ∃ i, atI e b (f.toNat * 1 + 0) = some (.int .i64 i) /\ Br (g != i) (Value.bool false = .bool D) (Wr .i64 (f + 1) (fun j => Rf (SV.v (.slice a n c)) /\ Rf (SV.v (.slice b m d)) /\ Rf (SV.v (.int .i64 (n : Int))) /\ (0 <= j /\ j <= (n : Int) /\ List.take j.toNat xs = List.take j.toNat ys) /\ Int.toNat ((n : Int) - j) < Int.toNat ((n : Int) - f)))) (Value.bool true = .bool D))) (by kernel_rfl) ?_
 simp only [eq_self, true_and];have hx1 := h.len;have hy1 := h'.len;have hx2 := fm_len (c := cI) (k := 1) (fun _ => rfl) xs;have hy2 := fm_len (c := cI) (k := 1) (fun _ => rfl) ys;have hm := h.max
 have hmx : maxLen = 9223372036854775807 := by decide
 have hn : n = xs.length := by omega
 have hn' : m = ys.length := by omega
 refine Br.mk (fun g => ?_) (fun g => ⟨⟨by omega, by omega, trivial⟩, fun I1 _ l1 j ⟨j0, j1, hj⟩ => Br.mk (fun hlt => ?_) (fun hge => ?_)⟩)
 · have g : (n : Int) ≠ m := by simpa using g
   rw [hD, eq_len (by omega)]
 · have hlt := of_decide_eq_true hlt
   have g : n = m := by have : (n : Int) = m := (by simpa using g); omega
   obtain ⟨x, hx, e1⟩ := lst_at (c := cI) (k := 1) (fun _ => rfl) (h.mono l1) hn j0 hlt
   obtain ⟨z, hz, e2⟩ := lst_at (c := cI) (k := 1) (fun _ => rfl) (h'.mono l1) hn' j0 (by omega)
   refine ⟨j0, hlt, h.isSome (by omega), _, e1 0 _ (by omega) rfl, j0, by omega, h'.isSome (by omega), _, e2 0 _ (by omega) rfl, ?_⟩
   skip
   refine Br.mk (fun hq => ?_) (fun hq => ?_)
   · have hq : x ≠ z := by simpa using hq
     rw [hD, eq_at hx hz hq]
   · have hq : x = z := by simpa using hq
     refine wr_i64 (by omega) (by omega) ⟨⟨by omega, by omega, ?_⟩, by omega⟩
     rw [show (j + 1).toNat = j.toNat + 1 by omega, take_succ' hx, take_succ' hz, hj, hq]
 · have hge := of_decide_eq_false hge
   have g : n = m := by have : (n : Int) = m := (by simpa using g); omega
   rw [List.take_of_length_le (by omega), List.take_of_length_le (by omega)] at hj
   rw [hD, decide_eq_true hj]
theorem ct28R (xs : List Int) (a : Option Addr) (n c : Nat) (I : Mem) (h : SlM I a n 1 (xs.flatMap cI)) (hn : n <= 1000000) :
 Ct Try.prog (fnv 28) #[.slice a n c] I (fun v I' => RowN 1 2 I I' v (xs.flatMap cI)) := by
 obtain ⟨L, hL⟩ : ∃ L, L = xs.flatMap cI := ⟨_, rfl⟩;rw [<- hL] at h ⊢
 have h1 : ∀ v ∈ L, v.oneCell' = true := by rw [hL]; exact oneI xs
 refine viaR (ctF_via (A := { }) Try.func28 rfl Try.call28 rfl rfl) (Br a.isNone (∃ b d e, Value.slice none 0 0 = .slice b d e /\ L.length = d * 1 /\ (b = none /\ d = 0 /\ e = 0 \/ RowF I I b e 1 L 2)) (∃ y, y.length = n * 1 /\ (a = none -> n = 0) /\ (∀ (j : Nat) (v : Value), y[j]? = some v -> atI I a j = some v) /\ (∀ (v : Value), Membership.mem y v -> v.oneCell' = true) /\ (0 : Nat) = 0 /\ 0 + n <= 9223372036854775807 /\ (0 + n) * 8 <= 140737488355328 /\ ∀ (b : Option Addr) (d : Nat) (e : Mem), I.le e -> RowF I e b d 1 y 2 -> ∃ f g i, Value.slice b (0 + n) d = .slice f g i /\ L.length = g * 1 /\ (f = none /\ g = 0 /\ i = 0 \/ RowF I e f i 1 L 2))) (by kernel_rfl) ?_
 refine Br.mk (fun h0 => ?_) (fun h0 => ⟨L, h.len, h.nil, h.at_, h1, rfl, by omega, by omega, fun a' cp I' _ hrow => ⟨_, n, _, by simp, by simpa using h.len, .inr hrow⟩⟩)
 · have h0 : a = none := by simpa using h0
   have hz := h.nil h0;have hl := h.len;rw [hz, Nat.zero_mul] at hl;rw [List.eq_nil_of_length_eq_zero hl];exact ⟨none, 0, 0, rfl, rfl, .inl ⟨rfl, rfl, rfl⟩⟩
theorem ct24 (xs ys : List EvT) (a b : Option Addr) (n m c d : Nat) (I : Mem) (h : SlM I a n 5 (xs.flatMap cE)) (h' : SlM I b m 5 (ys.flatMap cE)) :
 Ct Try.prog (fnv 24) #[.slice a n c, .slice b m d] I (fun v _ => v = .bool (decide (xs = ys))) := by
 obtain ⟨D, hD⟩ : ∃ D, D = decide (xs = ys) := ⟨_, rfl⟩;rw [<- hD]
 refine viaR (ct_via (A := { loops := [(4, ⟨[(0, .keep), (1, .keep), (12, .keep), (13, .sh (.int .i64))], [], [], fun vals _ _ _ => match vals with | [.int .i64 j] => 0 <= j /\ j <= n /\ xs.take j.toNat = ys.take j.toNat | _ => False, fun vals _ => match vals with | [.int .i64 j] => (n - j).toNat | _ => 0⟩)] }) Try.func24 rfl Try.call24 rfl rfl) (Br ((n : Int) != (m : Int)) (Value.bool false = .bool D) ((Rf (SV.v (.slice a n c)) /\ Rf (SV.v (.slice b m d)) /\ Rf (SV.v (.int .i64 (n : Int))) /\ (0 : Int) <= 0 /\ 0 <= (n : Int) /\ Rf ([] : List EvT)) /\ ∀ (e : Mem), Mem -> I.le e -> ∀ (f : Int), 0 <= f /\ f <= (n : Int) /\ List.take f.toNat xs = List.take f.toNat ys -> Br (decide (f < (n : Int))) (0 <= f /\ f < (n : Int) /\ a.isSome = true /\ (5 : Nat) = 5 /\ ∃ g, atI e a (f.toNat * 5 + 0) = some (.int .i64 g) /\ ∃ i, atI e a (f.toNat * 5 + 1) = some (.int .i64 i) /\ ∃ j, atI e a (f.toNat * 5 + 2) = some (.int .i64 j) /\ ∃ k, atI e a (f.toNat * 5 + 3) = some (.int .i64 k) /\ ∃ l, atI e a (f.toNat * 5 + 4) = some (.int .i64 l) /\ 0 <= f /\ f < (m : Int) /\ b.isSome = true /\ (5 : Nat) = 5 /\ ∃ o, atI e b (f.toNat * 5 + 0) = some (.int .i64 o) /\ ∃ p, atI e b (f.toNat * 5 + 1) = some (.int .i64 p) /\ ∃ q, atI e b (f.toNat * 5 + 2) = some (.int .i64 q) /\ ∃ r, atI e b (f.toNat * 5 + 3) = some (.int .i64 r) /\ ∃ s, atI e b (f.toNat * 5 + 4) = some (.int .i64 s) /\ Br (!((g == o && (i == p && (j == q && true))) && (k == r && (l == s && true)))) (Value.bool false = .bool D) (Wr .i64 (f + 1) (fun t => Rf (SV.v (.slice a n c)) /\ Rf (SV.v (.slice b m d)) /\ Rf (SV.v (.int .i64 (n : Int))) /\ (0 <= t /\ t <= (n : Int) /\ List.take t.toNat xs = List.take t.toNat ys) /\ Int.toNat ((n : Int) - t) < Int.toNat ((n : Int) - f)))) (Value.bool true = .bool D))) (by kernel_rfl) ?_
 simp only [eq_self, true_and];have hx1 := h.len;have hy1 := h'.len;have hx2 := fm_len (c := cE) (k := 5) (fun _ => rfl) xs;have hy2 := fm_len (c := cE) (k := 5) (fun _ => rfl) ys;have hm := h.max
 have hmx : maxLen = 9223372036854775807 := by decide
 have hn : n = xs.length := by omega
 have hn' : m = ys.length := by omega
 refine Br.mk (fun g => ?_) (fun g => ⟨⟨by omega, by omega, trivial⟩, fun I1 _ l1 j ⟨j0, j1, hj⟩ => Br.mk (fun hlt => ?_) (fun hge => ?_)⟩)
 · have g : (n : Int) ≠ m := by simpa using g
   rw [hD, eq_len (by omega)]
 · have hlt := of_decide_eq_true hlt
   have g : n = m := by have : (n : Int) = m := (by simpa using g); omega
   obtain ⟨x, hx, e1⟩ := lst_at (c := cE) (k := 5) (fun _ => rfl) (h.mono l1) hn j0 hlt
   obtain ⟨z, hz, e2⟩ := lst_at (c := cE) (k := 5) (fun _ => rfl) (h'.mono l1) hn' j0 (by omega)
   refine ⟨j0, hlt, h.isSome (by omega), _, e1 0 _ (by omega) rfl, _, e1 1 _ (by omega) rfl, _, e1 2 _ (by omega) rfl, _, e1 3 _ (by omega) rfl, _, e1 4 _ (by omega) rfl, j0, by omega, h'.isSome (by omega), _, e2 0 _ (by omega) rfl, _, e2 1 _ (by omega) rfl, _, e2 2 _ (by omega) rfl, _, e2 3 _ (by omega) rfl, _, e2 4 _ (by omega) rfl, ?_⟩
   rw [eE];refine Br.mk (fun hq => ?_) (fun hq => ?_)
   · have hq : x ≠ z := by simpa using hq
     rw [hD, eq_at hx hz hq]
   · have hq : x = z := by simpa using hq
     refine wr_i64 (by omega) (by omega) ⟨⟨by omega, by omega, ?_⟩, by omega⟩
     rw [show (j + 1).toNat = j.toNat + 1 by omega, take_succ' hx, take_succ' hz, hj, hq]
 · have hge := of_decide_eq_false hge
   have g : n = m := by have : (n : Int) = m := (by simpa using g); omega
   rw [List.take_of_length_le (by omega), List.take_of_length_le (by omega)] at hj
   rw [hD, decide_eq_true hj]
theorem ct29R (xs : List EvT) (a : Option Addr) (n c : Nat) (I : Mem) (h : SlM I a n 5 (xs.flatMap cE)) (hn : n <= 1000000) :
 Ct Try.prog (fnv 29) #[.slice a n c] I (fun v I' => RowN 5 40 I I' v (xs.flatMap cE)) := by
 obtain ⟨L, hL⟩ : ∃ L, L = xs.flatMap cE := ⟨_, rfl⟩;rw [<- hL] at h ⊢
 have h1 : ∀ v ∈ L, v.oneCell' = true := by rw [hL]; exact oneE xs
 refine viaR (ctF_via (A := { }) Try.func29 rfl Try.call29 rfl rfl) (Br a.isNone (∃ b d e, Value.slice none 0 0 = .slice b d e /\ L.length = d * 5 /\ (b = none /\ d = 0 /\ e = 0 \/ RowF I I b e 5 L 40)) (∃ y, y.length = n * 5 /\ (a = none -> n = 0) /\ (∀ (j : Nat) (v : Value), y[j]? = some v -> atI I a j = some v) /\ (∀ (v : Value), Membership.mem y v -> v.oneCell' = true) /\ (0 : Nat) = 0 /\ 0 + n <= 9223372036854775807 /\ (0 + n) * 40 <= 140737488355328 /\ ∀ (b : Option Addr) (d : Nat) (e : Mem), I.le e -> RowF I e b d 5 y 40 -> ∃ f g i, Value.slice b (0 + n) d = .slice f g i /\ L.length = g * 5 /\ (f = none /\ g = 0 /\ i = 0 \/ RowF I e f i 5 L 40))) (by kernel_rfl) ?_
 refine Br.mk (fun h0 => ?_) (fun h0 => ⟨L, h.len, h.nil, h.at_, h1, rfl, by omega, by omega, fun a' cp I' _ hrow => ⟨_, n, _, by simp, by simpa using h.len, .inr hrow⟩⟩)
 · have h0 : a = none := by simpa using h0
   have hz := h.nil h0;have hl := h.len;rw [hz, Nat.zero_mul] at hl;rw [List.eq_nil_of_length_eq_zero hl];exact ⟨none, 0, 0, rfl, rfl, .inl ⟨rfl, rfl, rfl⟩⟩
theorem ct25 (xs ys : List PtT) (hpx : ∀ x ∈ xs, byteL x.2.1) (hpy : ∀ x ∈ ys, byteL x.2.1) (a b : Option Addr) (n m c d : Nat) (I : Mem) (h : SlM I a n 3 (xs.flatMap cP)) (h' : SlM I b m 3 (ys.flatMap cP)) :
 Ct Try.prog (fnv 25) #[.slice a n c, .slice b m d] I (fun v _ => v = .bool (decide (xs = ys))) := by
 obtain ⟨D, hD⟩ : ∃ D, D = decide (xs = ys) := ⟨_, rfl⟩;rw [<- hD]
 refine viaR (ct_via (A := { loops := [(4, ⟨[(0, .keep), (1, .keep), (12, .keep), (13, .sh (.int .i64))], [], [], fun vals _ _ _ => match vals with | [.int .i64 j] => 0 <= j /\ j <= n /\ xs.take j.toNat = ys.take j.toNat | _ => False, fun vals _ => match vals with | [.int .i64 j] => (n - j).toNat | _ => 0⟩)] }) Try.func25 rfl Try.call25 rfl rfl) (Br ((n : Int) != (m : Int)) (Value.bool false = .bool D) ((Rf (SV.v (.slice a n c)) /\ Rf (SV.v (.slice b m d)) /\ Rf (SV.v (.int .i64 (n : Int))) /\ (0 : Int) <= 0 /\ 0 <= (n : Int) /\ Rf ([] : List PtT)) /\ ∀ (e : Mem), Mem -> I.le e -> ∀ (f : Int), 0 <= f /\ f <= (n : Int) /\ List.take f.toNat xs = List.take f.toNat ys -> Br (decide (f < (n : Int))) (0 <= f /\ f < (n : Int) /\ a.isSome = true /\ (3 : Nat) = 3 /\ ∃ g, atI e a (f.toNat * 3 + 0) = some (.int .i64 g) /\ ∃ q, atI e a (f.toNat * 3 + 1) = some (.string q) /\ ∃ i, atI e a (f.toNat * 3 + 2) = some (.int .i64 i) /\ 0 <= f /\ f < (m : Int) /\ b.isSome = true /\ (3 : Nat) = 3 /\ ∃ j, atI e b (f.toNat * 3 + 0) = some (.int .i64 j) /\ ∃ k, atI e b (f.toNat * 3 + 1) = some (.string k) /\ ∃ l, atI e b (f.toNat * 3 + 2) = some (.int .i64 l) /\ Br (!(g == j && (q.toList == k.toList && (i == l && true)))) (Value.bool false = .bool D) (Wr .i64 (f + 1) (fun o => Rf (SV.v (.slice a n c)) /\ Rf (SV.v (.slice b m d)) /\ Rf (SV.v (.int .i64 (n : Int))) /\ (0 <= o /\ o <= (n : Int) /\ List.take o.toNat xs = List.take o.toNat ys) /\ Int.toNat ((n : Int) - o) < Int.toNat ((n : Int) - f)))) (Value.bool true = .bool D))) (by kernel_rfl) ?_
 simp only [eq_self, true_and];have hx1 := h.len;have hy1 := h'.len;have hx2 := fm_len (c := cP) (k := 3) (fun _ => rfl) xs;have hy2 := fm_len (c := cP) (k := 3) (fun _ => rfl) ys;have hm := h.max
 have hmx : maxLen = 9223372036854775807 := by decide
 have hn : n = xs.length := by omega
 have hn' : m = ys.length := by omega
 refine Br.mk (fun g => ?_) (fun g => ⟨⟨by omega, by omega, trivial⟩, fun I1 _ l1 j ⟨j0, j1, hj⟩ => Br.mk (fun hlt => ?_) (fun hge => ?_)⟩)
 · have g : (n : Int) ≠ m := by simpa using g
   rw [hD, eq_len (by omega)]
 · have hlt := of_decide_eq_true hlt
   have g : n = m := by have : (n : Int) = m := (by simpa using g); omega
   obtain ⟨x, hx, e1⟩ := lst_at (c := cP) (k := 3) (fun _ => rfl) (h.mono l1) hn j0 hlt
   obtain ⟨z, hz, e2⟩ := lst_at (c := cP) (k := 3) (fun _ => rfl) (h'.mono l1) hn' j0 (by omega)
   refine ⟨j0, hlt, h.isSome (by omega), _, e1 0 _ (by omega) rfl, _, e1 1 _ (by omega) rfl, _, e1 2 _ (by omega) rfl, j0, by omega, h'.isSome (by omega), _, e2 0 _ (by omega) rfl, _, e2 1 _ (by omega) rfl, _, e2 2 _ (by omega) rfl, ?_⟩
   rw [pE x z (hpx x (List.mem_of_getElem? hx)) (hpy z (List.mem_of_getElem? hz))];refine Br.mk (fun hq => ?_) (fun hq => ?_)
   · have hq : x ≠ z := by simpa using hq
     rw [hD, eq_at hx hz hq]
   · have hq : x = z := by simpa using hq
     refine wr_i64 (by omega) (by omega) ⟨⟨by omega, by omega, ?_⟩, by omega⟩
     rw [show (j + 1).toNat = j.toNat + 1 by omega, take_succ' hx, take_succ' hz, hj, hq]
 · have hge := of_decide_eq_false hge
   have g : n = m := by have : (n : Int) = m := (by simpa using g); omega
   rw [List.take_of_length_le (by omega), List.take_of_length_le (by omega)] at hj
   rw [hD, decide_eq_true hj]
theorem ct30R (xs : List PtT) (a : Option Addr) (n c : Nat) (I : Mem) (h : SlM I a n 3 (xs.flatMap cP)) (hn : n <= 1000000) :
 Ct Try.prog (fnv 30) #[.slice a n c] I (fun v I' => RowN 3 43 I I' v (xs.flatMap cP)) := by
 obtain ⟨L, hL⟩ : ∃ L, L = xs.flatMap cP := ⟨_, rfl⟩;rw [<- hL] at h ⊢
 have h1 : ∀ v ∈ L, v.oneCell' = true := by rw [hL]; exact oneP xs
 refine viaR (ctF_via (A := { }) Try.func30 rfl Try.call30 rfl rfl) (Br a.isNone (∃ b d e, Value.slice none 0 0 = .slice b d e /\ L.length = d * 3 /\ (b = none /\ d = 0 /\ e = 0 \/ RowF I I b e 3 L 43)) (∃ y, y.length = n * 3 /\ (a = none -> n = 0) /\ (∀ (j : Nat) (v : Value), y[j]? = some v -> atI I a j = some v) /\ (∀ (v : Value), Membership.mem y v -> v.oneCell' = true) /\ (0 : Nat) = 0 /\ 0 + n <= 9223372036854775807 /\ (0 + n) * 32 <= 140737488355328 /\ ∀ (b : Option Addr) (d : Nat) (e : Mem), I.le e -> RowF I e b d 3 y 43 -> ∃ f g i, Value.slice b (0 + n) d = .slice f g i /\ L.length = g * 3 /\ (f = none /\ g = 0 /\ i = 0 \/ RowF I e f i 3 L 43))) (by kernel_rfl) ?_
 refine Br.mk (fun h0 => ?_) (fun h0 => ⟨L, h.len, h.nil, h.at_, h1, rfl, by omega, by omega, fun a' cp I' _ hrow => ⟨_, n, _, by simp, by simpa using h.len, .inr hrow⟩⟩)
 · have h0 : a = none := by simpa using h0
   have hz := h.nil h0;have hl := h.len;rw [hz, Nat.zero_mul] at hl;rw [List.eq_nil_of_length_eq_zero hl];exact ⟨none, 0, 0, rfl, rfl, .inl ⟨rfl, rfl, rfl⟩⟩
theorem ct26 (xs ys : List HdT) (a b : Option Addr) (n m c d : Nat) (I : Mem) (h : SlM I a n 5 (xs.flatMap cH)) (h' : SlM I b m 5 (ys.flatMap cH)) :
 Ct Try.prog (fnv 26) #[.slice a n c, .slice b m d] I (fun v _ => v = .bool (decide (xs = ys))) := by
 obtain ⟨D, hD⟩ : ∃ D, D = decide (xs = ys) := ⟨_, rfl⟩;rw [<- hD]
 refine viaR (ct_via (A := { loops := [(4, ⟨[(0, .keep), (1, .keep), (12, .keep), (13, .sh (.int .i64))], [], [], fun vals _ _ _ => match vals with | [.int .i64 j] => 0 <= j /\ j <= n /\ xs.take j.toNat = ys.take j.toNat | _ => False, fun vals _ => match vals with | [.int .i64 j] => (n - j).toNat | _ => 0⟩)] }) Try.func26 rfl Try.call26 rfl rfl) (Br ((n : Int) != (m : Int)) (Value.bool false = .bool D) ((Rf (SV.v (.slice a n c)) /\ Rf (SV.v (.slice b m d)) /\ Rf (SV.v (.int .i64 (n : Int))) /\ (0 : Int) <= 0 /\ 0 <= (n : Int) /\ Rf ([] : List HdT)) /\ ∀ (e : Mem), Mem -> I.le e -> ∀ (f : Int), 0 <= f /\ f <= (n : Int) /\ List.take f.toNat xs = List.take f.toNat ys -> Br (decide (f < (n : Int))) (0 <= f /\ f < (n : Int) /\ a.isSome = true /\ (5 : Nat) = 5 /\ ∃ g, atI e a (f.toNat * 5 + 0) = some (.int .i64 g) /\ ∃ i, atI e a (f.toNat * 5 + 1) = some (.int .i64 i) /\ ∃ j, atI e a (f.toNat * 5 + 2) = some (.int .i64 j) /\ ∃ k, atI e a (f.toNat * 5 + 3) = some (.int .i64 k) /\ ∃ l, atI e a (f.toNat * 5 + 4) = some (.int .u8 l) /\ 0 <= f /\ f < (m : Int) /\ b.isSome = true /\ (5 : Nat) = 5 /\ ∃ o, atI e b (f.toNat * 5 + 0) = some (.int .i64 o) /\ ∃ p, atI e b (f.toNat * 5 + 1) = some (.int .i64 p) /\ ∃ q, atI e b (f.toNat * 5 + 2) = some (.int .i64 q) /\ ∃ r, atI e b (f.toNat * 5 + 3) = some (.int .i64 r) /\ ∃ s, atI e b (f.toNat * 5 + 4) = some (.int .u8 s) /\ Br (!(g == o && (i == p && (j == q && (k == r && (l == s && true)))))) (Value.bool false = .bool D) (Wr .i64 (f + 1) (fun t => Rf (SV.v (.slice a n c)) /\ Rf (SV.v (.slice b m d)) /\ Rf (SV.v (.int .i64 (n : Int))) /\ (0 <= t /\ t <= (n : Int) /\ List.take t.toNat xs = List.take t.toNat ys) /\ Int.toNat ((n : Int) - t) < Int.toNat ((n : Int) - f)))) (Value.bool true = .bool D))) (by kernel_rfl) ?_
 simp only [eq_self, true_and];have hx1 := h.len;have hy1 := h'.len;have hx2 := fm_len (c := cH) (k := 5) (fun _ => rfl) xs;have hy2 := fm_len (c := cH) (k := 5) (fun _ => rfl) ys;have hm := h.max
 have hmx : maxLen = 9223372036854775807 := by decide
 have hn : n = xs.length := by omega
 have hn' : m = ys.length := by omega
 refine Br.mk (fun g => ?_) (fun g => ⟨⟨by omega, by omega, trivial⟩, fun I1 _ l1 j ⟨j0, j1, hj⟩ => Br.mk (fun hlt => ?_) (fun hge => ?_)⟩)
 · have g : (n : Int) ≠ m := by simpa using g
   rw [hD, eq_len (by omega)]
 · have hlt := of_decide_eq_true hlt
   have g : n = m := by have : (n : Int) = m := (by simpa using g); omega
   obtain ⟨x, hx, e1⟩ := lst_at (c := cH) (k := 5) (fun _ => rfl) (h.mono l1) hn j0 hlt
   obtain ⟨z, hz, e2⟩ := lst_at (c := cH) (k := 5) (fun _ => rfl) (h'.mono l1) hn' j0 (by omega)
   refine ⟨j0, hlt, h.isSome (by omega), _, e1 0 _ (by omega) rfl, _, e1 1 _ (by omega) rfl, _, e1 2 _ (by omega) rfl, _, e1 3 _ (by omega) rfl, _, e1 4 _ (by omega) rfl, j0, by omega, h'.isSome (by omega), _, e2 0 _ (by omega) rfl, _, e2 1 _ (by omega) rfl, _, e2 2 _ (by omega) rfl, _, e2 3 _ (by omega) rfl, _, e2 4 _ (by omega) rfl, ?_⟩
   rw [hE];refine Br.mk (fun hq => ?_) (fun hq => ?_)
   · have hq : x ≠ z := by simpa using hq
     rw [hD, eq_at hx hz hq]
   · have hq : x = z := by simpa using hq
     refine wr_i64 (by omega) (by omega) ⟨⟨by omega, by omega, ?_⟩, by omega⟩
     rw [show (j + 1).toNat = j.toNat + 1 by omega, take_succ' hx, take_succ' hz, hj, hq]
 · have hge := of_decide_eq_false hge
   have g : n = m := by have : (n : Int) = m := (by simpa using g); omega
   rw [List.take_of_length_le (by omega), List.take_of_length_le (by omega)] at hj
   rw [hD, decide_eq_true hj]
theorem ct31R (xs : List HdT) (a : Option Addr) (n c : Nat) (I : Mem) (h : SlM I a n 5 (xs.flatMap cH)) (hn : n <= 1000000) :
 Ct Try.prog (fnv 31) #[.slice a n c] I (fun v I' => RowN 5 46 I I' v (xs.flatMap cH)) := by
 obtain ⟨L, hL⟩ : ∃ L, L = xs.flatMap cH := ⟨_, rfl⟩;rw [<- hL] at h ⊢
 have h1 : ∀ v ∈ L, v.oneCell' = true := by rw [hL]; exact oneH xs
 refine viaR (ctF_via (A := { }) Try.func31 rfl Try.call31 rfl rfl) (Br a.isNone (∃ b d e, Value.slice none 0 0 = .slice b d e /\ L.length = d * 5 /\ (b = none /\ d = 0 /\ e = 0 \/ RowF I I b e 5 L 46)) (∃ y, y.length = n * 5 /\ (a = none -> n = 0) /\ (∀ (j : Nat) (v : Value), y[j]? = some v -> atI I a j = some v) /\ (∀ (v : Value), Membership.mem y v -> v.oneCell' = true) /\ (0 : Nat) = 0 /\ 0 + n <= 9223372036854775807 /\ (0 + n) * 40 <= 140737488355328 /\ ∀ (b : Option Addr) (d : Nat) (e : Mem), I.le e -> RowF I e b d 5 y 46 -> ∃ f g i, Value.slice b (0 + n) d = .slice f g i /\ L.length = g * 5 /\ (f = none /\ g = 0 /\ i = 0 \/ RowF I e f i 5 L 46))) (by kernel_rfl) ?_
 refine Br.mk (fun h0 => ?_) (fun h0 => ⟨L, h.len, h.nil, h.at_, h1, rfl, by omega, by omega, fun a' cp I' _ hrow => ⟨_, n, _, by simp, by simpa using h.len, .inr hrow⟩⟩)
 · have h0 : a = none := by simpa using h0
   have hz := h.nil h0;have hl := h.len;rw [hz, Nat.zero_mul] at hl;rw [List.eq_nil_of_length_eq_zero hl];exact ⟨none, 0, 0, rfl, rfl, .inl ⟨rfl, rfl, rfl⟩⟩
def sameS (r q : Rs) : Bool := decide (r.num = q.num /\ r.code = q.code /\ r.ser = q.ser /\ r.port = q.port /\ r.time = q.time /\ r.kind = q.kind /\ r.more = q.more /\ r.key = q.key /\ r.counts = q.counts /\ r.cells = q.cells /\ r.events = q.events /\ r.ports = q.ports /\ r.handles = q.handles)
theorem sameS_iff {r q : Rs} : sameS r q = true ↔ r = q := by
 rw [sameS, decide_eq_true_eq];constructor
 · rintro ⟨h1, h2, h3, h4, h5, h6, h7, h8, h9, h10, h11, h12, h13⟩
   cases r; cases q
   simp only at *
   subst h1 h2 h3 h4 h5 h6 h7 h8 h9 h10 h11 h12 h13;rfl
 · rintro rfl; simp
theorem sameS_no {r q : Rs} {P : Prop} (hp : ¬ P) (h : r = q -> P) : sameS r q = false := by
 cases hs : sameS r q with
 | false => rfl
 | true => exact absurd (h (sameS_iff.1 hs)) hp
theorem kE (a b c x y z : Int) : (a == x && (b == y && (c == z && true))) = decide ((a, b, c) = (x, y, z)) := by
 rw [Bool.eq_iff_iff]; simp
set_option maxHeartbeats 1000000 in
theorem ct13 (r q : Rs) (hr : okRs r) (hq : okRs q) (y z : Ys) (I : Mem) (hM : RsM I r y) (hM' : RsM I q z) :
 Ct Try.prog (fnv 13) #[.agg (rsV r y).toArray, .agg (rsV q z).toArray] I (fun v _ => v = .bool (sameS r q)) := by
 obtain ⟨⟨ac, nc, cc, h1, hc, _⟩, ⟨al, nl, cl, h2, hl, _⟩, ⟨ae, ne, ce, h3, he, _⟩, ⟨ap, np, cp, h4, hp, _⟩, ⟨ah, nh, ch, h5, hh, _⟩⟩ := hM;obtain ⟨⟨bc, mc, dc, g1, kc, _⟩, ⟨bl, ml, dl, g2, kl, _⟩, ⟨be, me, de, g3, ke, _⟩, ⟨bp, mp, dp, g4, kp, _⟩, ⟨bh, mh, dh, g5, kh, _⟩⟩ := hM';obtain ⟨yc, yl, ye, yp, yh⟩ := y;obtain ⟨zc, zl, ze, zp, zh⟩ := z;subst h1 h2 h3 h4 h5 g1 g2 g3 g4 g5;obtain ⟨D, hD⟩ : ∃ D, D = sameS r q := ⟨_, rfl⟩;rw [<- hD]
 refine viaR (ct_via (A := { }) Try.func13 rfl Try.call13 rfl rfl) (Br (r.num != q.num) (Value.bool false = .bool D) (Br (r.code != q.code) (Value.bool false = .bool D) (Br (r.ser != q.ser) (Value.bool false = .bool D) (Br (r.port != q.port) (Value.bool false = .bool D) (Br (r.time != q.time) (Value.bool false = .bool D) (Br (r.kind != q.kind) (Value.bool false = .bool D) (Br (!(r.more == q.more)) (Value.bool false = .bool D) (Br (!(r.key.1 == q.key.1 && (r.key.2.1 == q.key.2.1 && (r.key.2.2 == q.key.2.2 && true)))) (Value.bool false = .bool D) (Ct Try.prog (fnv 22) #[.slice ac nc cc, .slice bc mc dc] I (fun v a => ∃ b, v = .bool b /\ Br b (Ct Try.prog (fnv 23) #[.slice al nl cl, .slice bl ml dl] a (fun c d => ∃ e, c = .bool e /\ Br e (Ct Try.prog (fnv 24) #[.slice ae ne ce, .slice be me de] d (fun f g => ∃ h, f = .bool h /\ Br h (Ct Try.prog (fnv 25) #[.slice ap np cp, .slice bp mp dp] g (fun i j => ∃ k, i = .bool k /\ Br k (Ct Try.prog (fnv 26) #[.slice ah nh ch, .slice bh mh dh] j (fun l m => ∃ n, l = .bool n /\ Value.bool n = .bool D)) (Value.bool false = .bool D))) (Value.bool false = .bool D))) (Value.bool false = .bool D))) (Value.bool false = .bool D))))))))))) (by kernel_rfl) ?_
 rw [kE]
 have NO : ∀ {P : Prop}, ¬ P -> (r = q -> P) -> Value.bool false = Value.bool D := fun h1 h2 => by rw [hD, sameS_no h1 h2]
 refine Br.mk (fun h => NO (P := r.num = q.num) (by simpa using h) (fun e => by rw [e])) (fun f1 => Br.mk (fun h => NO (P := r.code = q.code) (by simpa using h) (fun e => by rw [e])) (fun f2 => Br.mk (fun h => NO (P := r.ser = q.ser) (by simpa using h) (fun e => by rw [e])) (fun f3 => Br.mk (fun h => NO (P := r.port = q.port) (by simpa using h) (fun e => by rw [e])) (fun f4 => Br.mk (fun h => NO (P := r.time = q.time) (by simpa using h) (fun e => by rw [e])) (fun f5 => Br.mk (fun h => NO (P := r.kind = q.kind) (by simpa using h) (fun e => by rw [e])) (fun f6 => Br.mk (fun h => NO (P := r.more = q.more) (by simpa using h) (fun e => by rw [e])) (fun f7 => Br.mk (fun h => NO (P := (r.key.1, r.key.2.1, r.key.2.2) = (q.key.1, q.key.2.1, q.key.2.2)) (fun e => by rw [decide_eq_true e] at h; cases h) (fun e => by rw [e])) (fun f8 => ?_))))))))
 refine (ct22 r.counts q.counts ac bc nc mc cc dc I hc kc).mono fun v I1 l1 hv => ⟨_, hv, Br.mk (fun f9 => ?_) (fun h => NO (of_decide_eq_false h) (fun e => by rw [e]))⟩
 refine (ct23 r.cells q.cells al bl nl ml cl dl I1 (hl.mono l1) (kl.mono l1)).mono fun v I2 l2 hv => ⟨_, hv, Br.mk (fun f10 => ?_) (fun h => NO (of_decide_eq_false h) (fun e => by rw [e]))⟩
 have i2 := Mem.le_trans l1 l2
 refine (ct24 r.events q.events ae be ne me ce de I2 (he.mono i2) (ke.mono i2)).mono fun v I3 l3 hv => ⟨_, hv, Br.mk (fun f11 => ?_) (fun h => NO (of_decide_eq_false h) (fun e => by rw [e]))⟩
 have i3 := Mem.le_trans i2 l3
 refine (ct25 r.ports q.ports (fun x hx => (hr.ports x hx).2.1) (fun x hx => (hq.ports x hx).2.1) ap bp np mp cp dp I3 (hp.mono i3) (kp.mono i3)).mono fun v I4 l4 hv => ⟨_, hv, Br.mk (fun f12 => ?_) (fun h => NO (of_decide_eq_false h) (fun e => by rw [e]))⟩
 have i4 := Mem.le_trans i3 l4;refine (ct26 r.handles q.handles ah bh nh mh ch dh I4 (hh.mono i4) (kh.mono i4)).mono fun v I5 l5 hv => ⟨_, hv, ?_⟩;rw [hD, sameS]
 congr 1
 apply decide_eq_decide.2
 have e8 : r.key = q.key := by
  have : (r.key.1, r.key.2.1, r.key.2.2) = (q.key.1, q.key.2.1, q.key.2.2) := by simpa using f8
  exact this
 exact ⟨fun f13 => ⟨by simpa using f1, by simpa using f2, by simpa using f3, by simpa using f4, by simpa using f5, by simpa using f6, by simpa using f7, e8, of_decide_eq_true f9, of_decide_eq_true f10, of_decide_eq_true f11, of_decide_eq_true f12, f13⟩, fun h => h.2.2.2.2.2.2.2.2.2.2.2.2⟩
theorem i64_wrapR (x : Int) : i64R (IntKind.i64.wrap x) := by
 rw [IntKind.wrap_i64];unfold i64R;omega
theorem u8_wrapR (x : Int) : 0 <= IntKind.u8.wrap x /\ IntKind.u8.wrap x <= 255 := by
 rw [IntKind.wrap_u8]; omega
theorem unfold_range {y : Int} (h : 0 <= y /\ y <= 18446744073709551615) : i64R (unfoldZ y) := by
 unfold unfoldZ i64R
 split <;> omega
theorem numQ_R (s : RS) : i64R (numQ s).1 := i64_wrapR _
theorem runAll_all {α : Type} {take : RS -> α × RS} {Q : α -> Prop} (h : ∀ s : RS, byteL s.1 -> Q (take s).1 /\ byteL (take s).2.1) : ∀ (k : Nat) (s : RS), byteL s.1 -> ∀ x ∈ (runAll take k s).1, Q x
 | 0, s, _, x, hx => by cases hx
 | k + 1, s, hb, x, hx => by
   rw [runAll] at hx
   split at hx
   · cases hx
   · rcases List.mem_cons.1 hx with rfl | hx
     · exact (h s hb).1
     · exact runAll_all h k _ (h s hb).2 x hx
theorem keyQ_R (s : RS) : i64R (keyQ s).1.1 /\ i64R (keyQ s).1.2.1 /\ i64R (keyQ s).1.2.2 := ⟨numQ_R _, numQ_R _, numQ_R _⟩
theorem ev_all (s : RS) (hb : byteL s.1) : ((i64R (evQ s).1.1.1 /\ i64R (evQ s).1.1.2.1 /\ i64R (evQ s).1.1.2.2) /\ i64R (evQ s).1.2.1 /\ i64R (evQ s).1.2.2) /\ byteL (evQ s).2.1 := by
 obtain ⟨_, b1, _⟩ := key_len hb;obtain ⟨_, b2, _⟩ := num_len b1;obtain ⟨_, b3, _⟩ := next_len b2;exact ⟨⟨keyQ_R s, numQ_R _, unfold_range (nextR_range b2)⟩, b3⟩
theorem sz_bytes {s : RS} (hb : byteL s.1) : byteL (szQ s).2.1 := by
 obtain ⟨_, b1, _⟩ := num_len hb;obtain ⟨_, b2, _⟩ := num_len b1;exact (num_len b2).2.1
theorem port_all (s : RS) (hb : byteL s.1) : (i64R (portQ s).1.1 /\ byteL (portQ s).1.2.1 /\ i64R (portQ s).1.2.2) /\ byteL (portQ s).2.1 := by
 have hz := sz_bytes hb;unfold portQ;split
 · exact ⟨⟨by simp [i64R], (fun z hz => by cases hz), by simp [i64R]⟩, hz⟩
 · exact ⟨⟨numQ_R _, fun z h => hz z (List.mem_of_mem_take h), numQ_R _⟩, fun z h => hz z (List.mem_of_mem_drop h)⟩
theorem hd_all (s : RS) (hb : byteL s.1) : ((i64R (hdQ s).1.1 /\ i64R (hdQ s).1.2.1 /\ i64R (hdQ s).1.2.2.1 /\ i64R (hdQ s).1.2.2.2.1) /\ 0 <= (hdQ s).1.2.2.2.2 /\ (hdQ s).1.2.2.2.2 <= 255) /\ byteL (hdQ s).2.1 := by
 obtain ⟨_, a2, _⟩ := num_len hb;obtain ⟨s1, h1⟩ : ∃ s1, (numQ s).2 = s1 := ⟨_, rfl⟩;rw [h1] at a2;obtain ⟨_, b2, _⟩ := num_len a2;obtain ⟨s2, h2⟩ : ∃ s2, (numQ s1).2 = s2 := ⟨_, rfl⟩;rw [h2] at b2;obtain ⟨_, c2, _⟩ := num_len b2;obtain ⟨s3, h3⟩ : ∃ s3, (numQ s2).2 = s3 := ⟨_, rfl⟩;rw [h3] at c2;obtain ⟨_, d2, _⟩ := num_len c2;obtain ⟨s4, h4⟩ : ∃ s4, (numQ s3).2 = s4 := ⟨_, rfl⟩;rw [h4] at d2;obtain ⟨_, e2, _⟩ := num_len d2;rw [hd_rest h1 h2 h3 h4];refine ⟨?_, e2⟩;rw [hd_eq, h1, h2, h3, h4];exact ⟨⟨numQ_R _, numQ_R _, numQ_R _, numQ_R _⟩, u8_wrapR _⟩
theorem val_all (s : RS) (hb : byteL s.1) : i64R (valQ s).1 /\ byteL (valQ s).2.1 := ⟨unfold_range (nextR_range hb), (next_len hb).2.1⟩
theorem num_all (s : RS) (hb : byteL s.1) : i64R (numQ s).1 /\ byteL (numQ s).2.1 := ⟨numQ_R s, (num_len hb).2.1⟩
theorem ok_take {r : Rs} (h : okRs r) (t : Int) {bs : List Int} (hb : byteL bs) : okRs (takeS r t bs).1 := by
 have hn := numQ_R (bs, false);have hk := keyQ_R (bs, false);have hu := u8_wrapR (imin (numQ (bs, false)).1 255);have h9 := runAll_all num_all bs.length (bs, false) hb;have h10 := runAll_all val_all bs.length (bs, false) hb;have h11 := runAll_all (Q := fun (x : EvT) => (i64R x.1.1 /\ i64R x.1.2.1 /\ i64R x.1.2.2) /\ i64R x.2.1 /\ i64R x.2.2) ev_all bs.length (bs, false) hb;have h12 := runAll_all (Q := fun (x : PtT) => i64R x.1 /\ byteL x.2.1 /\ i64R x.2.2) port_all bs.length (bs, false) hb
 have h13 := runAll_all (Q := fun (x : HdT) => (i64R x.1 /\ i64R x.2.1 /\ i64R x.2.2.1 /\ i64R x.2.2.2.1) /\ 0 <= x.2.2.2.2 /\ x.2.2.2.2 <= 255) hd_all bs.length (bs, false) hb;obtain ⟨a1, a2, a3, a4, a5, a6, a7, a8, a9, a10, a11, a12⟩ := h;rw [takeS]
 by_cases e1 : t = 1
 · rw [if_pos e1]; constructor <;> assumption
 rw [if_neg e1]
 by_cases e2 : t = 2
 · rw [if_pos e2]; constructor <;> assumption
 rw [if_neg e2]
 by_cases e3 : t = 3
 · rw [if_pos e3]; constructor <;> assumption
 rw [if_neg e3]
 by_cases e4 : t = 4
 · rw [if_pos e4]; constructor <;> assumption
 rw [if_neg e4]
 by_cases e5 : t = 5
 · rw [if_pos e5]; constructor <;> assumption
 rw [if_neg e5]
 by_cases e6 : t = 6
 · rw [if_pos e6]; constructor <;> assumption
 rw [if_neg e6]
 by_cases e7 : t = 7
 · rw [if_pos e7]; constructor <;> assumption
 rw [if_neg e7]
 by_cases e8 : t = 8
 · rw [if_pos e8]; constructor <;> assumption
 rw [if_neg e8]
 by_cases e9 : t = 9
 · rw [if_pos e9]; constructor <;> assumption
 rw [if_neg e9]
 by_cases e10 : t = 10
 · rw [if_pos e10]; constructor <;> assumption
 rw [if_neg e10]
 by_cases e11 : t = 11
 · rw [if_pos e11]; constructor <;> assumption
 rw [if_neg e11]
 by_cases e12 : t = 12
 · rw [if_pos e12]; constructor <;> assumption
 rw [if_neg e12]
 by_cases e13 : t = 13
 · rw [if_pos e13]; constructor <;> assumption
 rw [if_neg e13]
 constructor <;> assumption
theorem counts_take {r : Rs} {B : Nat} (h : r.counts.length <= B) (t : Int) {bs : List Int} (hb : bs.length <= B) : (takeS r t bs).1.counts.length <= B := by
 have := runAll_len (take := numQ) bs.length (bs, false);rw [takeS]
 by_cases e1 : t = 1
 · rw [if_pos e1]; first | exact h | exact Nat.le_trans this hb
 rw [if_neg e1]
 by_cases e2 : t = 2
 · rw [if_pos e2]; first | exact h | exact Nat.le_trans this hb
 rw [if_neg e2]
 by_cases e3 : t = 3
 · rw [if_pos e3]; first | exact h | exact Nat.le_trans this hb
 rw [if_neg e3]
 by_cases e4 : t = 4
 · rw [if_pos e4]; first | exact h | exact Nat.le_trans this hb
 rw [if_neg e4]
 by_cases e5 : t = 5
 · rw [if_pos e5]; first | exact h | exact Nat.le_trans this hb
 rw [if_neg e5]
 by_cases e6 : t = 6
 · rw [if_pos e6]; first | exact h | exact Nat.le_trans this hb
 rw [if_neg e6]
 by_cases e7 : t = 7
 · rw [if_pos e7]; first | exact h | exact Nat.le_trans this hb
 rw [if_neg e7]
 by_cases e8 : t = 8
 · rw [if_pos e8]; first | exact h | exact Nat.le_trans this hb
 rw [if_neg e8]
 by_cases e9 : t = 9
 · rw [if_pos e9]; first | exact h | exact Nat.le_trans this hb
 rw [if_neg e9]
 by_cases e10 : t = 10
 · rw [if_pos e10]; first | exact h | exact Nat.le_trans this hb
 rw [if_neg e10]
 by_cases e11 : t = 11
 · rw [if_pos e11]; first | exact h | exact Nat.le_trans this hb
 rw [if_neg e11]
 by_cases e12 : t = 12
 · rw [if_pos e12]; first | exact h | exact Nat.le_trans this hb
 rw [if_neg e12]
 by_cases e13 : t = 13
 · rw [if_pos e13]; first | exact h | exact Nat.le_trans this hb
 rw [if_neg e13];exact h
def zeroRs : Rs := { num := 0, code := 0, ser := 0, port := 0, time := 0, kind := 0, more := false, key := (0, 0, 0), counts := [], cells := [], events := [], ports := [], handles := [] }
def nilY : Ys := ⟨.slice none 0 0, .slice none 0 0, .slice none 0 0, .slice none 0 0, .slice none 0 0⟩
theorem zero_ok : okRs zeroRs := by
 refine ⟨?_, ?_, ?_, ?_, ?_, ?_, ?_, ?_, ?_, ?_, ?_, ?_⟩
 all_goals simp [zeroRs, i64R]
theorem lst_nil (sz : Nat) (I : Mem) : LstM sz I (.slice none 0 0) [] := ⟨none, 0, 0, rfl, sl_nil _ _, Nat.le_refl 0, Nat.zero_le _⟩
theorem zero_M (I : Mem) : RsM I zeroRs nilY := ⟨lst_nil 1 I, lst_nil 1 I, lst_nil 5 I, lst_nil 3 I, lst_nil 5 I⟩
theorem newL_nil (sz : Nat) (I I' : Mem) : NewL sz I I' (.slice none 0 0) := fun a n c h => by cases h; exact fun hc => absurd hc (by omega)
theorem zero_N (I I' : Mem) : NewY I I' nilY := ⟨newL_nil 1 I I', newL_nil 1 I I', newL_nil 5 I I', newL_nil 3 I I', newL_nil 5 I I'⟩
def runTS (r : Rs) : List (Int × List Int) -> Rs × Bool
 | [] => (r, true)
 | f :: l => if okS (takeS r f.1 f.2).2 then runTS (takeS r f.1 f.2).1 l else (r, false)
def flS (bs : List Int) : List (Int × List Int) := (readF (bs.drop 1)).1
def runS (bs : List Int) : Rs × Bool := runTS zeroRs (flS bs)
def accS (bs : List Int) : Bool := decide (1 <= bs.length) && (decide (bs[0]? = some 1) && (decide ((readF (bs.drop 1)).2.2 = 0) && ((runS bs).2 && (rightS (runS bs).1 && decide (writeS (runS bs).1 = bs)))))
def readS (bs : List Int) : Rs × Int := if accS bs then ((runS bs).1, 0) else (zeroRs, 351)
def ReadP (bs : List Int) (I I' : Mem) (v : Value) : Prop := ∃ y, v = .tuple #[.agg (rsV (readS bs).1 y).toArray, .int .i64 (readS bs).2] /\ RsM I' (readS bs).1 y /\ NewY I I' y
theorem cs_agg {P : Program} {fv : SV} {x : SV} {a b : Value} {H : List Ent} {I : Mem} {post : SV -> List Ent -> Mem -> Prop} (h : CtS P fv [x, .v (.agg #[a, b])] H I post) : CtS P fv [x, .agg [.v a, .v b]] H I post :=
 fun e hp hO => h e hp hO
def cellsE : List RSh := [.sh (.int .i64), .sh (.int .i64), .sh (.int .i64), .sh (.int .i64), .sh (.int .i64), .sh (.int .u8), .sh .bool, .sh (.int .i64), .sh (.int .i64), .sh (.int .i64), .sh .sl, .sh .sl, .sh .sl, .sh .sl, .sh .sl]
def cellsA : List TA := [.sh (.int .i64), .sh (.int .i64), .sh (.int .i64), .sh (.int .i64), .sh (.int .i64), .sh (.int .u8), .sh .bool, .sh (.int .i64), .sh (.int .i64), .sh (.int .i64), .sh .sl, .sh .sl, .sh .sl, .sh .sl, .sh .sl]
def cB (x : Int) : List Value := [.int .u8 x]
theorem fm_u8 {l : List Int} : l.flatMap cB = ints .u8 l := by
 induction l with
 | nil => rfl
 | cons x r ih => rw [List.flatMap_cons, ih]; rfl
theorem ct21 (xs ys : List Int) (a b : Option Addr) (n m c d : Nat) (I : Mem) (h : SlM I a n 1 (xs.flatMap cB)) (h' : SlM I b m 1 (ys.flatMap cB)) :
 Ct Try.prog (fnv 21) #[.slice a n c, .slice b m d] I (fun v _ => v = .bool (decide (xs = ys))) := by
 obtain ⟨D, hD⟩ : ∃ D, D = decide (xs = ys) := ⟨_, rfl⟩;rw [<- hD]
 refine viaR (ct_via (A := { loops := [(4, ⟨[(0, .keep), (1, .keep), (12, .keep), (13, .sh (.int .i64))], [], [], fun vals _ _ _ => match vals with | [.int .i64 j] => 0 <= j /\ j <= n /\ xs.take j.toNat = ys.take j.toNat | _ => False, fun vals _ => match vals with | [.int .i64 j] => (n - j).toNat | _ => 0⟩)] }) Try.func21 rfl Try.call21 rfl rfl) (Br ((n : Int) != (m : Int)) (Value.bool false = .bool D) ((Rf (SV.v (.slice a n c)) /\ Rf (SV.v (.slice b m d)) /\ Rf (SV.v (.int .i64 (n : Int))) /\ (0 : Int) <= 0 /\ 0 <= (n : Int) /\ Rf ([] : List Int)) /\ ∀ (e : Mem), Mem -> I.le e -> ∀ (f : Int), 0 <= f /\ f <= (n : Int) /\ List.take f.toNat xs = List.take f.toNat ys -> Br (decide (f < (n : Int))) (0 <= f /\ f < (n : Int) /\ a.isSome = true /\ ∃ g, atI e a (f.toNat * 1 + 0) = some (.int .u8 g) /\ 0 <= f /\ f < (m : Int) /\ b.isSome = true /\ ∃ i, atI e b (f.toNat * 1 + 0) = some (.int .u8 i) /\ Br (g != i) (Value.bool false = .bool D) (Wr .i64 (f + 1) (fun j => Rf (SV.v (.slice a n c)) /\ Rf (SV.v (.slice b m d)) /\ Rf (SV.v (.int .i64 (n : Int))) /\ (0 <= j /\ j <= (n : Int) /\ List.take j.toNat xs = List.take j.toNat ys) /\ Int.toNat ((n : Int) - j) < Int.toNat ((n : Int) - f)))) (Value.bool true = .bool D))) (by kernel_rfl) ?_
 simp only [eq_self, true_and];have hx1 := h.len;have hy1 := h'.len;have hx2 := fm_len (c := cB) (k := 1) (fun _ => rfl) xs;have hy2 := fm_len (c := cB) (k := 1) (fun _ => rfl) ys;have hm := h.max
 have hmx : maxLen = 9223372036854775807 := by decide
 have hn : n = xs.length := by omega
 have hn' : m = ys.length := by omega
 refine Br.mk (fun g => ?_) (fun g => ⟨⟨by omega, by omega, trivial⟩, fun I1 _ l1 j ⟨j0, j1, hj⟩ => Br.mk (fun hlt => ?_) (fun hge => ?_)⟩)
 · have g : (n : Int) ≠ m := by simpa using g
   rw [hD, eq_len (by omega)]
 · have hlt := of_decide_eq_true hlt
   have g : n = m := by have : (n : Int) = m := (by simpa using g); omega
   obtain ⟨x, hx, e1⟩ := lst_at (c := cB) (k := 1) (fun _ => rfl) (h.mono l1) hn j0 hlt
   obtain ⟨z, hz, e2⟩ := lst_at (c := cB) (k := 1) (fun _ => rfl) (h'.mono l1) hn' j0 (by omega)
   refine ⟨j0, hlt, h.isSome (by omega), _, e1 0 _ (by omega) rfl, j0, by omega, h'.isSome (by omega), _, e2 0 _ (by omega) rfl, ?_⟩
   skip
   refine Br.mk (fun hq => ?_) (fun hq => ?_)
   · have hq : x ≠ z := by simpa using hq
     rw [hD, eq_at hx hz hq]
   · have hq : x = z := by simpa using hq
     refine wr_i64 (by omega) (by omega) ⟨⟨by omega, by omega, ?_⟩, by omega⟩
     rw [show (j + 1).toNat = j.toNat + 1 by omega, take_succ' hx, take_succ' hz, hj, hq]
 · have hge := of_decide_eq_false hge
   have g : n = m := by have : (n : Int) = m := (by simpa using g); omega
   rw [List.take_of_length_le (by omega), List.take_of_length_le (by omega)] at hj
   rw [hD, decide_eq_true hj]
set_option maxHeartbeats 2000000 in
theorem ct12 (bs : List Int) (hbs : byteL bs) (a : Option Addr) (n c : Nat) (I : Mem) (h : SlM I a n 1 (ints .u8 bs)) (hn : n <= 1000000) (hc : n <= c) (hm : c <= maxLen) :
 Ct Try.prog (fnv 12) #[.slice a n c] I (fun v I' => ReadP bs I I' v) := by
 refine viaR (ctF_via (A := { calls := [(38, .lend [1] (.sh .bool) [.cells cellsE 37])], loops := [(8, ⟨[(0, .keep), (2, .keep), (7, .keep), (31, .keep), (32, .keep), (33, .sh (.int .i64))], [(0, .keep), (1, .cells cellsA)], [], fun vals _ I' _ => match vals with | .int .i64 j :: cs => 0 <= j /\ j <= (flS bs).length /\ ∃ r y, cs = rsV r y /\ okRs r /\ r.counts.length <= 1000000 /\ RsM I' r y /\ NewY I I' y /\ runS bs = runTS r ((flS bs).drop j.toNat) | _ => False, fun vals _ => match vals with | .int .i64 j :: cs => ((flS bs).length - j).toNat | _ => 0⟩)] }) Try.func12 rfl Try.call12 rfl rfl) (let E1 := Ent.mk (.cells [.v (.int .i64 0), .v (.int .i64 0), .v (.int .i64 0), .v (.int .i64 0), .v (.int .i64 0), .v (.int .u8 0), .v (.bool false), .v (.int .i64 0), .v (.int .i64 0), .v (.int .i64 0), .v (.slice none 0 0), .v (.slice none 0 0), .v (.slice none 0 0), .v (.slice none 0 0), .v (.slice none 0 0)] 37) none
  Br (decide ((n : Int) < 1)) (ReadP bs I I (.tuple #[.agg #[.int .i64 0, .int .i64 0, .int .i64 0, .int .i64 0, .int .i64 0, .int .u8 0, .bool false, .int .i64 0, .int .i64 0, .int .i64 0, .slice none 0 0, .slice none 0 0, .slice none 0 0, .slice none 0 0, .slice none 0 0], .int .i64 351])) ((0 : Int) <= 0 /\ 0 < (n : Int) /\ a.isSome = true /\ ∃ b, atI I a 0 = some (.int .u8 b) /\ Br (b != 1) (ReadP bs I I (.tuple #[.agg #[.int .i64 0, .int .i64 0, .int .i64 0, .int .i64 0, .int .i64 0, .int .u8 0, .bool false, .int .i64 0, .int .i64 0, .int .i64 0, .slice none 0 0, .slice none 0 0, .slice none 0 0, .slice none 0 0, .slice none 0 0], .int .i64 351])) ((0 : Int) <= 1 /\ 1 <= (n : Int) /\ Ct Try.prog (fnv 19) #[.slice (sladdr a c 1 1) (n - 1) (c - 1)] I fun v d => ∃ e f g i j, v = .tuple #[.slice e f g, .int .i64 i, .int .i64 j] /\ Br (j != 0) (ReadP bs I d (.tuple #[.agg #[.int .i64 0, .int .i64 0, .int .i64 0, .int .i64 0, .int .i64 0, .int .u8 0, .bool false, .int .i64 0, .int .i64 0, .int .i64 0, .slice none 0 0, .slice none 0 0, .slice none 0 0, .slice none 0 0, .slice none 0 0], .int .i64 351])) ((Rf E1 /\ Rf (SV.v (.slice a n c)) /\ Rf (SV.ptr 0 0) /\ Rf (SV.ptr 1 0) /\ Rf (SV.v (.slice e f g)) /\ Rf (SV.v (.int .i64 (f : Int))) /\ Rf (none : Option Nat) /\ (0 : Int) <= 0 /\ 0 <= ((flS bs).length : Int) /\ ∃ r y, [Value.int .i64 0, .int .i64 0, .int .i64 0, .int .i64 0, .int .i64 0, .int .u8 0, .bool false, .int .i64 0, .int .i64 0, .int .i64 0, .slice none 0 0, .slice none 0 0, .slice none 0 0, .slice none 0 0, .slice none 0 0] = [.int .i64 r.num, .int .i64 r.code, .int .i64 r.ser, .int .i64 r.port, .int .i64 r.time, .int .u8 r.kind, .bool r.more, .int .i64 r.key.1, .int .i64 r.key.2.1, .int .i64 r.key.2.2, y.c, y.l, y.e, y.p, y.h] /\ okRs r /\ r.counts.length <= 1000000 /\ RsM d r y /\ NewY I d y /\ runS bs = runTS r (List.drop 0 (flS bs))) /\ ∀ (k : Mem), Mem -> d.le k -> ∀ (l m o p q r s : Int) (t : Bool) (u w x : Int) (y : Option Addr) (z c1 : Nat) (a1 : Option Addr) (n1 c2 : Nat) (a2 : Option Addr) (n2 c3 : Nat) (a3 : Option Addr) (n3 c4 : Nat) (a4 : Option Addr) (n4 c5 : Nat), 0 <= l /\ l <= ((flS bs).length : Int) /\ (∃ r1 y1, [Value.int .i64 m, .int .i64 o, .int .i64 p, .int .i64 q, .int .i64 r, .int .u8 s, .bool t, .int .i64 u, .int .i64 w, .int .i64 x, .slice y z c1, .slice a1 n1 c2, .slice a2 n2 c3, .slice a3 n3 c4, .slice a4 n4 c5] = [.int .i64 r1.num, .int .i64 r1.code, .int .i64 r1.ser, .int .i64 r1.port, .int .i64 r1.time, .int .u8 r1.kind, .bool r1.more, .int .i64 r1.key.1, .int .i64 r1.key.2.1, .int .i64 r1.key.2.2, y1.c, y1.l, y1.e, y1.p, y1.h] /\ okRs r1 /\ r1.counts.length <= 1000000 /\ RsM k r1 y1 /\ NewY I k y1 /\ runS bs = runTS r1 (List.drop l.toNat (flS bs))) -> Br (decide (l < (f : Int))) (0 <= l /\ l < (f : Int) /\ e.isSome = true /\ (2 : Nat) = 2 /\ ∃ n5, atI k e (l.toNat * 2 + 0) = some (.int .i64 n5) /\ ∃ a5 n6 c6, atI k e (l.toNat * 2 + 1) = some (.slice a5 n6 c6) /\ ∀ (b1 : Nat), CtS Try.prog (.v (fnv 20)) [.ptr 0 0, .agg [.v (.int .i64 n5), .v (.slice a5 n6 c6)]] [⟨.cells [.v (.int .i64 m), .v (.int .i64 o), .v (.int .i64 p), .v (.int .i64 q), .v (.int .i64 r), .v (.int .u8 s), .v (.bool t), .v (.int .i64 u), .v (.int .i64 w), .v (.int .i64 x), .v (.slice y z c1), .v (.slice a1 n1 c2), .v (.slice a2 n2 c3), .v (.slice a3 n3 c4), .v (.slice a4 n4 c5)] 37, some b1⟩] k fun s1 H I1 => ∃ b2 n7 n8 n9 n10 n11 n12 b3 n13 n14 n15 a6 n16 c7 a7 n17 c8 a8 n18 c9 a9 n19 c10 a10 n20 c11, s1 = .v (.bool b2) /\ H = [⟨.cells [.v (.int .i64 n7), .v (.int .i64 n8), .v (.int .i64 n9), .v (.int .i64 n10), .v (.int .i64 n11), .v (.int .u8 n12), .v (.bool b3), .v (.int .i64 n13), .v (.int .i64 n14), .v (.int .i64 n15), .v (.slice a6 n16 c7), .v (.slice a7 n17 c8), .v (.slice a8 n18 c9), .v (.slice a9 n19 c10), .v (.slice a10 n20 c11)] 37, some b1⟩] /\ Br (!b2) (ReadP bs I I1 (.tuple #[.agg #[.int .i64 0, .int .i64 0, .int .i64 0, .int .i64 0, .int .i64 0, .int .u8 0, .bool false, .int .i64 0, .int .i64 0, .int .i64 0, .slice none 0 0, .slice none 0 0, .slice none 0 0, .slice none 0 0, .slice none 0 0], .int .i64 351])) (Wr .i64 (l + 1) (fun c12 => Rf E1 /\ Rf (SV.v (.slice a n c)) /\ Rf (SV.ptr 0 0) /\ Rf (SV.ptr 1 0) /\ Rf (SV.v (.slice e f g)) /\ Rf (SV.v (.int .i64 (f : Int))) /\ (0 <= c12 /\ c12 <= ((flS bs).length : Int) /\ ∃ r1 y1, [Value.int .i64 n7, .int .i64 n8, .int .i64 n9, .int .i64 n10, .int .i64 n11, .int .u8 n12, .bool b3, .int .i64 n13, .int .i64 n14, .int .i64 n15, .slice a6 n16 c7, .slice a7 n17 c8, .slice a8 n18 c9, .slice a9 n19 c10, .slice a10 n20 c11] = [.int .i64 r1.num, .int .i64 r1.code, .int .i64 r1.ser, .int .i64 r1.port, .int .i64 r1.time, .int .u8 r1.kind, .bool r1.more, .int .i64 r1.key.1, .int .i64 r1.key.2.1, .int .i64 r1.key.2.2, y1.c, y1.l, y1.e, y1.p, y1.h] /\ okRs r1 /\ r1.counts.length <= 1000000 /\ RsM I1 r1 y1 /\ NewY I I1 y1 /\ runS bs = runTS r1 (List.drop c12.toNat (flS bs))) /\ Int.toNat (((flS bs).length : Int) - c12) < Int.toNat (((flS bs).length : Int) - l)))) (Ct Try.prog (fnv 10) #[.agg #[.int .i64 m, .int .i64 o, .int .i64 p, .int .i64 q, .int .i64 r, .int .u8 s, .bool t, .int .i64 u, .int .i64 w, .int .i64 x, .slice y z c1, .slice a1 n1 c2, .slice a2 n2 c3, .slice a3 n3 c4, .slice a4 n4 c5]] k (fun v1 I1 => ∃ a5 n5 c6 n6, v1 = .tuple #[.slice a5 n5 c6, .int .i64 n6] /\ Br (n6 != 0) (ReadP bs I I1 (.tuple #[.agg #[.int .i64 0, .int .i64 0, .int .i64 0, .int .i64 0, .int .i64 0, .int .u8 0, .bool false, .int .i64 0, .int .i64 0, .int .i64 0, .slice none 0 0, .slice none 0 0, .slice none 0 0, .slice none 0 0, .slice none 0 0], .int .i64 351])) (Ct Try.prog (fnv 21) #[.slice a5 n5 c6, .slice a n c] I1 (fun v2 I2 => ∃ b1, v2 = .bool b1 /\ Br (!b1) (ReadP bs I I2 (.tuple #[.agg #[.int .i64 0, .int .i64 0, .int .i64 0, .int .i64 0, .int .i64 0, .int .u8 0, .bool false, .int .i64 0, .int .i64 0, .int .i64 0, .slice none 0 0, .slice none 0 0, .slice none 0 0, .slice none 0 0, .slice none 0 0], .int .i64 351])) (ReadP bs I I2 (.tuple #[.agg #[.int .i64 m, .int .i64 o, .int .i64 p, .int .i64 q, .int .i64 r, .int .u8 s, .bool t, .int .i64 u, .int .i64 w, .int .i64 x, .slice y z c1, .slice a1 n1 c2, .slice a2 n2 c3, .slice a3 n3 c4, .slice a4 n4 c5], .int .i64 0])))))))))) (by kernel_rfl) ?_
 intro E1;simp only [eq_self, true_and]
 have hmx : maxLen = 9223372036854775807 := by decide
 have hln := h.numLen
 have Z : ∀ {J : Mem}, accS bs = false -> ReadP bs I J (.tuple #[.agg (rsV zeroRs nilY).toArray, .int .i64 351]) := fun {J} hz => by
  have : readS bs = (zeroRs, 351) := by rw [readS, hz]; rfl
  refine ⟨nilY, ?_, ?_, zero_N _ _⟩
  · rw [this]
  · rw [this]; exact zero_M J
 refine Br.mk (fun h1 => Z ?_) (fun h1 => ?_)
 · have h1 := of_decide_eq_true h1
   rw [accS, decide_eq_false (by omega)]; rfl
 have h1 := of_decide_eq_false h1
 obtain ⟨x0, hx0, e0⟩ := h.intAt (i := 0) (by omega) (by omega)
 have hx0 : bs[0]? = some x0 := hx0
 refine ⟨by omega, by omega, h.isSome (by omega), x0, e0, Br.mk (fun h2 => Z ?_) (fun h2 => ?_)⟩
 · have h2 : x0 ≠ 1 := by simpa using h2
   rw [accS, hx0, decide_eq_false (p := some x0 = some 1) (fun hc => h2 (Option.some.inj hc)), Bool.false_and, Bool.and_false]
 have h2 : x0 = 1 := by simpa using h2
 have hsub := sl_sub h (f := 1) (t := n) (by omega) (by omega) hc
 rw [List.take_of_length_le (by rw [List.length_drop]; omega)] at hsub
 have hbd : byteL (bs.drop 1) := fun z hz => hbs z (List.mem_of_mem_drop hz)
 refine ⟨by omega, by omega, (ct19 (bs.drop 1) hbd _ (n - 1) (c - 1) I hsub (by omega) (by omega) (by omega)).mono fun v I1 l1 ⟨a1, n1, c1, hv, hF, hn1, hc1⟩ => ⟨_, _, _, _, _, hv, Br.mk (fun h3 => Z ?_) (fun h3 => ?_)⟩⟩
 · have h3 : (readF (bs.drop 1)).2.2 ≠ 0 := by simpa using h3
   rw [accS, decide_eq_false (p := (readF (bs.drop 1)).2.2 = 0) h3]
   simp
 have h3 : (readF (bs.drop 1)).2.2 = 0 := by simpa using h3
 have hacc : accS bs = ((runS bs).2 && (rightS (runS bs).1 && decide (writeS (runS bs).1 = bs))) := by
  rw [accS, hx0, h2, decide_eq_true (p := 1 <= bs.length) (by omega), h3]; simp
 have hF : FldM I1 a1 n1 (flS bs) := hF;have hlen := hF.len
 have hle : ∀ f ∈ flS bs, f.2.length <= 16384 := by
  rcases read_cases (bs.drop 1) hbd with ⟨_, _, hr, _⟩ | ⟨hr, _⟩
  · intro f hf
    have := right_at (rightF_iff.1 hr).1 f hf;omega
  · intro f hf
    have : flS bs = [] := hr
    rw [this] at hf; cases hf
 refine ⟨⟨by omega, by omega, zeroRs, nilY, rfl, zero_ok, by simp [zeroRs], zero_M I1, zero_N I I1, rfl⟩, fun I2 _ l2 j y0 y1 y2 y3 y4 y5 y6 y7 y8 y9 ac nc cc al nl cl ae ne ce ap np cp ah nh ch ⟨j0, j1, r, y, heq, okr, hcr, hM, hN, hrun⟩ => ?_⟩
 obtain ⟨yc, yl, ye, yp, yh⟩ := y;simp only [List.cons.injEq, Value.int.injEq, Value.bool.injEq, true_and, and_true] at heq;obtain ⟨rfl, rfl, rfl, rfl, rfl, rfl, rfl, rfl, rfl, rfl, rfl, rfl, rfl, rfl, rfl⟩ := heq;refine Br.mk (fun hlt => ?_) (fun hge => ?_)
 · have hlt := of_decide_eq_true hlt
   obtain ⟨f, b, m, c', hf, hokf, e2, e3, hfs, hm1, hm2⟩ := (hF.mono l2).at_ j0 hlt;have hfm := List.mem_of_getElem? hf;have hml := hfs.numLen;have hf16 := hle f hfm;rw [drop_cons hf, runTS] at hrun
   refine ⟨j0, hlt, hF.isSome (by omega), _, e2, _, _, _, e3, fun kb => ?_⟩
   refine (cs_agg (cs20 f.1 kb r ⟨_, _, _, _, _⟩ f.2 hokf.2 b m c' I I2 hfs hm1 hm2 (by omega))).mono fun sv H' I3 l3 ⟨y', hv, hH, hM', hN'⟩ => ?_
   have hM3 := hM' hM;have hN3 := hN' hN (Mem.le_trans l1 l2);have okr' := ok_take okr f.1 hokf.2
   have hcr' := counts_take hcr f.1 (bs := f.2) (by omega)
   obtain ⟨⟨a5, n5, c5, q1, _⟩, ⟨a6, n6, c6, q2, _⟩, ⟨a7, n7, c7, q3, _⟩, ⟨a8, n8, c8, q4, _⟩, ⟨a9, n9, c9, q5, _⟩⟩ := id hM3;obtain ⟨zc, zl, ze, zp, zh⟩ := y'
   simp only at q1 q2 q3 q4 q5
   subst q1 q2 q3 q4 q5;generalize (takeS r f.1 f.2).1 = r' at *;refine ⟨_, _, _, _, _, _, _, _, _, _, _, _, _, _, _, _, _, _, _, _, _, _, _, _, _, _, hv, hH, Br.mk (fun hb => Z ?_) (fun hb => ?_)⟩
   · have hb : okS (takeS r f.1 f.2).2 = false := by simpa using hb
     rw [if_neg (by rw [hb]; simp)] at hrun
     rw [hacc, hrun]; rfl
   · have hb : okS (takeS r f.1 f.2).2 = true := by simpa using hb
     rw [if_pos hb] at hrun
     refine wr_i64 (by omega) (by omega) ⟨⟨by omega, by omega, r', ⟨_, _, _, _, _⟩, rfl, okr', hcr', hM3, hN3, ?_⟩, by omega⟩
     rw [show (j + 1).toNat = j.toNat + 1 by omega]; exact hrun
 · have hge := of_decide_eq_false hge
   rw [List.drop_eq_nil_of_le (by omega), runTS] at hrun
   rw [hrun, Bool.true_and] at hacc;refine (ct10 r okr _ I2 hM hcr).mono fun v I3 l3 ⟨a3, n3, c3, hv, hs3, hn3, hc3, _⟩ => ⟨_, _, _, _, hv, Br.mk (fun hb => Z ?_) (fun hb => ?_)⟩
   · have hb : rightS r = false := by
      cases hrr : rightS r with
      | false => rfl
      | true => rw [hrr] at hb; cases hb
     rw [hacc, hb]; rfl
   · have hb : rightS r = true := by
      cases hrr : rightS r with
      | true => rfl
      | false => rw [hrr] at hb; cases hb
     rw [hb, if_pos rfl] at hs3;rw [hb, Bool.true_and] at hacc;have hI := h.mono (Mem.le_trans l1 (Mem.le_trans l2 l3));rw [<- fm_u8] at hs3 hI;refine (ct21 (writeS r) bs a3 a n3 n c3 c I3 hs3 hI).mono fun v I4 l4 hv => ⟨_, hv, Br.mk (fun hq => Z ?_) (fun hq => ?_)⟩
     · rw [hacc]; simpa using hq
     · have hq : decide (writeS r = bs) = true := by simpa using hq
       rw [hq] at hacc
       have hR : readS bs = (r, 0) := by rw [readS, hacc, if_pos rfl, hrun]
       refine ⟨⟨_, _, _, _, _⟩, ?_, ?_, hN.mono (Mem.le_trans l3 l4)⟩
       · rw [hR]; rfl
       · rw [hR]; exact hM.mono (Mem.le_trans l3 l4)
def e1 : Rs := { zeroRs with num := 1, kind := 6, time := 5 }
def e2 : Rs := { zeroRs with num := 300, code := 341 }
def e3 : Rs := { zeroRs with num := 1, cells := [-1] }
theorem ok_e : okRs e1 /\ okRs e2 /\ okRs e3 := by
 refine ⟨?_, ?_, ?_⟩
 all_goals constructor
 all_goals first
  | (intro z hz; cases hz; done)
  | (intro z hz; rw [List.mem_singleton.1 hz]; simp [i64R])
  | (simp [e1, e2, e3, zeroRs, i64R])
theorem f300 : formN 300 = [248, 1, 44] := by simp [formN, digN, be]
theorem f341 : formN 341 = [248, 1, 85] := by simp [formN, digN, be]
theorem fields_e2 : fieldsS e2 = [(1, [248, 1, 44]), (3, [248, 1, 85])] := by
 have h1 : fN 1 300 = (1, [248, 1, 44]) := by
  show (1, formN (IntKind.u64.wrap 300).toNat) = _
  rw [show (IntKind.u64.wrap 300).toNat = 300 by decide, f300]
 have h2 : fN 3 341 = (3, [248, 1, 85]) := by
  show (3, formN (IntKind.u64.wrap 341).toNat) = _
  rw [show (IntKind.u64.wrap 341).toNat = 341 by decide, f341]
 have : fieldsS e2 = [fN 1 300, fN 3 341] := rfl;rw [this, h1, h2]
theorem fields_e1 : fieldsS e1 = [(1, [1]), (2, [6]), (6, [5])] := by decide +kernel
theorem fields_e3 : fieldsS e3 = [(1, [1]), (10, [1])] := by decide +kernel
theorem vok_e : vokS e1 = true /\ vokS e2 = true /\ vokS e3 = true := by decide +kernel
theorem right_e : rightS e1 = true /\ rightS e2 = true /\ rightS e3 = true := by
 obtain ⟨h1, h2, h3⟩ := vok_e;rw [rightS, rightS, rightS, h1, h2, h3, fields_e1, fields_e2, fields_e3]
 decide +kernel
theorem write_e : writeS e1 = [1, 1, 1, 1, 2, 1, 6, 6, 1, 5] /\ writeS e2 = [1, 1, 3, 248, 1, 44, 3, 3, 248, 1, 85] /\ writeS e3 = [1, 1, 1, 1, 10, 1, 1] := by
 rw [writeS, writeS, writeS, fields_e1, fields_e2, fields_e3]
 decide +kernel
theorem acc_no {bs : List Int} (h : (runS bs).2 = false \/ rightS (runS bs).1 = false \/ writeS (runS bs).1 ≠ bs) : accS bs = false := by
 rw [accS]
 rcases h with h | h | h
 · rw [h]; simp
 · rw [h]; simp
 · rw [decide_eq_false (p := writeS _ = _) h]; simp
theorem n1 : accS [1] = false := by
 have h : flS [1] = [] := by show (readF []).1 = []; simp [readF, yields, goF]
 refine acc_no (.inr (.inl ?_))
 rw [runS, h]; decide +kernel
theorem n2 : accS [1, 1, 1, 0] = false := by
 have h : flS [1, 1, 1, 0] = [(1, [0])] := by show (readF [1, 1, 0]).1 = _; simp [readF, yields, fstep, intN, readN, goF]
 refine acc_no (.inr (.inl ?_))
 rw [runS, h]; decide +kernel
theorem n3 : accS [2, 1, 1, 1] = false := by
 rw [accS]; simp
theorem n4 : accS [1, 1, 1, 1, 2, 1, 0] = false := by
 have h : flS [1, 1, 1, 1, 2, 1, 0] = [(1, [1]), (2, [0])] := by show (readF [1, 1, 1, 2, 1, 0]).1 = _; simp [readF, yields, fstep, intN, readN, goF]
 refine acc_no (.inr (.inr ?_))
 rw [runS, h]; decide +kernel
theorem n5 : accS [1, 1, 1, 1, 7, 1, 0] = false := by
 have h : flS [1, 1, 1, 1, 7, 1, 0] = [(1, [1]), (7, [0])] := by show (readF [1, 1, 1, 7, 1, 0]).1 = _; simp [readF, yields, fstep, intN, readN, goF]
 refine acc_no (.inl ?_)
 rw [runS, h]; decide +kernel
theorem bysl_lit {I : Mem} {b n : Nat} {cs : Array Value} {el : TypeId} {bs : List Int} (h : I b = some (.cells cs el)) (hx : cs = (ints .u8 bs).toArray) (hn : n = bs.length) (hm : n <= 100) : SlM I (some ⟨b, 0, none⟩) n 1 (ints .u8 bs) := by
 subst hx
 have := sl_cells (n := n) (sz := 1) h (by simp [ints]; omega) (by simp only [maxLen]; omega)
 simpa using this
theorem ex_step (e : Rs) (hok : okRs e) (y : Ys) (hc : e.counts.length <= 1000000) (hr : rightS e = true) (form : List Int) (hw : writeS e = form) (hf : byteL form) (J : Mem) (hM : RsM J e y) (b : Option Addr) (m c : Nat) (hs : SlM J b m 1 (ints .u8 form)) (Q : Prop) (hq : Q) :
 Ct Try.prog (fnv 10) #[.agg (rsV e y).toArray] J (fun v I' => ∃ a n_13 c_1 n_14, v = Value.tuple #[Value.slice a n_13 c_1, Value.int .i64 n_14] /\ Br (n_14 != 0) (Value.bool false = Value.bool true) (Ct Try.prog (fnv 14) #[Value.slice a n_13 c_1, Value.slice b m c] I' fun v I' => ∃ b, v = Value.bool b /\ Br (!b) (Value.bool false = Value.bool true) Q)) := by
 refine (ct10 e hok y J hM hc).mono fun v I1 l1 ⟨a, n, c', hv, h1, h2, h3, _⟩ => ⟨_, _, _, _, hv, ?_⟩;rw [hr, if_pos rfl, hw] at h1;rw [hr]
 exact Br.f rfl ((ct14 form form hf hf a b n c' m c I1 h1 (hs.mono l1)).mono fun v I2 l2 hv => ⟨_, hv, Br.f (by simp) hq⟩)
theorem no_step (bs : List Int) (hb : byteL bs) (hno : accS bs = false) (J : Mem) (b : Option Addr) (m : Nat) (hm : m <= 100) (hs : SlM J b m 1 (ints .u8 bs)) (Q : Mem -> Prop) (hq : ∀ J', J.le J' -> Q J') :
 Ct Try.prog (fnv 12) #[.slice b m m] J (fun v I' => ∃ n_2 n_3 n_4 n_5 n_6 n_7 b n_8 n_9 n_10 a n_11 c a_1 n_12 c_1 a_2 n_13 c_2 a_3 n_14 c_3 a_4 n_15 c_4 n_16, v = Value.tuple #[Value.agg #[Value.int IntKind.i64 n_2, Value.int IntKind.i64 n_3, Value.int IntKind.i64 n_4, Value.int IntKind.i64 n_5, Value.int IntKind.i64 n_6, Value.int IntKind.u8 n_7, Value.bool b, Value.int IntKind.i64 n_8, Value.int IntKind.i64 n_9, Value.int IntKind.i64 n_10, Value.slice a n_11 c, Value.slice a_1 n_12 c_1, Value.slice a_2 n_13 c_2, Value.slice a_3 n_14 c_3, Value.slice a_4 n_15 c_4], Value.int IntKind.i64 n_16] /\ Br (n_16 != 351) (Value.bool false = Value.bool true) (Q I')) := by
 refine (ct12 bs hb b m m J hs (by omega) (by omega) (by simp only [maxLen]; omega)).mono fun v I1 l1 ⟨y, hv, hM, _⟩ => ?_
 obtain ⟨⟨_, _, _, h1, _⟩, ⟨_, _, _, h2, _⟩, ⟨_, _, _, h3, _⟩, ⟨_, _, _, h4, _⟩, ⟨_, _, _, h5, _⟩⟩ := hM;obtain ⟨yc, yl, ye, yp, yh⟩ := y;subst h1 h2 h3 h4 h5
 have hr : readS bs = (zeroRs, 351) := by rw [readS, hno]; rfl
 rw [hr] at hv;exact ⟨_, _, _, _, _, _, _, _, _, _, _, _, _, _, _, _, _, _, _, _, _, _, _, _, _, _, hv, Br.f rfl (hq I1 l1)⟩
theorem ct8 (I : Mem) : Ct Try.prog (fnv 8) #[] I (fun v I' => v = .bool true) := by
 refine viaR (ct_via (A := { befores := [(2, [4]), (9, [10])], loops := [(2, ⟨[(19, .keep), (20, .keep), (21, .sh (.int .i64))], [], [], fun vals _ _ _ => match vals with | [.int .i64 j] => 0 <= j /\ j <= 3 | _ => False, fun vals _ => match vals with | [.int .i64 j] => (3 - j).toNat | _ => 0⟩), (9, ⟨[(46, .keep), (47, .keep), (48, .sh (.int .i64))], [], [], fun vals _ _ _ => match vals with | [.int .i64 j] => 0 <= j /\ j <= 5 | _ => False, fun vals _ => match vals with | [.int .i64 j] => (5 - j).toNat | _ => 0⟩)] }) Try.func8 rfl Try.call8 rfl rfl) (∀ (b : Nat) (a : Mem), I.le a -> a b = some (.cells #[.int .u8 1, .int .u8 1, .int .u8 1, .int .u8 1, .int .u8 2, .int .u8 1, .int .u8 6, .int .u8 6, .int .u8 1, .int .u8 5] 5 (0, 0)) -> ∀ (c : Nat) (d : Mem), a.le d -> d c = some (.cells #[.int .u8 1, .int .u8 1, .int .u8 3, .int .u8 248, .int .u8 1, .int .u8 44, .int .u8 3, .int .u8 3, .int .u8 248, .int .u8 1, .int .u8 85] 5 (0, 0)) -> ∀ (e : Nat) (f : Mem), d.le f -> f e = some (.cells #[.int .i64 (-1)] 2 (0, 0)) -> ∀ (g : Nat) (h : Mem), f.le h -> h g = some (.cells #[.int .u8 1, .int .u8 1, .int .u8 1, .int .u8 1, .int .u8 10, .int .u8 1, .int .u8 1] 5 (0, 0)) -> ∀ (i : Nat) (j : Mem), h.le j -> j i = some (.cells #[.int .i64 1, .int .i64 0, .int .i64 0, .int .i64 0, .int .i64 5, .int .u8 6, .bool false, .int .i64 0, .int .i64 0, .int .i64 0, .slice none 0 0, .slice none 0 0, .slice none 0 0, .slice none 0 0, .slice none 0 0, .slice (some ⟨b, 0, none⟩) 10 10, .int .i64 300, .int .i64 341, .int .i64 0, .int .i64 0, .int .i64 0, .int .u8 0, .bool false, .int .i64 0, .int .i64 0, .int .i64 0, .slice none 0 0, .slice none 0 0, .slice none 0 0, .slice none 0 0, .slice none 0 0, .slice (some ⟨c, 0, none⟩) 11 11, .int .i64 1, .int .i64 0, .int .i64 0, .int .i64 0, .int .i64 0, .int .u8 0, .bool false, .int .i64 0, .int .i64 0, .int .i64 0, .slice none 0 0, .slice (some ⟨e, 0, none⟩) 1 1, .slice none 0 0, .slice none 0 0, .slice none 0 0, .slice (some ⟨g, 0, none⟩) 7 7] 67 (0, 0)) -> (Rf (SV.v (.slice (some ⟨i, 0, none⟩) 3 3)) /\ Rf (SV.v (.int .i64 3)) /\ (0 : Int) <= 0 /\ (0 : Int) <= 3) /\ ∀ (k : Mem), Mem -> j.le k -> ∀ (n : Int), 0 <= n /\ n <= 3 -> Br (decide (n < 3)) (0 <= n /\ n < 3 /\ true = true /\ (16 : Nat) = 16 /\ ∃ l, atI k (some ⟨i, 0, none⟩) (n.toNat * 16 + 0) = some (.int .i64 l) /\ ∃ m, atI k (some ⟨i, 0, none⟩) (n.toNat * 16 + 1) = some (.int .i64 m) /\ ∃ o, atI k (some ⟨i, 0, none⟩) (n.toNat * 16 + 2) = some (.int .i64 o) /\ ∃ p, atI k (some ⟨i, 0, none⟩) (n.toNat * 16 + 3) = some (.int .i64 p) /\ ∃ q, atI k (some ⟨i, 0, none⟩) (n.toNat * 16 + 4) = some (.int .i64 q) /\ ∃ r, atI k (some ⟨i, 0, none⟩) (n.toNat * 16 + 5) = some (.int .u8 r) /\ ∃ s, atI k (some ⟨i, 0, none⟩) (n.toNat * 16 + 6) = some (.bool s) /\ ∃ t, atI k (some ⟨i, 0, none⟩) (n.toNat * 16 + 7) = some (.int .i64 t) /\ ∃ u, atI k (some ⟨i, 0, none⟩) (n.toNat * 16 + 8) = some (.int .i64 u) /\ ∃ v, atI k (some ⟨i, 0, none⟩) (n.toNat * 16 + 9) = some (.int .i64 v) /\ ∃ w x y, atI k (some ⟨i, 0, none⟩) (n.toNat * 16 + 10) = some (.slice w x y) /\ ∃ z n1 c1, atI k (some ⟨i, 0, none⟩) (n.toNat * 16 + 11) = some (.slice z n1 c1) /\ ∃ a1 n2 c2, atI k (some ⟨i, 0, none⟩) (n.toNat * 16 + 12) = some (.slice a1 n2 c2) /\ ∃ a2 n3 c3, atI k (some ⟨i, 0, none⟩) (n.toNat * 16 + 13) = some (.slice a2 n3 c3) /\ ∃ a3 n4 c4, atI k (some ⟨i, 0, none⟩) (n.toNat * 16 + 14) = some (.slice a3 n4 c4) /\ ∃ a4 n5 c5, atI k (some ⟨i, 0, none⟩) (n.toNat * 16 + 15) = some (.slice a4 n5 c5) /\ Ct Try.prog (fnv 10) #[.agg #[.int .i64 l, .int .i64 m, .int .i64 o, .int .i64 p, .int .i64 q, .int .u8 r, .bool s, .int .i64 t, .int .i64 u, .int .i64 v, .slice w x y, .slice z n1 c1, .slice a1 n2 c2, .slice a2 n3 c3, .slice a3 n4 c4]] k fun v1 I1 => ∃ a5 n6 c6 n7, v1 = .tuple #[.slice a5 n6 c6, .int .i64 n7] /\ Br (n7 != 0) (Value.bool false = .bool true) (Ct Try.prog (fnv 14) #[.slice a5 n6 c6, .slice a4 n5 c5] I1 (fun v2 I2 => ∃ b1, v2 = .bool b1 /\ Br (!b1) (Value.bool false = .bool true) (Wr .i64 (n + 1) (fun c7 => Rf (SV.v (.slice (some ⟨i, 0, none⟩) 3 3)) /\ Rf (SV.v (.int .i64 3)) /\ (0 <= c7 /\ c7 <= 3) /\ Int.toNat (3 - c7) < Int.toNat (3 - n)))))) (∀ (l : Nat) (m : Mem), k.le m -> m l = some (.cells #[.int .u8 1] 5 (0, 0)) -> ∀ (o : Nat) (p : Mem), m.le p -> p o = some (.cells #[.int .u8 1, .int .u8 1, .int .u8 1, .int .u8 0] 5 (0, 0)) -> ∀ (q : Nat) (r : Mem), p.le r -> r q = some (.cells #[.int .u8 2, .int .u8 1, .int .u8 1, .int .u8 1] 5 (0, 0)) -> ∀ (s : Nat) (t : Mem), r.le t -> t s = some (.cells #[.int .u8 1, .int .u8 1, .int .u8 1, .int .u8 1, .int .u8 2, .int .u8 1, .int .u8 0] 5 (0, 0)) -> ∀ (u : Nat) (v : Mem), t.le v -> v u = some (.cells #[.int .u8 1, .int .u8 1, .int .u8 1, .int .u8 1, .int .u8 7, .int .u8 1, .int .u8 0] 5 (0, 0)) -> ∀ (w : Nat) (x : Mem), v.le x -> x w = some (.cells #[.slice (some ⟨l, 0, none⟩) 1 1, .slice (some ⟨o, 0, none⟩) 4 4, .slice (some ⟨q, 0, none⟩) 4 4, .slice (some ⟨s, 0, none⟩) 7 7, .slice (some ⟨u, 0, none⟩) 7 7] 47 (0, 0)) -> (Rf (SV.v (.slice (some ⟨w, 0, none⟩) 5 5)) /\ Rf (SV.v (.int .i64 5)) /\ (0 : Int) <= 0 /\ (0 : Int) <= 5) /\ ∀ (y : Mem), Mem -> x.le y -> ∀ (z : Int), 0 <= z /\ z <= 5 -> Br (decide (z < 5)) (0 <= z /\ z < 5 /\ true = true /\ ∃ a1 n1 c1, atI y (some ⟨w, 0, none⟩) (z.toNat * 1 + 0) = some (.slice a1 n1 c1) /\ Ct Try.prog (fnv 12) #[.slice a1 n1 c1] y fun v1 I1 => ∃ n2 n3 n4 n5 n6 n7 b1 n8 n9 n10 a2 n11 c2 a3 n12 c3 a4 n13 c4 a5 n14 c5 a6 n15 c6 n16, v1 = .tuple #[.agg #[.int .i64 n2, .int .i64 n3, .int .i64 n4, .int .i64 n5, .int .i64 n6, .int .u8 n7, .bool b1, .int .i64 n8, .int .i64 n9, .int .i64 n10, .slice a2 n11 c2, .slice a3 n12 c3, .slice a4 n13 c4, .slice a5 n14 c5, .slice a6 n15 c6], .int .i64 n16] /\ Br (n16 != 351) (Value.bool false = .bool true) (Wr .i64 (z + 1) (fun c7 => Rf (SV.v (.slice (some ⟨w, 0, none⟩) 5 5)) /\ Rf (SV.v (.int .i64 5)) /\ (0 <= c7 /\ c7 <= 5) /\ Int.toNat (5 - c7) < Int.toNat (5 - z)))) (Rf (Value.bool true)))) (by kernel_rfl) ?_
 simp only [eq_self, true_and];intro b1 I1 l1 bh1 b2 I2 l2 bh2 b3 I3 l3 bh3 b4 I4 l4 bh4 b5 I5 l5 bh5;obtain ⟨o1, o2, o3⟩ := ok_e;obtain ⟨r1, r2, r3⟩ := right_e;obtain ⟨w1, w2, w3⟩ := write_e
 refine ⟨⟨by omega, by omega⟩, fun I6 _ l6 n ⟨n0, nn⟩ => Br.mk (fun hlt => ?_) (fun hge => ?_)⟩
 · have hlt := of_decide_eq_true hlt
   have m5 := l6;have m4 := Mem.le_trans l5 m5;have m3 := Mem.le_trans l4 m4;have m2 := Mem.le_trans l3 m3;have m1 := Mem.le_trans l2 m2;have g5 := m5 _ _ bh5;have g4 := m4 _ _ bh4;have g3 := m3 _ _ bh3;have g2 := m2 _ _ bh2;have g1 := m1 _ _ bh1;refine ⟨n0, hlt, ?_⟩
   rcases (by omega : n = 0 \/ n = 1 \/ n = 2) with rfl | rfl | rfl
   · refine ⟨_, atC g5 rfl, _, atC g5 rfl, _, atC g5 rfl, _, atC g5 rfl, _, atC g5 rfl, _, atC g5 rfl, _, atC g5 rfl, _, atC g5 rfl, _, atC g5 rfl, _, atC g5 rfl, _, _, _, atC g5 rfl, _, _, _, atC g5 rfl, _, _, _, atC g5 rfl, _, _, _, atC g5 rfl, _, _, _, atC g5 rfl, _, _, _, atC g5 rfl, ?_⟩
     exact ex_step e1 o1 nilY (by decide) r1 [1, 1, 1, 1, 2, 1, 6, 6, 1, 5] w1 (by simp [byteL]) I6 ⟨lst_nil 1 _, lst_nil 1 _, lst_nil 5 _, lst_nil 3 _, lst_nil 5 _⟩ _ _ _ (bysl_lit g1 rfl rfl (by decide)) _ (wr_i64 (by omega) (by omega) ⟨⟨by omega, by omega⟩, by omega⟩)
   · refine ⟨_, atC g5 rfl, _, atC g5 rfl, _, atC g5 rfl, _, atC g5 rfl, _, atC g5 rfl, _, atC g5 rfl, _, atC g5 rfl, _, atC g5 rfl, _, atC g5 rfl, _, atC g5 rfl, _, _, _, atC g5 rfl, _, _, _, atC g5 rfl, _, _, _, atC g5 rfl, _, _, _, atC g5 rfl, _, _, _, atC g5 rfl, _, _, _, atC g5 rfl, ?_⟩
     exact ex_step e2 o2 nilY (by decide) r2 [1, 1, 3, 248, 1, 44, 3, 3, 248, 1, 85] w2 (by simp [byteL]) I6 ⟨lst_nil 1 _, lst_nil 1 _, lst_nil 5 _, lst_nil 3 _, lst_nil 5 _⟩ _ _ _ (bysl_lit g2 rfl rfl (by decide)) _ (wr_i64 (by omega) (by omega) ⟨⟨by omega, by omega⟩, by omega⟩)
   · refine ⟨_, atC g5 rfl, _, atC g5 rfl, _, atC g5 rfl, _, atC g5 rfl, _, atC g5 rfl, _, atC g5 rfl, _, atC g5 rfl, _, atC g5 rfl, _, atC g5 rfl, _, atC g5 rfl, _, _, _, atC g5 rfl, _, _, _, atC g5 rfl, _, _, _, atC g5 rfl, _, _, _, atC g5 rfl, _, _, _, atC g5 rfl, _, _, _, atC g5 rfl, ?_⟩
     exact ex_step e3 o3 ⟨.slice none 0 0, .slice (some ⟨b3, 0, none⟩) 1 1, .slice none 0 0, .slice none 0 0, .slice none 0 0⟩ (by decide) r3 [1, 1, 1, 1, 10, 1, 1] w3 (by simp [byteL]) I6 ⟨lst_nil 1 _, ⟨_, _, _, rfl, (by have := sl_cells (n := 1) (sz := 1) g3 (by decide) (by decide); simpa [e3, cI, List.flatMap] using this), by decide, by decide⟩, lst_nil 5 _, lst_nil 3 _, lst_nil 5 _⟩ _ _ _ (bysl_lit g4 rfl rfl (by decide)) _ (wr_i64 (by omega) (by omega) ⟨⟨by omega, by omega⟩, by omega⟩)
 intro c1 J1 k1 ch1 c2 J2 k2 ch2 c3 J3 k3 ch3 c4 J4 k4 ch4 c5 J5 k5 ch5 c6 J6 k6 ch6
 refine ⟨⟨by omega, by omega⟩, fun J7 _ k7 n ⟨n0, nn⟩ => Br.mk (fun hlt => ?_) (fun hge => trivial)⟩
 have hlt := of_decide_eq_true hlt;have m6 := k7;have m5 := Mem.le_trans k6 m6;have m4 := Mem.le_trans k5 m5;have m3 := Mem.le_trans k4 m4;have m2 := Mem.le_trans k3 m3;have m1 := Mem.le_trans k2 m2;have g6 := m6 _ _ ch6;have g5 := m5 _ _ ch5;have g4 := m4 _ _ ch4;have g3 := m3 _ _ ch3;have g2 := m2 _ _ ch2;have g1 := m1 _ _ ch1;refine ⟨n0, hlt, ?_⟩
 rcases (by omega : n = 0 \/ n = 1 \/ n = 2 \/ n = 3 \/ n = 4) with rfl | rfl | rfl | rfl | rfl
 · refine ⟨_, _, _, atC g6 rfl, ?_⟩
   exact no_step [1] (by simp [byteL]) n1 J7 _ _ (by decide) (bysl_lit g1 rfl rfl (by decide)) (fun _ => _) fun J' _ => (wr_i64 (by omega) (by omega) ⟨⟨by omega, by omega⟩, by omega⟩)
 · refine ⟨_, _, _, atC g6 rfl, ?_⟩
   exact no_step [1, 1, 1, 0] (by simp [byteL]) n2 J7 _ _ (by decide) (bysl_lit g2 rfl rfl (by decide)) (fun _ => _) fun J' _ => (wr_i64 (by omega) (by omega) ⟨⟨by omega, by omega⟩, by omega⟩)
 · refine ⟨_, _, _, atC g6 rfl, ?_⟩
   exact no_step [2, 1, 1, 1] (by simp [byteL]) n3 J7 _ _ (by decide) (bysl_lit g3 rfl rfl (by decide)) (fun _ => _) fun J' _ => (wr_i64 (by omega) (by omega) ⟨⟨by omega, by omega⟩, by omega⟩)
 · refine ⟨_, _, _, atC g6 rfl, ?_⟩
   exact no_step [1, 1, 1, 1, 2, 1, 0] (by simp [byteL]) n4 J7 _ _ (by decide) (bysl_lit g4 rfl rfl (by decide)) (fun _ => _) fun J' _ => (wr_i64 (by omega) (by omega) ⟨⟨by omega, by omega⟩, by omega⟩)
 · refine ⟨_, _, _, atC g6 rfl, ?_⟩
   exact no_step [1, 1, 1, 1, 7, 1, 0] (by simp [byteL]) n5 J7 _ _ (by decide) (bysl_lit g5 rfl rfl (by decide)) (fun _ => _) fun J' _ => (wr_i64 (by omega) (by omega) ⟨⟨by omega, by omega⟩, by omega⟩)
def nmsL : List ByteArray := [⟨#[97]⟩, ⟨#[97, 45, 98]⟩, ⟨#[97, 48]⟩, ⟨#[98]⟩, ⟨#[105, 110]⟩, ⟨#[111, 117, 116]⟩, ⟨#[112, 111, 114, 116, 45, 49]⟩, ⟨#[122]⟩]
def okNm (s : ByteArray) : Bool := nameB (strL s) && decide (s.size <= 20)
theorem nm_all : (nmsL.all fun a => decide (a.size <= 6) && (okNm a && nmsL.all fun b => okNm (a ++ (({ data := #[46] } : ByteArray) ++ b)) && nmsL.all fun c => okNm (a ++ (({ data := #[46] } : ByteArray) ++ b) ++ (({ data := #[46] } : ByteArray) ++ c)))) = true := by decide +kernel
theorem nm1 {a : ByteArray} (h : a ∈ nmsL) : a.size <= 6 /\ okNm a = true := by
 have := List.all_eq_true.1 nm_all a h;simp only [Bool.and_eq_true, decide_eq_true_eq] at this;exact ⟨this.1, this.2.1⟩
theorem nm2 {a b : ByteArray} (h : a ∈ nmsL) (hb : b ∈ nmsL) : okNm (a ++ (({ data := #[46] } : ByteArray) ++ b)) = true := by
 have := List.all_eq_true.1 nm_all a h;simp only [Bool.and_eq_true] at this;have := List.all_eq_true.1 this.2.2 b hb;simp only [Bool.and_eq_true] at this;exact this.1
theorem nm3 {a b c : ByteArray} (h : a ∈ nmsL) (hb : b ∈ nmsL) (hc : c ∈ nmsL) : okNm (a ++ (({ data := #[46] } : ByteArray) ++ b) ++ (({ data := #[46] } : ByteArray) ++ c)) = true := by
 have := List.all_eq_true.1 nm_all a h;simp only [Bool.and_eq_true] at this;have := List.all_eq_true.1 this.2.2 b hb;simp only [Bool.and_eq_true] at this;exact List.all_eq_true.1 this.2 c hc
theorem okNm_sz {s : ByteArray} (h : okNm s = true) : s.size <= 20 := by
 simp only [okNm, Bool.and_eq_true, decide_eq_true_eq] at h;exact h.2
def nmQ (i : Nat) : ByteArray := (nmsL[i]?).getD ⟨#[]⟩
def nmF (k : Int) : ByteArray :=
 let a := nmQ (k.tmod 8).toNat
 let b := if 0 < (k.tdiv 8).tmod 4 then a ++ (({ data := #[46] } : ByteArray) ++ nmQ ((k.tdiv 32).tmod 8).toNat) else a
 if 1 < (k.tdiv 8).tmod 4 then b ++ (({ data := #[46] } : ByteArray) ++ nmQ ((k.tdiv 256).tmod 8).toNat) else b
theorem nm_at {i : Nat} (h : i < 8) : ∃ q, q = nmQ i /\ q ∈ nmsL /\ ((nmsL.map fun q => SV.v (Value.string q))[0 + i * 1 + 0]?.bind fun x => match x with | SV.v x => some x | x => none) = some (.string q) := by
 rcases (by omega : i = 0 \/ i = 1 \/ i = 2 \/ i = 3 \/ i = 4 \/ i = 5 \/ i = 6 \/ i = 7) with rfl | rfl | rfl | rfl | rfl | rfl | rfl | rfl
 all_goals exact ⟨_, rfl, by simp [nmsL, nmQ], rfl⟩
theorem dot_sz {a b : ByteArray} (ha : a.size <= 20) (hb : b.size <= 6) : 1 + b.size <= 4611686018427387904 /\ a.size + (({ data := #[46] } : ByteArray) ++ b).size <= 4611686018427387904 := by
 have : (({ data := #[46] } : ByteArray) ++ b).size = 1 + b.size := ByteArray.size_append;omega
theorem ct17 (k : Int) (hk : 0 <= k /\ k <= 65535) (I : Mem) : Ct Try.prog (fnv 17) #[.int .u16 k] I (fun v I' => ∃ s, v = .string s /\ okNm s = true /\ s = nmF k) := by
 refine viaR (ct_via (A := { }) Try.func17 rfl Try.call17 rfl rfl) (let E1 := [SV.v (.string ⟨#[97]⟩), .v (.string ⟨#[97, 45, 98]⟩), .v (.string ⟨#[97, 48]⟩), .v (.string ⟨#[98]⟩), .v (.string ⟨#[105, 110]⟩), .v (.string ⟨#[111, 117, 116]⟩), .v (.string ⟨#[112, 111, 114, 116, 45, 49]⟩), .v (.string ⟨#[122]⟩)]
  (8 : Int) ≠ 0 /\ 0 <= k.tmod 8 /\ k.tmod 8 < 8 /\ ∃ q, E1[0 + (k.tmod 8).toNat * 1 + 0]?.bind (fun (x : SV) => (match x with
  | SV.v x => some x
  | x => none)) = some (.string q) /\ (8 : Int) ≠ 0 /\ Wr .u16 (k.tdiv 8) fun c => (4 : Int) ≠ 0 /\ Br (decide (0 < c.tmod 4)) ((32 : Int) ≠ 0 /\ Wr .u16 (k.tdiv 32) fun a => (8 : Int) ≠ 0 /\ 0 <= a.tmod 8 /\ a.tmod 8 < 8 /\ ∃ b, E1[0 + (a.tmod 8).toNat * 1 + 0]?.bind (fun (x : SV) => (match x with
  | SV.v x => some x
  | x => none)) = some (.string b) /\ 1 + b.size <= 4611686018427387904 /\ q.size + ByteArray.size (⟨#[46]⟩ ++ b) <= 4611686018427387904 /\ (8 : Int) ≠ 0 /\ Wr .u16 (k.tdiv 8) fun d => (4 : Int) ≠ 0 /\ Br (decide (1 < d.tmod 4)) ((256 : Int) ≠ 0 /\ Wr .u16 (k.tdiv 256) fun e => (8 : Int) ≠ 0 /\ 0 <= e.tmod 8 /\ e.tmod 8 < 8 /\ ∃ f, E1[0 + (e.tmod 8).toNat * 1 + 0]?.bind (fun (x : SV) => (match x with
  | SV.v x => some x
  | x => none)) = some (.string f) /\ 1 + f.size <= 4611686018427387904 /\ ByteArray.size (q ++ (⟨#[46]⟩ ++ b)) + ByteArray.size (⟨#[46]⟩ ++ f) <= 4611686018427387904 /\ ∃ s, Value.string (q ++ (⟨#[46]⟩ ++ b) ++ (⟨#[46]⟩ ++ f)) = .string s /\ okNm s = true /\ s = nmF k) (∃ s, Value.string (q ++ (⟨#[46]⟩ ++ b)) = .string s /\ okNm s = true /\ s = nmF k)) ((8 : Int) ≠ 0 /\ Wr .u16 (k.tdiv 8) fun a => (4 : Int) ≠ 0 /\ Br (decide (1 < a.tmod 4)) ((256 : Int) ≠ 0 /\ Wr .u16 (k.tdiv 256) fun b => (8 : Int) ≠ 0 /\ 0 <= b.tmod 8 /\ b.tmod 8 < 8 /\ ∃ d, E1[0 + (b.tmod 8).toNat * 1 + 0]?.bind (fun (x : SV) => (match x with
  | SV.v x => some x
  | x => none)) = some (.string d) /\ 1 + d.size <= 4611686018427387904 /\ q.size + ByteArray.size (⟨#[46]⟩ ++ d) <= 4611686018427387904 /\ ∃ s, Value.string (q ++ (⟨#[46]⟩ ++ d)) = .string s /\ okNm s = true /\ s = nmF k) (∃ s, Value.string q = .string s /\ okNm s = true /\ s = nmF k))) (by kernel_rfl) ?_
 intro E1;obtain ⟨k0, k1⟩ := hk
 have T : ∀ x : Int, 0 <= x -> 0 <= x.tmod 8 /\ x.tmod 8 < 8 /\ (x.tmod 8).toNat < 8 := fun x hx => by
  rw [Int.tmod_eq_emod_of_nonneg hx]; omega
 have D : ∀ d : Int, 0 < d -> 0 <= k.tdiv d /\ k.tdiv d <= 65535 := fun d hd => by
  rw [Int.tdiv_eq_ediv_of_nonneg k0]
  exact ⟨Int.ediv_nonneg k0 (by omega), Int.le_trans (Int.ediv_le_self d k0) k1⟩
 have W : ∀ (d : Int) (q : Int -> Prop), 0 < d -> q (k.tdiv d) -> Wr .u16 (k.tdiv d) q := fun d q hd hq => ⟨_, by have := D d hd; rw [IntKind.wrap_u16]; omega, hq⟩
 obtain ⟨t0, t1, t2⟩ := T k k0;obtain ⟨q, nq, hq, e⟩ := nm_at t2;obtain ⟨qs, qo⟩ := nm1 hq
 have d8 := D 8 (by omega)
 obtain ⟨a0, a1, a2⟩ := T (k.tdiv 32) (D 32 (by omega)).1
 obtain ⟨b0, b1, b2⟩ := T (k.tdiv 256) (D 256 (by omega)).1
 obtain ⟨qa, na, ha, ea⟩ := nm_at a2;obtain ⟨qb, nb, hb, eb⟩ := nm_at b2
 refine ⟨by omega, t0, t1, q, e, by omega, W 8 _ (by omega) ⟨by omega, Br.mk (fun h => ?_) (fun h => ?_)⟩⟩
 · have g := of_decide_eq_true h
   obtain ⟨z1, z2⟩ := dot_sz (okNm_sz qo) (nm1 ha).1
   refine ⟨by omega, W 32 _ (by omega) ⟨by omega, a0, a1, qa, ea, z1, z2, by omega, W 8 _ (by omega) ⟨by omega, Br.mk (fun h => ?_) (fun h => ?_)⟩⟩⟩
   · have g' := of_decide_eq_true h
     obtain ⟨z3, z4⟩ := dot_sz (okNm_sz (nm2 hq ha)) (nm1 hb).1
     exact ⟨by omega, W 256 _ (by omega) ⟨by omega, b0, b1, qb, eb, z3, z4, _, rfl, nm3 hq ha hb, by rw [nmF, if_pos g', if_pos g, nq, na, nb]⟩⟩
   · have g' := of_decide_eq_false h
     exact ⟨_, rfl, nm2 hq ha, by rw [nmF, if_neg g', if_pos g, nq, na]⟩
 · have g := of_decide_eq_false h
   refine ⟨by omega, W 8 _ (by omega) ⟨by omega, Br.mk (fun h => ?_) (fun h => ?_)⟩⟩
   · have g' := of_decide_eq_true h
     obtain ⟨z3, z4⟩ := dot_sz (okNm_sz qo) (nm1 hb).1
     exact ⟨by omega, W 256 _ (by omega) ⟨by omega, b0, b1, qb, eb, z3, z4, _, rfl, nm2 hq hb, by rw [nmF, if_pos g', if_neg g, nq, nb]⟩⟩
   · have g' := of_decide_eq_false h
     exact ⟨_, rfl, qo, by rw [nmF, if_neg g', if_neg g, nq]⟩
def allF (r : Rs) : List (Int × List Int) := [fN 1 r.num, fN 2 r.kind, fN 3 r.code, fN 4 r.ser, fN 5 r.port, fN 6 r.time, (7, []), (8, formsL [r.key.1, r.key.2.1, r.key.2.2]), (9, r.counts.flatMap numF), (10, r.cells.flatMap celF), (11, r.events.flatMap evF), (12, r.ports.flatMap ptF), (13, r.handles.flatMap hdF)]
def hasF (r : Rs) (t : Int) : Bool :=
 if t = 1 then true else if t = 2 then decide (r.kind ≠ 0) else if t = 3 then decide (r.code ≠ 0) else if t = 4 then decide (r.ser ≠ 0) else if t = 5 then decide (r.port ≠ 0) else if t = 6 then decide (r.time ≠ 0) else if t = 7 then r.more else if t = 8 then decide (r.key ≠ (0, 0, 0))
 else if t = 9 then decide (r.counts.flatMap numF ≠ []) else if t = 10 then decide (r.cells.flatMap celF ≠ []) else if t = 11 then decide (r.events.flatMap evF ≠ []) else if t = 12 then decide (r.ports.flatMap ptF ≠ []) else decide (r.handles.flatMap hdF ≠ [])
theorem filter_one {α : Type} {p : α -> Bool} {a : α} {l : List α} : (a :: l).filter p = (if p a then [a] else []) ++ l.filter p := by
 cases h : p a with
 | true => simp [h]
 | false => simp [h]
theorem map_ite {α β : Type} {f : α -> β} {b : Bool} {a : α} : (if b then [a] else []).map f = if b then [f a] else [] := by
 cases b <;> rfl
theorem fields_eq (r : Rs) : fieldsS r = (allF r).filter fun p => hasF r p.1 := by
 have h1 : (numsL r).take 5 = numsL r := rfl;have h2 : (listsL r).take 5 = listsL r := rfl
 have hm : moreF r = if r.more then [(7, [])] else [] := rfl
 have hk : keyF r = if decide (r.key ≠ (0, 0, 0)) then [(8, formsL [r.key.1, r.key.2.1, r.key.2.2])] else [] := by
  unfold keyF
  by_cases h : r.key = (0, 0, 0)
  · rw [if_pos h, decide_eq_false (by simpa using h)]; rfl
  · rw [if_neg h, decide_eq_true h]; rfl
 rw [fieldsS, fl2, fl1, h1, h2, hm, hk, numsL, listsL, allF];simp only [filter_one, List.filter_nil, List.map_append, map_ite, List.append_nil, List.cons_append, List.append_assoc];rfl
theorem tags_lt (r : Rs) : (fieldsS r).Pairwise fun f g => f.1 < g.1 := by
 rw [fields_eq];apply List.Pairwise.filter;simp [allF, fN]
theorem tags_in (r : Rs) : ∀ f ∈ fieldsS r, f ∈ allF r /\ hasF r f.1 = true := by
 intro f hf;rw [fields_eq] at hf;exact List.mem_filter.1 hf
def sumF (l : List (Int × List Int)) : Nat := (l.map fun f => f.2.length).sum
theorem sumF_cons (f : Int × List Int) (l : List (Int × List Int)) : sumF (f :: l) = f.2.length + sumF l := by simp [sumF]
theorem sumF_filter (p : Int × List Int -> Bool) : ∀ l, sumF (l.filter p) <= sumF l
 | [] => Nat.le_refl _
 | f :: l => by
   have ih := sumF_filter p l
   cases h : p f with
   | true => rw [List.filter_cons_of_pos h, sumF_cons, sumF_cons]; omega
   | false => rw [List.filter_cons_of_neg (by rw [h]; simp), sumF_cons]; omega
theorem step_of : ∀ {l : List (Int × List Int)} {last left : Int}, (l.Pairwise fun f g => f.1 < g.1) -> (∀ f ∈ l, last < f.1 /\ f.1 <= 200) -> (sumF l : Int) <= left -> rightStep last left l = true
 | [], _, _, _, _, _ => rfl
 | f :: l, last, left, h1, h2, h3 => by
   obtain ⟨g1, g2⟩ := List.pairwise_cons.1 h1
   have hf := h2 f (by simp)
   rw [sumF_cons] at h3
   rw [rightStep, if_neg (by omega)]
   exact step_of g2 (fun g hg => ⟨g1 g hg, (h2 g (by simp [hg])).2⟩) (by omega)
theorem all_tags {r : Rs} : ∀ f ∈ allF r, 1 <= f.1 /\ f.1 <= 13 := by
 intro f hf;simp only [allF, List.mem_cons, List.not_mem_nil, or_false] at hf
 rcases hf with rfl | rfl | rfl | rfl | rfl | rfl | rfl | rfl | rfl | rfl | rfl | rfl | rfl
 all_goals simp [fN]
theorem right_sum {r : Rs} (h : sumF (allF r) <= 16000) : rightF (fieldsS r) = true /\ (writeF (fieldsS r)).length <= 16320 := by
 have hs : sumF (fieldsS r) <= 16000 := by
  rw [fields_eq];exact Nat.le_trans (sumF_filter _ _) h
 have hl := fl2_len r 5;have hl : (fieldsS r).length <= 13 := hl
 have h1 : rightStep 0 16000 (fieldsS r) = true := step_of (tags_lt r) (fun f hf => by have := all_tags f (tags_in r f hf).1; omega) (by omega)
 have h2 : rightStep 0 16384 (fieldsS r) = true := step_of (tags_lt r) (fun f hf => by have := all_tags f (tags_in r f hf).1; omega) (by omega)
 refine ⟨rightF_iff.2 ⟨h2, by omega⟩, ?_⟩
 have := write_len2 (by omega) (by omega) h1
 omega
theorem fN_len (t x : Int) : (fN t x).2.length <= 9 := by
 have := w64_range x
 exact (formN_le _ (by omega)).1
theorem cE_len : ∀ l : List EvT, (l.flatMap cE).length = l.length * 5
 | [] => rfl
 | x :: l => by rw [List.flatMap_cons, List.length_append, cE_len l]; simp only [cE, List.length_cons, List.length_nil]; omega
theorem cP_len : ∀ l : List PtT, (l.flatMap cP).length = l.length * 3
 | [] => rfl
 | x :: l => by rw [List.flatMap_cons, List.length_append, cP_len l]; simp only [cP, List.length_cons, List.length_nil]; omega
theorem cH_len : ∀ l : List HdT, (l.flatMap cH).length = l.length * 5
 | [] => rfl
 | x :: l => by rw [List.flatMap_cons, List.length_append, cH_len l]; simp only [cH, List.length_cons, List.length_nil]; omega
theorem cI_len : ∀ l : List Int, (l.flatMap cI).length = l.length
 | [] => rfl
 | x :: l => by rw [List.flatMap_cons, List.length_append, cI_len l]; simp only [cI, List.length_cons, List.length_nil]; omega
theorem strB_strL (s : ByteArray) : strB (strL s) = s := by
 have : u8s (strL s) = s.data.toList := by
  simp only [u8s, strL, List.map_map]
  conv => rhs; rw [<- List.map_id s.data.toList]
  apply List.map_congr_left;intro b _
  simp
 rw [strB, this]
theorem strL_byte (s : ByteArray) : byteL (strL s) := fun z hz => by
 obtain ⟨b, _, rfl⟩ := List.mem_map.1 hz;have := b.toNat_lt;omega
theorem fm_app1 {α : Type} {f : α -> List Value} {l : List α} {x : α} : (l ++ [x]).flatMap f = l.flatMap f ++ f x := by simp
def rsR (r : Rs) : SV := .agg [.v (.int .i64 r.num), .v (.int .i64 r.code), .v (.int .i64 r.ser), .v (.int .i64 r.port), .v (.int .i64 r.time), .v (.int .u8 r.kind), .v (.bool r.more), .v (.int .i64 r.key.1), .v (.int .i64 r.key.2.1), .v (.int .i64 r.key.2.2), .rsl 0 r.counts.length, .rsl 1 r.cells.length, .rsl 2 r.events.length, .rsl 3 r.ports.length, .rsl 4 r.handles.length]
def rowsR (r : Rs) : List Ent := [⟨.row (r.counts.flatMap cI) 1 3, none⟩, ⟨.row (r.cells.flatMap cI) 1 2, none⟩, ⟨.row (r.events.flatMap cE) 5 40, none⟩, ⟨.row (r.ports.flatMap cP) 3 43, none⟩, ⟨.row (r.handles.flatMap cH) 5 46, none⟩]
abbrev aggR : RSh := .agg [.sh (.int .i64), .sh (.int .i64), .sh (.int .i64), .sh (.int .i64), .sh (.int .i64), .sh (.int .u8), .sh .bool, .sh (.int .i64), .sh (.int .i64), .sh (.int .i64), .row 0, .row 1, .row 2, .row 3, .row 4]
abbrev rowsE : List ESh := [.row 1 3, .row 1 2, .row 5 40, .row 3 43, .row 5 46]
theorem rowM_lst {J K : Mem} {a : Option Addr} {cp sz n : Nat} {xs : List Value} (h1 : RowM J a cp sz xs) (hle : J.le K) (hz : 0 < sz) (hl : xs.length = n * sz) : LstM sz K (.slice a n cp) xs := by
 refine ⟨a, n, cp, rfl, (h1.sl hz hl).mono hle, ?_, h1.2.1⟩;have := h1.1;rw [hl] at this;exact Nat.le_of_mul_le_mul_right this hz
set_option maxHeartbeats 4000000 in
set_option maxRecDepth 8000 in
theorem tail (r : Rs) (hr : okRs r) (hno : rightS r = false) (hc : r.counts.length <= 1000000) {I : Mem} {n n_1 n_2 n_3 n_4 n_5 n_6 n_7 n_8 : Int} {b : Bool} {n_9 n_10 n_11 n_12 n_13 : Nat} {xs xs_1 xs_2 xs_3 xs_4 : List Value}
 (h0 : n = r.num) (h1 : n_1 = r.code) (h2 : n_2 = r.ser) (h3 : n_3 = r.port) (h4 : n_4 = r.time) (h5 : n_5 = r.kind) (hb : b = r.more) (h6 : n_6 = r.key.1) (h7 : n_7 = r.key.2.1) (h8 : n_8 = r.key.2.2)
 (h9 : n_9 = r.counts.length) (h10 : n_10 = r.cells.length) (h11 : n_11 = r.events.length) (h12 : n_12 = r.ports.length) (h13 : n_13 = r.handles.length)
 (g1 : xs = r.counts.flatMap cI) (g2 : xs_1 = r.cells.flatMap cI) (g3 : xs_2 = r.events.flatMap cE) (g4 : xs_3 = r.ports.flatMap cP) (g5 : xs_4 = r.handles.flatMap cH) :
 ∀ (a : Option Addr) (cp : Nat) (I'_1 : Mem), I.le I'_1 -> RowM I'_1 a cp 1 xs -> ∀ (a_3 : Option Addr) (cp_1 : Nat) (I' : Mem), I'_1.le I' -> RowM I' a_3 cp_1 1 xs_1 -> ∀ (a_6 : Option Addr) (cp_2 : Nat) (I'_2 : Mem), I'.le I'_2 -> RowM I'_2 a_6 cp_2 5 xs_2 -> ∀ (a_9 : Option Addr) (cp_3 : Nat) (I' : Mem), I'_2.le I' -> RowM I' a_9 cp_3 3 xs_3 -> ∀ (a_12 : Option Addr) (cp_4 : Nat) (I'_3 : Mem), I'.le I'_3 -> RowM I'_3 a_12 cp_4 5 xs_4 -> ∀ (b_2 : Nat) (I' : Mem), I'_3.le I' -> I' b_2 = some (Obj.cells #[Value.int IntKind.i64 n, Value.int IntKind.i64 n_1, Value.int IntKind.i64 n_2, Value.int IntKind.i64 n_3, Value.int IntKind.i64 n_4, Value.int IntKind.u8 n_5, Value.bool b, Value.int IntKind.i64 n_6, Value.int IntKind.i64 n_7, Value.int IntKind.i64 n_8, Value.slice a n_9 cp, Value.slice a_3 n_10 cp_1, Value.slice a_6 n_11 cp_2, Value.slice a_9 n_12 cp_3, Value.slice a_12 n_13 cp_4] 37) -> 15 = 15 /\ ∃ n, atI I' (some { block := b_2, off := 0 }) 0 = some (Value.int IntKind.i64 n) /\ ∃ n_14, atI I' (some { block := b_2, off := 0 }) 1 = some (Value.int IntKind.i64 n_14) /\ ∃ n_15, atI I' (some { block := b_2, off := 0 }) 2 = some (Value.int IntKind.i64 n_15) /\ ∃ n_16, atI I' (some { block := b_2, off := 0 }) 3 = some (Value.int IntKind.i64 n_16) /\ ∃ n_17, atI I' (some { block := b_2, off := 0 }) 4 = some (Value.int IntKind.i64 n_17) /\ ∃ n_18, atI I' (some { block := b_2, off := 0 }) 5 = some (Value.int IntKind.u8 n_18) /\ ∃ b, atI I' (some { block := b_2, off := 0 }) 6 = some (Value.bool b) /\ ∃ n_19, atI I' (some { block := b_2, off := 0 }) 7 = some (Value.int IntKind.i64 n_19) /\ ∃ n_20, atI I' (some { block := b_2, off := 0 }) 8 = some (Value.int IntKind.i64 n_20) /\ ∃ n_21, atI I' (some { block := b_2, off := 0 }) 9 = some (Value.int IntKind.i64 n_21) /\ ∃ a n_22 c, atI I' (some { block := b_2, off := 0 }) 10 = some (Value.slice a n_22 c) /\ ∃ a_16 n_23 c_1, atI I' (some { block := b_2, off := 0 }) 11 = some (Value.slice a_16 n_23 c_1) /\ ∃ a_17 n_24 c_2, atI I' (some { block := b_2, off := 0 }) 12 = some (Value.slice a_17 n_24 c_2) /\ ∃ a_18 n_25 c_3, atI I' (some { block := b_2, off := 0 }) 13 = some (Value.slice a_18 n_25 c_3) /\ ∃ a_19 n_26 c_4, atI I' (some { block := b_2, off := 0 }) 14 = some (Value.slice a_19 n_26 c_4) /\ Ct Try.prog (Value.func (Fn.func 10) #[] #[]) #[Value.agg #[Value.int IntKind.i64 n, Value.int IntKind.i64 n_14, Value.int IntKind.i64 n_15, Value.int IntKind.i64 n_16, Value.int IntKind.i64 n_17, Value.int IntKind.u8 n_18, Value.bool b, Value.int IntKind.i64 n_19, Value.int IntKind.i64 n_20, Value.int IntKind.i64 n_21, Value.slice a n_22 c, Value.slice a_16 n_23 c_1, Value.slice a_17 n_24 c_2, Value.slice a_18 n_25 c_3, Value.slice a_19 n_26 c_4]] I' fun v I' => ∃ a n c n_27, v = Value.tuple #[Value.slice a n c, Value.int IntKind.i64 n_27] /\ 15 = 15 /\ ∃ n_28, atI I' (some { block := b_2, off := 0 }) 0 = some (Value.int IntKind.i64 n_28) /\ ∃ n_29, atI I' (some { block := b_2, off := 0 }) 1 = some (Value.int IntKind.i64 n_29) /\ ∃ n_30, atI I' (some { block := b_2, off := 0 }) 2 = some (Value.int IntKind.i64 n_30) /\ ∃ n_31, atI I' (some { block := b_2, off := 0 }) 3 = some (Value.int IntKind.i64 n_31) /\ ∃ n_32, atI I' (some { block := b_2, off := 0 }) 4 = some (Value.int IntKind.i64 n_32) /\ ∃ n_33, atI I' (some { block := b_2, off := 0 }) 5 = some (Value.int IntKind.u8 n_33) /\ ∃ b, atI I' (some { block := b_2, off := 0 }) 6 = some (Value.bool b) /\ ∃ n_34, atI I' (some { block := b_2, off := 0 }) 7 = some (Value.int IntKind.i64 n_34) /\ ∃ n_35, atI I' (some { block := b_2, off := 0 }) 8 = some (Value.int IntKind.i64 n_35) /\ ∃ n_36, atI I' (some { block := b_2, off := 0 }) 9 = some (Value.int IntKind.i64 n_36) /\ ∃ a n_37 c, atI I' (some { block := b_2, off := 0 }) 10 = some (Value.slice a n_37 c) /\ ∃ a_20 n_38 c_5, atI I' (some { block := b_2, off := 0 }) 11 = some (Value.slice a_20 n_38 c_5) /\ ∃ a_21 n_39 c_6, atI I' (some { block := b_2, off := 0 }) 12 = some (Value.slice a_21 n_39 c_6) /\ ∃ a_22 n_40 c_7, atI I' (some { block := b_2, off := 0 }) 13 = some (Value.slice a_22 n_40 c_7) /\ ∃ a_23 n_41 c_8, atI I' (some { block := b_2, off := 0 }) 14 = some (Value.slice a_23 n_41 c_8) /\ Ct Try.prog (Value.func (Fn.func 11) #[] #[]) #[Value.agg #[Value.int IntKind.i64 n_28, Value.int IntKind.i64 n_29, Value.int IntKind.i64 n_30, Value.int IntKind.i64 n_31, Value.int IntKind.i64 n_32, Value.int IntKind.u8 n_33, Value.bool b, Value.int IntKind.i64 n_34, Value.int IntKind.i64 n_35, Value.int IntKind.i64 n_36, Value.slice a n_37 c, Value.slice a_20 n_38 c_5, Value.slice a_21 n_39 c_6, Value.slice a_22 n_40 c_7, Value.slice a_23 n_41 c_8]] I' fun v I' => ∃ b, v = Value.bool b /\ Br (!b) (Br ((n : Int) == 0) (Value.bool (n_27 == 350) = Value.bool true) (Value.bool false = Value.bool true)) (Value.bool false = Value.bool true) := by
 subst h0 h1 h2 h3 h4 h5 hb h6 h7 h8 h9 h10 h11 h12 h13 g1 g2 g3 g4 g5;intro a1 c1 J1 l1 r1 a2 c2 J2 l2 r2 a3 c3 J3 l3 r3 a4 c4 J4 l4 r4 a5 c5 J5 l5 r5 b2 J6 l6 hb;have m5 := l6;have m4 := Mem.le_trans l5 m5;have m3 := Mem.le_trans l4 m4;have m2 := Mem.le_trans l3 m3;have m1 := Mem.le_trans l2 m2
 have hM : RsM J6 r ⟨.slice a1 r.counts.length c1, .slice a2 r.cells.length c2, .slice a3 r.events.length c3, .slice a4 r.ports.length c4, .slice a5 r.handles.length c5⟩ :=
  ⟨rowM_lst r1 m1 (by omega) (by rw [cI_len]; omega), rowM_lst r2 m2 (by omega) (by rw [cI_len]; omega), rowM_lst r3 m3 (by omega) (cE_len _), rowM_lst r4 m4 (by omega) (cP_len _), rowM_lst r5 m5 (by omega) (cH_len _)⟩
 refine ⟨rfl, _, atC hb rfl, _, atC hb rfl, _, atC hb rfl, _, atC hb rfl, _, atC hb rfl, _, atC hb rfl, _, atC hb rfl, _, atC hb rfl, _, atC hb rfl, _, atC hb rfl, _, _, _, atC hb rfl, _, _, _, atC hb rfl, _, _, _, atC hb rfl, _, _, _, atC hb rfl, _, _, _, atC hb rfl, (ct10 r hr _ J6 hM hc).mono fun v J7 l7 ⟨a, n, c, hv, hs, _⟩ => ⟨_, _, _, _, hv, rfl, _, atC (l7 _ _ hb) rfl, _, atC (l7 _ _ hb) rfl, _, atC (l7 _ _ hb) rfl, _, atC (l7 _ _ hb) rfl, _, atC (l7 _ _ hb) rfl, _, atC (l7 _ _ hb) rfl, _, atC (l7 _ _ hb) rfl, _, atC (l7 _ _ hb) rfl, _, atC (l7 _ _ hb) rfl, _, atC (l7 _ _ hb) rfl, _, _, _, atC (l7 _ _ hb) rfl, _, _, _, atC (l7 _ _ hb) rfl, _, _, _, atC (l7 _ _ hb) rfl, _, _, _, atC (l7 _ _ hb) rfl, _, _, _, atC (l7 _ _ hb) rfl, (ct11 r hr _ J7 (hM.mono l7) hc).mono fun v J8 l8 hv => ⟨_, hv, ?_⟩⟩⟩
 rw [hno] at hs ⊢;have hn := hs.numLen
 exact Br.t rfl (Br.t (by rw [hn]; rfl) rfl)
def Q23 (I : Mem) (v : Value) : Prop := ∃ n, v = .int .u16 n /\ 0 <= n /\ n <= 65535
section
variable {H : Type} {enc : TypeId × Value -> H} {W : World} {r : Reach} {b0 : Nat} {v : Value} {d : DataW H} {ps : List MemPlace}
set_option maxRecDepth 100000 in
theorem op23 (hval : Value.okWide Try.prog W r b0 23 v) (hd : DataW.Trod enc Try.prog W 0 (fun _ => true) true 23 v d ps) (hw : ∀ n ∈ d.weights Try.prog 23, n <= reachBytes) : Q23 (memW W) v := by
 obtain ⟨n, rfl, h1, h2⟩ := opI Try.underlying23 hval;exact ⟨n, rfl, h1, h2⟩
end
theorem next_form (x : Nat) (h : x < 256 ^ 8) (post : List Int) : nextR (formN x ++ post, false) = ((x : Int), post, false) := by
 have h1 := readN_form [] post x h;simp only [List.nil_append, List.length_nil] at h1;have h1 : readN (formN x ++ post) 0 = ((x : Int), ((formN x).length : Int), 0) := h1
 rw [nextR, h1, if_neg (by simp)]
 simp
theorem num_form {x : Int} (h0 : 0 <= x) (h1 : i64R x) (post : List Int) : numQ (formN (IntKind.u64.wrap x).toNat ++ post, false) = (x, post, false) := by
 have hw : IntKind.u64.wrap x = x := by rw [IntKind.wrap_u64]; unfold i64R at h1; omega
 unfold i64R at h1
 rw [hw, numQ, next_form _ (by omega)]
 have e : ((x.toNat : Nat) : Int) = x := Int.toNat_of_nonneg h0
 have hi : IntKind.i64.wrap x = x := by rw [IntKind.wrap_i64]; omega
 simp only [e, hi]
 rw [decide_eq_false (by omega)]; rfl
theorem forms_cons (x : Int) (l : List Int) : formsL (x :: l) = formN (IntKind.u64.wrap x).toNat ++ formsL l := by simp [formsL]
theorem forms_nil : formsL [] = [] := rfl
theorem key_form {a b c : Int} (ha : 0 <= a /\ i64R a) (hb : 0 <= b /\ i64R b) (hc : 0 <= c /\ i64R c) (post : List Int) : keyQ (formsL [a, b, c] ++ post, false) = ((a, b, c), post, false) := by
 simp only [forms_cons, forms_nil, List.append_nil, List.append_assoc];rw [keyQ, num_form ha.1 ha.2, num_form hb.1 hb.2, num_form hc.1 hc.2]
theorem unfold_fold {x : Int} (h : i64R x) : unfoldZ (foldZ x) = x := by
 unfold foldZ unfoldZ;split
 · rw [if_pos (by omega)]; omega
 · rw [if_neg (by omega)]; omega
theorem val_form {x : Int} (h : i64R x) (post : List Int) : valQ (celF x ++ post, false) = (x, post, false) := by
 have hr := foldZ_range h
 rw [celF, valQ, next_form _ (by omega)]
 have e : (((foldZ x).toNat : Nat) : Int) = foldZ x := Int.toNat_of_nonneg hr.1;simp only [e, unfold_fold h]
theorem ev_form {x : EvT} (hx : evOk x = true) (hr : (i64R x.1.1 /\ i64R x.1.2.1 /\ i64R x.1.2.2) /\ i64R x.2.1 /\ i64R x.2.2) (post : List Int) : evQ (evF x ++ post, false) = (x, post, false) := by
 obtain ⟨⟨a, b, c⟩, d, v⟩ := x
 have hn : (0 <= a /\ 0 <= b /\ 0 <= c /\ 0 <= d) := by
  simp only [evOk, negL, List.any_cons, List.any_nil, Bool.not_eq_true', Bool.or_eq_false_iff, decide_eq_false_iff_not] at hx;omega
 obtain ⟨⟨r1, r2, r3⟩, r4, r5⟩ := hr;have hv := val_form r5 post;rw [evF, List.append_assoc, List.append_assoc, evQ, key_form ⟨hn.1, r1⟩ ⟨hn.2.1, r2⟩ ⟨hn.2.2.1, r3⟩];simp only [forms_cons, forms_nil, List.append_nil];rw [num_form hn.2.2.2 r4];rw [valQ] at hv;obtain ⟨e1, e2⟩ := Prod.mk.inj hv;have e1 : unfoldZ (nextR (formN (foldZ v).toNat ++ post, false)).1 = v := e1;have e2 : (nextR (formN (foldZ v).toNat ++ post, false)).2 = (post, false) := e2;simp only [e1, e2]
theorem pt_form {x : PtT} (hx : ptOk x = true) (hr : i64R x.1 /\ byteL x.2.1 /\ i64R x.2.2) (post : List Int) : portQ (ptF x ++ post, false) = (x, post, false) := by
 obtain ⟨a, s, c⟩ := x;have hx := hx;simp only [ptOk, nameB, negL, List.any_cons, List.any_nil, Bool.and_eq_true, Bool.not_eq_true', Bool.or_eq_false_iff, decide_eq_false_iff_not, decide_eq_true_eq] at hx;obtain ⟨⟨h1, h2, _⟩, h3, h4, _⟩ := hx;obtain ⟨r1, _, r3⟩ := hr
 simp only at h1 h2 h3 h4 r1 r3
 have q1 := num_form (x := a) (by omega) r1
 have q2 := num_form (x := c) (by omega) r3
 have q3 := num_form (x := (s.length : Int)) (by omega) (by unfold i64R; omega)
 rw [ptF];simp only [forms_cons, forms_nil, List.append_nil, List.append_assoc];rw [portQ, szQ, q1, q2, q3];simp only []
 rw [if_neg (by rw [List.length_append]; simp; omega)]
 simp
theorem hd_form {x : HdT} (hx : hdOk x = true) (hr : (i64R x.1 /\ i64R x.2.1 /\ i64R x.2.2.1 /\ i64R x.2.2.2.1) /\ 0 <= x.2.2.2.2 /\ x.2.2.2.2 <= 255) (post : List Int) : hdQ (hdF x ++ post, false) = (x, post, false) := by
 obtain ⟨a, b, c, d, e⟩ := x;have hx := hx;simp only [hdOk, negL, List.any_cons, List.any_nil, Bool.and_eq_true, Bool.not_eq_true', Bool.or_eq_false_iff, decide_eq_false_iff_not, decide_eq_true_eq] at hx;obtain ⟨⟨h1, h2, h3, h4, _⟩, _⟩ := hx;obtain ⟨⟨r1, r2, r3, r4⟩, r5, r6⟩ := hr
 simp only at h1 h2 h3 h4 r1 r2 r3 r4 r5 r6
 have q1 := num_form (x := a) (by omega) r1
 have q2 := num_form (x := b) (by omega) r2
 have q3 := num_form (x := c) (by omega) r3
 have q4 := num_form (x := d) (by omega) r4
 have q5 := num_form (x := e) r5 (by unfold i64R; omega)
 rw [hdF];simp only [forms_cons, forms_nil, List.append_nil, List.append_assoc];rw [hdQ, q1, q2, q3, q4, q5]
 have hw : IntKind.u8.wrap e = e := by rw [IntKind.wrap_u8]; omega
 simp only [hw]
 rw [decide_eq_false (by omega)]; rfl
theorem runAll_flat {α : Type} {take : RS -> α × RS} {F : α -> List Int} : ∀ {l : List α}, (∀ x ∈ l, ∀ post, take (F x ++ post, false) = (x, post, false)) -> (∀ x ∈ l, F x ≠ []) -> ∀ k, l.length <= k -> runAll take k (l.flatMap F, false) = (l, [], false)
 | [], _, _, k, _ => runAll_done (.inl rfl) k
 | x :: l, h1, h2, k, hk => by
   obtain ⟨k, rfl⟩ : ∃ j, k = j + 1 := ⟨k - 1, by simp at hk; omega⟩
   have hne : F x ++ l.flatMap F ≠ [] := fun h => h2 x (by simp) (List.append_eq_nil_iff.1 h).1
   rw [List.flatMap_cons, runAll_step (by simp only [not_or]; exact ⟨hne, by simp⟩), h1 x (by simp)]
   have ih := runAll_flat (l := l) (fun y hy => h1 y (by simp [hy])) (fun y hy => h2 y (by simp [hy])) k (by simp at hk; omega)
   simp only [ih]
theorem flat_len {α : Type} {F : α -> List Int} : ∀ {l : List α}, (∀ x ∈ l, F x ≠ []) -> l.length <= (l.flatMap F).length
 | [], _ => by simp
 | x :: l, h => by
   have ih := flat_len (l := l) fun y hy => h y (by simp [hy])
   have hx : 1 <= (F x).length := by
    rcases hl : F x with _ | ⟨a, r⟩
    · exact absurd hl (h x (by simp))
    · simp
   rw [List.flatMap_cons, List.length_append, List.length_cons]; omega
theorem flat_nil {α : Type} {F : α -> List Int} {l : List α} (h : ∀ x ∈ l, F x ≠ []) (hf : l.flatMap F = []) : l = [] := by
 have := flat_len h;rw [hf] at this;exact List.eq_nil_of_length_eq_zero (Nat.le_zero.1 this)
theorem form_ne (x : Nat) (h : x < 256 ^ 8) : formN x ≠ [] := fun hf => by
 have := (formN_le x h).2
 rw [hf] at this; simp at this
theorem numF_ne (x : Int) : numF x ≠ [] := fun h => by
 rw [numF, forms_cons] at h;have hw := w64_range x
 exact form_ne _ (by omega) (List.append_eq_nil_iff.1 h).1
theorem celF_ne {x : Int} (h : i64R x) : celF x ≠ [] := by
 have := foldZ_range h
 exact form_ne _ (by omega)
theorem evF_ne (x : EvT) : evF x ≠ [] := fun h => by
 rw [evF, forms_cons, List.append_assoc, List.append_assoc] at h;have hw := w64_range x.1.1
 exact form_ne _ (by omega) (List.append_eq_nil_iff.1 h).1
theorem ptF_ne (x : PtT) : ptF x ≠ [] := fun h => by
 rw [ptF, forms_cons, List.append_assoc] at h;have hw := w64_range x.1
 exact form_ne _ (by omega) (List.append_eq_nil_iff.1 h).1
theorem hdF_ne (x : HdT) : hdF x ≠ [] := fun h => by
 rw [hdF, forms_cons] at h;have hw := w64_range x.1
 exact form_ne _ (by omega) (List.append_eq_nil_iff.1 h).1
def copyT (r h : Rs) (t : Int) : Rs :=
 if t = 1 then { h with num := r.num } else if t = 2 then { h with kind := r.kind } else if t = 3 then { h with code := r.code } else if t = 4 then { h with ser := r.ser } else if t = 5 then { h with port := r.port } else if t = 6 then { h with time := r.time }
 else if t = 7 then { h with more := true } else if t = 8 then { h with key := r.key } else if t = 9 then { h with counts := r.counts } else if t = 10 then { h with cells := r.cells } else if t = 11 then { h with events := r.events } else if t = 12 then { h with ports := r.ports } else { h with handles := r.handles }
theorem runNum {l : List Int} (h : ∀ x ∈ l, 0 <= x /\ i64R x) : runAll numQ (l.flatMap numF).length (l.flatMap numF, false) = (l, [], false) :=
 runAll_flat (fun x hx post => by rw [numF, forms_cons, forms_nil, List.append_nil]; exact num_form (h x hx).1 (h x hx).2 post) (fun x _ => numF_ne x) _ (flat_len fun x _ => numF_ne x)
theorem take_all {r : Rs} (hr : okRs r) (hv : vokS r = true) : ∀ f ∈ allF r, ∀ h, takeS h f.1 f.2 = (copyT r h f.1, [], false) := by
 intro f hf h;have hv := hv;simp only [vokS, headOk, negL, List.any_cons, List.any_nil, Bool.and_eq_true, Bool.not_eq_true', Bool.or_eq_false_iff, decide_eq_false_iff_not, decide_eq_true_eq] at hv;obtain ⟨⟨g1, g2, g3, ⟨g4, g5, g6, g7, g8, g9, g10, _⟩, g11⟩, _, g12, g13, g14⟩ := hv
 have hcn : ∀ x ∈ r.counts, 0 <= x /\ i64R x := fun x hx => by
  have := List.any_eq_false.1 g11 x hx;simp only [decide_eq_true_eq] at this
  exact ⟨by omega, hr.counts x hx⟩
 have hk := hr.kind
 have N : ∀ x : Int, 0 <= x -> i64R x -> numQ ((fN 0 x).2, false) = (x, [], false) := fun x h0 h1 => by
  have := num_form h0 h1 [];rw [List.append_nil] at this;exact this
 have n1 := N r.num (by omega) hr.num
 have n2 := N r.kind (by omega) (by unfold i64R; omega)
 have n3 := N r.code (by omega) hr.code
 have n4 := N r.ser (by omega) hr.ser
 have n5 := N r.port (by omega) hr.port
 have n6 := N r.time (by omega) hr.time
 have n8 := key_form (a := r.key.1) (b := r.key.2.1) (c := r.key.2.2) ⟨by omega, hr.key.1⟩ ⟨by omega, hr.key.2.1⟩ ⟨by omega, hr.key.2.2⟩ []
 rw [List.append_nil] at n8;have n9 := runNum hcn;have n10 := runAll_flat (take := valQ) (F := celF) (l := r.cells) (fun x hx post => val_form (hr.cells x hx) post) (fun x hx => celF_ne (hr.cells x hx)) _ (flat_len fun x hx => celF_ne (hr.cells x hx));have n11 := runAll_flat (take := evQ) (F := evF) (l := r.events) (fun x hx post => ev_form (List.all_eq_true.1 g12 x hx) (hr.events x hx) post) (fun x _ => evF_ne x) _ (flat_len fun x _ => evF_ne x)
 have n12 := runAll_flat (take := portQ) (F := ptF) (l := r.ports) (fun x hx post => pt_form (List.all_eq_true.1 g13 x hx) (hr.ports x hx) post) (fun x _ => ptF_ne x) _ (flat_len fun x _ => ptF_ne x);have n13 := runAll_flat (take := hdQ) (F := hdF) (l := r.handles) (fun x hx post => hd_form (List.all_eq_true.1 g14 x hx) (hr.handles x hx) post) (fun x _ => hdF_ne x) _ (flat_len fun x _ => hdF_ne x);simp only [allF, List.mem_cons, List.not_mem_nil, or_false] at hf
 rcases hf with rfl | rfl | rfl | rfl | rfl | rfl | rfl | rfl | rfl | rfl | rfl | rfl | rfl
 · show ({ h with num := (numQ ((fN 0 r.num).2, false)).1 }, (numQ ((fN 0 r.num).2, false)).2) = _
   rw [n1]; rfl
 · show ({ h with kind := IntKind.u8.wrap (imin (numQ ((fN 0 r.kind).2, false)).1 255) }, (numQ ((fN 0 r.kind).2, false)).2) = _
   rw [n2]
   have e : IntKind.u8.wrap (imin r.kind 255) = r.kind := by
    unfold imin
    rw [if_neg (by omega), IntKind.wrap_u8]; omega
   simp only [e]; rfl
 · show ({ h with code := (numQ ((fN 0 r.code).2, false)).1 }, (numQ ((fN 0 r.code).2, false)).2) = _
   rw [n3]; rfl
 · show ({ h with ser := (numQ ((fN 0 r.ser).2, false)).1 }, (numQ ((fN 0 r.ser).2, false)).2) = _
   rw [n4]; rfl
 · show ({ h with port := (numQ ((fN 0 r.port).2, false)).1 }, (numQ ((fN 0 r.port).2, false)).2) = _
   rw [n5]; rfl
 · show ({ h with time := (numQ ((fN 0 r.time).2, false)).1 }, (numQ ((fN 0 r.time).2, false)).2) = _
   rw [n6]; rfl
 · rfl
 · show ({ h with key := (keyQ (formsL [r.key.1, r.key.2.1, r.key.2.2], false)).1 }, (keyQ (formsL [r.key.1, r.key.2.1, r.key.2.2], false)).2) = _
   rw [n8]; rfl
 · show ({ h with counts := (runAll numQ (r.counts.flatMap numF).length (r.counts.flatMap numF, false)).1 }, (runAll numQ (r.counts.flatMap numF).length (r.counts.flatMap numF, false)).2) = _
   rw [n9]; rfl
 · show ({ h with cells := (runAll valQ (r.cells.flatMap celF).length (r.cells.flatMap celF, false)).1 }, (runAll valQ (r.cells.flatMap celF).length (r.cells.flatMap celF, false)).2) = _
   rw [n10]; rfl
 · show ({ h with events := (runAll evQ (r.events.flatMap evF).length (r.events.flatMap evF, false)).1 }, (runAll evQ (r.events.flatMap evF).length (r.events.flatMap evF, false)).2) = _
   rw [n11]; rfl
 · show ({ h with ports := (runAll portQ (r.ports.flatMap ptF).length (r.ports.flatMap ptF, false)).1 }, (runAll portQ (r.ports.flatMap ptF).length (r.ports.flatMap ptF, false)).2) = _
   rw [n12]; rfl
 · show ({ h with handles := (runAll hdQ (r.handles.flatMap hdF).length (r.handles.flatMap hdF, false)).1 }, (runAll hdQ (r.handles.flatMap hdF).length (r.handles.flatMap hdF, false)).2) = _
   rw [n13]; rfl
theorem run_all {r : Rs} (hr : okRs r) (hv : vokS r = true) : ∀ (l : List (Int × List Int)) (h : Rs), (∀ f ∈ l, f ∈ allF r) -> runTS h l = (l.foldl (fun h f => copyT r h f.1) h, true)
 | [], h, _ => rfl
 | f :: l, h, hl => by
   have e := take_all hr hv f (hl f (by simp)) h
   rw [runTS, e, List.foldl_cons]
   show (if okS ([], false) = true then runTS (copyT r h f.1) l else (h, false)) = _
   rw [if_pos (show okS ([], false) = true from rfl)]
   exact run_all hr hv l _ fun g hg => hl g (by simp [hg])
def stF (r h : Rs) (t : Int) : Rs := if hasF r t then copyT r h t else h
theorem stF_eq {r h q : Rs} {t : Int} (hc : copyT r h t = q) (hn : hasF r t = false -> q = h) : stF r h t = q := by
 unfold stF
 cases hb : hasF r t with
 | true => exact hc
 | false => exact (hn hb).symm
theorem of_dec {p : Prop} [Decidable p] (h : decide (¬ p) = false) : p := by
 by_cases hp : p
 · exact hp
 · rw [decide_eq_true hp] at h; cases h
theorem st1 (r h : Rs) : stF r h 1 = { h with num := r.num } := stF_eq rfl fun h => by cases h
theorem st2 (r h : Rs) (h0 : h.kind = 0) : stF r h 2 = { h with kind := r.kind } := stF_eq rfl fun hb => by
 have hb : r.kind = 0 := of_dec hb
 cases h; simp only at h0; rw [hb, h0]
theorem st3 (r h : Rs) (h0 : h.code = 0) : stF r h 3 = { h with code := r.code } := stF_eq rfl fun hb => by
 have hb : r.code = 0 := of_dec hb
 cases h; simp only at h0; rw [hb, h0]
theorem st4 (r h : Rs) (h0 : h.ser = 0) : stF r h 4 = { h with ser := r.ser } := stF_eq rfl fun hb => by
 have hb : r.ser = 0 := of_dec hb
 cases h; simp only at h0; rw [hb, h0]
theorem st5 (r h : Rs) (h0 : h.port = 0) : stF r h 5 = { h with port := r.port } := stF_eq rfl fun hb => by
 have hb : r.port = 0 := of_dec hb
 cases h; simp only at h0; rw [hb, h0]
theorem st6 (r h : Rs) (h0 : h.time = 0) : stF r h 6 = { h with time := r.time } := stF_eq rfl fun hb => by
 have hb : r.time = 0 := of_dec hb
 cases h; simp only at h0; rw [hb, h0]
theorem st7 (r h : Rs) (h0 : h.more = false) : stF r h 7 = { h with more := r.more } := by
 have hh : hasF r 7 = r.more := rfl;unfold stF;rw [hh]
 cases hm : r.more with
 | true => rfl
 | false => cases h; simp only at h0; rw [h0]; rfl
theorem st8 (r h : Rs) (h0 : h.key = (0, 0, 0)) : stF r h 8 = { h with key := r.key } := stF_eq rfl fun hb => by
 have hb : r.key = (0, 0, 0) := of_dec hb
 cases h; simp only at h0; rw [hb, h0]
theorem st9 (r h : Rs) (hr : okRs r) (h0 : h.counts = []) : stF r h 9 = { h with counts := r.counts } := stF_eq rfl fun hb => by
 have hb : r.counts = [] := flat_nil (fun x hx => numF_ne x) (of_dec hb)
 cases h; simp only at h0; rw [hb, h0]
theorem st10 (r h : Rs) (hr : okRs r) (h0 : h.cells = []) : stF r h 10 = { h with cells := r.cells } := stF_eq rfl fun hb => by
 have hb : r.cells = [] := flat_nil (fun x hx => celF_ne (hr.cells x hx)) (of_dec hb)
 cases h; simp only at h0; rw [hb, h0]
theorem st11 (r h : Rs) (hr : okRs r) (h0 : h.events = []) : stF r h 11 = { h with events := r.events } := stF_eq rfl fun hb => by
 have hb : r.events = [] := flat_nil (fun x hx => evF_ne x) (of_dec hb)
 cases h; simp only at h0; rw [hb, h0]
theorem st12 (r h : Rs) (hr : okRs r) (h0 : h.ports = []) : stF r h 12 = { h with ports := r.ports } := stF_eq rfl fun hb => by
 have hb : r.ports = [] := flat_nil (fun x hx => ptF_ne x) (of_dec hb)
 cases h; simp only at h0; rw [hb, h0]
theorem st13 (r h : Rs) (hr : okRs r) (h0 : h.handles = []) : stF r h 13 = { h with handles := r.handles } := stF_eq rfl fun hb => by
 have hb : r.handles = [] := flat_nil (fun x hx => hdF_ne x) (of_dec hb)
 cases h; simp only at h0; rw [hb, h0]
theorem fold_fields {r : Rs} (hr : okRs r) : (fieldsS r).foldl (fun h f => copyT r h f.1) zeroRs = r := by
 rw [fields_eq, List.foldl_filter]
 have e : ∀ (h : Rs), (allF r).foldl (fun x y => if hasF r y.1 = true then copyT r x y.1 else x) h = stF r (stF r (stF r (stF r (stF r (stF r (stF r (stF r (stF r (stF r (stF r (stF r (stF r h 1) 2) 3) 4) 5) 6) 7) 8) 9) 10) 11) 12) 13 := fun h => rfl
 rw [e, st1, st2 _ _ rfl, st3 _ _ rfl, st4 _ _ rfl, st5 _ _ rfl, st6 _ _ rfl, st7 _ _ rfl, st8 _ _ rfl, st9 _ _ hr rfl, st10 _ _ hr rfl, st11 _ _ hr rfl, st12 _ _ hr rfl, st13 _ _ hr rfl]
theorem right_parts {r : Rs} (h : rightS r = true) : vokS r = true /\ rightF (fieldsS r) = true /\ (writeF (fieldsS r)).length <= 16320 := by
 simp only [rightS, Bool.and_eq_true, decide_eq_true_eq] at h;exact h
theorem read_writeS {r : Rs} (hr : okRs r) (h : rightS r = true) : accS (writeS r) = true /\ readS (writeS r) = (r, 0) := by
 obtain ⟨h1, h2, h3⟩ := right_parts h;have hd : (writeS r).drop 1 = writeF (fieldsS r) := rfl;have hrw := read_write h2
 have hf : flS (writeS r) = fieldsS r := by rw [flS, hd, hrw]
 have hrun : runS (writeS r) = (r, true) := by
  rw [runS, hf, run_all hr h1 _ _ fun f hf => (tags_in r f hf).1, fold_fields hr]
 have ha : accS (writeS r) = true := by
  rw [accS, hd, hrw, hrun, h];simp [writeS]
 exact ⟨ha, by rw [readS, ha, if_pos rfl, hrun]⟩
theorem rsM_sl {I : Mem} {r : Rs} {y : Ys} (h : RsM I r y) : ∃ a1 n1 c1 a2 n2 c2 a3 n3 c3 a4 n4 c4 a5 n5 c5, y = ⟨.slice a1 n1 c1, .slice a2 n2 c2, .slice a3 n3 c3, .slice a4 n4 c4, .slice a5 n5 c5⟩ := by
 obtain ⟨yc, yl, ye, yp, yh⟩ := y;obtain ⟨⟨_, _, _, h1, _⟩, ⟨_, _, _, h2, _⟩, ⟨_, _, _, h3, _⟩, ⟨_, _, _, h4, _⟩, ⟨_, _, _, h5, _⟩⟩ := h
 simp only at h1 h2 h3 h4 h5
 subst h1 h2 h3 h4 h5;exact ⟨_, _, _, _, _, _, _, _, _, _, _, _, _, _, _, rfl⟩
theorem write_lenS {r : Rs} (h : rightS r = true) : (writeS r).length <= 16321 := by
 have := (right_parts h).2.2
 rw [writeS, List.length_cons]; omega
theorem all_ok {r : Rs} (hr : okRs r) : ∀ f ∈ allF r, okFld f := by
 intro f hf;have hl := lists_ok hr;simp only [listsL, List.mem_cons, List.not_mem_nil, or_false] at hl;simp only [allF, List.mem_cons, List.not_mem_nil, or_false] at hf
 rcases hf with rfl | rfl | rfl | rfl | rfl | rfl | rfl | rfl | rfl | rfl | rfl | rfl | rfl
 · exact fN_ok (by omega)
 · exact fN_ok (by omega)
 · exact fN_ok (by omega)
 · exact fN_ok (by omega)
 · exact fN_ok (by omega)
 · exact fN_ok (by omega)
 · exact ⟨by simp, fun z hz => by cases hz⟩
 · exact ⟨by simp, forms_bytes _⟩
 · exact hl _ (.inl rfl)
 · exact hl _ (.inr (.inl rfl))
 · exact hl _ (.inr (.inr (.inl rfl)))
 · exact hl _ (.inr (.inr (.inr (.inl rfl))))
 · exact hl _ (.inr (.inr (.inr (.inr rfl))))
theorem write_okS {r : Rs} (hr : okRs r) (h : rightS r = true) : byteL (writeS r) := by
 intro z hz
 rcases List.mem_cons.1 hz with rfl | hz
 · omega
 · exact write_bytes (right_parts h).2.1 (fun f hf => all_ok hr f (tags_in r f hf).1) z hz
theorem cs15 (r : Rs) (h1 : r.counts.length <= 1000000) (h2 : r.cells.length <= 1000000) (h3 : r.events.length <= 1000000) (h4 : r.ports.length <= 1000000) (h5 : r.handles.length <= 1000000) (y : Ys) (I : Mem) (hM : RsM I r y) :
 CtS Try.prog (.v (fnv 15)) [.v (.agg (rsV r y).toArray)] [] I (fun sv H' _ => sv = rsR r /\ H' = rowsR r) := by
 obtain ⟨⟨ac, nc, cc, e1, hc, _⟩, ⟨al, nl, cl, e2, hl, _⟩, ⟨ae, ne, ce, e3, he, _⟩, ⟨ap, np, cp, e4, hp, _⟩, ⟨ah, nh, ch, e5, hh, _⟩⟩ := hM;obtain ⟨yc, yl, ye, yp, yh⟩ := y;subst e1 e2 e3 e4 e5;obtain ⟨Q, hQ⟩ : ∃ Q : SV -> List Ent -> Prop, Q = fun sv H' => sv = rsR r /\ H' = rowsR r := ⟨_, rfl⟩
 show CtS _ _ _ _ I (fun sv H' _ => (fun sv H' => sv = rsR r /\ H' = rowsR r) sv H')
 rw [<- hQ]
 refine viaR (ctS_via (A := { calls := [(5, .lend [] (.row 0) [.row 1 3]), (8, .lend [] (.row 0) [.row 1 2]), (11, .lend [] (.row 0) [.row 5 40]), (14, .lend [] (.row 0) [.row 3 43]), (17, .lend [] (.row 0) [.row 5 46])] }) Try.func15 rfl Try.call15 [2, 3, 4, 5, 6] rfl) (CtS Try.prog (.v (fnv 27)) [.v (.slice ac nc cc)] [] I fun s H a => ∃ n x, s = .rsl 0 n /\ H = [⟨.row x 1 3, none⟩] /\ CtS Try.prog (.v (fnv 28)) [.v (.slice al nl cl)] [] a fun b c d => ∃ e f, b = .rsl 0 e /\ c = [⟨.row f 1 2, none⟩] /\ CtS Try.prog (.v (fnv 29)) [.v (.slice ae ne ce)] [] d fun g h i => ∃ j k, g = .rsl 0 j /\ h = [⟨.row k 5 40, none⟩] /\ CtS Try.prog (.v (fnv 30)) [.v (.slice ap np cp)] [] i fun l m o => ∃ p q, l = .rsl 0 p /\ m = [⟨.row q 3 43, none⟩] /\ CtS Try.prog (.v (fnv 31)) [.v (.slice ah nh ch)] [] o fun t u v => ∃ w y, t = .rsl 0 w /\ u = [⟨.row y 5 46, none⟩] /\ Q (.agg [.v (.int .i64 r.num), .v (.int .i64 r.code), .v (.int .i64 r.ser), .v (.int .i64 r.port), .v (.int .i64 r.time), .v (.int .u8 r.kind), .v (.bool r.more), .v (.int .i64 r.key.1), .v (.int .i64 r.key.2.1), .v (.int .i64 r.key.2.2), .rsl 0 n, .rsl 1 e, .rsl 2 j, .rsl 3 p, .rsl 4 w]) [⟨.row x 1 3, none⟩, ⟨.row f 1 2, none⟩, ⟨.row k 5 40, none⟩, ⟨.row q 3 43, none⟩, ⟨.row y 5 46, none⟩]) (by kernel_rfl) ?_
 have b1 := hc.len;have b2 := hl.len;have b3 := he.len;have b4 := hp.len;have b5 := hh.len;rw [cI_len] at b1 b2;rw [cE_len] at b3;rw [cP_len] at b4;rw [cH_len] at b5
 refine (cts_new (n := r.counts.length) (args := [.slice ac nc cc]) (by decide) (by rw [cI_len]; omega) (ct27R r.counts ac nc cc I hc (by omega))).mono fun sv H' I1 l1 ⟨g1, g2⟩ => ⟨_, _, g1, g2, ?_⟩
 refine (cts_new (n := r.cells.length) (args := [.slice al nl cl]) (by decide) (by rw [cI_len]; omega) (ct28R r.cells al nl cl I1 (hl.mono l1) (by omega))).mono fun sv H' I2 l2 ⟨g1, g2⟩ => ⟨_, _, g1, g2, ?_⟩
 have l12 := Mem.le_trans l1 l2
 refine (cts_new (n := r.events.length) (args := [.slice ae ne ce]) (by decide) (cE_len _) (ct29R r.events ae ne ce I2 (he.mono l12) (by omega))).mono fun sv H' I3 l3 ⟨g1, g2⟩ => ⟨_, _, g1, g2, ?_⟩
 have l13 := Mem.le_trans l12 l3
 refine (cts_new (n := r.ports.length) (args := [.slice ap np cp]) (by decide) (cP_len _) (ct30R r.ports ap np cp I3 (hp.mono l13) (by omega))).mono fun sv H' I4 l4 ⟨g1, g2⟩ => ⟨_, _, g1, g2, ?_⟩
 have l14 := Mem.le_trans l13 l4
 refine (cts_new (n := r.handles.length) (args := [.slice ah nh ch]) (by decide) (cH_len _) (ct31R r.handles ah nh ch I4 (hh.mono l14) (by omega))).mono fun sv H' I5 l5 ⟨g1, g2⟩ => ⟨_, _, g1, g2, ?_⟩
 rw [hQ];exact ⟨rfl, rfl⟩
theorem right_of2 {r : Rs} (hr : okRs r) (hv : vokS r = true) (h : 9 * r.counts.length + (9 * r.cells.length + (45 * r.events.length + (59 * r.ports.length + 45 * r.handles.length))) <= 15800) (hp : ∀ x ∈ r.ports, x.2.1.length <= 32) : rightS r = true := by
 have e1 : (r.counts.flatMap numF).length <= 9 * r.counts.length := fm_bound fun x _ => numF_len x;have e2 : (r.cells.flatMap celF).length <= 9 * r.cells.length := fm_bound fun x hx => celF_len (hr.cells x hx);have e3 : (r.events.flatMap evF).length <= 45 * r.events.length := fm_bound fun x hx => evF_len (hr.events x hx).2.2
 have e4 : (r.ports.flatMap ptF).length <= 59 * r.ports.length := fm_bound fun x hx => by have := ptF_len x; have := hp x hx; omega
 have e5 : (r.handles.flatMap hdF).length <= 45 * r.handles.length := fm_bound fun x _ => hdF_len x;have e6 := forms_len [r.key.1, r.key.2.1, r.key.2.2]
 have hs : sumF (allF r) <= 16000 := by
  have a1 := fN_len 1 r.num;have a2 := fN_len 2 r.kind;have a3 := fN_len 3 r.code;have a4 := fN_len 4 r.ser;have a5 := fN_len 5 r.port;have a6 := fN_len 6 r.time;simp only [List.length_cons, List.length_nil] at e6;rw [allF];simp only [sumF_cons];simp only [sumF, List.map_nil, List.sum_nil, List.length_nil];omega
 obtain ⟨g1, g2⟩ := right_sum hs
 rw [rightS, hv, g1, decide_eq_true g2]; rfl
def gA (n v : Int) : Rs := { num := 281474976710656, code := n, ser := n, port := n, time := n, kind := 9, more := true, key := (n, n, n), counts := List.replicate 16 n, cells := List.replicate 1024 v, events := [], ports := [], handles := [] }
def gB (n v k : Int) : Rs := { num := 281474976710656, code := n, ser := n, port := n, time := n, kind := 9, more := true, key := (n, n, n), counts := List.replicate 16 n, cells := [], events := List.replicate 64 ((n, n, n), n, v), ports := List.replicate 64 (n, strL (nmF k), n), handles := List.replicate 64 (n, n, n, n, 15) }
theorem rep_all {α : Type} {Q : α -> Prop} {m : Nat} {x : α} (h : Q x) : ∀ y ∈ List.replicate m x, Q y := fun y hy => by rw [List.eq_of_mem_replicate hy]; exact h
theorem nm_ok (k : Int) (hk : okNm (nmF k) = true) : nameB (strL (nmF k)) = true /\ (strL (nmF k)).length <= 20 := by
 have := okNm_sz hk;simp only [okNm, Bool.and_eq_true] at hk
 exact ⟨hk.1, by rw [strL_len]; exact this⟩
theorem gA_ok {n v : Int} (hn : 0 <= n /\ n <= 4611686018427387903) (hv : i64R v) : okRs (gA n v) := by
 have hi : i64R n := by simp only [i64R]; omega
 exact ⟨by simp [-List.reduceReplicate, gA, i64R], hi, hi, hi, hi, by simp [-List.reduceReplicate, gA], ⟨hi, hi, hi⟩, rep_all hi, rep_all hv, fun x hx => by simp [-List.reduceReplicate, gA] at hx, fun x hx => by simp [-List.reduceReplicate, gA] at hx, fun x hx => by simp [-List.reduceReplicate, gA] at hx⟩
theorem gB_ok {n v k : Int} (hn : 0 <= n /\ n <= 4611686018427387903) (hv : i64R v) : okRs (gB n v k) := by
 have hi : i64R n := by simp only [i64R]; omega
 exact ⟨by simp [-List.reduceReplicate, gB, i64R], hi, hi, hi, hi, by simp [-List.reduceReplicate, gB], ⟨hi, hi, hi⟩, rep_all hi, fun x hx => by simp [-List.reduceReplicate, gB] at hx, rep_all ⟨⟨hi, hi, hi⟩, hi, hv⟩, rep_all ⟨hi, strL_byte _, hi⟩, rep_all ⟨⟨hi, hi, hi, hi⟩, by simp, by simp⟩⟩
theorem neg_no {l : List Int} (h : ∀ x ∈ l, 0 <= x) : negL l = false := by
 rw [negL, List.any_eq_false];intro x hx;have := h x hx
 simp; omega
theorem gA_right {n v : Int} (hn : 0 <= n /\ n <= 4611686018427387903) (hv : i64R v) : rightS (gA n v) = true := by
 refine right_of2 (gA_ok hn hv) ?_ (by simp [-List.reduceReplicate, gA]) (fun x hx => by simp [-List.reduceReplicate, gA] at hx)
 have a1 : negL [n, n, n, n, n, n, n] = false := neg_no fun x hx => by simp at hx; omega
 have a2 : negL (List.replicate 16 n) = false := neg_no (rep_all hn.1);simp [-List.reduceReplicate, vokS, headOk, lenOk, gA, a1, a2]
theorem gB_right {n v k : Int} (hn : 0 <= n /\ n <= 4611686018427387903) (hv : i64R v) (hk : okNm (nmF k) = true) : rightS (gB n v k) = true := by
 obtain ⟨k1, k2⟩ := nm_ok k hk
 refine right_of2 (gB_ok hn hv) ?_ (by simp [-List.reduceReplicate, gB]) (rep_all (by simp only; omega))
 have a1 : negL [n, n, n, n, n, n, n] = false := neg_no fun x hx => by simp at hx; omega
 have a2 : negL (List.replicate 16 n) = false := neg_no (rep_all hn.1)
 have a3 : negL [n, n, n, n] = false := neg_no fun x hx => by simp at hx; omega
 have a4 : negL [n, n] = false := neg_no fun x hx => by simp at hx; omega
 simp [-List.reduceReplicate, vokS, headOk, lenOk, gB, a1, a2, evOk, ptOk, hdOk, a3, a4, k1]
theorem sl_news {I0 I1 J : Mem} {a : Option Addr} {n c sz : Nat} {xs : List Value} (h : SlM I1 a n sz xs) (hc : n <= c) (hN : NewS sz I0 I1 a c) (hJ : newsIn I0 I1 J) : SlM J a n sz xs := by
 refine ⟨h.len, h.nil, h.max, fun j v hj => ?_⟩
 have hn : 0 < n := by
  rcases Nat.eq_zero_or_pos n with h0 | h0
  · have := h.len
    rw [h0, Nat.zero_mul] at this;rw [List.eq_nil_of_length_eq_zero this] at hj;simp at hj
  · exact h0
 obtain ⟨b, off, cur, el, fz, rfl, h0, h1, _⟩ := hN (by omega)
 have hb := hJ b _ h1 h0;have := h.at_ j v hj;simpa [atI, Addr.add_lit, cellM, hb, h1] using this
theorem wr_rd {q : Rs} (hq : okRs q) (hR : rightS q = true) (hc : q.counts.length <= 1000000) {y : Ys} {I9 I : Mem} (hM : RsM I9 q y) {K : Value -> Value -> Mem -> Prop}
 (hK : ∀ a1 n1 c1 a2 n2 c2 a3 n3 c3 a4 n4 c4 a5 n5 c5 J, I.le J -> RsM J q ⟨.slice a1 n1 c1, .slice a2 n2 c2, .slice a3 n3 c3, .slice a4 n4 c4, .slice a5 n5 c5⟩ -> K (.agg #[.int .i64 q.num, .int .i64 q.code, .int .i64 q.ser, .int .i64 q.port, .int .i64 q.time, .int .u8 q.kind, .bool q.more, .int .i64 q.key.1, .int .i64 q.key.2.1, .int .i64 q.key.2.2, .slice a1 n1 c1, .slice a2 n2 c2, .slice a3 n3 c3, .slice a4 n4 c4, .slice a5 n5 c5]) (.int .i64 0) J) :
 Ct Try.prog (fnv 10) #[.agg (rsV q y).toArray] I9 fun v1 I10 => ∃ a6 n4 c6 n5, v1 = .tuple #[.slice a6 n4 c6, .int .i64 n5] /\ n5 = 0 /\ ∀ (J : Mem), I.le J -> (∀ (b1 : Nat) (o1 : Obj), I10 b1 = some o1 -> I9 b1 = none -> J b1 = some o1) -> Ct Try.prog (fnv 12) #[.slice a6 n4 c6] J fun v2 I11 => ∃ x y, v2 = .tuple #[x, y] /\ K x y I11 := by
 refine (ct10 q hq y I9 hM hc).mono fun v1 I10 l10 ⟨a, n, c, hv, hs, hnc, hcm, hN⟩ => ?_;rw [hR] at hv hs;simp only [if_true] at hv hs;refine ⟨a, n, c, 0, hv, rfl, fun J lJ hJ => ?_⟩;have hs' := sl_news hs hnc (hN a n c rfl).1 hJ;have hl := hs.numLen;have hwl := write_lenS hR;have hback := (read_writeS hq hR).2
 refine (ct12 (writeS q) (write_okS hq hR) a n c J hs' (by omega) hnc hcm).mono fun v2 I11 l11 ⟨yb, hv2, hM2, _⟩ => ?_
 rw [hback] at hv2 hM2;obtain ⟨a1, n1, c1, a2, n2, c2, a3, n3, c3, a4, n4, c4, a5, n5, c5, rfl⟩ := rsM_sl hM2;exact ⟨_, _, hv2, hK _ _ _ _ _ _ _ _ _ _ _ _ _ _ _ I11 (Mem.le_trans lJ l11) hM2⟩
theorem RowM.mono {J K : Mem} {a : Option Addr} {cp sz : Nat} {xs : List Value} (h : RowM J a cp sz xs) (hle : J.le K) : RowM K a cp sz xs := ⟨h.1, h.2.1, h.2.2.1, fun j v hj => atI_le hle (h.2.2.2 j v hj)⟩
theorem great5 {q : Rs} (hq : okRs q) (hR : rightS q = true) (hc : q.counts.length <= 1000000) {I : Mem} {f1 f2 f3 f4 f5 f6 f8 f9 f10 : Int} {f7 : Bool} (h1 : f1 = q.num) (h2 : f2 = q.code) (h3 : f3 = q.ser) (h4 : f4 = q.port) (h5 : f5 = q.time) (h6 : f6 = q.kind) (h7 : f7 = q.more) (h8 : f8 = q.key.1) (h9 : f9 = q.key.2.1) (h10 : f10 = q.key.2.2) {l1 : Nat} {x1 : List Value} (g1 : l1 = q.counts.length) (e1 : x1 = q.counts.flatMap cI) {l2 : Nat} {x2 : List Value} (g2 : l2 = q.cells.length) (e2 : x2 = q.cells.flatMap cI) {l3 : Nat} {x3 : List Value} (g3 : l3 = q.events.length) (e3 : x3 = q.events.flatMap cE) {l4 : Nat} {x4 : List Value} (g4 : l4 = q.ports.length) (e4 : x4 = q.ports.flatMap cP) {l5 : Nat} {x5 : List Value} (g5 : l5 = q.handles.length) (e5 : x5 = q.handles.flatMap cH)  {A K : Prop} (hK : K) :
 ∀ (pa1 : Option Addr) (pc1 : Nat) (pI1 : Mem), I.le pI1 -> RowM pI1 pa1 pc1 1 x1 -> ∀ (pa2 : Option Addr) (pc2 : Nat) (pI2 : Mem), pI1.le pI2 -> RowM pI2 pa2 pc2 1 x2 -> ∀ (pa3 : Option Addr) (pc3 : Nat) (pI3 : Mem), pI2.le pI3 -> RowM pI3 pa3 pc3 5 x3 -> ∀ (pa4 : Option Addr) (pc4 : Nat) (pI4 : Mem), pI3.le pI4 -> RowM pI4 pa4 pc4 3 x4 -> ∀ (pa5 : Option Addr) (pc5 : Nat) (pI5 : Mem), pI4.le pI5 -> RowM pI5 pa5 pc5 5 x5 -> Ct Try.prog (fnv 10) #[.agg #[.int .i64 f1, .int .i64 f2, .int .i64 f3, .int .i64 f4, .int .i64 f5, .int .u8 f6, .bool f7, .int .i64 f8, .int .i64 f9, .int .i64 f10, .slice pa1 l1 pc1, .slice pa2 l2 pc2, .slice pa3 l3 pc3, .slice pa4 l4 pc4, .slice pa5 l5 pc5]] pI5 fun v1 I10 => ∃ a6 n4 c6 n5, v1 = .tuple #[.slice a6 n4 c6, .int .i64 n5] /\ ∀ (J : Mem), I.le J -> (∀ (b1 : Nat) (o1 : Obj), I10 b1 = some o1 -> pI5 b1 = none -> J b1 = some o1) -> Ct Try.prog (fnv 12) #[.slice a6 n4 c6] J fun v2 I11 => ∃ n6 n7 n8 n9 n10 n11 b1 n12 n13 n14 a7 n15 c7 a8 n16 c8 a9 n17 c9 a10 n18 c10 a11 n19 c11 n20, v2 = .tuple #[.agg #[.int .i64 n6, .int .i64 n7, .int .i64 n8, .int .i64 n9, .int .i64 n10, .int .u8 n11, .bool b1, .int .i64 n12, .int .i64 n13, .int .i64 n14, .slice a7 n15 c7, .slice a8 n16 c8, .slice a9 n17 c9, .slice a10 n18 c10, .slice a11 n19 c11], .int .i64 n20] /\ Wr .i64 (n5 + n20) fun c12 => Br (c12 != 0) A (∀ (qa1 : Option Addr) (qc1 : Nat) (qI1 : Mem), I11.le qI1 -> RowM qI1 qa1 qc1 1 x1 -> ∀ (qa2 : Option Addr) (qc2 : Nat) (qI2 : Mem), qI1.le qI2 -> RowM qI2 qa2 qc2 1 x2 -> ∀ (qa3 : Option Addr) (qc3 : Nat) (qI3 : Mem), qI2.le qI3 -> RowM qI3 qa3 qc3 5 x3 -> ∀ (qa4 : Option Addr) (qc4 : Nat) (qI4 : Mem), qI3.le qI4 -> RowM qI4 qa4 qc4 3 x4 -> ∀ (qa5 : Option Addr) (qc5 : Nat) (qI5 : Mem), qI4.le qI5 -> RowM qI5 qa5 qc5 5 x5 -> Ct Try.prog (fnv 11) #[.agg #[.int .i64 f1, .int .i64 f2, .int .i64 f3, .int .i64 f4, .int .i64 f5, .int .u8 f6, .bool f7, .int .i64 f8, .int .i64 f9, .int .i64 f10, .slice qa1 l1 qc1, .slice qa2 l2 qc2, .slice qa3 l3 qc3, .slice qa4 l4 qc4, .slice qa5 l5 qc5]] qI5 fun v3 _ => ∃ b2, v3 = .bool b2 /\ Br (!b2) A (∀ (ra1 : Option Addr) (rc1 : Nat) (rI1 : Mem), I11.le rI1 -> RowM rI1 ra1 rc1 1 x1 -> ∀ (ra2 : Option Addr) (rc2 : Nat) (rI2 : Mem), rI1.le rI2 -> RowM rI2 ra2 rc2 1 x2 -> ∀ (ra3 : Option Addr) (rc3 : Nat) (rI3 : Mem), rI2.le rI3 -> RowM rI3 ra3 rc3 5 x3 -> ∀ (ra4 : Option Addr) (rc4 : Nat) (rI4 : Mem), rI3.le rI4 -> RowM rI4 ra4 rc4 3 x4 -> ∀ (ra5 : Option Addr) (rc5 : Nat) (rI5 : Mem), rI4.le rI5 -> RowM rI5 ra5 rc5 5 x5 -> Ct Try.prog (fnv 13) #[.agg #[.int .i64 n6, .int .i64 n7, .int .i64 n8, .int .i64 n9, .int .i64 n10, .int .u8 n11, .bool b1, .int .i64 n12, .int .i64 n13, .int .i64 n14, .slice a7 n15 c7, .slice a8 n16 c8, .slice a9 n17 c9, .slice a10 n18 c10, .slice a11 n19 c11], .agg #[.int .i64 f1, .int .i64 f2, .int .i64 f3, .int .i64 f4, .int .i64 f5, .int .u8 f6, .bool f7, .int .i64 f8, .int .i64 f9, .int .i64 f10, .slice ra1 l1 rc1, .slice ra2 l2 rc2, .slice ra3 l3 rc3, .slice ra4 l4 rc4, .slice ra5 l5 rc5]] rI5 fun v4 _ => ∃ b3, v4 = .bool b3 /\ Br (!b3) A K)) := by
 subst h1 h2 h3 h4 h5 h6 h7 h8 h9 h10 g1 e1 g2 e2 g3 e3 g4 e4 g5 e5
 have M : ∀ {J : Mem} {a1 a2 a3 a4 a5 : Option Addr} {c1 c2 c3 c4 c5 : Nat}, RowM J a1 c1 1 (q.counts.flatMap cI) -> RowM J a2 c2 1 (q.cells.flatMap cI) -> RowM J a3 c3 5 (q.events.flatMap cE) -> RowM J a4 c4 3 (q.ports.flatMap cP) -> RowM J a5 c5 5 (q.handles.flatMap cH) -> RsM J q ⟨.slice a1 q.counts.length c1, .slice a2 q.cells.length c2, .slice a3 q.events.length c3, .slice a4 q.ports.length c4, .slice a5 q.handles.length c5⟩ := fun w1 w2 w3 w4 w5 =>
  ⟨rowM_lst w1 (Mem.le_refl _) (by omega) (by rw [cI_len]; omega), rowM_lst w2 (Mem.le_refl _) (by omega) (by rw [cI_len]; omega), rowM_lst w3 (Mem.le_refl _) (by omega) (cE_len _), rowM_lst w4 (Mem.le_refl _) (by omega) (cP_len _), rowM_lst w5 (Mem.le_refl _) (by omega) (cH_len _)⟩
 intro pa1 pc1 pI1 pk1 pw1 pa2 pc2 pI2 pk2 pw2 pa3 pc3 pI3 pk3 pw3 pa4 pc4 pI4 pk4 pw4 pa5 pc5 pI5 pk5 pw5
 have pl4 := pk5; have pl3 := Mem.le_trans pk4 pl4; have pl2 := Mem.le_trans pk3 pl3; have pl1 := Mem.le_trans pk2 pl2
 refine (wr_rd (I := I) (K := fun x y I11 => ∃ a1 n1 c1 a2 n2 c2 a3 n3 c3 a4 n4 c4 a5 n5 c5, x = .agg #[.int .i64 q.num, .int .i64 q.code, .int .i64 q.ser, .int .i64 q.port, .int .i64 q.time, .int .u8 q.kind, .bool q.more, .int .i64 q.key.1, .int .i64 q.key.2.1, .int .i64 q.key.2.2, .slice a1 n1 c1, .slice a2 n2 c2, .slice a3 n3 c3, .slice a4 n4 c4, .slice a5 n5 c5] /\ y = .int .i64 0 /\ RsM I11 q ⟨.slice a1 n1 c1, .slice a2 n2 c2, .slice a3 n3 c3, .slice a4 n4 c4, .slice a5 n5 c5⟩) hq hR hc (M (RowM.mono pw1 pl1) (RowM.mono pw2 pl2) (RowM.mono pw3 pl3) (RowM.mono pw4 pl4) pw5) (fun a1 n1 c1 a2 n2 c2 a3 n3 c3 a4 n4 c4 a5 n5 c5 J l hM => ⟨_, _, _, _, _, _, _, _, _, _, _, _, _, _, _, rfl, rfl, hM⟩)).mono fun v1 I10 l10 ⟨a6, n4, c6, n5, hv, hn, hk⟩ => ⟨a6, n4, c6, n5, hv, fun J lJ hJ => ?_⟩
 subst hn;refine (hk J lJ hJ).mono fun v2 I11 l11 ⟨x, y, hv2, a1, n1, c1, a2, n2, c2, a3, n3, c3, a4, n4, c4, a5, n5, c5, hx, hy, hM2⟩ => ?_;subst hx hy
 refine ⟨_, _, _, _, _, _, _, _, _, _, _, _, _, _, _, _, _, _, _, _, _, _, _, _, _, _, hv2, wr_i64 (by omega) (by omega) (Br.f rfl ?_)⟩
 intro qa1 qc1 qI1 qk1 qw1 qa2 qc2 qI2 qk2 qw2 qa3 qc3 qI3 qk3 qw3 qa4 qc4 qI4 qk4 qw4 qa5 qc5 qI5 qk5 qw5
 have ql4 := qk5; have ql3 := Mem.le_trans qk4 ql4; have ql2 := Mem.le_trans qk3 ql3; have ql1 := Mem.le_trans qk2 ql2
 refine (ct11 q hq _ _ (M (RowM.mono qw1 ql1) (RowM.mono qw2 ql2) (RowM.mono qw3 ql3) (RowM.mono qw4 ql4) qw5) hc).mono fun v3 _ _ hv3 => ⟨_, hv3, Br.f (by rw [hR]; rfl) ?_⟩
 intro ra1 rc1 rI1 rk1 rw1 ra2 rc2 rI2 rk2 rw2 ra3 rc3 rI3 rk3 rw3 ra4 rc4 rI4 rk4 rw4 ra5 rc5 rI5 rk5 rw5
 have rl4 := rk5; have rl3 := Mem.le_trans rk4 rl4; have rl2 := Mem.le_trans rk3 rl3; have rl1 := Mem.le_trans rk2 rl2
 exact (ct13 q q hq hq _ _ _ (hM2.mono (Mem.le_trans rk1 rl1)) (M (RowM.mono rw1 rl1) (RowM.mono rw2 rl2) (RowM.mono rw3 rl3) (RowM.mono rw4 rl4) rw5)).mono fun v4 _ _ hv4 => ⟨_, hv4, Br.f (by rw [sameS_iff.2 rfl]; rfl) hK⟩
theorem great2 {q : Rs} (hq : okRs q) (hR : rightS q = true) (hc : q.counts.length <= 1000000) {I : Mem} {f1 f2 f3 f4 f5 f6 f8 f9 f10 : Int} {f7 : Bool} (h1 : f1 = q.num) (h2 : f2 = q.code) (h3 : f3 = q.ser) (h4 : f4 = q.port) (h5 : f5 = q.time) (h6 : f6 = q.kind) (h7 : f7 = q.more) (h8 : f8 = q.key.1) (h9 : f9 = q.key.2.1) (h10 : f10 = q.key.2.2) {l1 : Nat} {x1 : List Value} (g1 : l1 = q.counts.length) (e1 : x1 = q.counts.flatMap cI) {l2 : Nat} {x2 : List Value} (g2 : l2 = q.cells.length) (e2 : x2 = q.cells.flatMap cI) (e3 : q.events = []) (e4 : q.ports = []) (e5 : q.handles = []) {A K : Prop} (hK : K) :
 ∀ (pa1 : Option Addr) (pc1 : Nat) (pI1 : Mem), I.le pI1 -> RowM pI1 pa1 pc1 1 x1 -> ∀ (pa2 : Option Addr) (pc2 : Nat) (pI2 : Mem), pI1.le pI2 -> RowM pI2 pa2 pc2 1 x2 -> Ct Try.prog (fnv 10) #[.agg #[.int .i64 f1, .int .i64 f2, .int .i64 f3, .int .i64 f4, .int .i64 f5, .int .u8 f6, .bool f7, .int .i64 f8, .int .i64 f9, .int .i64 f10, .slice pa1 l1 pc1, .slice pa2 l2 pc2, .slice none 0 0, .slice none 0 0, .slice none 0 0]] pI2 fun v1 I10 => ∃ a6 n4 c6 n5, v1 = .tuple #[.slice a6 n4 c6, .int .i64 n5] /\ ∀ (J : Mem), I.le J -> (∀ (b1 : Nat) (o1 : Obj), I10 b1 = some o1 -> pI2 b1 = none -> J b1 = some o1) -> Ct Try.prog (fnv 12) #[.slice a6 n4 c6] J fun v2 I11 => ∃ n6 n7 n8 n9 n10 n11 b1 n12 n13 n14 a7 n15 c7 a8 n16 c8 a9 n17 c9 a10 n18 c10 a11 n19 c11 n20, v2 = .tuple #[.agg #[.int .i64 n6, .int .i64 n7, .int .i64 n8, .int .i64 n9, .int .i64 n10, .int .u8 n11, .bool b1, .int .i64 n12, .int .i64 n13, .int .i64 n14, .slice a7 n15 c7, .slice a8 n16 c8, .slice a9 n17 c9, .slice a10 n18 c10, .slice a11 n19 c11], .int .i64 n20] /\ Wr .i64 (n5 + n20) fun c12 => Br (c12 != 0) A (∀ (qa1 : Option Addr) (qc1 : Nat) (qI1 : Mem), I11.le qI1 -> RowM qI1 qa1 qc1 1 x1 -> ∀ (qa2 : Option Addr) (qc2 : Nat) (qI2 : Mem), qI1.le qI2 -> RowM qI2 qa2 qc2 1 x2 -> Ct Try.prog (fnv 11) #[.agg #[.int .i64 f1, .int .i64 f2, .int .i64 f3, .int .i64 f4, .int .i64 f5, .int .u8 f6, .bool f7, .int .i64 f8, .int .i64 f9, .int .i64 f10, .slice qa1 l1 qc1, .slice qa2 l2 qc2, .slice none 0 0, .slice none 0 0, .slice none 0 0]] qI2 fun v3 _ => ∃ b2, v3 = .bool b2 /\ Br (!b2) A (∀ (ra1 : Option Addr) (rc1 : Nat) (rI1 : Mem), I11.le rI1 -> RowM rI1 ra1 rc1 1 x1 -> ∀ (ra2 : Option Addr) (rc2 : Nat) (rI2 : Mem), rI1.le rI2 -> RowM rI2 ra2 rc2 1 x2 -> Ct Try.prog (fnv 13) #[.agg #[.int .i64 n6, .int .i64 n7, .int .i64 n8, .int .i64 n9, .int .i64 n10, .int .u8 n11, .bool b1, .int .i64 n12, .int .i64 n13, .int .i64 n14, .slice a7 n15 c7, .slice a8 n16 c8, .slice a9 n17 c9, .slice a10 n18 c10, .slice a11 n19 c11], .agg #[.int .i64 f1, .int .i64 f2, .int .i64 f3, .int .i64 f4, .int .i64 f5, .int .u8 f6, .bool f7, .int .i64 f8, .int .i64 f9, .int .i64 f10, .slice ra1 l1 rc1, .slice ra2 l2 rc2, .slice none 0 0, .slice none 0 0, .slice none 0 0]] rI2 fun v4 _ => ∃ b3, v4 = .bool b3 /\ Br (!b3) A K)) := by
 subst h1 h2 h3 h4 h5 h6 h7 h8 h9 h10 g1 e1 g2 e2
 have M : ∀ {J : Mem} {a1 a2 : Option Addr} {c1 c2 : Nat}, RowM J a1 c1 1 (q.counts.flatMap cI) -> RowM J a2 c2 1 (q.cells.flatMap cI) -> RsM J q ⟨.slice a1 q.counts.length c1, .slice a2 q.cells.length c2, .slice none 0 0, .slice none 0 0, .slice none 0 0⟩ := fun w1 w2 =>
  ⟨rowM_lst w1 (Mem.le_refl _) (by omega) (by rw [cI_len]; omega), rowM_lst w2 (Mem.le_refl _) (by omega) (by rw [cI_len]; omega), ⟨none, 0, 0, rfl, by rw [e3]; exact sl_nil _ _, by omega, by omega⟩, ⟨none, 0, 0, rfl, by rw [e4]; exact sl_nil _ _, by omega, by omega⟩, ⟨none, 0, 0, rfl, by rw [e5]; exact sl_nil _ _, by omega, by omega⟩⟩
 intro pa1 pc1 pI1 pk1 pw1 pa2 pc2 pI2 pk2 pw2;have pl1 := pk2
 refine (wr_rd (I := I) (K := fun x y I11 => ∃ a1 n1 c1 a2 n2 c2 a3 n3 c3 a4 n4 c4 a5 n5 c5, x = .agg #[.int .i64 q.num, .int .i64 q.code, .int .i64 q.ser, .int .i64 q.port, .int .i64 q.time, .int .u8 q.kind, .bool q.more, .int .i64 q.key.1, .int .i64 q.key.2.1, .int .i64 q.key.2.2, .slice a1 n1 c1, .slice a2 n2 c2, .slice a3 n3 c3, .slice a4 n4 c4, .slice a5 n5 c5] /\ y = .int .i64 0 /\ RsM I11 q ⟨.slice a1 n1 c1, .slice a2 n2 c2, .slice a3 n3 c3, .slice a4 n4 c4, .slice a5 n5 c5⟩) hq hR hc (M (RowM.mono pw1 pl1) pw2) (fun a1 n1 c1 a2 n2 c2 a3 n3 c3 a4 n4 c4 a5 n5 c5 J l hM => ⟨_, _, _, _, _, _, _, _, _, _, _, _, _, _, _, rfl, rfl, hM⟩)).mono fun v1 I10 l10 ⟨a6, n4, c6, n5, hv, hn, hk⟩ => ⟨a6, n4, c6, n5, hv, fun J lJ hJ => ?_⟩
 subst hn;refine (hk J lJ hJ).mono fun v2 I11 l11 ⟨x, y, hv2, a1, n1, c1, a2, n2, c2, a3, n3, c3, a4, n4, c4, a5, n5, c5, hx, hy, hM2⟩ => ?_;subst hx hy
 refine ⟨_, _, _, _, _, _, _, _, _, _, _, _, _, _, _, _, _, _, _, _, _, _, _, _, _, _, hv2, wr_i64 (by omega) (by omega) (Br.f rfl ?_)⟩
 intro qa1 qc1 qI1 qk1 qw1 qa2 qc2 qI2 qk2 qw2;have ql1 := qk2
 refine (ct11 q hq _ _ (M (RowM.mono qw1 ql1) qw2) hc).mono fun v3 _ _ hv3 => ⟨_, hv3, Br.f (by rw [hR]; rfl) ?_⟩
 intro ra1 rc1 rI1 rk1 rw1 ra2 rc2 rI2 rk2 rw2;have rl1 := rk2
 exact (ct13 q q hq hq _ _ _ (hM2.mono (Mem.le_trans rk1 rl1)) (M (RowM.mono rw1 rl1) rw2)).mono fun v4 _ _ hv4 => ⟨_, hv4, Br.f (by rw [sameS_iff.2 rfl]; rfl) hK⟩
theorem cs_aggG {P : Program} {fv : SV} {l : List Value} {H : List Ent} {I : Mem} {post : SV -> List Ent -> Mem -> Prop} (h : CtS P fv [.v (.agg l.toArray)] H I post) : CtS P fv [.agg (l.map .v)] H I post := fun e hp hO => by
 have : denL e [SV.agg (l.map .v)] = denL e [.v (.agg l.toArray)] := by
  simp only [denL, den, denL_eq, List.map_map]
  congr 3
  conv => rhs; rw [<- List.map_id l]
  exact List.map_congr_left fun x _ => by simp [den]
 rw [this];exact h e hp hO
theorem rep_cI (x : Int) : ∀ n : Nat, (List.replicate n x).flatMap cI = List.replicate n (.int .i64 x)
 | 0 => rfl
 | n + 1 => by rw [List.replicate_succ, List.flatMap_cons, rep_cI x n, List.replicate_succ]; rfl
theorem rep_up {α : Type} {f : α -> List Value} {x : α} {j : Int} (h : 0 <= j) : (List.replicate j.toNat x).flatMap f ++ f x = (List.replicate (j + 1).toNat x).flatMap f := by
 rw [show (j + 1).toNat = j.toNat + 1 by omega, List.replicate_succ', List.flatMap_append, List.flatMap_cons, List.flatMap_nil, List.append_nil]
theorem rep_upV {x : Value} {j : Int} (h : 0 <= j) : List.replicate j.toNat x ++ [x] = List.replicate (j + 1).toNat x := by
 rw [show (j + 1).toNat = j.toNat + 1 by omega, List.replicate_succ']
theorem great_no {r : Rs} (h : 1024 < r.cells.length \/ 64 < r.events.length) : rightS r = false := by
 have : lenOk r = false := by
  rw [lenOk]
  rcases h with h | h
  · rw [decide_eq_false (p := r.cells.length <= 1024) (by omega)]; simp
  · rw [decide_eq_false (p := r.events.length <= 64) (by omega)]; simp
 rw [rightS, vokS, this]; simp
