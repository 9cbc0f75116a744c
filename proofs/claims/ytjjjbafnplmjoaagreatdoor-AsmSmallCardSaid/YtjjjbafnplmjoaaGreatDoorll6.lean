/- Part of a proof by the rules of the symbolic walk (see the law's own text): contracts of functions of the program. -/
import Derived.Test.YtjjjbafnplmjoaaGreatDoorll5
set_option linter.unusedVariables false
set_option linter.unusedSimpArgs false
open Go Go.Proofs Go.SE Go.RowKit
set_option linter.unusedVariables false
set_option maxRecDepth 100000
theorem ct9 (s : ByteArray) (c : Int) (hc : 0 <= c) (hl : (tx s).length * c.toNat <= 1000000) (hm : c <= 1000000) (I : Mem) : Ct Tryz.prog (fnv 9) #[.string s, .int .i64 c] I (fun v _ => v = .string (strT (Lib.repeatL (tx s) c.toNat))) := by
 refine ct_of_calls Tryz.call9 fun w _ => ?_
 obtain ⟨k, rfl⟩ : ∃ k : Nat, c = k := ⟨c.toNat, by omega⟩
 have hs : s.size = (tx s).length := Array.length_toList.symm
 refine (Tryz.strings_Repeat s k w (by omega) (by rw [hs]; simp only [Int.toNat_natCast] at hl; omega)).mono fun e w' ⟨he, hw⟩ => ⟨⟨_, he, rfl⟩, hw⟩
theorem rep_one (c : UInt8) : ∀ k, Lib.repeatL [c] k = List.replicate k c
 | 0 => rfl
 | k + 1 => by rw [Lib.repeatL, rep_one c k]; rfl
def mvT : Tx := [109, 111, 118, 101, 32, 114, 49, 32, 114, 50, 10]
def jmpT : Tx := [108, 58, 32, 106, 117, 109, 112, 32, 108]
def haltT : Tx := [104, 97, 108, 116]
def many (k : Nat) : Tx := Lib.repeatL mvT k ++ jmpT
theorem mv_len (k : Nat) : (Lib.repeatL mvT k).length = 11 * k := by rw [Lib.repeatL_length, Nat.mul_comm]; rfl
theorem many_ok : ∀ k : Fin 2, let r := parseA (many (k.val + 254)); r.1.length = k.val + 255 /\ (r.1[k.val + 254]?).map (·.n) = some ((k.val : Int) + 254) /\ r.2.1 = 0 /\ r.2.2 = 0 := by decide +kernel
theorem many_no : (parseA (many 256)).2 = (0, 5) := by decide +kernel
theorem fields_blank : ∀ k, fieldsGo [] (List.replicate k 32) = []
 | 0 => rfl
 | k + 1 => by rw [List.replicate_succ, fieldsGo, if_pos (by decide), if_pos rfl, fields_blank k]
theorem rep_not {a c : UInt8} {k : Nat} (h : a ≠ c) : a ∉ List.replicate k c := fun hh => h (List.eq_of_mem_replicate hh)
theorem take_all : ∀ (l : Tx), (59 : UInt8) ∉ l -> l.takeWhile (· ≠ 59) = l
 | [], _ => rfl
 | x :: r, h => by
   rw [List.takeWhile_cons, if_pos (by simp only [ne_eq, decide_eq_true_eq]; intro e; exact h (by rw [e]; simp)), take_all r fun hh => h (List.mem_cons_of_mem _ hh)]
theorem pieces_halt (k : Nat) : piecesT (haltT ++ List.replicate k 32) = [haltT] := by
 unfold piecesT
 rw [take_all _ (by
  rw [List.mem_append]
  rintro (h | h)
  · exact absurd h (by decide)
  · exact rep_not (by decide) h)]
 cases k with
 | zero => decide
 | succ k =>
   simp only [haltT, List.cons_append, List.nil_append, List.replicate_succ];simp [fieldsGo, fields_blank, blankB]
theorem halt_lines (k : Nat) : linesA (splitC 10 (haltT ++ List.replicate k 32)) 1 ⟨[], []⟩ = linesA [haltT] 1 ⟨[], []⟩ := by
 rw [split_free (by
  rw [List.mem_append]
  rintro (h | h)
  · exact absurd h (by decide)
  · exact rep_not (by decide) h)]
 have e : ∀ r n, lineA r (haltT ++ List.replicate k 32) n = lineA r haltT n := fun r n => by
  have := pieces_halt 0;rw [List.replicate_zero, List.append_nil] at this;rw [lineA, lineA, pieces_halt, this]
 rw [linesA, linesA, e];rfl
theorem halt_parse {k : Nat} (h : k <= 65532) : (parseA (haltT ++ List.replicate k 32)).1.length = 1 /\ (parseA (haltT ++ List.replicate k 32)).2 = (0, 0) := by
 have e : readA (haltT ++ List.replicate k 32) = readA haltT := by
  have hs : linesA (splitC 10 haltT) 1 ⟨[], []⟩ = linesA [haltT] 1 ⟨[], []⟩ := by decide +kernel
  have hl : ¬ 65536 < (haltT ++ List.replicate k 32).length := by rw [List.length_append, List.length_replicate]; simp only [haltT, List.length_cons, List.length_nil]; omega
  unfold readA
  rw [halt_lines, hs, if_neg hl, if_neg (show ¬ 65536 < haltT.length by decide)]
 rw [parseA, e]
 decide +kernel
theorem long_read {t : Tx} (h : 65536 < t.length) : readA t = (0, 3, ⟨[], []⟩) := by rw [readA, if_pos h]
theorem split_nl (k : Nat) (t : Tx) : splitC 10 (List.replicate k 10 ++ t) = List.replicate k [] ++ splitC 10 t := by
 induction k with
 | zero => rfl
 | succ k ih => rw [List.replicate_succ, List.cons_append, splitC, if_pos rfl, ih]; rfl
theorem lines_nl (l : List Tx) (r : Rd) : ∀ (k : Nat) (n : Int), linesA (List.replicate k [] ++ l) n r = linesA l (n + k) r
 | 0, n => by simp
 | k + 1, n => by
   rw [List.replicate_succ, List.cons_append, linesA];have e : lineA r [] n = (0, r) := rfl
   rw [e, if_neg (by simp), lines_nl l r k (n + 1)]
   congr 1
   omega
theorem nl_parse : (parseA (List.replicate 65535 10 ++ [120])).2 = (65536, 150) := by
 have e : linesA (splitC 10 (List.replicate 65535 10 ++ [120])) 1 ⟨[], []⟩ = (150, 65536, ⟨[], []⟩) := by
  rw [split_nl, lines_nl]
  decide +kernel
 have e2 : readA (List.replicate 65535 10 ++ [120]) = (65536, 150, ⟨[], []⟩) := by
  rw [readA, if_neg (by rw [List.length_append, List.length_replicate]; decide), e]
  rfl
 rw [parseA, e2];rfl
theorem ct10 (I : Mem) (hG : Globs I) : Ct Tryz.prog (fnv 10) #[] I (fun v _ => v = .bool true) := by
 obtain ⟨N, hN⟩ : ∃ f : Int -> Prop, f = fun (j : Int) => 255 <= j /\ j <= 258 := ⟨_, rfl⟩
 refine viaR (ct_via (A := { loops := [(2, ⟨[(1, .sh (.int .i64))], [], [], fun vals _ _ _ => match vals with | [.int .i64 j] => N j | _ => False, fun vals _ => match vals with | [.int .i64 j] => (258 - j).toNat | _ => 0⟩)] }) Tryz.func10 rfl Tryz.call10 rfl rfl) (let E1 := fun (x : Int) => Wr .i64 (x + 1) fun c => N c /\ Int.toNat (258 - c) < Int.toNat (258 - x)
  N 255 /\ ∀ (a : Mem), Mem -> I.le a -> ∀ (n : Int), N n -> Br (decide (n < 258)) (Wr .i64 (n - 1) (fun c => Ct Tryz.prog (fnv 9) #[.string ⟨#[109, 111, 118, 101, 32, 114, 49, 32, 114, 50, 10]⟩, .int .i64 c] a fun v b => ∃ q, v = .string q /\ q.size + 12 <= 4611686018427387904 /\ Ct Tryz.prog (fnv 16) #[.string (q ++ ⟨#[108, 58, 32, 106, 117, 109, 112, 32, 120, 10, 120, 58]⟩)] b fun d e => ∃ f g h i j, d = .tuple #[.slice f g h, .int .i64 i, .int .i64 j] /\ Wr .i64 (n - 1) fun k => Ct Tryz.prog (fnv 9) #[.string ⟨#[109, 111, 118, 101, 32, 114, 49, 32, 114, 50, 10]⟩, .int .i64 k] e fun l m => ∃ o, l = .string o /\ o.size + 12 <= 4611686018427387904 /\ Ct Tryz.prog (fnv 28) #[.string (o ++ ⟨#[108, 58, 32, 106, 117, 109, 112, 32, 120, 10, 120, 58]⟩)] m fun p r => ∃ s t u w x, p = .tuple #[.slice s t u, .int .i64 w, .int .i64 x] /\ Ct Tryz.prog (fnv 31) #[.slice f g h] r fun y z => ∃ a1 n1 c1, y = .slice a1 n1 c1 /\ Ct Tryz.prog (fnv 30) #[.slice a1 n1 c1, .slice s t u] z fun v1 I1 => ∃ b1, v1 = .bool b1 /\ Br (!b1) (Value.bool false = .bool true) (Br (i != w) (Value.bool false = .bool true) (Br (j != x) (Value.bool false = .bool true) (Wr .i64 (n - 1) (fun c2 => Ct Tryz.prog (fnv 9) #[.string ⟨#[109, 111, 118, 101, 32, 114, 49, 32, 114, 50, 10]⟩, .int .i64 c2] I1 fun v2 I2 => ∃ q1, v2 = .string q1 /\ q1.size + 9 <= 4611686018427387904 /\ Ct Tryz.prog (fnv 16) #[.string (q1 ++ ⟨#[108, 58, 32, 106, 117, 109, 112, 32, 108]⟩)] I2 fun v3 I3 => ∃ a2 n2 c3 n3 n4, v3 = .tuple #[.slice a2 n2 c3, .int .i64 n3, .int .i64 n4] /\ Br (decide (n <= 256)) (Br ((n2 : Int) != n) (Value.bool false = .bool true) (Br (n3 != 0) (Value.bool false = .bool true) (Br (n4 != 0) (Value.bool false = .bool true) (Wr .i64 (n - 1) (fun c4 => 0 <= c4 /\ c4 < (n2 : Int) /\ a2.isSome = true /\ a2.isSome = true /\ ∃ n5, atI I3 a2 (c4.toNat * 5 + 4 + 0) = some (.int .i64 n5) /\ Wr .i64 (n - 1) fun c5 => Br (n5 != c5) (Value.bool false = .bool true) (Br (decide (256 < n)) (Br (n3 != 0) (Value.bool false = .bool true) (Br (n4 != 5) (Value.bool false = .bool true) (E1 n))) (E1 n))))))) (Br (decide (256 < n)) (Br (n3 != 0) (Value.bool false = .bool true) (Br (n4 != 5) (Value.bool false = .bool true) (E1 n))) (E1 n)))))))) (Ct Tryz.prog (fnv 9) #[.string ⟨#[32]⟩, .int .i64 65532] a (fun v b => ∃ q, v = .string q /\ 4 + q.size <= 4611686018427387904 /\ Ct Tryz.prog (fnv 16) #[.string (⟨#[104, 97, 108, 116]⟩ ++ q)] b fun c d => ∃ e f g h i, c = .tuple #[.slice e f g, .int .i64 h, .int .i64 i] /\ ByteArray.size (⟨#[104, 97, 108, 116]⟩ ++ q) + 1 <= 4611686018427387904 /\ Ct Tryz.prog (fnv 16) #[.string (⟨#[104, 97, 108, 116]⟩ ++ q ++ ⟨#[32]⟩)] d fun j k => ∃ l m o p r, j = .tuple #[.slice l m o, .int .i64 p, .int .i64 r] /\ ByteArray.size (⟨#[104, 97, 108, 116]⟩ ++ q) + 1 <= 4611686018427387904 /\ Ct Tryz.prog (fnv 26) #[.string (⟨#[104, 97, 108, 116]⟩ ++ q ++ ⟨#[58]⟩)] k fun s t => ∃ u w x y z, s = .tuple #[.slice u w x, .int .i64 y, .int .i64 z] /\ Ct Tryz.prog (fnv 9) #[.string ⟨#[10]⟩, .int .i64 65535] t fun v1 I1 => ∃ q1, v1 = .string q1 /\ q1.size + 1 <= 4611686018427387904 /\ Ct Tryz.prog (fnv 16) #[.string (q1 ++ ⟨#[120]⟩)] I1 fun v2 I2 => ∃ a1 n1 c1 n2 n3, v2 = .tuple #[.slice a1 n1 c1, .int .i64 n2, .int .i64 n3] /\ Br ((f : Int) == 1) (Br (h == 0) (Br (i == 0) (Br (p == 0) (Br (r == 3) (Br (y == 0) (Br (z == 3) (Br (n2 == 65536) (Value.bool (n3 == 150) = .bool true) (Value.bool false = .bool true)) (Value.bool false = .bool true)) (Value.bool false = .bool true)) (Value.bool false = .bool true)) (Value.bool false = .bool true)) (Value.bool false = .bool true)) (Value.bool false = .bool true)) (Value.bool false = .bool true)))) (by kernel_rfl) ?_
 intro E1
 refine ⟨by rw [hN]; exact ⟨by omega, by omega⟩, fun I1 _ l1 n hn => Br.mk (fun h1 => ?_) (fun h1 => ?_)⟩
 · have h1 := of_decide_eq_true h1
   rw [hN] at hn;obtain ⟨n1, n2⟩ := hn
   obtain ⟨k, hk⟩ : ∃ k : Nat, n = k + 255 := ⟨(n - 255).toNat, by omega⟩
   have hk2 : k <= 2 := by omega
   have hkn : (n - 1).toNat = k + 254 := by omega
   have hG1 := hG.mono l1
   have rp := fun (J : Mem) => ct9 (strT mvT) (n - 1) (by omega) (by rw [tx_strT, hkn]; show 11 * _ <= _; omega) (by omega) J
   rw [tx_strT, hkn] at rp;obtain ⟨R, hR⟩ : ∃ R, R = Lib.repeatL mvT (k + 254) := ⟨_, rfl⟩;have hml := mv_len (k + 254);rw [<- hR] at rp hml
   have hsz : (strT R).size = 11 * (k + 254) := by rw [strT_size, hml]
   have nxt : E1 n := wr_i64 (by omega) (by omega) ⟨by rw [hN]; exact ⟨by omega, by omega⟩, by omega⟩
   refine wr_i64 (by omega) (by omega) ((rp I1).mono fun v1 I2 l2 hv => ⟨_, hv, by omega, (ct16 _ (by rw [ByteArray.size_append, hsz]; show _ + 12 <= _; omega) I2 (hG1.mono l2)).mono fun v I3 l3 hv => ?_⟩)
   rw [parse_eq] at hv;obtain ⟨a, m, c, hv, hp, _, _⟩ := hv
   refine ⟨a, m, c, _, _, hv, wr_i64 (by omega) (by omega) ((rp I3).mono fun v1 I4 l4 hv => ⟨_, hv, by omega, (ct28 _ (by rw [ByteArray.size_append, hsz]; show _ + 12 <= _; omega) I4).mono fun v I5 l5 hv => ?_⟩)⟩
   obtain ⟨b, o, d, hv, hq⟩ := hv;have hpl := hp.len;refine ⟨b, o, d, _, _, hv, (ct31 _ a m c I5 (hp.mono (Mem.le_trans l4 l5)) ?_).mono fun v I6 l6 hv => ?_⟩
   · have := (readA_facts (tx (strT R ++ ⟨#[108, 58, 32, 106, 117, 109, 112, 32, 120, 10, 120, 58]⟩))).2
     rw [List.length_map] at hpl;omega
   obtain ⟨e, f, hv, hr⟩ := hv
   refine ⟨_, _, _, hv, (ct30 _ _ e b m o f d I6 hr (hq.mono l6)).mono fun v I7 l7 hv => ⟨_, hv, Br.f (by simp) (Br.f (by simp) (Br.f (by simp) (wr_i64 (by omega) (by omega) ((rp I7).mono fun v I8 l8 hv => ⟨_, hv, by omega, (ct16 _ (by rw [ByteArray.size_append, hsz]; show _ + 9 <= _; omega) I8 (hG1.mono (Mem.le_trans l2 (Mem.le_trans l3 (Mem.le_trans l4 (Mem.le_trans l5 (Mem.le_trans l6 (Mem.le_trans l7 l8)))))))).mono fun v I9 l9 hv => ?_⟩))))⟩⟩
   obtain ⟨g, p, h, hv, hs, _, _⟩ := hv;refine ⟨g, p, h, _, _, hv, ?_⟩
   have et : tx (strT R ++ ⟨#[108, 58, 32, 106, 117, 109, 112, 32, 108]⟩) = many (k + 254) := by
    rw [many, <- hR]; simp [tx, strT, jmpT]
   rw [et] at hs ⊢;have hsl := hs.len
   by_cases hlt : k < 2
   · obtain ⟨q1, q2, q3, q4⟩ := many_ok ⟨k, hlt⟩
     simp only at q1 q2 q3 q4
     obtain ⟨y, hy, hyn⟩ := Option.map_eq_some_iff.1 q2;rw [q1] at hsl
     obtain ⟨z, w1, w2, _, _, _, _, w3⟩ := hs.get (j := n - 1) (by omega) (by omega)
     rw [hkn, hy] at w1;cases w1
     have hsome := SlR.isSome hs (by omega)
     refine Br.t (decide_eq_true (by omega)) (Br.f (by simp; omega) (Br.f (by rw [q3]; rfl) (Br.f (by rw [q4]; rfl) (wr_i64 (by omega) (by omega) ⟨by omega, by omega, hsome, hsome, _, w3, wr_i64 (by omega) (by omega) (Br.f (by simp; omega) (Br.f (decide_eq_false (by omega)) nxt))⟩))))
   · obtain rfl : k = 2 := by omega
     rw [show 2 + 254 = 256 from rfl, many_no]
     exact Br.f (decide_eq_false (by omega)) (Br.t (decide_eq_true (by omega)) (Br.f rfl (Br.f rfl nxt)))
 · have hb : ∀ q : Tx, tx ((⟨#[104, 97, 108, 116]⟩ : ByteArray) ++ strT q) = haltT ++ q := fun q => by simp [tx, strT, haltT]
   have hc : ∀ (q : Tx) (c : UInt8), tx ((⟨#[104, 97, 108, 116]⟩ : ByteArray) ++ strT q ++ ⟨#[c]⟩) = haltT ++ q ++ [c] := fun q c => by simp [tx, strT, haltT]
   have hG1 := hG.mono l1
   have r1 := fun (J : Mem) => ct9 (strT [32]) 65532 (by omega) (by rw [tx_strT]; decide) (by omega) J
   have r2 := fun (J : Mem) => ct9 (strT [10]) 65535 (by omega) (by rw [tx_strT]; decide) (by omega) J
   rw [tx_strT, show (65532 : Int).toNat = 65532 from rfl, rep_one] at r1
   rw [tx_strT, show (65535 : Int).toNat = 65535 from rfl, rep_one] at r2
   obtain ⟨X, hX⟩ : ∃ x : Tx, x = List.replicate 65532 32 := ⟨_, rfl⟩;obtain ⟨Y, hY⟩ : ∃ x : Tx, x = List.replicate 65535 10 := ⟨_, rfl⟩
   have hXl : X.length = 65532 := by rw [hX, List.length_replicate]
   have hYl : Y.length = 65535 := by rw [hY, List.length_replicate]
   obtain ⟨p1, p2⟩ := halt_parse (k := 65532) (Nat.le_refl _);have p3 := nl_parse;rw [<- hX] at r1 p1 p2;rw [<- hY] at r2 p3
   have sz : (strT X).size = 65532 := by rw [strT_size, hXl]
   have sy : (strT Y).size = 65535 := by rw [strT_size, hYl]
   have sh : (({ data := #[104, 97, 108, 116] } : ByteArray) ++ strT X).size = 65536 := by rw [ByteArray.size_append, sz]; rfl
   have sa : ∀ (q : ByteArray) (c : UInt8), (q ++ ({ data := #[c] } : ByteArray)).size = q.size + 1 := fun q c => by rw [ByteArray.size_append]; rfl
   refine (r1 I1).mono fun v I2 l2 hv => ⟨_, hv, by omega, (ct16 _ (by rw [sh]; omega) I2 (hG1.mono l2)).mono fun v I3 l3 hv => ?_⟩
   rw [hb, p2] at hv;obtain ⟨a, m, c, hv, hp, _, _⟩ := hv;have hpl := hp.len;rw [p1] at hpl
   refine ⟨a, m, c, _, _, hv, by omega, (ct16 _ (by rw [sa, sh]; omega) I3 (hG1.mono (Mem.le_trans l2 l3))).mono fun v I4 l4 hv => ?_⟩
   have lr : readA (haltT ++ X ++ [32]) = (0, 3, ⟨[], []⟩) := long_read (by rw [List.length_append, List.length_append, hXl]; decide)
   have lr2 : readA (haltT ++ X ++ [58]) = (0, 3, ⟨[], []⟩) := long_read (by rw [List.length_append, List.length_append, hXl]; decide)
   rw [parse_eq, hc, lr] at hv;obtain ⟨b, o, d, hv, _⟩ := hv
   refine ⟨b, o, d, _, _, hv, by omega, (ct26 _ (by rw [sa, sh]; omega) I4 (hG1.mono (Mem.le_trans l2 (Mem.le_trans l3 l4)))).mono fun v I5 l5 hv => ?_⟩
   rw [labels_eq, hc, lr2] at hv;obtain ⟨e, f, g, hv, _⟩ := hv
   refine ⟨e, f, g, _, _, hv, (r2 I5).mono fun v I6 l6 hv => ⟨_, hv, by omega, (ct16 _ (by rw [sa, sy]; omega) I6 (hG1.mono (Mem.le_trans l2 (Mem.le_trans l3 (Mem.le_trans l4 (Mem.le_trans l5 l6)))))).mono fun v I7 l7 hv => ?_⟩⟩
   have ht : tx (strT Y ++ ⟨#[120]⟩) = Y ++ [120] := by simp [tx, strT]
   rw [ht, p3] at hv;obtain ⟨h, i, j, hv, _⟩ := hv
   exact ⟨h, i, j, _, _, hv, Br.t (by rw [<- hpl]; rfl) (Br.t rfl (Br.t rfl (Br.t rfl (Br.t rfl (Br.t rfl (Br.t rfl (Br.t rfl rfl)))))))⟩
theorem lit_size (l : List UInt8) : (⟨l.toArray⟩ : ByteArray).size = l.length := by show l.toArray.size = _; simp
def smB (L : List SV) : Bool := L.all fun x => match x with
 | .v (.string q) => decide (q.size <= 20)
 | _ => true
theorem el_size {L : List SV} (hL : smB L = true) {k : Nat} {q : ByteArray} (h : (L[k]?.bind fun x => match x with | .v x => some x | _ => none) = some (.string q)) : q.size <= 20 := by
 cases e : L[k]? with
 | none => rw [e] at h; simp at h
 | some x =>
   rw [e] at h;have := List.all_eq_true.1 hL x (List.mem_of_getElem? e)
   cases x <;> simp at h
   subst h;simpa using this
theorem el_get {L : List SV} (hL : (L.all fun x => match x with | .v (.string _) => true | _ => false) = true) {k : Nat} (hk : k < L.length) : ∃ q, (L[k]?.bind fun x => match x with | .v x => some x | _ => none) = some (Value.string q) := by
 have e : L[k]? = some L[k] := List.getElem?_eq_getElem hk;have := List.all_eq_true.1 hL _ (List.mem_of_getElem? e);rw [e]
 split at this
 · rename_i q hq; rw [hq]; exact ⟨q, rfl⟩
 · cases this
theorem wordT_len : ∀ k : Fin 256, (wordT (k.val : Int)).length <= 20 := by decide +kernel
theorem wordT_len' {op : Int} (h : 0 <= op /\ op <= 255) : (wordT op).length <= 20 := by
 have := wordT_len ⟨op.toNat, by omega⟩
 rwa [show ((op.toNat : Nat) : Int) = op by omega] at this
theorem ins_op {op : Int} (h : 0 <= op /\ op <= 255) : okI ⟨op, 0, 0, 0, 0⟩ := ⟨h, ⟨by show (0:Int) <= 0; decide, by show (0:Int) <= 255; decide⟩, ⟨by show (0:Int) <= 0; decide, by show (0:Int) <= 255; decide⟩, ⟨by show (0:Int) <= 0; decide, by show (0:Int) <= 255; decide⟩, ⟨by show (-9223372036854775808:Int) <= 0; decide, by show (0:Int) <= 9223372036854775807; decide⟩⟩
set_option maxHeartbeats 4000000 in
theorem ct3 (I : Mem) (hG : Globs I) : Ct Tryz.prog (fnv 3) #[] I (fun v _ => v = .bool true) := by
 obtain ⟨N, hN⟩ : ∃ f : Int -> Int -> Prop, f = fun (m j : Int) => 0 <= j /\ j <= m := ⟨_, rfl⟩;obtain ⟨M, hM⟩ : ∃ f : Int -> Prop, f = fun (j : Int) => 30 <= j /\ j <= 35 := ⟨_, rfl⟩
 refine viaR (ct_via (A := { loops := [(2, ⟨[(12, .sh (.int .i64))], [], [], fun vals _ _ _ => match vals with | [.int .i64 j] => N 53 j | _ => False, fun vals _ => match vals with | [.int .i64 j] => (53 - j).toNat | _ => 0⟩), (5, ⟨[(1, .keep), (12, .keep), (15, .keep), (16, .keep), (17, .sh (.int .i64))], [(0, .keep)], [], fun vals _ _ _ => match vals with | [.int .i64 j] => N 15 j | _ => False, fun vals _ => match vals with | [.int .i64 j] => (15 - j).toNat | _ => 0⟩), (13, ⟨[(4, .keep), (49, .sh (.int .i64))], [(0, .keep)], [], fun vals _ _ _ => match vals with | [.int .i64 j] => N 256 j | _ => False, fun vals _ => match vals with | [.int .i64 j] => (256 - j).toNat | _ => 0⟩), (20, ⟨[(4, .keep), (6, .keep), (49, .keep), (73, .sh (.int .i64))], [(0, .keep)], [], fun vals _ _ _ => match vals with | [.int .i64 j] => N 225 j | _ => False, fun vals _ => match vals with | [.int .i64 j] => (225 - j).toNat | _ => 0⟩), (28, ⟨[(10, .sh (.int .i64))], [], [], fun vals _ _ _ => match vals with | [.int .i64 j] => M j | _ => False, fun vals _ => match vals with | [.int .i64 j] => (35 - j).toNat | _ => 0⟩)] }) Tryz.func3 rfl Tryz.call3 rfl rfl) (let E1 := [SV.v (.string ⟨#[]⟩), .v (.string ⟨#[114, 48]⟩), .v (.string ⟨#[114, 56]⟩), .v (.string ⟨#[55]⟩), .v (.string ⟨#[49, 54]⟩), .v (.string ⟨#[45, 49]⟩), .v (.string ⟨#[120]⟩), .v (.string ⟨#[57, 50, 50, 51, 51, 55, 50, 48, 51, 54, 56, 53, 52, 55, 55, 53, 56, 48, 55]⟩), .v (.string ⟨#[57, 50, 50, 51, 51, 55, 50, 48, 51, 54, 56, 53, 52, 55, 55, 53, 56, 48, 56]⟩), .v (.string ⟨#[45, 57, 50, 50, 51, 51, 55, 50, 48, 51, 54, 56, 53, 52, 55, 55, 53, 56, 48, 56]⟩), .v (.string ⟨#[45, 48]⟩), .v (.string ⟨#[43, 49]⟩), .v (.string ⟨#[82, 49]⟩), .v (.string ⟨#[114]⟩), .v (.string ⟨#[114, 48, 49]⟩)]
  let E2 := [SV.v (.string ⟨#[]⟩), .v (.string ⟨#[32]⟩), .v (.string ⟨#[58]⟩), .v (.string ⟨#[59]⟩), .v (.string ⟨#[10]⟩), .v (.string ⟨#[9]⟩), .v (.string ⟨#[114]⟩), .v (.string ⟨#[48]⟩), .v (.string ⟨#[56]⟩), .v (.string ⟨#[45]⟩), .v (.string ⟨#[97]⟩), .v (.string ⟨#[95]⟩), .v (.string ⟨#[65]⟩), .v (.string ⟨#[255]⟩), .v (.string ⟨#[0]⟩)]
  let E3 := fun (x : Int) (a : Int) => Wr .i64 (x + 1) fun c => Rf (Ent.mk (.cells E2 9) none) /\ Rf (SV.v (.int .i64 a)) /\ Rf (SV.v (.int .i64 a)) /\ Rf (SV.xsl 0 0 15 15) /\ Rf (SV.v (.int .i64 15)) /\ N 15 c /\ Int.toNat (15 - c) < Int.toNat (15 - x)
  N 53 0 /\ ∀ (a : Mem), Mem -> I.le a -> ∀ (n : Int), N 53 n -> Br (decide (n < 53)) ((Rf (Ent.mk (.cells E2 9) none) /\ Rf (SV.v (.int .i64 n)) /\ Rf (SV.v (.int .i64 n)) /\ Rf (SV.xsl 0 0 15 15) /\ Rf (SV.v (.int .i64 15)) /\ N 15 0) /\ ∀ (b : Mem), Mem -> a.le b -> ∀ (c : Int), N 15 c -> Br (decide (c < 15)) (0 <= c /\ c < 15 /\ ∃ q, E2[0 + c.toNat * 1 + 0]?.bind (fun (x : SV) => (match x with
  | SV.v x => some x
  | x => none)) = some (.string q) /\ 0 <= n /\ n <= 52 /\ ((ByteArray.mk #[97, 58, 32, 115, 101, 116, 32, 114, 49, 32, 45, 53, 10, 32, 98, 95, 49, 58, 10, 9, 106, 110, 32, 114, 49, 32, 97, 59, 99, 10, 115, 101, 110, 100, 32, 114, 48, 32, 114, 55, 32, 49, 53, 10, 106, 117, 109, 112, 32, 98, 95, 49]).extract 0 n.toNat).size + q.size <= 4611686018427387904 /\ 0 <= n /\ n <= 52 /\ ByteArray.size ((ByteArray.mk #[97, 58, 32, 115, 101, 116, 32, 114, 49, 32, 45, 53, 10, 32, 98, 95, 49, 58, 10, 9, 106, 110, 32, 114, 49, 32, 97, 59, 99, 10, 115, 101, 110, 100, 32, 114, 48, 32, 114, 55, 32, 49, 53, 10, 106, 117, 109, 112, 32, 98, 95, 49]).extract 0 n.toNat ++ q) + ((ByteArray.mk #[97, 58, 32, 115, 101, 116, 32, 114, 49, 32, 45, 53, 10, 32, 98, 95, 49, 58, 10, 9, 106, 110, 32, 114, 49, 32, 97, 59, 99, 10, 115, 101, 110, 100, 32, 114, 48, 32, 114, 55, 32, 49, 53, 10, 106, 117, 109, 112, 32, 98, 95, 49]).extract n.toNat (ByteArray.mk #[97, 58, 32, 115, 101, 116, 32, 114, 49, 32, 45, 53, 10, 32, 98, 95, 49, 58, 10, 9, 106, 110, 32, 114, 49, 32, 97, 59, 99, 10, 115, 101, 110, 100, 32, 114, 48, 32, 114, 55, 32, 49, 53, 10, 106, 117, 109, 112, 32, 98, 95, 49]).size).size <= 4611686018427387904 /\ Ct Tryz.prog (fnv 6) #[.string ((ByteArray.mk #[97, 58, 32, 115, 101, 116, 32, 114, 49, 32, 45, 53, 10, 32, 98, 95, 49, 58, 10, 9, 106, 110, 32, 114, 49, 32, 97, 59, 99, 10, 115, 101, 110, 100, 32, 114, 48, 32, 114, 55, 32, 49, 53, 10, 106, 117, 109, 112, 32, 98, 95, 49]).extract 0 n.toNat ++ q ++ (ByteArray.mk #[97, 58, 32, 115, 101, 116, 32, 114, 49, 32, 45, 53, 10, 32, 98, 95, 49, 58, 10, 9, 106, 110, 32, 114, 49, 32, 97, 59, 99, 10, 115, 101, 110, 100, 32, 114, 48, 32, 114, 55, 32, 49, 53, 10, 106, 117, 109, 112, 32, 98, 95, 49]).extract n.toNat (ByteArray.mk #[97, 58, 32, 115, 101, 116, 32, 114, 49, 32, 45, 53, 10, 32, 98, 95, 49, 58, 10, 9, 106, 110, 32, 114, 49, 32, 97, 59, 99, 10, 115, 101, 110, 100, 32, 114, 48, 32, 114, 55, 32, 49, 53, 10, 106, 117, 109, 112, 32, 98, 95, 49]).size)] b fun v d => ∃ e, v = .bool e /\ Br (!e) (Value.bool false = .bool true) (Br (decide (n < 52)) (0 <= n /\ n <= 52 /\ ((ByteArray.mk #[97, 58, 32, 115, 101, 116, 32, 114, 49, 32, 45, 53, 10, 32, 98, 95, 49, 58, 10, 9, 106, 110, 32, 114, 49, 32, 97, 59, 99, 10, 115, 101, 110, 100, 32, 114, 48, 32, 114, 55, 32, 49, 53, 10, 106, 117, 109, 112, 32, 98, 95, 49]).extract 0 n.toNat).size + q.size <= 4611686018427387904 /\ Wr .i64 (n + 1) fun f => 0 <= f /\ f <= 52 /\ ByteArray.size ((ByteArray.mk #[97, 58, 32, 115, 101, 116, 32, 114, 49, 32, 45, 53, 10, 32, 98, 95, 49, 58, 10, 9, 106, 110, 32, 114, 49, 32, 97, 59, 99, 10, 115, 101, 110, 100, 32, 114, 48, 32, 114, 55, 32, 49, 53, 10, 106, 117, 109, 112, 32, 98, 95, 49]).extract 0 n.toNat ++ q) + ((ByteArray.mk #[97, 58, 32, 115, 101, 116, 32, 114, 49, 32, 45, 53, 10, 32, 98, 95, 49, 58, 10, 9, 106, 110, 32, 114, 49, 32, 97, 59, 99, 10, 115, 101, 110, 100, 32, 114, 48, 32, 114, 55, 32, 49, 53, 10, 106, 117, 109, 112, 32, 98, 95, 49]).extract f.toNat (ByteArray.mk #[97, 58, 32, 115, 101, 116, 32, 114, 49, 32, 45, 53, 10, 32, 98, 95, 49, 58, 10, 9, 106, 110, 32, 114, 49, 32, 97, 59, 99, 10, 115, 101, 110, 100, 32, 114, 48, 32, 114, 55, 32, 49, 53, 10, 106, 117, 109, 112, 32, 98, 95, 49]).size).size <= 4611686018427387904 /\ Ct Tryz.prog (fnv 6) #[.string ((ByteArray.mk #[97, 58, 32, 115, 101, 116, 32, 114, 49, 32, 45, 53, 10, 32, 98, 95, 49, 58, 10, 9, 106, 110, 32, 114, 49, 32, 97, 59, 99, 10, 115, 101, 110, 100, 32, 114, 48, 32, 114, 55, 32, 49, 53, 10, 106, 117, 109, 112, 32, 98, 95, 49]).extract 0 n.toNat ++ q ++ (ByteArray.mk #[97, 58, 32, 115, 101, 116, 32, 114, 49, 32, 45, 53, 10, 32, 98, 95, 49, 58, 10, 9, 106, 110, 32, 114, 49, 32, 97, 59, 99, 10, 115, 101, 110, 100, 32, 114, 48, 32, 114, 55, 32, 49, 53, 10, 106, 117, 109, 112, 32, 98, 95, 49]).extract f.toNat (ByteArray.mk #[97, 58, 32, 115, 101, 116, 32, 114, 49, 32, 45, 53, 10, 32, 98, 95, 49, 58, 10, 9, 106, 110, 32, 114, 49, 32, 97, 59, 99, 10, 115, 101, 110, 100, 32, 114, 48, 32, 114, 55, 32, 49, 53, 10, 106, 117, 109, 112, 32, 98, 95, 49]).size)] d fun g h => ∃ i, g = .bool i /\ Br (!i) (Value.bool false = .bool true) (E3 c n)) (E3 c n))) (Wr .i64 (n + 1) (fun d => N 53 d /\ Int.toNat (53 - d) < Int.toNat (53 - n)))) ((Rf (Ent.mk (.cells E1 9) none) /\ Rf (SV.xsl 0 0 15 15) /\ N 256 0) /\ ∀ (b : Mem), Mem -> a.le b -> ∀ (c : Int), N 256 c -> Br (decide (c < 256)) (Wr .u8 c (fun d => Ct Tryz.prog (fnv 7) #[.int .u8 d] b fun v e => ∃ q, v = .string q /\ Wr .u8 c fun f => Wr .u8 c fun g => ∀ (h : Nat) (i : Mem), e.le i -> i h = some (.cells #[.int .u8 g, .int .u8 0, .int .u8 0, .int .u8 0, .int .i64 0, .int .u8 1, .int .u8 0, .int .u8 0, .int .u8 0, .int .i64 0] 27 (0, 0)) -> Ct Tryz.prog (fnv 8) #[.int .u8 f, .string q, .slice (some ⟨h, 0, none⟩) 2 2] i fun j k => ∃ l, j = .bool l /\ Br (!l) (Value.bool false = .bool true) (q.size + 1 <= 4611686018427387904 /\ Ct Tryz.prog (fnv 8) #[.int .u8 0, .string (q ++ ⟨#[120]⟩), .slice none 0 0] k fun m o => ∃ p, m = .bool p /\ Br (!p) (Value.bool false = .bool true) (Br (q.toList == (ByteArray.mk #[]).toList) (Wr .i64 (c + 1) (fun r => Rf (Ent.mk (.cells E1 9) none) /\ Rf (SV.xsl 0 0 15 15) /\ N 256 r /\ Int.toNat (256 - r) < Int.toNat (256 - c))) ((Rf (Ent.mk (.cells E1 9) none) /\ Rf (SV.xsl 0 0 15 15) /\ Rf (SV.v (.string q)) /\ Rf (SV.v (.int .i64 c)) /\ N 225 0) /\ ∀ (r : Mem), Mem -> o.le r -> ∀ (s : Int), N 225 s -> Br (decide (s < 225)) ((15 : Int) ≠ 0 /\ 0 <= s.tmod 15 /\ s.tmod 15 < 15 /\ ∃ t, E1[0 + (s.tmod 15).toNat * 1 + 0]?.bind (fun (x : SV) => (match x with
  | SV.v x => some x
  | x => none)) = some (.string t) /\ (15 : Int) ≠ 0 /\ Wr .i64 (s.tdiv 15) fun u => 0 <= u /\ u < 15 /\ ∃ w, E1[0 + u.toNat * 1 + 0]?.bind (fun (x : SV) => (match x with
  | SV.v x => some x
  | x => none)) = some (.string w) /\ 3 + q.size <= 4611686018427387904 /\ ByteArray.size (⟨#[120, 58, 32]⟩ ++ q) + 1 <= 4611686018427387904 /\ ByteArray.size (⟨#[120, 58, 32]⟩ ++ q ++ ⟨#[32]⟩) + t.size <= 4611686018427387904 /\ ByteArray.size (⟨#[120, 58, 32]⟩ ++ q ++ ⟨#[32]⟩ ++ t) + 1 <= 4611686018427387904 /\ ByteArray.size (⟨#[120, 58, 32]⟩ ++ q ++ ⟨#[32]⟩ ++ t ++ ⟨#[32]⟩) + w.size <= 4611686018427387904 /\ ByteArray.size (⟨#[120, 58, 32]⟩ ++ q ++ ⟨#[32]⟩ ++ t ++ ⟨#[32]⟩ ++ w) + 5 <= 4611686018427387904 /\ Ct Tryz.prog (fnv 6) #[.string (⟨#[120, 58, 32]⟩ ++ q ++ ⟨#[32]⟩ ++ t ++ ⟨#[32]⟩ ++ w ++ ⟨#[10, 104, 97, 108, 116]⟩)] r fun x y => ∃ z, x = .bool z /\ Br (!z) (Value.bool false = .bool true) ((7 : Int) ≠ 0 /\ Br (s.tmod 7 == 0) (3 + q.size <= 4611686018427387904 /\ ByteArray.size (⟨#[120, 58, 32]⟩ ++ q) + 7 <= 4611686018427387904 /\ ByteArray.size (⟨#[120, 58, 32]⟩ ++ q ++ ⟨#[32, 114, 49, 32, 114, 50, 32]⟩) + t.size <= 4611686018427387904 /\ ByteArray.size (⟨#[120, 58, 32]⟩ ++ q ++ ⟨#[32, 114, 49, 32, 114, 50, 32]⟩ ++ t) + 1 <= 4611686018427387904 /\ ByteArray.size (⟨#[120, 58, 32]⟩ ++ q ++ ⟨#[32, 114, 49, 32, 114, 50, 32]⟩ ++ t ++ ⟨#[32]⟩) + w.size <= 4611686018427387904 /\ ByteArray.size (⟨#[120, 58, 32]⟩ ++ q ++ ⟨#[32, 114, 49, 32, 114, 50, 32]⟩ ++ t ++ ⟨#[32]⟩ ++ w) + 5 <= 4611686018427387904 /\ Ct Tryz.prog (fnv 6) #[.string (⟨#[120, 58, 32]⟩ ++ q ++ ⟨#[32, 114, 49, 32, 114, 50, 32]⟩ ++ t ++ ⟨#[32]⟩ ++ w ++ ⟨#[10, 104, 97, 108, 116]⟩)] y fun v1 I1 => ∃ b1, v1 = .bool b1 /\ Br (!b1) (Value.bool false = .bool true) (q.size + 1 <= 4611686018427387904 /\ ByteArray.size (q ++ ⟨#[32]⟩) + t.size <= 4611686018427387904 /\ ByteArray.size (q ++ ⟨#[32]⟩ ++ t) + 8 <= 4611686018427387904 /\ Ct Tryz.prog (fnv 6) #[.string (q ++ ⟨#[32]⟩ ++ t ++ ⟨#[10, 120, 58, 32, 102, 97, 105, 108]⟩)] I1 fun v2 I2 => ∃ b2, v2 = .bool b2 /\ Br (!b2) (Value.bool false = .bool true) (Wr .i64 (s + 1) (fun c1 => Rf (Ent.mk (.cells E1 9) none) /\ Rf (SV.xsl 0 0 15 15) /\ Rf (SV.v (.string q)) /\ Rf (SV.v (.int .i64 c)) /\ N 225 c1 /\ Int.toNat (225 - c1) < Int.toNat (225 - s))))) (Wr .i64 (s + 1) (fun c1 => Rf (Ent.mk (.cells E1 9) none) /\ Rf (SV.xsl 0 0 15 15) /\ Rf (SV.v (.string q)) /\ Rf (SV.v (.int .i64 c)) /\ N 225 c1 /\ Int.toNat (225 - c1) < Int.toNat (225 - s))))) (Wr .i64 (c + 1) (fun t => Rf (Ent.mk (.cells E1 9) none) /\ Rf (SV.xsl 0 0 15 15) /\ N 256 t /\ Int.toNat (256 - t) < Int.toNat (256 - c)))))))) (M 30 /\ ∀ (d : Mem), Mem -> b.le d -> ∀ (e : Int), M e -> Br (decide (e < 35)) (Ct Tryz.prog (fnv 9) #[.string ⟨#[122]⟩, .int .i64 e] d (fun v f => ∃ q, v = .string q /\ Ct Tryz.prog (fnv 8) #[.int .u8 0, .string q, .slice none 0 0] f fun g h => ∃ i, g = .bool i /\ Br (!i) (Value.bool false = .bool true) (q.size + 7 <= 4611686018427387904 /\ ByteArray.size (q ++ ⟨#[58, 32, 106, 117, 109, 112, 32]⟩) + q.size <= 4611686018427387904 /\ Ct Tryz.prog (fnv 6) #[.string (q ++ ⟨#[58, 32, 106, 117, 109, 112, 32]⟩ ++ q)] h fun j k => ∃ l, j = .bool l /\ Br (!l) (Value.bool false = .bool true) (5 + q.size <= 4611686018427387904 /\ ByteArray.size (⟨#[106, 117, 109, 112, 32]⟩ ++ q) + 1 <= 4611686018427387904 /\ ByteArray.size (⟨#[106, 117, 109, 112, 32]⟩ ++ q ++ ⟨#[10]⟩) + q.size <= 4611686018427387904 /\ ByteArray.size (⟨#[106, 117, 109, 112, 32]⟩ ++ q ++ ⟨#[10]⟩ ++ q) + 5 <= 4611686018427387904 /\ Ct Tryz.prog (fnv 6) #[.string (⟨#[106, 117, 109, 112, 32]⟩ ++ q ++ ⟨#[10]⟩ ++ q ++ ⟨#[58, 104, 97, 108, 116]⟩)] k fun m o => ∃ p, m = .bool p /\ Br (!p) (Value.bool false = .bool true) (Wr .i64 (e + 1) (fun r => M r /\ Int.toNat (35 - r) < Int.toNat (35 - e))))))) (Ct Tryz.prog (fnv 10) #[] d (fun v f => ∃ g, v = .bool g /\ Br g (Ct Tryz.prog (fnv 11) #[] f (fun h i => ∃ j, h = .bool j /\ Value.bool j = .bool true)) (Value.bool false = .bool true)))))) (by kernel_rfl) ?_
 intro E1 E2 E3
 refine ⟨by rw [hN]; exact ⟨by omega, by omega⟩, fun I1 _ l1 n hn => Br.mk (fun h1 => ?_) (fun h1 => ?_)⟩
 · have h1 := of_decide_eq_true h1
   rw [hN] at hn;obtain ⟨n1, n2⟩ := hn
   refine ⟨⟨rfl, rfl, rfl, rfl, rfl, by rw [hN]; exact ⟨by omega, by omega⟩⟩, fun I2 _ l2 c hc => Br.mk (fun h2 => ?_) (fun h2 => ?_)⟩
   · have h2 := of_decide_eq_true h2
     rw [hN] at hc;obtain ⟨c1, c2⟩ := hc
     obtain ⟨q, hq⟩ := el_get (L := E2) rfl (k := 0 + c.toNat * 1 + 0) (by show _ < 15; omega)
     have hqs : q.size <= 20 := el_size (L := E2) rfl hq
     have nxt : E3 c n := wr_i64 (by omega) (by omega) ⟨rfl, rfl, rfl, rfl, rfl, by rw [hN]; exact ⟨by omega, by omega⟩, by omega⟩
     refine ⟨c1, h2, q, hq, by omega, by omega, ?_, by omega, by omega, ?_, (ct6 _ I2 (hG.mono (Mem.le_trans l1 l2))).mono fun v I3 l3 hv => ⟨_, hv, Br.f rfl (Br.mk (fun h3 => ⟨by omega, by omega, ?_, wr_i64 (by omega) (by omega) ⟨by omega, by have := of_decide_eq_true h3; omega, ?_, (ct6 _ I3 (hG.mono (Mem.le_trans l1 (Mem.le_trans l2 l3)))).mono fun v I4 l4 hv => ⟨_, hv, Br.f rfl nxt⟩⟩⟩) (fun _ => nxt))⟩⟩
     all_goals simp only [ByteArray.size_append, ByteArray.size_extract, lit_size, List.length_cons, List.length_nil]; omega
   · refine wr_i64 (by omega) (by omega) ⟨by rw [hN]; exact ⟨by omega, by omega⟩, by omega⟩
 refine ⟨⟨rfl, rfl, by rw [hN]; exact ⟨by omega, by omega⟩⟩, fun I2 _ l2 c hc => Br.mk (fun h2 => ?_) (fun h2 => ?_)⟩
 · have h2 := of_decide_eq_true h2
   rw [hN] at hc;obtain ⟨c1, c2⟩ := hc
   have hc8 : 0 <= c /\ c <= 255 := ⟨c1, by omega⟩
   have hwl := wordT_len' hc8
   have hws : (strT (wordT c)).size <= 20 := by rw [strT_size]; exact hwl
   refine wr_u8 (by omega) (by omega) ((ct7 c hc8 I2).mono fun v I3 l3 hv => ⟨_, hv, wr_u8 (by omega) (by omega) (wr_u8 (by omega) (by omega) fun b I4 l4 hb => ?_)⟩)
   obtain ⟨Wd, hWd⟩ : ∃ q, q = strT (wordT c) := ⟨_, rfl⟩;rw [<- hWd] at hws ⊢
   have hins : InsM I4 (some ⟨b, 0, none⟩) 2 [⟨c, 0, 0, 0, 0⟩, ⟨1, 0, 0, 0, 0⟩] := ⟨insVs [⟨c, 0, 0, 0, 0⟩, ⟨1, 0, 0, 0, 0⟩], sl_cells (n := 2) (sz := 5) hb rfl (by decide), rowR_ins I4 (by
    intro i hi;simp only [List.mem_cons, List.not_mem_nil, or_false] at hi
    rcases hi with rfl | rfl
    · exact ins_op hc8
    · exact ins_op ⟨by omega, by omega⟩)⟩
   have hG4 : Globs I4 := hG.mono (Mem.le_trans l1 (Mem.le_trans l2 (Mem.le_trans l3 l4)))
   refine (ct8 c hc8 Wd _ (some ⟨b, 0, none⟩) 2 2 I4 hG4 hins).mono fun v I5 l5 hv => ⟨_, hv, Br.f rfl ⟨by omega, (ct8 0 ⟨by omega, by omega⟩ _ [] none 0 0 I5 (hG4.mono l5) SlR.nil).mono fun v I6 l6 hv => ⟨_, hv, Br.f rfl (Br.mk (fun _ => ?_) (fun _ => ?_))⟩⟩⟩
   · exact wr_i64 (by omega) (by omega) ⟨rfl, rfl, by rw [hN]; exact ⟨by omega, by omega⟩, by omega⟩
   refine ⟨⟨rfl, rfl, rfl, rfl, by rw [hN]; exact ⟨by omega, by omega⟩⟩, fun I7 _ l7 s hs => Br.mk (fun h3 => ?_) (fun h3 => ?_)⟩
   · have h3 := of_decide_eq_true h3
     rw [hN] at hs;obtain ⟨s1, s2⟩ := hs;have hG7 := hG4.mono (Mem.le_trans l5 (Mem.le_trans l6 l7));have m1 : s.tmod 15 = s % 15 := Int.tmod_eq_emod_of_nonneg s1;have m2 : s.tdiv 15 = s / 15 := Int.tdiv_eq_ediv_of_nonneg s1
     have k1 : (s.tmod 15).toNat < 15 := by omega
     have k2 : (s.tdiv 15).toNat < 15 := by omega
     obtain ⟨t, ht⟩ := el_get (L := E1) rfl (k := 0 + (s.tmod 15).toNat * 1 + 0) (by show _ < 15; omega)
     obtain ⟨u, hu⟩ := el_get (L := E1) rfl (k := 0 + (s.tdiv 15).toNat * 1 + 0) (by show _ < 15; omega)
     have hts : t.size <= 20 := el_size (L := E1) rfl ht;have hus : u.size <= 20 := el_size (L := E1) rfl hu
     refine ⟨by omega, by omega, by omega, t, ht, by omega, wr_i64 (by omega) (by omega) ⟨by omega, by omega, u, hu, by omega, ?_, ?_, ?_, ?_, ?_, (ct6 _ I7 hG7).mono fun v I8 l8 hv => ⟨_, hv, Br.f rfl ⟨by omega, Br.mk (fun _ => ⟨by omega, ?_, ?_, ?_, ?_, ?_, (ct6 _ I8 (hG7.mono l8)).mono fun v I9 l9 hv => ⟨_, hv, Br.f rfl ⟨by omega, ?_, ?_, (ct6 _ I9 (hG7.mono (Mem.le_trans l8 l9))).mono fun v Ia la hv => ⟨_, hv, Br.f rfl (wr_i64 (by omega) (by omega) ⟨rfl, rfl, rfl, rfl, by rw [hN]; exact ⟨by omega, by omega⟩, by omega⟩)⟩⟩⟩⟩) (fun _ => wr_i64 (by omega) (by omega) ⟨rfl, rfl, rfl, rfl, by rw [hN]; exact ⟨by omega, by omega⟩, by omega⟩)⟩⟩⟩⟩
     all_goals simp only [ByteArray.size_append, lit_size, List.length_cons, List.length_nil]; omega
   · exact wr_i64 (by omega) (by omega) ⟨rfl, rfl, by rw [hN]; exact ⟨by omega, by omega⟩, by omega⟩
 refine ⟨by rw [hM]; exact ⟨by omega, by omega⟩, fun I3 _ l3 e he => Br.mk (fun h3 => ?_) (fun h3 => ?_)⟩
 · have h3 := of_decide_eq_true h3
   rw [hM] at he;obtain ⟨e1, e2⟩ := he;have hG3 := hG.mono (Mem.le_trans l1 (Mem.le_trans l2 l3));have hl1 : (tx ⟨#[122]⟩).length = 1 := rfl
   refine (ct9 ⟨#[122]⟩ e (by omega) (by rw [hl1]; omega) (by omega) I3).mono fun v I4 l4 hv => ⟨_, hv, ?_⟩
   obtain ⟨Z, hZ⟩ : ∃ z, z = strT (Lib.repeatL (tx ⟨#[122]⟩) e.toNat) := ⟨_, rfl⟩
   have hzs : Z.size <= 40 := by rw [hZ, strT_size, Lib.repeatL_length, hl1]; omega
   rw [<- hZ]
   refine (ct8 0 ⟨by omega, by omega⟩ Z [] none 0 0 I4 (hG3.mono l4) SlR.nil).mono fun v I5 l5 hv => ⟨_, hv, Br.f rfl ⟨by omega, ?_, (ct6 _ I5 (hG3.mono (Mem.le_trans l4 l5))).mono fun v I6 l6 hv => ⟨_, hv, Br.f rfl ⟨by omega, ?_, ?_, ?_, (ct6 _ I6 (hG3.mono (Mem.le_trans l4 (Mem.le_trans l5 l6)))).mono fun v I7 l7 hv => ⟨_, hv, Br.f rfl (wr_i64 (by omega) (by omega) ⟨by rw [hM]; exact ⟨by omega, by omega⟩, by omega⟩)⟩⟩⟩⟩⟩
   all_goals simp only [ByteArray.size_append, lit_size, List.length_cons, List.length_nil]; omega
 · have hG3 := hG.mono (Mem.le_trans l1 (Mem.le_trans l2 l3))
   exact (ct10 I3 hG3).mono fun v I4 l4 hv => ⟨_, hv, Br.t rfl ((ct11 I4 (hG3.mono l4)).mono fun v I5 l5 hv => ⟨_, hv, rfl⟩)⟩
theorem ct3Q (I : Mem) (hG : Globs I) : Ct Tryz.prog (fnv 3) #[] I (fun v _ => v = .bool true) := ct3 I hG
