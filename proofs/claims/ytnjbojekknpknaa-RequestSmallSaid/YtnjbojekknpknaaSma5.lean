/- Part of a proof by the rules of the symbolic walk (see the law's own text): contracts of functions of the program. -/
import Derived.Test.YtnjbojekknpknaaSma4
import Derived.Test.YtnjbojekknpknaaSma3
set_option linter.unusedVariables false
set_option linter.unusedSimpArgs false
open Go Go.Proofs Go.SE Go.RowKit
set_option linter.unusedVariables false
set_option maxRecDepth 100000
def strL (s : ByteArray) : List Int := s.data.toList.map fun b => (b.toNat : Int)
def numR (r : Rq) (t : Int) : Int := if t = 3 then r.p3 else if t = 4 then r.p4 else if t = 5 then r.p5 else if t = 6 then r.p6 else if t = 7 then r.p7 else if t = 8 then r.p8 else r.p9
def bytesR (r : Rq) (t : Int) : List Int := if t = 1 then formN r.what.toNat else if t = 2 then strL r.name else if t = 10 then formN (foldZ r.val).toNat else if t = 11 then r.fed else formN (IntKind.u64.wrap (numR r t)).toNat
def encR (r : Rq) (l : List Int) (k : Nat) (args : Array Value) (I : Mem) : Prop := ∃ (t : Int) (b : Option Addr) (m c : Nat), l[k]? = some t /\ args = #[.agg #[.int .i64 t, .slice b m c]] /\ SlM I b m 1 (ints .u8 (bytesR r t)) /\ m <= c /\ c <= maxLen
def ptrV (k : Nat) : List Value := [.pointer none, .pointer none, .pointer none, .pointer (some ⟨k, 3, none⟩), .pointer (some ⟨k, 4, none⟩), .pointer (some ⟨k, 5, none⟩), .pointer (some ⟨k, 6, none⟩), .pointer (some ⟨k, 7, none⟩), .pointer (some ⟨k, 8, none⟩), .pointer (some ⟨k, 9, none⟩), .pointer none, .pointer none]
theorem atC {I : Mem} {k off i : Nat} {cs : Array Value} {el : TypeId} {v : Value} (h : I k = some (.cells cs el)) (hv : cs[off + i]? = some v) : atI I (some ⟨k, off, none⟩) i = some v := by
 simp only [atI, Option.bind_some, Addr.add_lit, cellM, h, Option.isSome_none, Bool.false_eq_true, if_false];exact hv
theorem str_sl {I : Mem} {a : Option Addr} {q : ByteArray} (hs : a.isSome = true) (hm : q.size <= maxLen) (h : ∀ (j : Nat) (b : UInt8), q.data.toList[j]? = some b -> atI I a j = some (.int .u8 b.toNat)) : SlM I a q.size 1 (ints .u8 (strL q)) := by
 refine ⟨by simp [ints, strL], (fun hn => by rw [hn] at hs; cases hs), hm, fun j v hj => ?_⟩
 simp only [ints, strL, List.getElem?_map, Option.map_eq_some_iff] at hj;obtain ⟨x, ⟨b, hb, rfl⟩, rfl⟩ := hj;exact h j b hb
theorem w64_range (x : Int) : 0 <= IntKind.u64.wrap x /\ IntKind.u64.wrap x <= 18446744073709551615 := by
 rw [w64]; omega
theorem foldZ_range {x : Int} (h : i64R x) : 0 <= foldZ x /\ foldZ x <= 18446744073709551615 := by
 obtain ⟨h1, h2⟩ := h;unfold foldZ
 split <;> omega
theorem gives63 (r : Rq) (hr : okRq r) (hnm : r.name.size <= 1000000) (y : Value) (l : List Int) (hl : ∀ t ∈ l, 1 <= t /\ t <= 11) (k1 k2 k3 : Nat) (a : Option Addr) (n c : Nat) (I : Mem) (h1 : I k1 = some (.cells #[.slice a n c] 41)) (hs : SlM I a n 1 (ints .i64 l)) (hn : n <= 1000000)
 (h2 : I k2 = some (.cells (rqV r y).toArray 29)) (hy : BySl I y r.fed) (h3 : I k3 = some (.cells (ptrV k2).toArray 84)) :
 Gives Try.prog (.func (.func 63) #[] #[.pointer (some ⟨k1, 0, none⟩), .pointer (some ⟨k2, 0, none⟩), .pointer (some ⟨k3, 0, none⟩)]) I l.length (encR r l) := by
 refine ⟨fun Y W => ⟨63, _, run_semV_func.trans (Try.call63 _ _)⟩, fun Y J D I0 G0 hI0 hJ0 hJ hD hY => ?_⟩
 refine viaR (ctG_via (A := { loops := [(1, ⟨[(0, .keep), (1, .keep), (2, .keep), (3, .keep), (8, .keep), (9, .keep), (10, .sh (.int .i64))], [], [], fun vals _ I' G' => match vals with
  | [.int .i64 j] => 0 <= j /\ j <= n /\ J j.toNat I' G' | _ => False, fun vals _ => match vals with | [.int .i64 j] => (n - j).toNat | _ => 0⟩)], calls := [(52, .g)] }) Try.func63 rfl Try.call63 rfl rfl) (∃ b d e, atI I0 (some ⟨k1, 0, none⟩) 0 = some (.slice b d e) /\ (Rf (SV.v Y) /\ Rf (SV.v (.pointer (some ⟨k1, 0, none⟩))) /\ Rf (SV.v (.pointer (some ⟨k2, 0, none⟩))) /\ Rf (SV.v (.pointer (some ⟨k3, 0, none⟩))) /\ Rf (SV.v (.slice b d e)) /\ Rf (SV.v (.int .i64 (d : Int))) /\ (0 : Int) <= 0 /\ 0 <= (n : Int) /\ J 0 I0 G0) /\ ∀ (f G : Mem), Mem.le I0 f -> ∀ (g : Int), 0 <= g /\ g <= (n : Int) /\ J g.toNat f G -> Br (decide (g < (d : Int))) (0 <= g /\ g < (d : Int) /\ b.isSome = true /\ ∃ h, atI f b (g.toNat * 1 + 0) = some (.int .i64 h) /\ Br (h == 1) (true = true /\ ∃ i, atI f (some ⟨k2, 0, none⟩) 1 = some (.int .u8 i) /\ Wr .u64 i fun j => Ct Try.prog (fnv 64) #[.int .i64 h, .int .u64 j] f fun v k => ∃ m o p q, v = .agg #[.int .i64 m, .slice o p q] /\ CtH Try.prog Y #[.agg #[.int .i64 m, .slice o p q]] k G fun s t u => ∃ w, s = .bool w /\ Br (!w) (J l.length t u \/ D t u) (Wr .i64 (g + 1) (fun x => Rf (SV.v Y) /\ Rf (SV.v (.pointer (some ⟨k1, 0, none⟩))) /\ Rf (SV.v (.pointer (some ⟨k2, 0, none⟩))) /\ Rf (SV.v (.pointer (some ⟨k3, 0, none⟩))) /\ Rf (SV.v (.slice b d e)) /\ Rf (SV.v (.int .i64 (d : Int))) /\ (0 <= x /\ x <= (n : Int) /\ J x.toNat t u) /\ Int.toNat ((n : Int) - x) < Int.toNat ((n : Int) - g)))) (Br (h == 2) (true = true /\ ∃ q, atI f (some ⟨k2, 0, none⟩) 2 = some (.string q) /\ q.size <= 4611686018427387904 /\ ∀ (i : Option Addr) (j : Nat) (k : Mem), f.le k -> i.isSome = true -> q.size <= j -> j <= 9223372036854775807 -> (∀ (m : Nat) (o : UInt8), q.data.toList[m]? = some o -> atI k i m = some (.int .u8 (o.toNat : Int))) -> CtH Try.prog Y #[.agg #[.int .i64 h, .slice i q.size j]] k G fun v m o => ∃ p, v = .bool p /\ Br (!p) (J l.length m o \/ D m o) (Wr .i64 (g + 1) (fun s => Rf (SV.v Y) /\ Rf (SV.v (.pointer (some ⟨k1, 0, none⟩))) /\ Rf (SV.v (.pointer (some ⟨k2, 0, none⟩))) /\ Rf (SV.v (.pointer (some ⟨k3, 0, none⟩))) /\ Rf (SV.v (.slice b d e)) /\ Rf (SV.v (.int .i64 (d : Int))) /\ (0 <= s /\ s <= (n : Int) /\ J s.toNat m o) /\ Int.toNat ((n : Int) - s) < Int.toNat ((n : Int) - g)))) (Br (h == 10) (true = true /\ ∃ i, atI f (some ⟨k2, 0, none⟩) 10 = some (.int .i64 i) /\ Ct Try.prog (fnv 65) #[.int .i64 i] f fun v j => ∃ k, v = .int .u64 k /\ Ct Try.prog (fnv 64) #[.int .i64 h, .int .u64 k] j fun m o => ∃ p q s t, m = .agg #[.int .i64 p, .slice q s t] /\ CtH Try.prog Y #[.agg #[.int .i64 p, .slice q s t]] o G fun u w x => ∃ z, u = .bool z /\ Br (!z) (J l.length w x \/ D w x) (Wr .i64 (g + 1) (fun c1 => Rf (SV.v Y) /\ Rf (SV.v (.pointer (some ⟨k1, 0, none⟩))) /\ Rf (SV.v (.pointer (some ⟨k2, 0, none⟩))) /\ Rf (SV.v (.pointer (some ⟨k3, 0, none⟩))) /\ Rf (SV.v (.slice b d e)) /\ Rf (SV.v (.int .i64 (d : Int))) /\ (0 <= c1 /\ c1 <= (n : Int) /\ J c1.toNat w x) /\ Int.toNat ((n : Int) - c1) < Int.toNat ((n : Int) - g)))) (Br (h == 11) (true = true /\ ∃ i j k, atI f (some ⟨k2, 0, none⟩) 11 = some (.slice i j k) /\ CtH Try.prog Y #[.agg #[.int .i64 h, .slice i j k]] f G fun v m o => ∃ p, v = .bool p /\ Br (!p) (J l.length m o \/ D m o) (Wr .i64 (g + 1) (fun q => Rf (SV.v Y) /\ Rf (SV.v (.pointer (some ⟨k1, 0, none⟩))) /\ Rf (SV.v (.pointer (some ⟨k2, 0, none⟩))) /\ Rf (SV.v (.pointer (some ⟨k3, 0, none⟩))) /\ Rf (SV.v (.slice b d e)) /\ Rf (SV.v (.int .i64 (d : Int))) /\ (0 <= q /\ q <= (n : Int) /\ J q.toNat m o) /\ Int.toNat ((n : Int) - q) < Int.toNat ((n : Int) - g)))) (0 <= h /\ h < 12 /\ true = true /\ ∃ i, atI f (some ⟨k3, 0, none⟩) (h.toNat * 1 + 0) = some (.pointer i) /\ i.isSome = true /\ ∃ j, atI f i 0 = some (.int .i64 j) /\ Wr .u64 j fun k => Ct Try.prog (fnv 64) #[.int .i64 h, .int .u64 k] f fun v m => ∃ o p q s, v = .agg #[.int .i64 o, .slice p q s] /\ CtH Try.prog Y #[.agg #[.int .i64 o, .slice p q s]] m G fun t u w => ∃ x, t = .bool x /\ Br (!x) (J l.length u w \/ D u w) (Wr .i64 (g + 1) (fun z => Rf (SV.v Y) /\ Rf (SV.v (.pointer (some ⟨k1, 0, none⟩))) /\ Rf (SV.v (.pointer (some ⟨k2, 0, none⟩))) /\ Rf (SV.v (.pointer (some ⟨k3, 0, none⟩))) /\ Rf (SV.v (.slice b d e)) /\ Rf (SV.v (.int .i64 (d : Int))) /\ (0 <= z /\ z <= (n : Int) /\ J z.toNat u w) /\ Int.toNat ((n : Int) - z) < Int.toNat ((n : Int) - g)))))))) (J l.length f G \/ D f G)) (by kernel_rfl) ?_
 simp only [eq_self, true_and]
 have hmx : maxLen = 9223372036854775807 := by decide
 have hln := hs.numLen;have c1 : ∀ {I' : Mem}, I0.le I' -> atI I' (some ⟨k1, 0, none⟩) 0 = some (.slice a n c) := fun hle => atC (hle _ _ (hI0 _ _ h1)) rfl
 refine ⟨a, n, c, c1 (Mem.le_refl _), ⟨by omega, by omega, hJ0⟩, fun I1 G1 l1 j ⟨j0, j1, hj⟩ => Br.mk (fun hlt => ?_) (fun hge => ?_)⟩
 rotate_left
 · have hge := of_decide_eq_false hge
   rw [show j.toNat = l.length by omega] at hj
   exact .inl hj
 have hlt := of_decide_eq_true hlt;have l01 := Mem.le_trans hI0 l1;have hsI := hs.mono l01;obtain ⟨t, ht, hat⟩ := hsI.intAt j0 hlt;have htr := hl t (List.mem_of_getElem? ht)
 have c2 : ∀ {i : Nat} {v : Value}, (rqV r y)[i]? = some v -> atI I1 (some ⟨k2, 0, none⟩) i = some v := fun hv => atC (l01 _ _ h2) (by simpa using hv)
 have tail : ∀ {I2 : Mem} {b : Option Addr} {m d : Nat}, I1.le I2 -> SlM I2 b m 1 (ints .u8 (bytesR r t)) -> m <= d -> d <= maxLen ->
  CtH Try.prog Y #[.agg #[.int .i64 t, .slice b m d]] I2 G1 fun v I' G' => ∃ b, v = Value.bool b /\ Br (!b) (J l.length I' G' \/ D I' G') (Wr IntKind.i64 (j + 1) fun c_3 => (0 <= c_3 /\ c_3 <= n /\ J c_3.toNat I' G') /\ (n - c_3).toNat < (n - j).toNat) := by
  intro I2 b m d hle h4 h5 h6
  refine (hY j.toNat I2 G1 _ (by omega) (Mem.le_trans l1 hle) (hJ _ _ _ _ hj hle) ⟨t, b, m, d, ht, rfl, h4, h5, h6⟩).mono fun v I3 G3 _ hv => ?_
  rcases hv with ⟨hv, hj'⟩ | ⟨hv, hd⟩
  · exact ⟨true, hv, Br.f rfl (wr_i64 (by omega) (by omega) ⟨⟨by omega, by omega, by rw [show (j + 1).toNat = j.toNat + 1 by omega]; exact hj'⟩, by omega⟩)⟩
  · exact ⟨false, hv, Br.t rfl (.inr hd)⟩
 have num : ∀ {I2 : Mem} {x : Int}, I1.le I2 -> 0 <= x /\ x <= 18446744073709551615 -> bytesR r t = formN x.toNat -> Ct Try.prog (fnv 64) #[.int .i64 t, .int .u64 x] I2 fun v I' => ∃ n_5 a_3 n_6 c_2, v = Value.agg #[Value.int IntKind.i64 n_5, Value.slice a_3 n_6 c_2] /\ CtH Try.prog Y #[Value.agg #[Value.int IntKind.i64 n_5, Value.slice a_3 n_6 c_2]] I' G1 fun v I' G' => ∃ b, v = Value.bool b /\ Br (!b) (J l.length I' G' \/ D I' G') (Wr IntKind.i64 (j + 1) fun c_3 => (0 <= c_3 /\ c_3 <= n /\ J c_3.toNat I' G') /\ (n - c_3).toNat < (n - j).toNat) := by
  intro I2 x hle hx hb;refine (ct64 t x hx I2).mono fun v I3 l3 ⟨y2, hv, hy2⟩ => ?_;obtain ⟨b, m, d, rfl, h4, h5, h6⟩ := hy2
  exact ⟨_, _, _, _, hv, tail (Mem.le_trans hle l3) (by rw [hb]; exact h4) h5 h6⟩
 refine ⟨j0, hlt, hs.isSome (by omega), t, hat, Br.mk (fun e1 => ?_) (fun e1 => Br.mk (fun e2 => ?_) (fun e2 => Br.mk (fun e10 => ?_) (fun e10 => Br.mk (fun e11 => ?_) (fun e11 => ?_))))⟩
 · have e1 := eqv e1
   refine ⟨_, c2 rfl, _, IntWalk.u64_in _ ⟨hr.what.1, by have := hr.what.2; omega⟩, num (Mem.le_refl _) ⟨hr.what.1, by have := hr.what.2; omega⟩ (by rw [bytesR, if_pos e1])⟩
 · have e2 := eqv e2
   refine ⟨_, c2 rfl, by omega, fun a3 cp I2 l2 hs3 hq hcp hat3 => tail l2 ?_ hq (by omega)⟩
   rw [bytesR, if_neg (nev e1), if_pos e2]
   exact str_sl hs3 (by omega) hat3
 · have e10 := eqv e10
   refine ⟨_, c2 rfl, (ct65 r.val hr.val I1).mono fun v I2 l2 hv => ⟨_, hv, num l2 (foldZ_range hr.val) (by rw [bytesR, if_neg (nev e1), if_neg (nev e2), if_pos e10])⟩⟩
 · have e11 := eqv e11
   obtain ⟨b, m, d, rfl, h4, h5, h6⟩ := hy;refine ⟨_, _, _, c2 rfl, tail (Mem.le_refl _) ?_ h5 h6⟩;rw [bytesR, if_neg (nev e1), if_neg (nev e2), if_neg (nev e10), if_pos e11];exact h4.mono l01
 · have hb : bytesR r t = formN (IntKind.u64.wrap (numR r t)).toNat := by rw [bytesR, if_neg (nev e1), if_neg (nev e2), if_neg (nev e10), if_neg (nev e11)]
   have c3 : ∀ {i : Nat} {v : Value}, (ptrV k2)[i]? = some v -> atI I1 (some ⟨k3, 0, none⟩) i = some v := fun hv => atC (l01 _ _ h3) (by simpa using hv)
   have c4 : ∀ {i : Nat} {v : Value}, (rqV r y)[i]? = some v -> atI I1 (some ⟨k2, i, none⟩) 0 = some v := fun hv => atC (l01 _ _ h2) (by simpa using hv)
   have n1 := nev e1;have n2 := nev e2;have n10 := nev e10;have n11 := nev e11
   rcases (by omega : t = 3 \/ t = 4 \/ t = 5 \/ t = 6 \/ t = 7 \/ t = 8 \/ t = 9) with rfl | rfl | rfl | rfl | rfl | rfl | rfl
   · exact ⟨by omega, by omega, _, c3 (i := 3) rfl, rfl, _, c4 (i := 3) rfl, _, rfl, num (Mem.le_refl _) (w64_range _) hb⟩
   · exact ⟨by omega, by omega, _, c3 (i := 4) rfl, rfl, _, c4 (i := 4) rfl, _, rfl, num (Mem.le_refl _) (w64_range _) hb⟩
   · exact ⟨by omega, by omega, _, c3 (i := 5) rfl, rfl, _, c4 (i := 5) rfl, _, rfl, num (Mem.le_refl _) (w64_range _) hb⟩
   · exact ⟨by omega, by omega, _, c3 (i := 6) rfl, rfl, _, c4 (i := 6) rfl, _, rfl, num (Mem.le_refl _) (w64_range _) hb⟩
   · exact ⟨by omega, by omega, _, c3 (i := 7) rfl, rfl, _, c4 (i := 7) rfl, _, rfl, num (Mem.le_refl _) (w64_range _) hb⟩
   · exact ⟨by omega, by omega, _, c3 (i := 8) rfl, rfl, _, c4 (i := 8) rfl, _, rfl, num (Mem.le_refl _) (w64_range _) hb⟩
   · exact ⟨by omega, by omega, _, c3 (i := 9) rfl, rfl, _, c4 (i := 9) rfl, _, rfl, num (Mem.le_refl _) (w64_range _) hb⟩
theorem ct41 (r : Rq) (y : Value) (a : Option Addr) (n c : Nat) (I : Mem) :
 Ct Try.prog (fnv 41) #[.agg (rqV r y).toArray, .slice a n c] I (fun v I' => ∃ k1 k2 k3, v = .func (.func 63) #[] #[.pointer (some ⟨k1, 0, none⟩), .pointer (some ⟨k2, 0, none⟩), .pointer (some ⟨k3, 0, none⟩)] /\ I' k1 = some (.cells #[.slice a n c] 41) /\ I' k2 = some (.cells (rqV r y).toArray 29) /\ I' k3 = some (.cells (ptrV k2).toArray 84)) := by
 refine viaR (ct_via (A := {}) Try.func41 rfl Try.call41 rfl rfl) (∀ (b : Nat) (d : Mem), I.le d -> d b = some (.cells #[.int .u8 r.kind, .int .u8 r.what, .string r.name, .int .i64 r.p3, .int .i64 r.p4, .int .i64 r.p5, .int .i64 r.p6, .int .i64 r.p7, .int .i64 r.p8, .int .i64 r.p9, .int .i64 r.val, y] 29 (0, 0)) -> Ct Try.prog (fnv 45) #[.pointer (some ⟨b, 0, none⟩)] d fun v e => ∃ f g h i j k l m o p q s, v = .agg #[.pointer f, .pointer g, .pointer h, .pointer i, .pointer j, .pointer k, .pointer l, .pointer m, .pointer o, .pointer p, .pointer q, .pointer s] /\ ∀ (t : Nat) (u : Mem), e.le u -> u t = some (.cells #[.slice a n c] 41 (0, 0)) -> ∀ (w : Nat) (x : Mem), u.le x -> x w = some (.cells #[.pointer f, .pointer g, .pointer h, .pointer i, .pointer j, .pointer k, .pointer l, .pointer m, .pointer o, .pointer p, .pointer q, .pointer s] 84 (0, 0)) -> ∃ z k1 k2, Value.func (.func 63) #[] #[.pointer (some ⟨t, 0, none⟩), .pointer (some ⟨b, 0, none⟩), .pointer (some ⟨w, 0, none⟩)] = .func (.func 63) #[] #[.pointer (some ⟨z, 0, none⟩), .pointer (some ⟨k1, 0, none⟩), .pointer (some ⟨k2, 0, none⟩)] /\ x z = some (.cells #[.slice a n c] 41 (0, 0)) /\ x k1 = some (.cells #[.int .u8 r.kind, .int .u8 r.what, .string r.name, .int .i64 r.p3, .int .i64 r.p4, .int .i64 r.p5, .int .i64 r.p6, .int .i64 r.p7, .int .i64 r.p8, .int .i64 r.p9, .int .i64 r.val, y] 29 (0, 0)) /\ x k2 = some (.cells #[.pointer none, .pointer none, .pointer none, .pointer (some ⟨k1, 3, none⟩), .pointer (some ⟨k1, 4, none⟩), .pointer (some ⟨k1, 5, none⟩), .pointer (some ⟨k1, 6, none⟩), .pointer (some ⟨k1, 7, none⟩), .pointer (some ⟨k1, 8, none⟩), .pointer (some ⟨k1, 9, none⟩), .pointer none, .pointer none] 84 (0, 0))) (by kernel_rfl) ?_
 intro b I1 l1 hb;refine (ct45 b I1).mono fun v I2 l2 hv => ⟨_, _, _, _, _, _, _, _, _, _, _, _, hv, fun b1 I3 l3 hb1 b2 I4 l4 hb2 => ⟨b1, b, b2, rfl, l4 _ _ hb1, (Mem.le_trans l2 (Mem.le_trans l3 l4)) _ _ hb, hb2⟩⟩
theorem bytesR_ok {r : Rq} (hr : okRq r) (t : Int) : byteL (bytesR r t) := by
 unfold bytesR;have hw := hr.what;have hv := foldZ_range hr.val;have hn := w64_range (numR r t);split
 · exact formN_bytes (by omega)
 split
 · intro z hz
   simp only [strL, List.mem_map] at hz;obtain ⟨b, _, rfl⟩ := hz;have := b.toNat_lt;omega
 split
 · exact formN_bytes (by omega)
 split
 · exact hr.fed
 · exact formN_bytes (by omega)
def fldsR (r : Rq) (l : List Int) : List (Int × List Int) := l.map fun t => (t, bytesR r t)
theorem ct62 (r : Rq) (hr : okRq r) (l : List Int) (hl : ∀ t ∈ l, 1 <= t /\ t <= 11) (hn : l.length <= 20) (it : Value) (I : Mem) (hit : Gives Try.prog it I l.length (encR r l)) :
 Ct Try.prog (fnv 62) #[.slice none 0 0, it] I (fun v I' => ∃ a' n' c', v = .slice a' n' c' /\ FldM I' a' n' (fldsR r l) /\ n' <= c' /\ c' <= maxLen) := by
 refine viaR (ct_via (A := { rfs := [(3, { n := l.length, enc := encR r l, ps := [.agg [.int .i64, .sl]], pre := [(2, 2, 73)], ents := [(0, .cells [.row 1]), (1, .row)], inv := (fun k vals xss I' _ => match xss with | [xs] => FR I' xs (fldsR r (l.take k)) | _ => False), jumps := [] })] }) Try.func62 rfl Try.call62 rfl rfl) (∀ (b a c : Nat) (d : Loop), Gives Try.prog it I l.length (encR r l) /\ (∀ (k : Nat) (e : Array Value) (f : Mem), encR r l k e f -> psOk [.agg [.int .i64, .sl]] e.toList = true) /\ (Rf (Ent.mk (.raw (.deferred (some []))) (some a)) /\ Rf (Ent.mk (.raw (.loop ⟨.ready, none, d.fn, d.tmps, d.params, d.assign, d.body, d.defers⟩)) (some c)) /\ Rf (some b) /\ (0 : Nat) = 0 /\ ((b = b /\ a = a /\ c = c /\ True) /\ Rf (Obj.loop ⟨.ready, none, d.fn, d.tmps, d.params, d.assign, d.body, d.defers⟩)) /\ FR I [] []) /\ (∀ (k : Nat) (e : Mem), Mem -> k < l.length -> I.le e -> ∀ (x : List Value), FR e x (fldsR r (List.take k l)) -> ∀ (f : Mem), e.le f -> ∀ (n : Int) (g : Option Addr) (h i : Nat), encR r l k #[.agg #[.int .i64 n, .slice g h i]] f -> Rf (Obj.loop ⟨.ready, none, d.fn, d.tmps, d.params, d.assign, d.body, d.defers⟩) /\ Rf (some c) /\ x.length = x.length / 2 * 2 /\ x.length / 2 + 1 <= 9223372036854775807 /\ (x.length / 2 + 1) * 32 <= 140737488355328 /\ Rf (Obj.loop ⟨.busy, none, d.fn, d.tmps, d.params, d.assign, d.body, d.defers⟩) /\ Rf (some c) /\ Rf (Ent.mk (.raw (.deferred (some []))) (some a)) /\ Rf (Ent.mk (.raw (.loop ⟨.ready, none, d.fn, d.tmps, d.params, d.assign, d.body, d.defers⟩)) (some c)) /\ Rf (some b) /\ x.length / 2 + 1 = List.length (x ++ [.int .i64 n, .slice g h i]) / 2 /\ ((b = b /\ a = a /\ c = c /\ True) /\ Rf (Obj.loop ⟨.ready, none, d.fn, d.tmps, d.params, d.assign, d.body, d.defers⟩)) /\ FR f (x ++ [.int .i64 n, .slice g h i]) (fldsR r (List.take (k + 1) l))) /\ (∀ (e : Mem), Mem -> I.le e -> ∀ (x : List Value), FR e x (fldsR r (List.take l.length l)) -> ∀ (f : Mem), e.le f -> ∀ (g : Option Addr) (h : Nat) (i : Mem), f.le i -> RowM i g h 2 x -> ∃ j n k, Value.slice g (x.length / 2) h = .slice j n k /\ FldM i j n (fldsR r l) /\ n <= k /\ k <= 9223372036854775807) /\ True) (by kernel_rfl) ?_
 simp only [eq_self, true_and, and_true];intro b bd br rc;refine ⟨hit, ?_, trivial, ?_, ?_⟩
 · rintro k args I2 ⟨t, b, m, c, _, rfl, _⟩; rfl
 · rintro k I2 G2 hk l2 xs hF I3 l3 t b m c ⟨t', b', m', c', ht, hargs, hsl, hmc, hcm⟩
   cases hargs;have htr := hl t (List.mem_of_getElem? ht);have hxl := hF.len
   have hlk : (fldsR r (l.take k)).length <= 20 := by simp [fldsR]; omega
   refine ⟨by omega, by omega, by omega, by simp, ?_⟩
   rw [take_succ' ht, fldsR, List.map_append]
   exact FR.snoc (f := (t, bytesR r t)) (hF.mono l3) ⟨⟨by simp only; omega, bytesR_ok hr t⟩, rfl, _, _, _, rfl, hsl, hmc, hcm⟩
 · intro I2 G2 l2 xs hF I3 l3 a cp I4 l4 hrow
   rw [List.take_length] at hF;obtain ⟨a3, n3, c3, e1, e2, e3, e4⟩ := fr_row hrow (hF.mono (Mem.le_trans l3 l4));exact ⟨a3, n3, c3, e1, e2, e3, e4⟩
theorem ct40 (r : Rq) (hr : okRq r) (l : List Int) (hl : ∀ t ∈ l, 1 <= t /\ t <= 11) (hn : l.length <= 20) (it : Value) (I : Mem) (hit : Gives Try.prog it I l.length (encR r l)) :
 Ct Try.prog (fnv 40) #[it] I (fun v I' => ∃ a' n' c', v = .slice a' n' c' /\ FldM I' a' n' (fldsR r l) /\ n' <= c' /\ c' <= maxLen) := by
 refine viaR (ct_via (A := { }) Try.func40 rfl Try.call40 rfl rfl) (Ct Try.prog (fnv 62) #[.slice none 0 0, it] I fun v a => ∃ b n c, v = .slice b n c /\ ∃ d e f, Value.slice b n c = .slice d e f /\ FldM a d e (fldsR r l) /\ e <= f /\ f <= 9223372036854775807) (by kernel_rfl) ?_
 exact (ct62 r hr l hl hn it I hit).mono fun v I1 l1 ⟨a, n, c, hv, h1⟩ => ⟨_, _, _, hv, _, _, _, rfl, h1⟩
def sameR (r q : Rq) : Bool := decide (r.fed = q.fed /\ r.kind = q.kind /\ r.what = q.what /\ r.name = q.name /\ r.val = q.val /\ r.p3 = q.p3 /\ r.p4 = q.p4 /\ r.p5 = q.p5 /\ r.p6 = q.p6 /\ r.p7 = q.p7 /\ r.p8 = q.p8 /\ r.p9 = q.p9)
theorem ptr_at {I : Mem} {k kb : Nat} (h : I kb = some (.cells (ptrV k).toArray 84)) {n : Int} (h0 : 0 <= n) (h1 : n < 12) :
 atI I (some ⟨kb, 0, none⟩) (n.toNat * 1 + 0) = some (.pointer (if 3 <= n /\ n <= 9 then some ⟨k, n.toNat, none⟩ else none)) := by
 rcases (by omega : n = 0 \/ n = 1 \/ n = 2 \/ n = 3 \/ n = 4 \/ n = 5 \/ n = 6 \/ n = 7 \/ n = 8 \/ n = 9 \/ n = 10 \/ n = 11) with rfl | rfl | rfl | rfl | rfl | rfl | rfl | rfl | rfl | rfl | rfl | rfl
 all_goals exact atC h rfl
theorem num_at {I : Mem} {k : Nat} {r : Rq} {y : Value} (h : I k = some (.cells (rqV r y).toArray 29)) {n : Int} (h0 : 3 <= n) (h1 : n <= 9) :
 atI I (some ⟨k, n.toNat, none⟩) 0 = some (.int .i64 (numR r n)) := by
 rcases (by omega : n = 3 \/ n = 4 \/ n = 5 \/ n = 6 \/ n = 7 \/ n = 8 \/ n = 9) with rfl | rfl | rfl | rfl | rfl | rfl | rfl
 all_goals exact atC h rfl
theorem same_num {r q : Rq} (h : sameR r q = true) (t : Int) : numR r t = numR q t := by
 have h := of_decide_eq_true h;obtain ⟨_, _, _, _, _, h3, h4, h5, h6, h7, h8, h9⟩ := h;simp only [numR, h3, h4, h5, h6, h7, h8, h9]
theorem same_no {r q : Rq} {Q : Prop} (h : ¬ Q) (hq : sameR r q = true -> Q) : Value.bool false = Value.bool (sameR r q) := by
 cases hs : sameR r q with
 | false => rfl
 | true => exact absurd (hq hs) h
theorem ct17 (r q : Rq) (hr : okRq r) (hq : okRq q) (y z : Value) (I : Mem) (hy : BySl I y r.fed) (hz : BySl I z q.fed) :
 Ct Try.prog (fnv 17) #[.agg (rqV r y).toArray, .agg (rqV q z).toArray] I (fun v I' => v = .bool (sameR r q)) := by
 obtain ⟨a1, n1, c1, rfl, hs1, _⟩ := hy;obtain ⟨a2, n2, c2, rfl, hs2, _⟩ := hz
 refine viaR (ct_via (A := { befores := [(4, [2, 3])], loops := [(5, ⟨[(5, .keep), (6, .keep), (44, .sh (.int .i64))], [], [], fun vals _ _ _ => match vals with | [.int .i64 j] => 0 <= j /\ j <= 12 /\ ∀ i : Int, 3 <= i -> i <= 9 -> i < j -> numR r i = numR q i | _ => False, fun vals _ => match vals with | [.int .i64 j] => (12 - j).toNat | _ => 0⟩)] }) Try.func17 rfl Try.call17 rfl rfl) (Ct Try.prog (fnv 18) #[.slice a1 n1 c1, .slice a2 n2 c2] I fun v a => ∃ b, v = .bool b /\ Br (!b) (Value.bool false = .bool (sameR r q)) (Br (r.kind != q.kind) (Value.bool false = .bool (sameR r q)) (Br (r.what != q.what) (Value.bool false = .bool (sameR r q)) (Br (!(r.name.toList == q.name.toList)) (Value.bool false = .bool (sameR r q)) (Br (r.val != q.val) (Value.bool false = .bool (sameR r q)) (∀ (c : Nat) (d : Mem), a.le d -> d c = some (.cells #[.int .u8 r.kind, .int .u8 r.what, .string r.name, .int .i64 r.p3, .int .i64 r.p4, .int .i64 r.p5, .int .i64 r.p6, .int .i64 r.p7, .int .i64 r.p8, .int .i64 r.p9, .int .i64 r.val, .slice a1 n1 c1] 29 (0, 0)) -> Ct Try.prog (fnv 45) #[.pointer (some ⟨c, 0, none⟩)] d fun e f => ∃ g h i j k l m n o p s t, e = .agg #[.pointer g, .pointer h, .pointer i, .pointer j, .pointer k, .pointer l, .pointer m, .pointer n, .pointer o, .pointer p, .pointer s, .pointer t] /\ ∀ (u : Nat) (w : Mem), f.le w -> w u = some (.cells #[.int .u8 q.kind, .int .u8 q.what, .string q.name, .int .i64 q.p3, .int .i64 q.p4, .int .i64 q.p5, .int .i64 q.p6, .int .i64 q.p7, .int .i64 q.p8, .int .i64 q.p9, .int .i64 q.val, .slice a2 n2 c2] 29 (0, 0)) -> Ct Try.prog (fnv 45) #[.pointer (some ⟨u, 0, none⟩)] w fun x y => ∃ z a3 a4 a5 a6 a7 a8 a9 a10 a11 a12 a13, x = .agg #[.pointer z, .pointer a3, .pointer a4, .pointer a5, .pointer a6, .pointer a7, .pointer a8, .pointer a9, .pointer a10, .pointer a11, .pointer a12, .pointer a13] /\ ∀ (b1 : Nat) (I1 : Mem), y.le I1 -> I1 b1 = some (.cells #[.pointer g, .pointer h, .pointer i, .pointer j, .pointer k, .pointer l, .pointer m, .pointer n, .pointer o, .pointer p, .pointer s, .pointer t] 84 (0, 0)) -> ∀ (b2 : Nat) (I2 : Mem), I1.le I2 -> I2 b2 = some (.cells #[.pointer z, .pointer a3, .pointer a4, .pointer a5, .pointer a6, .pointer a7, .pointer a8, .pointer a9, .pointer a10, .pointer a11, .pointer a12, .pointer a13] 84 (0, 0)) -> (Rf (SV.v (.pointer (some ⟨b1, 0, none⟩))) /\ Rf (SV.v (.pointer (some ⟨b2, 0, none⟩))) /\ (0 : Int) <= 0 /\ (0 : Int) <= 12 /\ ∀ (i1 : Int), 3 <= i1 -> i1 <= 9 -> i1 < 0 -> numR r i1 = numR q i1) /\ ∀ (I3 : Mem), Mem -> I2.le I3 -> ∀ (n3 : Int), 0 <= n3 /\ n3 <= 12 /\ (∀ (i1 : Int), 3 <= i1 -> i1 <= 9 -> i1 < n3 -> numR r i1 = numR q i1) -> Br (decide (n3 < 12)) (0 <= n3 /\ n3 < 12 /\ true = true /\ ∃ a14, atI I3 (some ⟨b1, 0, none⟩) (n3.toNat * 1 + 0) = some (.pointer a14) /\ Br (!a14.isNone) (0 <= n3 /\ n3 < 12 /\ true = true /\ ∃ a15, atI I3 (some ⟨b1, 0, none⟩) (n3.toNat * 1 + 0) = some (.pointer a15) /\ a15.isSome = true /\ ∃ n4, atI I3 a15 0 = some (.int .i64 n4) /\ 0 <= n3 /\ n3 < 12 /\ true = true /\ ∃ a16, atI I3 (some ⟨b2, 0, none⟩) (n3.toNat * 1 + 0) = some (.pointer a16) /\ a16.isSome = true /\ ∃ n5, atI I3 a16 0 = some (.int .i64 n5) /\ Br (n4 != n5) (Value.bool false = .bool (sameR r q)) (Wr .i64 (n3 + 1) (fun c3 => Rf (SV.v (.pointer (some ⟨b1, 0, none⟩))) /\ Rf (SV.v (.pointer (some ⟨b2, 0, none⟩))) /\ (0 <= c3 /\ c3 <= 12 /\ ∀ (i1 : Int), 3 <= i1 -> i1 <= 9 -> i1 < c3 -> numR r i1 = numR q i1) /\ Int.toNat (12 - c3) < Int.toNat (12 - n3)))) (Wr .i64 (n3 + 1) (fun c3 => Rf (SV.v (.pointer (some ⟨b1, 0, none⟩))) /\ Rf (SV.v (.pointer (some ⟨b2, 0, none⟩))) /\ (0 <= c3 /\ c3 <= 12 /\ ∀ (i1 : Int), 3 <= i1 -> i1 <= 9 -> i1 < c3 -> numR r i1 = numR q i1) /\ Int.toNat (12 - c3) < Int.toNat (12 - n3)))) (Value.bool true = .bool (sameR r q)))))))) (by kernel_rfl) ?_
 simp only [eq_self, true_and];refine (ct18 r.fed q.fed hr.fed hq.fed a1 a2 n1 c1 n2 c2 I hs1 hs2).mono fun v I1 l1 hv => ⟨_, hv, Br.mk (fun h => ?_) (fun e1 => Br.mk (fun h => ?_) (fun e2 => Br.mk (fun h => ?_) (fun e3 => Br.mk (fun h => ?_) (fun e4 => Br.mk (fun h => ?_) (fun e5 => ?_)))))⟩
 · have h : ¬ r.fed = q.fed := by simpa using h
   exact same_no h fun hs => (of_decide_eq_true hs).1
 · have h : ¬ r.kind = q.kind := by simpa using h
   exact same_no h fun hs => (of_decide_eq_true hs).2.1
 · have h : ¬ r.what = q.what := by simpa using h
   exact same_no h fun hs => (of_decide_eq_true hs).2.2.1
 · rw [str_eq] at h
   have h : ¬ r.name = q.name := by simpa using h
   exact same_no h fun hs => (of_decide_eq_true hs).2.2.2.1
 · have h : ¬ r.val = q.val := by simpa using h
   exact same_no h fun hs => (of_decide_eq_true hs).2.2.2.2.1
 have e1 : r.fed = q.fed := by simpa using e1
 have e2 : r.kind = q.kind := by simpa using e2
 have e3 : r.what = q.what := by simpa using e3
 rw [str_eq] at e4
 have e4 : r.name = q.name := by simpa using e4
 have e5 : r.val = q.val := by simpa using e5
 intro b1 I2 l2 hb1;refine (ct45 b1 I2).mono fun v I3 l3 hv => ⟨_, _, _, _, _, _, _, _, _, _, _, _, hv, fun b2 I4 l4 hb2 => ?_⟩;refine (ct45 b2 I4).mono fun v I5 l5 hv => ⟨_, _, _, _, _, _, _, _, _, _, _, _, hv, fun b3 I6 l6 hb3 b4 I7 l7 hb4 => ?_⟩
 refine ⟨⟨by omega, by omega, fun i h3 h9 h => by omega⟩, fun I8 _ l8 n ⟨n0, nle, hn⟩ => Br.mk (fun hlt => ?_) (fun hge => ?_)⟩
 · have hlt := of_decide_eq_true hlt
   have l48 := Mem.le_trans l5 (Mem.le_trans l6 (Mem.le_trans l7 l8));have p1 := ptr_at (k := b1) ((Mem.le_trans l7 l8) _ _ hb3) n0 hlt;have p2 := ptr_at (k := b2) (l8 _ _ hb4) n0 hlt
   by_cases hr39 : 3 <= n /\ n <= 9
   · rw [if_pos hr39] at p1 p2
     have v1 := num_at (r := r) (y := .slice a1 n1 c1) ((Mem.le_trans l3 (Mem.le_trans l4 l48)) _ _ hb1) hr39.1 hr39.2;have v2 := num_at (r := q) (y := .slice a2 n2 c2) (l48 _ _ hb2) hr39.1 hr39.2;refine ⟨n0, hlt, _, p1, Br.t rfl ⟨n0, hlt, _, p1, rfl, _, v1, n0, hlt, _, p2, rfl, _, v2, Br.mk (fun h => ?_) (fun h => ?_)⟩⟩
     · have h : ¬ numR r n = numR q n := by simpa using h
       exact same_no h fun hs => same_num hs n
     · have h : numR r n = numR q n := by simpa using h
       refine wr_i64 (by omega) (by omega) ⟨⟨by omega, by omega, fun i g3 g9 gi => ?_⟩, by omega⟩
       by_cases hin : i = n
       · rw [hin]; exact h
       · exact hn i g3 g9 (by omega)
   · rw [if_neg hr39] at p1
     exact ⟨n0, hlt, _, p1, Br.f rfl (wr_i64 (by omega) (by omega) ⟨⟨by omega, by omega, fun i g3 g9 gi => hn i g3 g9 (by omega)⟩, by omega⟩)⟩
 · have hge := of_decide_eq_false hge
   have g := fun i h3 h9 => hn i h3 h9 (by omega)
   have : sameR r q = true := decide_eq_true ⟨e1, e2, e3, e4, e5, g 3 (by omega) (by omega), g 4 (by omega) (by omega), g 5 (by omega) (by omega), g 6 (by omega) (by omega), g 7 (by omega) (by omega), g 8 (by omega) (by omega), g 9 (by omega) (by omega)⟩
   rw [this]
def had0 (r : Rq) : Rq := { kind := r.kind, what := 0, name := ⟨#[]⟩, p3 := 0, p4 := 0, p5 := 0, p6 := 0, p7 := 0, p8 := 0, p9 := 0, val := 0, fed := [] }
def preR (r h : Rq) (t : Int) : Rq := if t = 1 then { h with what := r.what } else h
def runR (r : Rq) : Rq -> List Int -> Rq × Bool
 | h, [] => (h, true)
 | h, t :: l => if takeB (preR r h t) t (bytesR r t) then runR r (takeR (preR r h t) t (bytesR r t)) l else (h, false)
def rightR (r : Rq) : Bool := match tagL r.kind r.what with
 | none => false
 | some l => decide (r.name.size <= 255) && (decide (r.fed.length <= 15000) && ((runR r (had0 r) l).2 && sameR (runR r (had0 r) l).1 r))
def cellsE : List RSh := [.sh (.int .u8), .sh (.int .u8), .sh .str, .sh (.int .i64), .sh (.int .i64), .sh (.int .i64), .sh (.int .i64), .sh (.int .i64), .sh (.int .i64), .sh (.int .i64), .sh (.int .i64), .sh .sl]
def cellsA : List TA := [.sh (.int .u8), .sh (.int .u8), .sh .str, .sh (.int .i64), .sh (.int .i64), .sh (.int .i64), .sh (.int .i64), .sh (.int .i64), .sh (.int .i64), .sh (.int .i64), .sh (.int .i64), .sh .sl]
theorem cs_agg {P : Program} {fv : SV} {x : SV} {a b : Value} {H : List Ent} {I : Mem} {post : SV -> List Ent -> Mem -> Prop} (h : CtS P fv [x, .v (.agg #[a, b])] H I post) : CtS P fv [x, .agg [.v a, .v b]] H I post :=
 fun e hp hO => h e hp hO
theorem tagL_ok {k w : Int} {l : List Int} (h : tagL k w = some l) : (∀ t ∈ l, 1 <= t /\ t <= 11) /\ l.length <= 4 := by
 have ha : ∀ {l : List Int}, askL w = some l -> (∀ t ∈ l, 1 <= t /\ t <= 11) /\ l.length <= 3 := fun {l} h => by
  unfold askL at h
  repeat' split at h
  all_goals first | (cases h; simp) | cases h
 unfold tagL at h
 repeat' split at h
 all_goals first
  | (cases h; simp)
  | (cases h; done)
  | (cases hq : askL w with
     | none => rw [hq] at h; cases h
     | some m =>
       rw [hq] at h;cases h;obtain ⟨h1, h2⟩ := ha hq
       refine ⟨fun t ht => ?_, by simp only [List.length_cons]; omega⟩
       rcases List.mem_cons.1 ht with rfl | ht
       · omega
       · exact h1 t ht)
theorem bytesR_len {r : Rq} (hr : okRq r) (hn : r.name.size <= 1000000) (hf : r.fed.length <= 1000000) (t : Int) : (bytesR r t).length <= 1000000 := by
 have hw := hr.what;have hv := foldZ_range hr.val;have hx := w64_range (numR r t)
 have fl : ∀ {x : Nat}, x < 256 ^ 8 -> (formN x).length <= 1000000 := fun h => by have := (formN_le _ h).1; omega
 unfold bytesR;split
 · exact fl (by omega)
 split
 · simpa [strL] using hn
 split
 · exact fl (by omega)
 split
 · exact hf
 · exact fl (by omega)
theorem i64_wrap (x : Int) : i64R (IntKind.i64.wrap x) := by
 rw [IntKind.wrap_i64];unfold i64R;omega
theorem unfoldZ_range {y : Int} (h : 0 <= y /\ y <= 18446744073709551615) : i64R (unfoldZ y) := by
 unfold unfoldZ i64R
 split <;> omega
theorem okRq_take {r : Rq} (h : okRq r) (t : Int) {bs : List Int} (hb : byteL bs) : okRq (takeR r t bs) := by
 have hu := unfoldZ_range (last_range hb);have hw := i64_wrap (lastN bs).1;obtain ⟨h1, h2, h3, h4, h5, h6, h7, h8, h9, h10, h11⟩ := h;unfold takeR
 repeat' split
 all_goals constructor <;> assumption
theorem okRq_pre {r h : Rq} (hr : okRq r) (hh : okRq h) (t : Int) : okRq (preR r h t) := by
 have h2' := hr.what;obtain ⟨h1, h2, h3, h4, h5, h6, h7, h8, h9, h10, h11⟩ := hh;unfold preR;split
 all_goals constructor <;> assumption
theorem okRq_had {r : Rq} (hr : okRq r) : okRq (had0 r) := by
 have h1 := hr.kind
 refine ⟨h1, by simp [had0], ?_, ?_, ?_, ?_, ?_, ?_, ?_, ?_, fun z hz => by cases hz⟩
 all_goals simp [had0, i64R]
theorem ct15 (r : Rq) (hr : okRq r) (hnm : r.name.size <= 1000000) (y : Value) (I : Mem) (hy : BySl I y r.fed) (hfl : r.fed.length <= 1000000) :
 Ct Try.prog (fnv 15) #[.agg (rqV r y).toArray] I (fun v I' => v = .bool (rightR r)) := by
 obtain ⟨a1, n1, c1, rfl, hs1, hc1, hm1⟩ := hy
 refine viaR (ct_via (A := { calls := [(43, .lend [2] (.sh .bool) [.cells cellsE 29])], rfs := [(7, { n := ((tagL r.kind r.what).getD []).length, enc := encR r ((tagL r.kind r.what).getD []), ps := [.agg [.int .i64, .sl]], ents := [(0, .keep), (1, .keep), (2, .cells cellsA)], inv := (fun k vals _ I' _ => ∃ h y, vals = rqV h y /\ okRq h /\ BySl I' y h.fed /\ runR r (had0 r) ((tagL r.kind r.what).getD []) = runR r h (((tagL r.kind r.what).getD []).drop k)), jumps := [(.ret, [(1, .cells [.sh .bool])], fun vals _ _ _ => vals = [.bool false] /\ (runR r (had0 r) ((tagL r.kind r.what).getD [])).2 = false)] })] }) Try.func15 rfl Try.call15 rfl rfl) (Ct Try.prog (fnv 21) #[.int .u8 r.kind, .int .u8 r.what] I fun v a => ∃ b n c d, v = .tuple #[.slice b n c, .bool d] /\ Br (!d) (Value.bool false = .bool (rightR r)) (Br (decide (255 < (r.name.size : Int))) (Value.bool false = .bool (rightR r)) (Br (decide (15000 < (n1 : Int))) (Value.bool false = .bool (rightR r)) (Ct Try.prog (fnv 41) #[.agg #[.int .u8 r.kind, .int .u8 r.what, .string r.name, .int .i64 r.p3, .int .i64 r.p4, .int .i64 r.p5, .int .i64 r.p6, .int .i64 r.p7, .int .i64 r.p8, .int .i64 r.p9, .int .i64 r.val, .slice a1 n1 c1], .slice b n c] a (fun e f => ∃ x, e = x /\ ∀ (g h i j k : Nat) (l : Loop), Gives Try.prog x f ((tagL r.kind r.what).getD ([] : List Int)).length (encR r ((tagL r.kind r.what).getD ([] : List Int))) /\ (∀ (m : Nat) (o : Array Value) (p : Mem), encR r ((tagL r.kind r.what).getD ([] : List Int)) m o p -> psOk [.agg [.int .i64, .sl]] o.toList = true) /\ (Rf (Ent.mk (.cells [.v (.int .u8 r.kind), .v (.int .u8 r.what), .v (.string r.name), .v (.int .i64 r.p3), .v (.int .i64 r.p4), .v (.int .i64 r.p5), .v (.int .i64 r.p6), .v (.int .i64 r.p7), .v (.int .i64 r.p8), .v (.int .i64 r.p9), .v (.int .i64 r.val), .v (.slice a1 n1 c1)] 29) (some g)) /\ Rf (Ent.mk (.cells [.v (.bool false)] 4) (some h)) /\ Rf (Ent.mk (.raw (.deferred (some []))) (some j)) /\ Rf (Ent.mk (.raw (.loop ⟨.ready, none, l.fn, l.tmps, l.params, l.assign, l.body, l.defers⟩)) (some k)) /\ Rf (some i) /\ ((g = g /\ h = h /\ i = i /\ j = j /\ k = k /\ True) /\ Rf (Obj.loop ⟨.ready, none, l.fn, l.tmps, l.params, l.assign, l.body, l.defers⟩)) /\ ∃ m y, [Value.int .u8 r.kind, .int .u8 0, .string ⟨#[]⟩, .int .i64 0, .int .i64 0, .int .i64 0, .int .i64 0, .int .i64 0, .int .i64 0, .int .i64 0, .int .i64 0, .slice none 0 0] = [.int .u8 m.kind, .int .u8 m.what, .string m.name, .int .i64 m.p3, .int .i64 m.p4, .int .i64 m.p5, .int .i64 m.p6, .int .i64 m.p7, .int .i64 m.p8, .int .i64 m.p9, .int .i64 m.val, y] /\ okRq m /\ (∃ o p q, y = .slice o p q /\ SlM f o p 1 (List.map (Value.int .u8) m.fed) /\ p <= q /\ q <= 9223372036854775807) /\ runR r ⟨r.kind, 0, ⟨#[]⟩, 0, 0, 0, 0, 0, 0, 0, 0, []⟩ ((tagL r.kind r.what).getD ([] : List Int)) = runR r m (List.drop 0 ((tagL r.kind r.what).getD ([] : List Int)))) /\ (∀ (m : Nat) (o : Mem), Mem -> m < ((tagL r.kind r.what).getD ([] : List Int)).length -> f.le o -> ∀ (p q : Int) (s : ByteArray) (t u w y z n2 n3 n4 : Int) (a2 : Option Addr) (n5 c2 : Nat), (∃ h1 y1, [Value.int .u8 p, .int .u8 q, .string s, .int .i64 t, .int .i64 u, .int .i64 w, .int .i64 y, .int .i64 z, .int .i64 n2, .int .i64 n3, .int .i64 n4, .slice a2 n5 c2] = [.int .u8 h1.kind, .int .u8 h1.what, .string h1.name, .int .i64 h1.p3, .int .i64 h1.p4, .int .i64 h1.p5, .int .i64 h1.p6, .int .i64 h1.p7, .int .i64 h1.p8, .int .i64 h1.p9, .int .i64 h1.val, y1] /\ okRq h1 /\ (∃ b1 m1 c3, y1 = .slice b1 m1 c3 /\ SlM o b1 m1 1 (List.map (Value.int .u8) h1.fed) /\ m1 <= c3 /\ c3 <= 9223372036854775807) /\ runR r ⟨r.kind, 0, ⟨#[]⟩, 0, 0, 0, 0, 0, 0, 0, 0, []⟩ ((tagL r.kind r.what).getD ([] : List Int)) = runR r h1 (List.drop m ((tagL r.kind r.what).getD ([] : List Int)))) -> ∀ (I1 : Mem), o.le I1 -> ∀ (n6 : Int) (a3 : Option Addr) (n7 c3 : Nat), encR r ((tagL r.kind r.what).getD ([] : List Int)) m #[.agg #[.int .i64 n6, .slice a3 n7 c3]] I1 -> Rf (Obj.loop ⟨.ready, none, l.fn, l.tmps, l.params, l.assign, l.body, l.defers⟩) /\ Rf (some k) /\ Br (n6 == 1) (CtS Try.prog (.v (fnv 42)) [.ptr 0 0, .agg [.v (.int .i64 n6), .v (.slice a3 n7 c3)]] [⟨.cells [.v (.int .u8 p), .v (.int .u8 r.what), .v (.string s), .v (.int .i64 t), .v (.int .i64 u), .v (.int .i64 w), .v (.int .i64 y), .v (.int .i64 z), .v (.int .i64 n2), .v (.int .i64 n3), .v (.int .i64 n4), .v (.slice a2 n5 c2)] 29, some i⟩] I1 (fun s1 H I2 => ∃ b1 n8 n9 q1 n10 n11 n12 n13 n14 n15 n16 n17 a4 n18 c4, s1 = .v (.bool b1) /\ H = [⟨.cells [.v (.int .u8 n8), .v (.int .u8 n9), .v (.string q1), .v (.int .i64 n10), .v (.int .i64 n11), .v (.int .i64 n12), .v (.int .i64 n13), .v (.int .i64 n14), .v (.int .i64 n15), .v (.int .i64 n16), .v (.int .i64 n17), .v (.slice a4 n18 c4)] 29, some i⟩] /\ Br (!b1) (Rf (Obj.loop ⟨.busy, none, l.fn, l.tmps, l.params, l.assign, l.body, l.defers⟩) /\ Rf (some k) /\ Rf (Ent.mk (.raw (.deferred (some []))) (some j)) /\ Rf (Ent.mk (.raw (.loop ⟨.done, some .ret, l.fn, l.tmps, l.params, l.assign, l.body, l.defers⟩)) (some k)) /\ Rf (some h) /\ ((h = h /\ j = j /\ k = k /\ True) /\ Rf (Obj.loop ⟨.done, some .ret, l.fn, l.tmps, l.params, l.assign, l.body, l.defers⟩)) /\ Rf [Value.bool false] /\ (runR r ⟨r.kind, 0, ⟨#[]⟩, 0, 0, 0, 0, 0, 0, 0, 0, []⟩ ((tagL r.kind r.what).getD ([] : List Int))).2 = false) (Rf (Obj.loop ⟨.busy, none, l.fn, l.tmps, l.params, l.assign, l.body, l.defers⟩) /\ Rf (some k) /\ Rf (Ent.mk (.cells [.v (.int .u8 r.kind), .v (.int .u8 r.what), .v (.string r.name), .v (.int .i64 r.p3), .v (.int .i64 r.p4), .v (.int .i64 r.p5), .v (.int .i64 r.p6), .v (.int .i64 r.p7), .v (.int .i64 r.p8), .v (.int .i64 r.p9), .v (.int .i64 r.val), .v (.slice a1 n1 c1)] 29) (some g)) /\ Rf (Ent.mk (.cells [.v (.bool false)] 4) (some h)) /\ Rf (Ent.mk (.raw (.deferred (some []))) (some j)) /\ Rf (Ent.mk (.raw (.loop ⟨.ready, none, l.fn, l.tmps, l.params, l.assign, l.body, l.defers⟩)) (some k)) /\ Rf (some i) /\ ((g = g /\ h = h /\ i = i /\ j = j /\ k = k /\ True) /\ Rf (Obj.loop ⟨.ready, none, l.fn, l.tmps, l.params, l.assign, l.body, l.defers⟩)) /\ ∃ h1 y1, [Value.int .u8 n8, .int .u8 n9, .string q1, .int .i64 n10, .int .i64 n11, .int .i64 n12, .int .i64 n13, .int .i64 n14, .int .i64 n15, .int .i64 n16, .int .i64 n17, .slice a4 n18 c4] = [.int .u8 h1.kind, .int .u8 h1.what, .string h1.name, .int .i64 h1.p3, .int .i64 h1.p4, .int .i64 h1.p5, .int .i64 h1.p6, .int .i64 h1.p7, .int .i64 h1.p8, .int .i64 h1.p9, .int .i64 h1.val, y1] /\ okRq h1 /\ (∃ b2 m1 c5, y1 = .slice b2 m1 c5 /\ SlM I2 b2 m1 1 (List.map (Value.int .u8) h1.fed) /\ m1 <= c5 /\ c5 <= 9223372036854775807) /\ runR r ⟨r.kind, 0, ⟨#[]⟩, 0, 0, 0, 0, 0, 0, 0, 0, []⟩ ((tagL r.kind r.what).getD ([] : List Int)) = runR r h1 (List.drop (m + 1) ((tagL r.kind r.what).getD ([] : List Int)))))) (CtS Try.prog (.v (fnv 42)) [.ptr 0 0, .agg [.v (.int .i64 n6), .v (.slice a3 n7 c3)]] [⟨.cells [.v (.int .u8 p), .v (.int .u8 q), .v (.string s), .v (.int .i64 t), .v (.int .i64 u), .v (.int .i64 w), .v (.int .i64 y), .v (.int .i64 z), .v (.int .i64 n2), .v (.int .i64 n3), .v (.int .i64 n4), .v (.slice a2 n5 c2)] 29, some i⟩] I1 (fun s1 H I2 => ∃ b1 n8 n9 q1 n10 n11 n12 n13 n14 n15 n16 n17 a4 n18 c4, s1 = .v (.bool b1) /\ H = [⟨.cells [.v (.int .u8 n8), .v (.int .u8 n9), .v (.string q1), .v (.int .i64 n10), .v (.int .i64 n11), .v (.int .i64 n12), .v (.int .i64 n13), .v (.int .i64 n14), .v (.int .i64 n15), .v (.int .i64 n16), .v (.int .i64 n17), .v (.slice a4 n18 c4)] 29, some i⟩] /\ Br (!b1) (Rf (Obj.loop ⟨.busy, none, l.fn, l.tmps, l.params, l.assign, l.body, l.defers⟩) /\ Rf (some k) /\ Rf (Ent.mk (.raw (.deferred (some []))) (some j)) /\ Rf (Ent.mk (.raw (.loop ⟨.done, some .ret, l.fn, l.tmps, l.params, l.assign, l.body, l.defers⟩)) (some k)) /\ Rf (some h) /\ ((h = h /\ j = j /\ k = k /\ True) /\ Rf (Obj.loop ⟨.done, some .ret, l.fn, l.tmps, l.params, l.assign, l.body, l.defers⟩)) /\ Rf [Value.bool false] /\ (runR r ⟨r.kind, 0, ⟨#[]⟩, 0, 0, 0, 0, 0, 0, 0, 0, []⟩ ((tagL r.kind r.what).getD ([] : List Int))).2 = false) (Rf (Obj.loop ⟨.busy, none, l.fn, l.tmps, l.params, l.assign, l.body, l.defers⟩) /\ Rf (some k) /\ Rf (Ent.mk (.cells [.v (.int .u8 r.kind), .v (.int .u8 r.what), .v (.string r.name), .v (.int .i64 r.p3), .v (.int .i64 r.p4), .v (.int .i64 r.p5), .v (.int .i64 r.p6), .v (.int .i64 r.p7), .v (.int .i64 r.p8), .v (.int .i64 r.p9), .v (.int .i64 r.val), .v (.slice a1 n1 c1)] 29) (some g)) /\ Rf (Ent.mk (.cells [.v (.bool false)] 4) (some h)) /\ Rf (Ent.mk (.raw (.deferred (some []))) (some j)) /\ Rf (Ent.mk (.raw (.loop ⟨.ready, none, l.fn, l.tmps, l.params, l.assign, l.body, l.defers⟩)) (some k)) /\ Rf (some i) /\ ((g = g /\ h = h /\ i = i /\ j = j /\ k = k /\ True) /\ Rf (Obj.loop ⟨.ready, none, l.fn, l.tmps, l.params, l.assign, l.body, l.defers⟩)) /\ ∃ h1 y1, [Value.int .u8 n8, .int .u8 n9, .string q1, .int .i64 n10, .int .i64 n11, .int .i64 n12, .int .i64 n13, .int .i64 n14, .int .i64 n15, .int .i64 n16, .int .i64 n17, .slice a4 n18 c4] = [.int .u8 h1.kind, .int .u8 h1.what, .string h1.name, .int .i64 h1.p3, .int .i64 h1.p4, .int .i64 h1.p5, .int .i64 h1.p6, .int .i64 h1.p7, .int .i64 h1.p8, .int .i64 h1.p9, .int .i64 h1.val, y1] /\ okRq h1 /\ (∃ b2 m1 c5, y1 = .slice b2 m1 c5 /\ SlM I2 b2 m1 1 (List.map (Value.int .u8) h1.fed) /\ m1 <= c5 /\ c5 <= 9223372036854775807) /\ runR r ⟨r.kind, 0, ⟨#[]⟩, 0, 0, 0, 0, 0, 0, 0, 0, []⟩ ((tagL r.kind r.what).getD ([] : List Int)) = runR r h1 (List.drop (m + 1) ((tagL r.kind r.what).getD ([] : List Int))))))) /\ (∀ (m : Mem), Mem -> f.le m -> ∀ (o p : Int) (q : ByteArray) (s t u w y z n2 n3 : Int) (a2 : Option Addr) (n4 c2 : Nat), (∃ h1 y1, [Value.int .u8 o, .int .u8 p, .string q, .int .i64 s, .int .i64 t, .int .i64 u, .int .i64 w, .int .i64 y, .int .i64 z, .int .i64 n2, .int .i64 n3, .slice a2 n4 c2] = [.int .u8 h1.kind, .int .u8 h1.what, .string h1.name, .int .i64 h1.p3, .int .i64 h1.p4, .int .i64 h1.p5, .int .i64 h1.p6, .int .i64 h1.p7, .int .i64 h1.p8, .int .i64 h1.p9, .int .i64 h1.val, y1] /\ okRq h1 /\ (∃ b1 m1 c3, y1 = .slice b1 m1 c3 /\ SlM m b1 m1 1 (List.map (Value.int .u8) h1.fed) /\ m1 <= c3 /\ c3 <= 9223372036854775807) /\ runR r ⟨r.kind, 0, ⟨#[]⟩, 0, 0, 0, 0, 0, 0, 0, 0, []⟩ ((tagL r.kind r.what).getD ([] : List Int)) = runR r h1 (List.drop ((tagL r.kind r.what).getD ([] : List Int)).length ((tagL r.kind r.what).getD ([] : List Int)))) -> ∀ (I1 : Mem), m.le I1 -> Ct Try.prog (fnv 17) #[.agg #[.int .u8 o, .int .u8 p, .string q, .int .i64 s, .int .i64 t, .int .i64 u, .int .i64 w, .int .i64 y, .int .i64 z, .int .i64 n2, .int .i64 n3, .slice a2 n4 c2], .agg #[.int .u8 r.kind, .int .u8 r.what, .string r.name, .int .i64 r.p3, .int .i64 r.p4, .int .i64 r.p5, .int .i64 r.p6, .int .i64 r.p7, .int .i64 r.p8, .int .i64 r.p9, .int .i64 r.val, .slice a1 n1 c1]] I1 fun v1 I2 => ∃ b1, v1 = .bool b1 /\ Value.bool b1 = .bool (rightR r)) /\ ∀ (m : Mem), Mem -> f.le m -> ∀ (o : Bool), [Value.bool o] = [.bool false] /\ (runR r ⟨r.kind, 0, ⟨#[]⟩, 0, 0, 0, 0, 0, 0, 0, 0, []⟩ ((tagL r.kind r.what).getD ([] : List Int))).2 = false -> ∀ (p : Mem), m.le p -> Value.bool o = .bool (rightR r)))))) (by kernel_rfl) ?_
 simp only [eq_self, true_and, and_true]
 have hmx : maxLen = 9223372036854775807 := by decide
 have hy0 : BySl I (.slice a1 n1 c1) r.fed := ⟨a1, n1, c1, rfl, hs1, hc1, hm1⟩;have hnl := hs1.numLen;refine (ct21 r.kind r.what I).mono fun v I1 l1 ⟨a, n, c, hv, hs, hn, hc, _⟩ => ⟨_, _, _, _, hv, Br.mk (fun h => ?_) (fun h => ?_)⟩
 · have h : tagL r.kind r.what = none := by simpa using h
   rw [rightR, h]
 obtain ⟨l, htl⟩ : ∃ l, tagL r.kind r.what = some l := by
  cases hq : tagL r.kind r.what with
  | none => rw [hq] at h; cases h
  | some l => exact ⟨l, rfl⟩
 obtain ⟨hl1, hl2⟩ := tagL_ok htl
 have hright : rightR r = (decide (r.name.size <= 255) && (decide (r.fed.length <= 15000) && ((runR r (had0 r) l).2 && sameR (runR r (had0 r) l).1 r))) := by rw [rightR, htl]
 rw [htl, Option.getD_some] at hs ⊢;refine Br.mk (fun h2 => ?_) (fun h2 => Br.mk (fun h3 => ?_) (fun h3 => ?_))
 · have h2 := of_decide_eq_true h2
   rw [hright, decide_eq_false (by omega)]; rfl
 · have h3 := of_decide_eq_true h3
   rw [hright, decide_eq_false (p := r.fed.length <= 15000) (by omega), Bool.false_and, Bool.and_false]
 have h2 := of_decide_eq_false h2;have h3 := of_decide_eq_false h3;have hnn := hs.numLen
 rw [decide_eq_true (p := r.name.size <= 255) (by omega), decide_eq_true (p := r.fed.length <= 15000) (by omega), Bool.true_and, Bool.true_and] at hright
 refine (ct41 r (.slice a1 n1 c1) a n c I1).mono fun v I2 l2 ⟨k1, k2, k3, hv, g1, g2, g3⟩ => ⟨_, rfl, fun b b1 b2 bd br rc => ⟨?_, ?_, ?_, ?_, ?_, ?_⟩⟩
 · rw [hv]
   exact gives63 r hr hnm _ l hl1 k1 k2 k3 a n c I2 g1 (hs.mono l2) (by omega) g2 (hy0.mono (Mem.le_trans l1 l2)) g3
 · rintro k args I3 ⟨t, b', m, c', _, rfl, _⟩; rfl
 · exact ⟨had0 r, .slice none 0 0, rfl, okRq_had hr, ⟨none, 0, 0, rfl, sl_nil _ _, by omega, by omega⟩, by rw [List.drop_zero]; rfl⟩
 · rintro k I3 G3 hk l3 x0 x1 q x3 x4 x5 x6 x7 x8 x9 x10 ah nh ch ⟨h, yy, heq, hok, hyy, hrun⟩ I4 l4 t b' m' c' ⟨t', bb, mm, cc, ht, hargs, hsl, hmc, hcm⟩
   cases hargs;simp only [List.cons.injEq, Value.int.injEq, Value.string.injEq, true_and, and_true] at heq;obtain ⟨rfl, rfl, rfl, rfl, rfl, rfl, rfl, rfl, rfl, rfl, rfl, rfl⟩ := heq;have htr := hl1 t (List.mem_of_getElem? ht);have hml := hsl.numLen;have hbl := bytesR_len hr hnm hfl t;have hok2 := okRq_pre hr hok t;have hyy : BySl I3 (.slice ah nh ch) h.fed := hyy
   have C := cs42 t htr b2 (preR r h t) hok2 (.slice ah nh ch) (bytesR r t) (bytesR_ok hr t) b' m' c' I4 hsl (by omega)
   rw [drop_cons ht, runR] at hrun
   have hrun : runR r (had0 r) l = if takeB (preR r h t) t (bytesR r t) = true then runR r (takeR (preR r h t) t (bytesR r t)) (List.drop (k + 1) l) else (h, false) := by
    exact hrun
   refine Br.mk (fun e1 => ?_) (fun e1 => ?_)
   · have e1 := eqv e1
     subst e1
     have hp : preR r h 1 = { h with what := r.what } := rfl
     rw [hp] at C hrun hok2;refine (cs_agg C).mono fun sv H' I5 l5 ⟨y', hv, hH, hy', _⟩ => ?_;obtain ⟨b5, m5, c5, rfl, q1, q2, q3⟩ := hy' (hyy.mono (Mem.le_trans l4 l5));refine ⟨_, _, _, _, _, _, _, _, _, _, _, _, _, _, _, hv, hH, Br.mk (fun hb => ?_) (fun hb => ?_)⟩
     · have hb : takeB { h with what := r.what } 1 (bytesR r 1) = false := by simpa using hb
       rw [hb] at hrun;exact congrArg Prod.snd hrun
     · have hb : takeB { h with what := r.what } 1 (bytesR r 1) = true := by simpa using hb
       rw [if_pos hb] at hrun;exact ⟨_, _, rfl, okRq_take hok2 1 (bytesR_ok hr 1), ⟨_, _, _, rfl, q1, q2, q3⟩, hrun⟩
   · have hp : preR r h t = h := if_neg (nev e1)
     rw [hp] at C hrun hok2;refine (cs_agg C).mono fun sv H' I5 l5 ⟨y', hv, hH, hy', _⟩ => ?_;obtain ⟨b5, m5, c5, rfl, q1, q2, q3⟩ := hy' (hyy.mono (Mem.le_trans l4 l5));refine ⟨_, _, _, _, _, _, _, _, _, _, _, _, _, _, _, hv, hH, Br.mk (fun hb => ?_) (fun hb => ?_)⟩
     · have hb : takeB h t (bytesR r t) = false := by simpa using hb
       rw [hb] at hrun;exact congrArg Prod.snd hrun
     · have hb : takeB h t (bytesR r t) = true := by simpa using hb
       rw [if_pos hb] at hrun;exact ⟨_, _, rfl, okRq_take hok2 t (bytesR_ok hr t), ⟨_, _, _, rfl, q1, q2, q3⟩, hrun⟩
 · rintro I3 G3 l3 x0 x1 q x3 x4 x5 x6 x7 x8 x9 x10 ah nh ch ⟨h, yy, heq, hok, hyy, hrun⟩ I4 l4
   simp only [List.cons.injEq, Value.int.injEq, Value.string.injEq, true_and, and_true] at heq;obtain ⟨rfl, rfl, rfl, rfl, rfl, rfl, rfl, rfl, rfl, rfl, rfl, rfl⟩ := heq;have hyy : BySl I3 (.slice ah nh ch) h.fed := hyy;rw [List.drop_length, runR] at hrun;have hrun : runR r (had0 r) l = (h, true) := hrun;refine (ct17 h r hok hr (.slice ah nh ch) (.slice a1 n1 c1) I4 (hyy.mono l4) (hy0.mono (Mem.le_trans l1 (Mem.le_trans l2 (Mem.le_trans l3 l4))))).mono fun v I5 l5 hv => ⟨_, hv, ?_⟩;rw [hright, hrun, Bool.true_and]
 · rintro I3 G3 l3 bb ⟨hb, hr2⟩ I4 l4
   have hr2 : (runR r (had0 r) l).2 = false := hr2;simp only [List.cons.injEq, and_true] at hb;rw [hb, hright, hr2, Bool.false_and]
def tagsR (r : Rq) : List Int := (tagL r.kind r.what).getD []
def writeR (r : Rq) : List Int := 1 :: r.kind :: writeF (fldsR r (tagsR r))
theorem right_tag {r : Rq} (h : rightR r = true) : tagL r.kind r.what = some (tagsR r) /\ r.name.size <= 255 /\ r.fed.length <= 15000 /\ (runR r (had0 r) (tagsR r)).2 = true /\ sameR (runR r (had0 r) (tagsR r)).1 r = true := by
 unfold rightR at h;unfold tagsR
 cases hq : tagL r.kind r.what with
 | none => rw [hq] at h; cases h
 | some l =>
   rw [hq] at h;simp only [Bool.and_eq_true, decide_eq_true_eq] at h;exact ⟨rfl, h.1, h.2.1, h.2.2.1, h.2.2.2⟩
def shapesL : List (List Int) := [[11], [2, 3], [4, 5, 6], [4], [4, 7, 10], [7], [1], [1, 4], [1, 7, 8, 9], [1, 2], [8, 9], []]
theorem tagL_shape {k w : Int} {l : List Int} (h : tagL k w = some l) : l ∈ shapesL := by
 have ha : ∀ {l : List Int}, askL w = some l -> 1 :: l ∈ shapesL := fun {l} h => by
  unfold askL at h
  repeat' split at h
  all_goals first | (cases h; simp [shapesL]; done) | (cases h; done)
 unfold tagL at h
 repeat' split at h
 all_goals first
  | (cases h; simp [shapesL]; done)
  | (cases h; done)
  | (cases hq : askL w with
     | none => rw [hq] at h; cases h
     | some m =>
       rw [hq] at h;cases h;exact ha hq)
theorem right_flds {r : Rq} (hr : okRq r) (h : rightR r = true) : rightF (fldsR r (tagsR r)) = true := by
 obtain ⟨h1, h2, h3, _⟩ := right_tag h;generalize tagsR r = l at h1;have hw := hr.what;have hv := foldZ_range hr.val
 have fl : ∀ {x : Nat}, x < 256 ^ 8 -> (formN x).length <= 255 := fun h => by have := (formN_le _ h).1; omega
 have hb : ∀ t, t ≠ 11 -> ((bytesR r t).length : Int) <= 255 := fun t ht => by
  have hx := w64_range (numR r t);unfold bytesR;split
  · have := fl (x := r.what.toNat) (by omega); omega
  split
  · have : (strL r.name).length = r.name.size := by simp [strL]
    omega
  split
  · have := fl (x := (foldZ r.val).toNat) (by omega); omega
  · skip
    have := fl (x := (IntKind.u64.wrap (numR r t)).toNat) (by omega); omega
 have h11 : ((bytesR r 11).length : Int) <= 15000 := by
  have : bytesR r 11 = r.fed := rfl
  rw [this]; omega
 have b1 := hb 1 (by decide)
 have b2 := hb 2 (by decide)
 have b3 := hb 3 (by decide)
 have b4 := hb 4 (by decide)
 have b5 := hb 5 (by decide)
 have b6 := hb 6 (by decide)
 have b7 := hb 7 (by decide)
 have b8 := hb 8 (by decide)
 have b9 := hb 9 (by decide)
 have b10 := hb 10 (by decide)
 rw [right_split];have hsh := tagL_shape h1;simp only [shapesL, List.mem_cons, List.not_mem_nil, or_false] at hsh
 rcases hsh with rfl | rfl | rfl | rfl | rfl | rfl | rfl | rfl | rfl | rfl | rfl | rfl
 all_goals
  simp only [fldsR, List.map_cons, List.map_nil, List.length_cons, List.length_nil, chainT, sumL]
  simp
  try omega
theorem ct14 (r : Rq) (hr : okRq r) (hnm : r.name.size <= 1000000) (y : Value) (I : Mem) (hy : BySl I y r.fed) (hfl : r.fed.length <= 1000000) :
 Ct Try.prog (fnv 14) #[.agg (rqV r y).toArray] I (fun v I' => ∃ a' n' c', v = .tuple #[.slice a' n' c', .int .i64 (if rightR r then 0 else 340)] /\ SlM I' a' n' 1 (ints .u8 (if rightR r then writeR r else [])) /\ n' <= c' /\ c' <= maxLen) := by
 obtain ⟨a1, n1, c1, rfl, hs1, hc1, hm1⟩ := hy
 refine viaR (ct_via (A := { }) Try.func14 rfl Try.call14 rfl rfl) (Ct Try.prog (fnv 15) #[.agg #[.int .u8 r.kind, .int .u8 r.what, .string r.name, .int .i64 r.p3, .int .i64 r.p4, .int .i64 r.p5, .int .i64 r.p6, .int .i64 r.p7, .int .i64 r.p8, .int .i64 r.p9, .int .i64 r.val, .slice a1 n1 c1]] I fun v a => ∃ b, v = .bool b /\ Br (!b) (∃ c n d, Value.tuple #[.slice none 0 0, .int .i64 340] = .tuple #[.slice c n d, .int .i64 (if rightR r = true then 0 else 340)] /\ SlM a c n 1 (List.map (Value.int .u8) (if rightR r = true then (1 : Int) :: r.kind :: writeF (fldsR r (tagsR r)) else ([] : List Int))) /\ n <= d /\ d <= 9223372036854775807) (Ct Try.prog (fnv 21) #[.int .u8 r.kind, .int .u8 r.what] a (fun c d => ∃ e n f g, c = .tuple #[.slice e n f, .bool g] /\ Ct Try.prog (fnv 41) #[.agg #[.int .u8 r.kind, .int .u8 r.what, .string r.name, .int .i64 r.p3, .int .i64 r.p4, .int .i64 r.p5, .int .i64 r.p6, .int .i64 r.p7, .int .i64 r.p8, .int .i64 r.p9, .int .i64 r.val, .slice a1 n1 c1], .slice e n f] d fun h i => ∃ x, h = x /\ Ct Try.prog (fnv 40) #[x] i fun j k => ∃ l m o, j = .slice l m o /\ Ct Try.prog (fnv 39) #[.slice l m o] k fun p q => ∃ s t u w, p = .tuple #[.slice s t u, .int .i64 w] /\ Br (w != 0) (∃ y z c2, Value.tuple #[.slice none 0 0, .int .i64 340] = .tuple #[.slice y z c2, .int .i64 (if rightR r = true then 0 else 340)] /\ SlM q y z 1 (List.map (Value.int .u8) (if rightR r = true then (1 : Int) :: r.kind :: writeF (fldsR r (tagsR r)) else ([] : List Int))) /\ z <= c2 /\ c2 <= 9223372036854775807) (∃ y, y.length = t * 1 /\ (s = none -> t = 0) /\ (∀ (z : Nat) (v1 : Value), y[z]? = some v1 -> atI q s z = some v1) /\ (∀ (z : Value), Membership.mem y z -> z.oneCell' = true) /\ (2 : Nat) = 2 /\ 2 + t <= 9223372036854775807 /\ (2 + t) * 1 <= 140737488355328 /\ ∀ (z : Option Addr) (c2 : Nat) (I1 : Mem), q.le I1 -> RowM I1 z c2 1 (.int .u8 1 :: .int .u8 r.kind :: y) -> ∃ a2 n2 c3, Value.tuple #[.slice z (2 + t) c2, .int .i64 0] = .tuple #[.slice a2 n2 c3, .int .i64 (if rightR r = true then 0 else 340)] /\ SlM I1 a2 n2 1 (List.map (Value.int .u8) (if rightR r = true then (1 : Int) :: r.kind :: writeF (fldsR r (tagsR r)) else ([] : List Int))) /\ n2 <= c3 /\ c3 <= 9223372036854775807)))) (by kernel_rfl) ?_
 have hy0 : BySl I (.slice a1 n1 c1) r.fed := ⟨a1, n1, c1, rfl, hs1, hc1, hm1⟩;refine (ct15 r hr hnm _ I hy0 hfl).mono fun v I1 l1 hv => ⟨_, hv, Br.mk (fun h => ?_) (fun h => ?_)⟩
 · have h : rightR r = false := by simpa using h
   rw [h]
   exact ⟨none, 0, 0, rfl, sl_nil _ _, by omega, by omega⟩
 have h : rightR r = true := by simpa using h
 obtain ⟨ht, h2, h3, _⟩ := right_tag h;obtain ⟨hl1, hl2⟩ := tagL_ok ht;have hF := right_flds hr h;refine (ct21 r.kind r.what I1).mono fun v I2 l2 ⟨a, n, c, hv, hs, hn, hc, _⟩ => ⟨_, _, _, _, hv, ?_⟩;rw [ht, Option.getD_some] at hs;have hnn := hs.numLen;have hy2 := hy0.mono (Mem.le_trans l1 l2);refine (ct41 r (.slice a1 n1 c1) a n c I2).mono fun v I3 l3 ⟨k1, k2, k3, hv, g1, g2, g3⟩ => ⟨_, rfl, ?_⟩;subst hv
 refine (ct40 r hr (tagsR r) hl1 (by omega) _ I3 (gives63 r hr hnm _ (tagsR r) hl1 k1 k2 k3 a n c I3 g1 (hs.mono l3) (by omega) g2 (hy2.mono l3) g3)).mono fun v I4 l4 ⟨a4, n4, c4, hv, hF4, _, _⟩ => ⟨_, _, _, hv, ?_⟩
 have hl4 := hF4.len
 have hl5 : (fldsR r (tagsR r)).length = (tagsR r).length := by simp [fldsR]
 refine (ct39 _ a4 n4 c4 I4 hF4 (by omega)).mono fun v I5 l5 ⟨a5, n5, c5, hv, hw, hn5, hc5⟩ => ⟨_, _, _, _, hv, ?_⟩
 rw [if_pos hF] at hw;have hl6 := hw.numLen;have hwl := write_len hF;rw [if_pos hF, h]
 refine Br.f rfl ⟨_, hw.len, hw.nil, hw.at_, one_ints, rfl, by omega, by omega, fun a6 cp I6 l6 hrow => ⟨a6, 2 + n5, cp, rfl, ?_⟩⟩
 have hrow : RowM I6 a6 cp 1 (ints .u8 (writeR r)) := hrow
 have hlw : (writeR r).length = 2 + n5 := by rw [writeR, List.length_cons, List.length_cons]; omega
 have h1 := hrow.1;rw [ints_len] at h1
 exact ⟨hrow.sl (by omega) (by rw [ints_len]; omega), by omega, hrow.2.1⟩
def zeroRq : Rq := { kind := 0, what := 0, name := ⟨#[]⟩, p3 := 0, p4 := 0, p5 := 0, p6 := 0, p7 := 0, p8 := 0, p9 := 0, val := 0, fed := [] }
def tryT : Rq -> List Int -> List (Int × List Int) -> Rq × Bool
 | h, t :: ts, f :: fs => if f.1 = t then (if takeB h t f.2 then tryT (takeR h t f.2) ts fs else (h, false)) else (h, false)
 | h, [], [] => (h, true)
 | h, _, _ => (h, false)
def kindB (bs : List Int) : Int := (bs[1]?).getD 0
def flB (bs : List Int) : List (Int × List Int) := (readF (bs.drop 2)).1
def whatL (k : Int) : List (Int × List Int) -> Int
 | [] => 0
 | f :: _ => if k = 7 /\ (lastN f.2).2.2 = 0 /\ (lastN f.2).1 < 256 then (lastN f.2).1 else 0
def whatB (bs : List Int) : Int := whatL (kindB bs) (flB bs)
def startQ (bs : List Int) : Rq := { zeroRq with kind := kindB bs, what := whatB bs }
def tagB (bs : List Int) : Option (List Int) := tagL (kindB bs) (whatB bs)
def runB (bs : List Int) : Rq × Bool := tryT (startQ bs) ((tagB bs).getD []) (flB bs)
def accB (bs : List Int) : Bool := decide (2 <= bs.length) && (decide (bs[0]? = some 1) && (decide ((readF (bs.drop 2)).2.2 = 0) && ((tagB bs).isSome && ((runB bs).2 && rightR (runB bs).1))))
def readR (bs : List Int) : Rq × Int := if accB bs then ((runB bs).1, 0) else (zeroRq, 341)
theorem tryT_len : ∀ (ts : List Int) (fs : List (Int × List Int)) (h : Rq), (tryT h ts fs).2 = true -> ts.length = fs.length
 | [], [], _, _ => rfl
 | [], _ :: _, h, hc => by simp [tryT] at hc
 | _ :: _, [], h, hc => by simp [tryT] at hc
 | t :: ts, f :: fs, h, hc => by
   rw [tryT] at hc
   split at hc
   · split at hc
     · have := tryT_len ts fs _ hc
       simp only [List.length_cons, this]
     · cases hc
   · cases hc
theorem size_take {h : Rq} {t : Int} {bs : List Int} {B : Nat} (h1 : h.name.size <= B) (h2 : h.fed.length <= B) (hb : bs.length <= B) : (takeR h t bs).name.size <= B /\ (takeR h t bs).fed.length <= B := by
 have hs : (strB bs).size = bs.length := by simp [strB, u8s, ByteArray.size]
 unfold takeR
 repeat' split
 all_goals exact ⟨by first | exact h1 | (simp only [hs]; exact hb), by first | exact h2 | exact hb⟩
theorem okRq_start {k w : Int} (hk : 0 <= k /\ k <= 255) (hw : 0 <= w /\ w <= 255) : okRq { zeroRq with kind := k, what := w } := by
 refine ⟨hk, hw, ?_, ?_, ?_, ?_, ?_, ?_, ?_, ?_, fun z hz => by cases hz⟩
 all_goals simp [zeroRq, i64R]
theorem ct16 (bs : List Int) (hbs : byteL bs) (a : Option Addr) (n c : Nat) (I : Mem) (h : SlM I a n 1 (ints .u8 bs)) (hn : n <= 1000000) (hc : n <= c) (hm : c <= maxLen) :
 Ct Try.prog (fnv 16) #[.slice a n c] I (fun v I' => ∃ y, v = .tuple #[.agg (rqV (readR bs).1 y).toArray, .int .i64 (readR bs).2] /\ BySl I' y (readR bs).1.fed /\ NewB I I' y) := by
 refine viaR (ctF_via (A := { calls := [(97, .lend [1] (.sh .bool) [.cells cellsE 29])], cuts := [(11, ⟨[(2, .keep), (4, .keep), (7, .keep)], [(0, .keep), (1, .cells cellsA)], [], fun vals _ _ _ => vals = rqV (startQ bs) (.slice none 0 0), fun _ _ => 0⟩), (13, ⟨[(2, .keep), (4, .keep), (7, .keep), (10, .keep), (11, .sh .bool)], [(0, .keep), (1, .keep)], [], fun vals _ _ _ => vals = [.bool ((tagB bs).isSome && decide (((tagB bs).getD []).length = (flB bs).length))], fun _ _ => 0⟩)], loops := [(14, ⟨[(2, .keep), (7, .keep), (10, .keep), (11, .sh .bool), (78, .keep), (79, .keep), (80, .sh (.int .i64))], [(0, .keep), (1, .cells cellsA)], [], fun vals _ I' _ => match vals with | .bool ok :: .int .i64 j :: cs => 0 <= j /\ j <= (flB bs).length /\ ∃ h y, cs = rqV h y /\ okRq h /\ h.name.size <= 1000000 /\ h.fed.length <= 1000000 /\ BySl I' y h.fed /\ NewB I I' y /\ (ok = true -> (tagB bs).isSome = true /\ ((tagB bs).getD []).length = (flB bs).length /\ runB bs = tryT h (((tagB bs).getD []).drop j.toNat) ((flB bs).drop j.toNat)) /\ (ok = false -> ((tagB bs).isSome && (runB bs).2) = false) | _ => False, fun vals _ => match vals with | .bool ok :: .int .i64 j :: cs => ((flB bs).length - j).toNat | _ => 0⟩)] }) Try.func16 rfl Try.call16 rfl rfl) (let E1 := Ent.mk (.cells [.v (.int .u8 0), .v (.int .u8 0), .v (.string ⟨#[]⟩), .v (.int .i64 0), .v (.int .i64 0), .v (.int .i64 0), .v (.int .i64 0), .v (.int .i64 0), .v (.int .i64 0), .v (.int .i64 0), .v (.int .i64 0), .v (.slice none 0 0)] 29) none
  let E2 := fun (x : ByteArray) (b : Int) (d : Int) (e : Int) (f : Int) (g : Int) (i : Int) (j : Int) (k : Int) (l : Option Addr) (m : Nat) (o : Nat) => [.v (.string x), .v (.int .i64 b), .v (.int .i64 d), .v (.int .i64 e), .v (.int .i64 f), .v (.int .i64 g), .v (.int .i64 i), .v (.int .i64 j), .v (.int .i64 k), .v (.slice l m o)]
  Br (decide ((n : Int) < 2)) (∃ y, Value.tuple #[.agg #[.int .u8 0, .int .u8 0, .string ⟨#[]⟩, .int .i64 0, .int .i64 0, .int .i64 0, .int .i64 0, .int .i64 0, .int .i64 0, .int .i64 0, .int .i64 0, .slice none 0 0], .int .i64 341] = .tuple #[.agg #[.int .u8 (readR bs).1.kind, .int .u8 (readR bs).1.what, .string (readR bs).1.name, .int .i64 (readR bs).1.p3, .int .i64 (readR bs).1.p4, .int .i64 (readR bs).1.p5, .int .i64 (readR bs).1.p6, .int .i64 (readR bs).1.p7, .int .i64 (readR bs).1.p8, .int .i64 (readR bs).1.p9, .int .i64 (readR bs).1.val, y], .int .i64 (readR bs).2] /\ (∃ b m d, y = .slice b m d /\ SlM I b m 1 (List.map (Value.int .u8) (readR bs).1.fed) /\ m <= d /\ d <= 9223372036854775807) /\ NewB I I y) ((0 : Int) <= 0 /\ 0 < (n : Int) /\ a.isSome = true /\ ∃ b, atI I a 0 = some (.int .u8 b) /\ Br (b != 1) (∃ y, Value.tuple #[.agg #[.int .u8 0, .int .u8 0, .string ⟨#[]⟩, .int .i64 0, .int .i64 0, .int .i64 0, .int .i64 0, .int .i64 0, .int .i64 0, .int .i64 0, .int .i64 0, .slice none 0 0], .int .i64 341] = .tuple #[.agg #[.int .u8 (readR bs).1.kind, .int .u8 (readR bs).1.what, .string (readR bs).1.name, .int .i64 (readR bs).1.p3, .int .i64 (readR bs).1.p4, .int .i64 (readR bs).1.p5, .int .i64 (readR bs).1.p6, .int .i64 (readR bs).1.p7, .int .i64 (readR bs).1.p8, .int .i64 (readR bs).1.p9, .int .i64 (readR bs).1.val, y], .int .i64 (readR bs).2] /\ (∃ d m e, y = .slice d m e /\ SlM I d m 1 (List.map (Value.int .u8) (readR bs).1.fed) /\ m <= e /\ e <= 9223372036854775807) /\ NewB I I y) ((0 : Int) <= 2 /\ 2 <= (n : Int) /\ Ct Try.prog (fnv 43) #[.slice (sladdr a c 2 1) (n - 2) (c - 2)] I fun v d => ∃ e f g i j, v = .tuple #[.slice e f g, .int .i64 i, .int .i64 j] /\ Br (j != 0) (∃ y, Value.tuple #[.agg #[.int .u8 0, .int .u8 0, .string ⟨#[]⟩, .int .i64 0, .int .i64 0, .int .i64 0, .int .i64 0, .int .i64 0, .int .i64 0, .int .i64 0, .int .i64 0, .slice none 0 0], .int .i64 341] = .tuple #[.agg #[.int .u8 (readR bs).1.kind, .int .u8 (readR bs).1.what, .string (readR bs).1.name, .int .i64 (readR bs).1.p3, .int .i64 (readR bs).1.p4, .int .i64 (readR bs).1.p5, .int .i64 (readR bs).1.p6, .int .i64 (readR bs).1.p7, .int .i64 (readR bs).1.p8, .int .i64 (readR bs).1.p9, .int .i64 (readR bs).1.val, y], .int .i64 (readR bs).2] /\ (∃ k m l, y = .slice k m l /\ SlM d k m 1 (List.map (Value.int .u8) (readR bs).1.fed) /\ m <= l /\ l <= 9223372036854775807) /\ NewB I d y) ((0 : Int) <= 1 /\ 1 < (n : Int) /\ a.isSome = true /\ ∃ k, atI d a 1 = some (.int .u8 k) /\ Br (decide (0 < (f : Int))) (Br (k == 7) ((0 : Int) <= 0 /\ 0 < (f : Int) /\ e.isSome = true /\ (2 : Nat) = 2 /\ ∃ l, atI d e 0 = some (.int .i64 l) /\ ∃ m o p, atI d e 1 = some (.slice m o p) /\ Ct Try.prog (fnv 44) #[.agg #[.int .i64 l, .slice m o p]] d fun q r => ∃ s t, q = .tuple #[.int .u64 s, .int .i64 t] /\ Br (t == 0) (Br (decide (s < 256)) (Wr .u8 s (fun u => Rf E1 /\ Rf (SV.ptr 0 0) /\ Rf (SV.v (.slice e f g)) /\ Rf (SV.ptr 1 0) /\ Rf (none : Option Nat) /\ [Value.int .u8 k, .int .u8 u, .string ⟨#[]⟩, .int .i64 0, .int .i64 0, .int .i64 0, .int .i64 0, .int .i64 0, .int .i64 0, .int .i64 0, .int .i64 0, .slice none 0 0] = [.int .u8 (kindB bs), .int .u8 (whatB bs), .string ⟨#[]⟩, .int .i64 0, .int .i64 0, .int .i64 0, .int .i64 0, .int .i64 0, .int .i64 0, .int .i64 0, .int .i64 0, .slice none 0 0])) (Rf E1 /\ Rf (SV.ptr 0 0) /\ Rf (SV.v (.slice e f g)) /\ Rf (SV.ptr 1 0) /\ Rf (none : Option Nat) /\ [Value.int .u8 k, .int .u8 0, .string ⟨#[]⟩, .int .i64 0, .int .i64 0, .int .i64 0, .int .i64 0, .int .i64 0, .int .i64 0, .int .i64 0, .int .i64 0, .slice none 0 0] = [.int .u8 (kindB bs), .int .u8 (whatB bs), .string ⟨#[]⟩, .int .i64 0, .int .i64 0, .int .i64 0, .int .i64 0, .int .i64 0, .int .i64 0, .int .i64 0, .int .i64 0, .slice none 0 0])) (Rf E1 /\ Rf (SV.ptr 0 0) /\ Rf (SV.v (.slice e f g)) /\ Rf (SV.ptr 1 0) /\ Rf (none : Option Nat) /\ [Value.int .u8 k, .int .u8 0, .string ⟨#[]⟩, .int .i64 0, .int .i64 0, .int .i64 0, .int .i64 0, .int .i64 0, .int .i64 0, .int .i64 0, .int .i64 0, .slice none 0 0] = [.int .u8 (kindB bs), .int .u8 (whatB bs), .string ⟨#[]⟩, .int .i64 0, .int .i64 0, .int .i64 0, .int .i64 0, .int .i64 0, .int .i64 0, .int .i64 0, .int .i64 0, .slice none 0 0])) (Rf E1 /\ Rf (SV.ptr 0 0) /\ Rf (SV.v (.slice e f g)) /\ Rf (SV.ptr 1 0) /\ Rf (none : Option Nat) /\ [Value.int .u8 k, .int .u8 0, .string ⟨#[]⟩, .int .i64 0, .int .i64 0, .int .i64 0, .int .i64 0, .int .i64 0, .int .i64 0, .int .i64 0, .int .i64 0, .slice none 0 0] = [.int .u8 (kindB bs), .int .u8 (whatB bs), .string ⟨#[]⟩, .int .i64 0, .int .i64 0, .int .i64 0, .int .i64 0, .int .i64 0, .int .i64 0, .int .i64 0, .int .i64 0, .slice none 0 0])) (Rf E1 /\ Rf (SV.ptr 0 0) /\ Rf (SV.v (.slice e f g)) /\ Rf (SV.ptr 1 0) /\ Rf (none : Option Nat) /\ [Value.int .u8 k, .int .u8 0, .string ⟨#[]⟩, .int .i64 0, .int .i64 0, .int .i64 0, .int .i64 0, .int .i64 0, .int .i64 0, .int .i64 0, .int .i64 0, .slice none 0 0] = [.int .u8 (kindB bs), .int .u8 (whatB bs), .string ⟨#[]⟩, .int .i64 0, .int .i64 0, .int .i64 0, .int .i64 0, .int .i64 0, .int .i64 0, .int .i64 0, .int .i64 0, .slice none 0 0]) /\ ∀ (l : Mem), Mem -> d.le l -> ∀ (m o : Int) (q : ByteArray) (p r s t u w x y : Int) (z : Option Addr) (n1 c1 : Nat), [Value.int .u8 m, .int .u8 o, .string q, .int .i64 p, .int .i64 r, .int .i64 s, .int .i64 t, .int .i64 u, .int .i64 w, .int .i64 x, .int .i64 y, .slice z n1 c1] = [.int .u8 (kindB bs), .int .u8 (whatB bs), .string ⟨#[]⟩, .int .i64 0, .int .i64 0, .int .i64 0, .int .i64 0, .int .i64 0, .int .i64 0, .int .i64 0, .int .i64 0, .slice none 0 0] -> Ct Try.prog (fnv 21) #[.int .u8 m, .int .u8 o] l fun v1 I1 => ∃ a1 n2 c2 b1, v1 = .tuple #[.slice a1 n2 c2, .bool b1] /\ Br b1 (Rf E1 /\ Rf (Ent.mk (.cells (.v (.int .u8 m) :: .v (.int .u8 o) :: E2 q p r s t u w x y z n1 c1) 29) none) /\ Rf (SV.ptr 0 0) /\ Rf (SV.v (.slice e f g)) /\ Rf (SV.ptr 1 0) /\ Rf (SV.v (.slice a1 n2 c2)) /\ [Value.bool ((n2 : Int) == (f : Int))] = [.bool ((tagB bs).isSome && decide (((tagB bs).getD ([] : List Int)).length = (flB bs).length))]) (Rf E1 /\ Rf (Ent.mk (.cells (.v (.int .u8 m) :: .v (.int .u8 o) :: E2 q p r s t u w x y z n1 c1) 29) none) /\ Rf (SV.ptr 0 0) /\ Rf (SV.v (.slice e f g)) /\ Rf (SV.ptr 1 0) /\ Rf (SV.v (.slice a1 n2 c2)) /\ [Value.bool false] = [.bool ((tagB bs).isSome && decide (((tagB bs).getD ([] : List Int)).length = (flB bs).length))]) /\ ∀ (I2 : Mem), Mem -> I1.le I2 -> ∀ (b2 : Bool), [Value.bool b2] = [.bool ((tagB bs).isSome && decide (((tagB bs).getD ([] : List Int)).length = (flB bs).length))] -> (Rf E1 /\ Rf (Ent.mk (.cells (.v (.int .u8 m) :: .v (.int .u8 o) :: E2 q p r s t u w x y z n1 c1) 29) none) /\ Rf (SV.ptr 0 0) /\ Rf (SV.v (.slice e f g)) /\ Rf (SV.ptr 1 0) /\ Rf (SV.v (.slice a1 n2 c2)) /\ [Value.bool b2] = [.bool ((tagB bs).isSome && decide (((tagB bs).getD ([] : List Int)).length = (flB bs).length))]) /\ ∀ (I3 : Mem), Mem -> I2.le I3 -> ∀ (b3 : Bool), [Value.bool b3] = [.bool ((tagB bs).isSome && decide (((tagB bs).getD ([] : List Int)).length = (flB bs).length))] -> (Rf E1 /\ Rf (SV.ptr 0 0) /\ Rf (SV.ptr 1 0) /\ Rf (SV.v (.slice a1 n2 c2)) /\ Rf (SV.v (.slice e f g)) /\ Rf (SV.v (.int .i64 (f : Int))) /\ Rf (none : Option Nat) /\ (0 : Int) <= 0 /\ 0 <= ((flB bs).length : Int) /\ ∃ h1 y1, [Value.int .u8 m, .int .u8 o, .string q, .int .i64 p, .int .i64 r, .int .i64 s, .int .i64 t, .int .i64 u, .int .i64 w, .int .i64 x, .int .i64 y, .slice z n1 c1] = [.int .u8 h1.kind, .int .u8 h1.what, .string h1.name, .int .i64 h1.p3, .int .i64 h1.p4, .int .i64 h1.p5, .int .i64 h1.p6, .int .i64 h1.p7, .int .i64 h1.p8, .int .i64 h1.p9, .int .i64 h1.val, y1] /\ okRq h1 /\ h1.name.size <= 1000000 /\ h1.fed.length <= 1000000 /\ (∃ b4 m1 c3, y1 = .slice b4 m1 c3 /\ SlM I3 b4 m1 1 (List.map (Value.int .u8) h1.fed) /\ m1 <= c3 /\ c3 <= 9223372036854775807) /\ NewB I I3 y1 /\ (b3 = true -> (tagB bs).isSome = true /\ ((tagB bs).getD ([] : List Int)).length = (flB bs).length /\ runB bs = tryT h1 (List.drop 0 ((tagB bs).getD ([] : List Int))) (List.drop 0 (flB bs))) /\ (b3 = false -> ((tagB bs).isSome && (runB bs).2) = false)) /\ ∀ (I4 : Mem), Mem -> I3.le I4 -> ∀ (b4 : Bool) (n3 n4 n5 : Int) (q1 : ByteArray) (n6 n7 n8 n9 n10 n11 n12 n13 : Int) (a2 : Option Addr) (n14 c3 : Nat), 0 <= n3 /\ n3 <= ((flB bs).length : Int) /\ (∃ h1 y1, [Value.int .u8 n4, .int .u8 n5, .string q1, .int .i64 n6, .int .i64 n7, .int .i64 n8, .int .i64 n9, .int .i64 n10, .int .i64 n11, .int .i64 n12, .int .i64 n13, .slice a2 n14 c3] = [.int .u8 h1.kind, .int .u8 h1.what, .string h1.name, .int .i64 h1.p3, .int .i64 h1.p4, .int .i64 h1.p5, .int .i64 h1.p6, .int .i64 h1.p7, .int .i64 h1.p8, .int .i64 h1.p9, .int .i64 h1.val, y1] /\ okRq h1 /\ h1.name.size <= 1000000 /\ h1.fed.length <= 1000000 /\ (∃ b5 m1 c4, y1 = .slice b5 m1 c4 /\ SlM I4 b5 m1 1 (List.map (Value.int .u8) h1.fed) /\ m1 <= c4 /\ c4 <= 9223372036854775807) /\ NewB I I4 y1 /\ (b4 = true -> (tagB bs).isSome = true /\ ((tagB bs).getD ([] : List Int)).length = (flB bs).length /\ runB bs = tryT h1 (List.drop n3.toNat ((tagB bs).getD ([] : List Int))) (List.drop n3.toNat (flB bs))) /\ (b4 = false -> ((tagB bs).isSome && (runB bs).2) = false)) -> Br (decide (n3 < (f : Int))) (0 <= n3 /\ n3 < (f : Int) /\ e.isSome = true /\ (2 : Nat) = 2 /\ ∃ n15, atI I4 e (n3.toNat * 2 + 0) = some (.int .i64 n15) /\ ∃ a3 n16 c4, atI I4 e (n3.toNat * 2 + 1) = some (.slice a3 n16 c4) /\ Br b4 (0 <= n3 /\ n3 < (n2 : Int) /\ a1.isSome = true /\ ∃ n17, atI I4 a1 (n3.toNat * 1 + 0) = some (.int .i64 n17) /\ Br (n15 == n17) (∀ (b5 : Nat), CtS Try.prog (.v (fnv 42)) [.ptr 0 0, .agg [.v (.int .i64 n15), .v (.slice a3 n16 c4)]] [⟨.cells (.v (.int .u8 n4) :: .v (.int .u8 n5) :: E2 q1 n6 n7 n8 n9 n10 n11 n12 n13 a2 n14 c3) 29, some b5⟩] I4 fun s1 H I5 => ∃ b6 n18 n19 q2 n20 n21 n22 n23 n24 n25 n26 n27 a4 n28 c5, s1 = .v (.bool b6) /\ H = [⟨.cells (.v (.int .u8 n18) :: .v (.int .u8 n19) :: E2 q2 n20 n21 n22 n23 n24 n25 n26 n27 a4 n28 c5) 29, some b5⟩] /\ Br (!b6) (Br (!b6) (∃ y1, Value.tuple #[.agg #[.int .u8 0, .int .u8 0, .string ⟨#[]⟩, .int .i64 0, .int .i64 0, .int .i64 0, .int .i64 0, .int .i64 0, .int .i64 0, .int .i64 0, .int .i64 0, .slice none 0 0], .int .i64 341] = .tuple #[.agg #[.int .u8 (readR bs).1.kind, .int .u8 (readR bs).1.what, .string (readR bs).1.name, .int .i64 (readR bs).1.p3, .int .i64 (readR bs).1.p4, .int .i64 (readR bs).1.p5, .int .i64 (readR bs).1.p6, .int .i64 (readR bs).1.p7, .int .i64 (readR bs).1.p8, .int .i64 (readR bs).1.p9, .int .i64 (readR bs).1.val, y1], .int .i64 (readR bs).2] /\ (∃ b7 m1 c6, y1 = .slice b7 m1 c6 /\ SlM I5 b7 m1 1 (List.map (Value.int .u8) (readR bs).1.fed) /\ m1 <= c6 /\ c6 <= 9223372036854775807) /\ NewB I I5 y1) (Ct Try.prog (fnv 15) #[.agg #[.int .u8 n18, .int .u8 n19, .string q2, .int .i64 n20, .int .i64 n21, .int .i64 n22, .int .i64 n23, .int .i64 n24, .int .i64 n25, .int .i64 n26, .int .i64 n27, .slice a4 n28 c5]] I5 (fun v2 I6 => ∃ b7, v2 = .bool b7 /\ Br (!b7) (∃ y1, Value.tuple #[.agg #[.int .u8 0, .int .u8 0, .string ⟨#[]⟩, .int .i64 0, .int .i64 0, .int .i64 0, .int .i64 0, .int .i64 0, .int .i64 0, .int .i64 0, .int .i64 0, .slice none 0 0], .int .i64 341] = .tuple #[.agg #[.int .u8 (readR bs).1.kind, .int .u8 (readR bs).1.what, .string (readR bs).1.name, .int .i64 (readR bs).1.p3, .int .i64 (readR bs).1.p4, .int .i64 (readR bs).1.p5, .int .i64 (readR bs).1.p6, .int .i64 (readR bs).1.p7, .int .i64 (readR bs).1.p8, .int .i64 (readR bs).1.p9, .int .i64 (readR bs).1.val, y1], .int .i64 (readR bs).2] /\ (∃ b8 m1 c6, y1 = .slice b8 m1 c6 /\ SlM I6 b8 m1 1 (List.map (Value.int .u8) (readR bs).1.fed) /\ m1 <= c6 /\ c6 <= 9223372036854775807) /\ NewB I I6 y1) (∃ y1, Value.tuple #[.agg #[.int .u8 n18, .int .u8 n19, .string q2, .int .i64 n20, .int .i64 n21, .int .i64 n22, .int .i64 n23, .int .i64 n24, .int .i64 n25, .int .i64 n26, .int .i64 n27, .slice a4 n28 c5], .int .i64 0] = .tuple #[.agg #[.int .u8 (readR bs).1.kind, .int .u8 (readR bs).1.what, .string (readR bs).1.name, .int .i64 (readR bs).1.p3, .int .i64 (readR bs).1.p4, .int .i64 (readR bs).1.p5, .int .i64 (readR bs).1.p6, .int .i64 (readR bs).1.p7, .int .i64 (readR bs).1.p8, .int .i64 (readR bs).1.p9, .int .i64 (readR bs).1.val, y1], .int .i64 (readR bs).2] /\ (∃ b8 m1 c6, y1 = .slice b8 m1 c6 /\ SlM I6 b8 m1 1 (List.map (Value.int .u8) (readR bs).1.fed) /\ m1 <= c6 /\ c6 <= 9223372036854775807) /\ NewB I I6 y1)))) (Wr .i64 (n3 + 1) (fun c6 => Rf E1 /\ Rf (SV.ptr 0 0) /\ Rf (SV.ptr 1 0) /\ Rf (SV.v (.slice a1 n2 c2)) /\ Rf (SV.v (.slice e f g)) /\ Rf (SV.v (.int .i64 (f : Int))) /\ (0 <= c6 /\ c6 <= ((flB bs).length : Int) /\ ∃ h1 y1, [Value.int .u8 n18, .int .u8 n19, .string q2, .int .i64 n20, .int .i64 n21, .int .i64 n22, .int .i64 n23, .int .i64 n24, .int .i64 n25, .int .i64 n26, .int .i64 n27, .slice a4 n28 c5] = [.int .u8 h1.kind, .int .u8 h1.what, .string h1.name, .int .i64 h1.p3, .int .i64 h1.p4, .int .i64 h1.p5, .int .i64 h1.p6, .int .i64 h1.p7, .int .i64 h1.p8, .int .i64 h1.p9, .int .i64 h1.val, y1] /\ okRq h1 /\ h1.name.size <= 1000000 /\ h1.fed.length <= 1000000 /\ (∃ b7 m1 c7, y1 = .slice b7 m1 c7 /\ SlM I5 b7 m1 1 (List.map (Value.int .u8) h1.fed) /\ m1 <= c7 /\ c7 <= 9223372036854775807) /\ NewB I I5 y1 /\ (b6 = true -> (tagB bs).isSome = true /\ ((tagB bs).getD ([] : List Int)).length = (flB bs).length /\ runB bs = tryT h1 (List.drop c6.toNat ((tagB bs).getD ([] : List Int))) (List.drop c6.toNat (flB bs))) /\ (b6 = false -> ((tagB bs).isSome && (runB bs).2) = false)) /\ Int.toNat (((flB bs).length : Int) - c6) < Int.toNat (((flB bs).length : Int) - n3)))) (∃ y1, Value.tuple #[.agg #[.int .u8 0, .int .u8 0, .string ⟨#[]⟩, .int .i64 0, .int .i64 0, .int .i64 0, .int .i64 0, .int .i64 0, .int .i64 0, .int .i64 0, .int .i64 0, .slice none 0 0], .int .i64 341] = .tuple #[.agg #[.int .u8 (readR bs).1.kind, .int .u8 (readR bs).1.what, .string (readR bs).1.name, .int .i64 (readR bs).1.p3, .int .i64 (readR bs).1.p4, .int .i64 (readR bs).1.p5, .int .i64 (readR bs).1.p6, .int .i64 (readR bs).1.p7, .int .i64 (readR bs).1.p8, .int .i64 (readR bs).1.p9, .int .i64 (readR bs).1.val, y1], .int .i64 (readR bs).2] /\ (∃ b5 m1 c5, y1 = .slice b5 m1 c5 /\ SlM I4 b5 m1 1 (List.map (Value.int .u8) (readR bs).1.fed) /\ m1 <= c5 /\ c5 <= 9223372036854775807) /\ NewB I I4 y1)) (∃ y1, Value.tuple #[.agg #[.int .u8 0, .int .u8 0, .string ⟨#[]⟩, .int .i64 0, .int .i64 0, .int .i64 0, .int .i64 0, .int .i64 0, .int .i64 0, .int .i64 0, .int .i64 0, .slice none 0 0], .int .i64 341] = .tuple #[.agg #[.int .u8 (readR bs).1.kind, .int .u8 (readR bs).1.what, .string (readR bs).1.name, .int .i64 (readR bs).1.p3, .int .i64 (readR bs).1.p4, .int .i64 (readR bs).1.p5, .int .i64 (readR bs).1.p6, .int .i64 (readR bs).1.p7, .int .i64 (readR bs).1.p8, .int .i64 (readR bs).1.p9, .int .i64 (readR bs).1.val, y1], .int .i64 (readR bs).2] /\ (∃ b5 m1 c5, y1 = .slice b5 m1 c5 /\ SlM I4 b5 m1 1 (List.map (Value.int .u8) (readR bs).1.fed) /\ m1 <= c5 /\ c5 <= 9223372036854775807) /\ NewB I I4 y1)) (Br (!b4) (∃ y1, Value.tuple #[.agg #[.int .u8 0, .int .u8 0, .string ⟨#[]⟩, .int .i64 0, .int .i64 0, .int .i64 0, .int .i64 0, .int .i64 0, .int .i64 0, .int .i64 0, .int .i64 0, .slice none 0 0], .int .i64 341] = .tuple #[.agg #[.int .u8 (readR bs).1.kind, .int .u8 (readR bs).1.what, .string (readR bs).1.name, .int .i64 (readR bs).1.p3, .int .i64 (readR bs).1.p4, .int .i64 (readR bs).1.p5, .int .i64 (readR bs).1.p6, .int .i64 (readR bs).1.p7, .int .i64 (readR bs).1.p8, .int .i64 (readR bs).1.p9, .int .i64 (readR bs).1.val, y1], .int .i64 (readR bs).2] /\ (∃ b5 m1 c4, y1 = .slice b5 m1 c4 /\ SlM I4 b5 m1 1 (List.map (Value.int .u8) (readR bs).1.fed) /\ m1 <= c4 /\ c4 <= 9223372036854775807) /\ NewB I I4 y1) (Ct Try.prog (fnv 15) #[.agg #[.int .u8 n4, .int .u8 n5, .string q1, .int .i64 n6, .int .i64 n7, .int .i64 n8, .int .i64 n9, .int .i64 n10, .int .i64 n11, .int .i64 n12, .int .i64 n13, .slice a2 n14 c3]] I4 (fun v2 I5 => ∃ b5, v2 = .bool b5 /\ Br (!b5) (∃ y1, Value.tuple #[.agg #[.int .u8 0, .int .u8 0, .string ⟨#[]⟩, .int .i64 0, .int .i64 0, .int .i64 0, .int .i64 0, .int .i64 0, .int .i64 0, .int .i64 0, .int .i64 0, .slice none 0 0], .int .i64 341] = .tuple #[.agg #[.int .u8 (readR bs).1.kind, .int .u8 (readR bs).1.what, .string (readR bs).1.name, .int .i64 (readR bs).1.p3, .int .i64 (readR bs).1.p4, .int .i64 (readR bs).1.p5, .int .i64 (readR bs).1.p6, .int .i64 (readR bs).1.p7, .int .i64 (readR bs).1.p8, .int .i64 (readR bs).1.p9, .int .i64 (readR bs).1.val, y1], .int .i64 (readR bs).2] /\ (∃ b6 m1 c4, y1 = .slice b6 m1 c4 /\ SlM I5 b6 m1 1 (List.map (Value.int .u8) (readR bs).1.fed) /\ m1 <= c4 /\ c4 <= 9223372036854775807) /\ NewB I I5 y1) (∃ y1, Value.tuple #[.agg #[.int .u8 n4, .int .u8 n5, .string q1, .int .i64 n6, .int .i64 n7, .int .i64 n8, .int .i64 n9, .int .i64 n10, .int .i64 n11, .int .i64 n12, .int .i64 n13, .slice a2 n14 c3], .int .i64 0] = .tuple #[.agg #[.int .u8 (readR bs).1.kind, .int .u8 (readR bs).1.what, .string (readR bs).1.name, .int .i64 (readR bs).1.p3, .int .i64 (readR bs).1.p4, .int .i64 (readR bs).1.p5, .int .i64 (readR bs).1.p6, .int .i64 (readR bs).1.p7, .int .i64 (readR bs).1.p8, .int .i64 (readR bs).1.p9, .int .i64 (readR bs).1.val, y1], .int .i64 (readR bs).2] /\ (∃ b6 m1 c4, y1 = .slice b6 m1 c4 /\ SlM I5 b6 m1 1 (List.map (Value.int .u8) (readR bs).1.fed) /\ m1 <= c4 /\ c4 <= 9223372036854775807) /\ NewB I I5 y1)))))))) (by kernel_rfl) ?_
 intro E1 E2;simp only [eq_self, true_and, and_true]
 have hmx : maxLen = 9223372036854775807 := by decide
 have hln := h.numLen
 have Z : ∀ {J : Mem}, accB bs = false -> ∃ y, Value.tuple #[.agg (rqV zeroRq (.slice none 0 0)).toArray, .int .i64 341] = Value.tuple #[.agg (rqV (readR bs).1 y).toArray, .int .i64 (readR bs).2] /\ BySl J y (readR bs).1.fed /\ NewB I J y := fun {J} hz => by
  have : readR bs = (zeroRq, 341) := by rw [readR, hz]; rfl
  rw [this]
  exact ⟨_, rfl, ⟨none, 0, 0, rfl, sl_nil _ _, by omega, by omega⟩, newB_sl (fun hc => absurd hc (by omega)) (by omega)⟩
 refine Br.mk (fun h1 => Z ?_) (fun h1 => ?_)
 · have h1 := of_decide_eq_true h1
   rw [accB, decide_eq_false (by omega)]; rfl
 have h1 := of_decide_eq_false h1
 obtain ⟨x0, hx0, e0⟩ := h.intAt (i := 0) (by omega) (by omega)
 have hx0 : bs[0]? = some x0 := hx0
 refine ⟨by omega, by omega, h.isSome (by omega), x0, e0, Br.mk (fun h2 => Z ?_) (fun h2 => ?_)⟩
 · have h2 : x0 ≠ 1 := by simpa using h2
   rw [accB, hx0, decide_eq_false (p := some x0 = some 1) (fun hc => h2 (Option.some.inj hc)), Bool.false_and, Bool.and_false]
 have h2 : x0 = 1 := by simpa using h2
 have hsub := sl_sub h (f := 2) (t := n) (by omega) (by omega) hc
 rw [List.take_of_length_le (by rw [List.length_drop]; omega)] at hsub
 have hbd : byteL (bs.drop 2) := fun z hz => hbs z (List.mem_of_mem_drop hz)
 refine ⟨by omega, by omega, (ct43 (bs.drop 2) hbd _ (n - 2) (c - 2) I hsub (by omega) (by omega) (by omega)).mono fun v I1 l1 ⟨a1, n1, c1, hv, hF, hn1, hc1⟩ => ⟨_, _, _, _, _, hv, Br.mk (fun h3 => Z ?_) (fun h3 => ?_)⟩⟩
 · have h3 : (readF (bs.drop 2)).2.2 ≠ 0 := by simpa using h3
   rw [accB, decide_eq_false (p := (readF (bs.drop 2)).2.2 = 0) h3]
   simp
 have h3 : (readF (bs.drop 2)).2.2 = 0 := by simpa using h3
 have hacc : accB bs = ((tagB bs).isSome && ((runB bs).2 && rightR (runB bs).1)) := by
  rw [accB, hx0, h2, decide_eq_true (p := 2 <= bs.length) (by omega), h3]; simp
 have hF : FldM I1 a1 n1 (flB bs) := hF;have hlen := hF.len
 have hle : ∀ f ∈ flB bs, f.2.length <= 16384 := by
  rcases read_cases (bs.drop 2) hbd with ⟨_, _, hr, _⟩ | ⟨hr, _⟩
  · intro f hf
    have := right_at (rightF_iff.1 hr).1 f hf;omega
  · intro f hf
    have : flB bs = [] := hr
    rw [this] at hf; cases hf
 obtain ⟨x1, hx1, e1⟩ := (h.mono l1).intAt (i := 1) (by omega) (by omega)
 have hx1 : bs[1]? = some x1 := hx1
 have hk : kindB bs = x1 := by rw [kindB, hx1]; rfl
 have hkr : 0 <= kindB bs /\ kindB bs <= 255 := by rw [hk]; exact hbs x1 (List.mem_of_getElem? hx1)
 refine ⟨by omega, by omega, h.isSome (by omega), x1, e1, ?_, ?_⟩
 · have kE : ∀ {w : Int}, whatB bs = w -> [Value.int .u8 x1, Value.int .u8 w, Value.string ⟨#[]⟩, Value.int .i64 0, Value.int .i64 0, Value.int .i64 0, Value.int .i64 0, Value.int .i64 0, Value.int .i64 0, Value.int .i64 0, Value.int .i64 0, Value.slice none 0 0] = rqV (startQ bs) (.slice none 0 0) := fun hw => by
    rw [startQ, hk, hw]; rfl
   refine Br.mk (fun g1 => ?_) (fun g1 => kE ?_)
   rotate_left
   · have g1 := of_decide_eq_false g1
     have : flB bs = [] := List.eq_nil_of_length_eq_zero (by omega)
     rw [whatB, this]; rfl
   have g1 := of_decide_eq_true g1
   obtain ⟨f, b, m, c', hf, hok, e2, e3, hfs, _, _⟩ := hF.at_ (i := 0) (by omega) g1
   obtain ⟨r0, hr0⟩ : ∃ r0, flB bs = f :: r0 := by
    cases hq : flB bs with
    | nil => rw [hq] at hf; cases hf
    | cons g r0 =>
      rw [hq] at hf
      cases hf; exact ⟨r0, rfl⟩
   have hml := hfs.numLen
   have hfl := hle f (by rw [hr0]; simp)
   have hw : whatB bs = if x1 = 7 /\ (lastN f.2).2.2 = 0 /\ (lastN f.2).1 < 256 then (lastN f.2).1 else 0 := by rw [whatB, hr0, hk]; rfl
   refine Br.mk (fun g2 => ?_) (fun g2 => kE ?_)
   rotate_left
   · rw [hw, if_neg (fun hc => nev g2 hc.1)]
   have g2 := eqv g2
   refine ⟨by omega, by omega, hF.isSome (by omega), _, e2, _, _, _, e3, (ct44 f hok b m c' I1 hfs (by omega)).mono fun v I2 l2 hv => ⟨_, _, hv, Br.mk (fun g3 => Br.mk (fun g4 => ?_) (fun g4 => kE ?_)) (fun g3 => kE ?_)⟩⟩
   · have g3 : (lastN f.2).2.2 = 0 := by simpa using g3
     have g4 := of_decide_eq_true g4;have hr := last_range hok.2
     exact ⟨_, IntWalk.u8_in _ ⟨hr.1, by omega⟩, kE (by rw [hw, if_pos ⟨g2, g3, g4⟩])⟩
   · have g4 := of_decide_eq_false g4
     rw [hw, if_neg (fun hc => g4 hc.2.2)]
   · have g3 : ¬ (lastN f.2).2.2 = 0 := by simpa using g3
     rw [hw, if_neg (fun hc => g3 hc.2.1)]
 have hwr : 0 <= whatB bs /\ whatB bs <= 255 := by
  rw [whatB]
  cases hq : flB bs with
  | nil =>
    show (0 : Int) <= 0 /\ (0 : Int) <= 255
    omega
  | cons f r0 =>
    have hok := hF.ok f (by rw [hq]; simp)
    have hr := last_range hok.2;rw [whatL]
    split <;> omega
 intro I2 _ l2 y0 y1 yq y3 y4 y5 y6 y7 y8 y9 y10 ah nh ch heq;simp only [List.cons.injEq, Value.int.injEq, Value.string.injEq, Value.slice.injEq, true_and, and_true] at heq;obtain ⟨rfl, rfl, rfl, rfl, rfl, rfl, rfl, rfl, rfl, rfl, rfl, rfl, rfl, rfl⟩ := heq;refine (ct21 (kindB bs) (whatB bs) I2).mono fun v I3 l3 ⟨a3, n3, c3, hv, hs3, hn3, hc3, _⟩ => ⟨_, _, _, _, hv, ?_, ?_⟩
 · have hl3 := hs3.numLen
   have hl3 : n3 = ((tagB bs).getD []).length := hl3;refine Br.mk (fun hb => ?_) (fun hb => ?_)
   · have hb : (tagB bs).isSome = true := hb
     rw [hb, Bool.true_and, <- hl3, hlen]
     congr 2
     by_cases hq : n3 = n1
     · simp [hq]
     · have : (n3 : Int) ≠ n1 := by omega
       simp [hq, this]
   · have hb : (tagB bs).isSome = false := hb
     rw [hb, Bool.false_and]
 intro I4 _ l4 ok hok;refine ⟨hok, fun I5 _ l5 ok hok => ?_⟩;simp only [List.cons.injEq, Value.bool.injEq, and_true] at hok;have hs3' : SlM I3 a3 n3 1 (ints .i64 ((tagB bs).getD [])) := hs3;have hl3 := hs3'.numLen
 have lI3 : I.le I3 := Mem.le_trans l1 (Mem.le_trans (by assumption) (by assumption))
 refine ⟨⟨by omega, by omega, startQ bs, .slice none 0 0, rfl, okRq_start hkr hwr, by simp [startQ, zeroRq, ByteArray.size], by simp [startQ, zeroRq], ⟨none, 0, 0, rfl, sl_nil _ _, by omega, by omega⟩, newB_sl (fun hc => absurd hc (by omega)) (by omega), fun ht => ?_, fun hf => ?_⟩, fun I6 _ l6 ok j y0 y1 yq y3 y4 y5 y6 y7 y8 y9 y10 ah nh ch ⟨j0, j1, h', yy, heq, okh, hsz, hfl, hyy, hnb, hT, hFf⟩ => ?_⟩
 · rw [hok, Bool.and_eq_true, decide_eq_true_eq] at ht
   exact ⟨ht.1, ht.2, rfl⟩
 · rw [hok] at hf
   cases hs : (tagB bs).isSome with
   | false => rfl
   | true =>
     rw [hs, Bool.true_and] at hf;have hf := of_decide_eq_false hf
     cases hr : (runB bs).2 with
     | false => rfl
     | true => exact absurd (tryT_len _ _ _ hr) hf
 simp only [List.cons.injEq, Value.int.injEq, Value.string.injEq, true_and, and_true] at heq;obtain ⟨rfl, rfl, rfl, rfl, rfl, rfl, rfl, rfl, rfl, rfl, rfl, rfl⟩ := heq;have hyy : BySl I6 (.slice ah nh ch) h'.fed := hyy
 have no1 : ((tagB bs).isSome && (runB bs).2) = false -> accB bs = false := fun hq => by rw [hacc, <- Bool.and_assoc, hq, Bool.false_and]
 have l16 : I1.le I6 := Mem.le_trans (by assumption) (Mem.le_trans (by assumption) (Mem.le_trans l4 (Mem.le_trans l5 l6)))
 have l36 : I3.le I6 := Mem.le_trans l4 (Mem.le_trans l5 l6);refine Br.mk (fun hlt => ?_) (fun hge => ?_)
 · have hlt := of_decide_eq_true hlt
   obtain ⟨f, b, m, c', hf, hokf, e2, e3, hfs, hm1, hm2⟩ := (hF.mono l16).at_ j0 hlt;have hfm := List.mem_of_getElem? hf;have hml := hfs.numLen;have hf16 := hle f hfm
   refine ⟨j0, hlt, hF.isSome (by omega), _, e2, _, _, _, e3, Br.mk (fun ho => ?_) (fun ho => Z (no1 (hFf ho)))⟩
   obtain ⟨s1, s2, s3⟩ := hT ho
   obtain ⟨t, ht, e4⟩ := (hs3'.mono l36).intAt j0 (by omega)
   obtain ⟨tl, htl⟩ := Option.isSome_iff_exists.1 s1;have htr := (tagL_ok htl).1
   have htr : 1 <= t /\ t <= 11 := htr t (by rw [htl] at ht; exact List.mem_of_getElem? ht)
   rw [drop_cons ht, drop_cons hf, tryT] at s3
   refine ⟨j0, by omega, hs3'.isSome (by omega), t, e4, Br.mk (fun hq => ?_) (fun hq => Z ?_)⟩
   rotate_left
   · rw [if_neg (nev hq)] at s3
     exact no1 (by rw [s3, Bool.and_false])
   have hq := eqv hq;rw [if_pos hq] at s3;subst hq;intro kb
   refine (cs_agg (cs42 f.1 htr kb h' okh (.slice ah nh ch) f.2 hokf.2 b m c' I6 hfs (by omega))).mono fun sv H' I7 l7 ⟨y', hv, hH, hy', hnb'⟩ => ?_
   have hb7 := hy' (hyy.mono l7);have hn7 := hnb' I (Mem.le_trans l1 l16) (hnb.mono l7);obtain ⟨b5, m5, c5, rfl, q1, q2, q3⟩ := hb7;refine ⟨_, _, _, _, _, _, _, _, _, _, _, _, _, _, _, hv, hH, Br.mk (fun hb => Br.t hb (Z ?_)) (fun hb => ?_)⟩
   · have hb : takeB h' f.1 f.2 = false := by simpa using hb
     rw [hb] at s3
     exact no1 (by rw [s3]; simp)
   · have hb : takeB h' f.1 f.2 = true := by simpa using hb
     rw [if_pos hb] at s3
     have hst := size_take (t := f.1) (bs := f.2) hsz hfl (by omega)
     refine wr_i64 (by omega) (by omega) ⟨⟨by omega, by omega, _, _, rfl, okRq_take okh f.1 hokf.2, hst.1, hst.2, ⟨_, _, _, rfl, q1, q2, q3⟩, hn7, fun _ => ⟨s1, s2, ?_⟩, fun hc => ?_⟩, by omega⟩
     · rw [show (j + 1).toNat = j.toNat + 1 by omega]; exact s3
     · rw [hb] at hc; cases hc
 · have hge := of_decide_eq_false hge
   refine Br.mk (fun ho => Z (no1 (hFf (by simpa using ho)))) (fun ho => ?_)
   have ho : ok = true := by simpa using ho
   obtain ⟨s1, s2, s3⟩ := hT ho
   rw [List.drop_eq_nil_of_le (by omega), List.drop_eq_nil_of_le (by omega), tryT] at s3
   rw [s3, s1, Bool.true_and, Bool.true_and] at hacc;refine (ct15 h' okh hsz (.slice ah nh ch) I6 hyy hfl).mono fun v I7 l7 hv => ⟨_, hv, Br.mk (fun hb => Z ?_) (fun hb => ?_)⟩
   · have hb : rightR h' = false := by simpa using hb
     rw [hacc, hb]
   · have hb : rightR h' = true := by simpa using hb
     have hr : readR bs = (h', 0) := by rw [readR, hacc, hb, if_pos rfl, s3]
     rw [hr];exact ⟨_, rfl, hyy.mono l7, hnb.mono l7⟩
theorem lastN_f2 {x : Nat} (h : x < 256 ^ 8) : (lastN (formN x)).1 = (x : Int) /\ (lastN (formN x)).2.2 = 0 := by
 rw [lastN_form x h]; exact ⟨rfl, rfl⟩
theorem strB_strL (s : ByteArray) : strB (strL s) = s := by
 have : u8s (strL s) = s.data.toList := by
  simp only [u8s, strL, List.map_map]
  conv => rhs; rw [<- List.map_id s.data.toList]
  apply List.map_congr_left;intro b _
  simp
 rw [strB, this]
theorem unfold_fold {x : Int} (h : i64R x) : unfoldZ (foldZ x) = x := by
 unfold foldZ unfoldZ;split
 · rw [if_pos (by omega)]; omega
 · rw [if_neg (by omega)]; omega
theorem wrap_wrap {x : Int} (h : i64R x) : IntKind.i64.wrap (IntKind.u64.wrap x) = x := by
 obtain ⟨h1, h2⟩ := h;rw [w64, IntKind.wrap_i64];omega
def copyT (r h : Rq) (t : Int) : Rq :=
 if t = 1 then { h with what := r.what } else if t = 2 then { h with name := r.name } else if t = 3 then { h with p3 := r.p3 } else if t = 4 then { h with p4 := r.p4 } else if t = 5 then { h with p5 := r.p5 } else if t = 6 then { h with p6 := r.p6 }
 else if t = 7 then { h with p7 := r.p7 } else if t = 8 then { h with p8 := r.p8 } else if t = 9 then { h with p9 := r.p9 } else if t = 10 then { h with val := r.val } else { h with fed := r.fed }
def okT (r : Rq) (t : Int) : Bool := decide (3 <= t -> t <= 9 -> 0 <= numR r t)
theorem step_num {r h : Rq} {t p : Int} (hr : i64R p) (ht : 3 <= t /\ t <= 9) (hn : numR r t = p) : preR r h t = h /\ takeB h t (bytesR r t) = decide (0 <= p) /\ IntKind.i64.wrap (lastN (bytesR r t)).1 = p := by
 have hb : bytesR r t = formN (IntKind.u64.wrap p).toNat := by
  rw [bytesR, if_neg (by omega), if_neg (by omega), if_neg (by omega), if_neg (by omega), hn]
 have hw := w64_range p
 obtain ⟨g1, g2⟩ := lastN_f2 (x := (IntKind.u64.wrap p).toNat) (by omega)
 rw [Int.toNat_of_nonneg hw.1] at g1
 refine ⟨if_neg (by omega), ?_, by rw [hb, g1, wrap_wrap hr]⟩
 rw [takeB, if_neg (by omega), if_neg (by omega), if_neg (by omega), hb, g1, g2, decide_eq_true rfl, Bool.true_and]
 obtain ⟨h1, h2⟩ := hr;apply decide_eq_decide.2;rw [w64];omega
theorem step_copy {r h : Rq} (hr : okRq r) {t : Int} (ht : 1 <= t /\ t <= 11) : takeB (preR r h t) t (bytesR r t) = okT r t /\ (okT r t = true -> takeR (preR r h t) t (bytesR r t) = copyT r h t) := by
 rcases (by omega : t = 1 \/ t = 2 \/ t = 3 \/ t = 4 \/ t = 5 \/ t = 6 \/ t = 7 \/ t = 8 \/ t = 9 \/ t = 10 \/ t = 11) with rfl | rfl | rfl | rfl | rfl | rfl | rfl | rfl | rfl | rfl | rfl
 · have hw := hr.what
   obtain ⟨g1, g2⟩ := lastN_f2 (x := r.what.toNat) (by omega)
   rw [Int.toNat_of_nonneg hw.1] at g1;have hb : bytesR r 1 = formN r.what.toNat := rfl;refine ⟨?_, fun _ => rfl⟩
   have hp : preR r h 1 = { h with what := r.what } := rfl
   rw [hp, hb, takeB, if_neg (by decide), if_pos rfl, g1, g2]
   simp [okT]
 · refine ⟨rfl, fun _ => ?_⟩
   show { h with name := strB (strL r.name) } = { h with name := r.name }
   rw [strB_strL]
 · obtain ⟨g1, g2, g3⟩ := step_num (h := h) hr.p3 (t := 3) (by omega) rfl
   exact ⟨by rw [g1, g2]; simp [okT]; rfl, fun _ => by rw [g1]; show { h with p3 := _ } = { h with p3 := _ }; rw [g3]⟩
 · obtain ⟨g1, g2, g3⟩ := step_num (h := h) hr.p4 (t := 4) (by omega) rfl
   exact ⟨by rw [g1, g2]; simp [okT]; rfl, fun _ => by rw [g1]; show { h with p4 := _ } = { h with p4 := _ }; rw [g3]⟩
 · obtain ⟨g1, g2, g3⟩ := step_num (h := h) hr.p5 (t := 5) (by omega) rfl
   exact ⟨by rw [g1, g2]; simp [okT]; rfl, fun _ => by rw [g1]; show { h with p5 := _ } = { h with p5 := _ }; rw [g3]⟩
 · obtain ⟨g1, g2, g3⟩ := step_num (h := h) hr.p6 (t := 6) (by omega) rfl
   exact ⟨by rw [g1, g2]; simp [okT]; rfl, fun _ => by rw [g1]; show { h with p6 := _ } = { h with p6 := _ }; rw [g3]⟩
 · obtain ⟨g1, g2, g3⟩ := step_num (h := h) hr.p7 (t := 7) (by omega) rfl
   exact ⟨by rw [g1, g2]; simp [okT]; rfl, fun _ => by rw [g1]; show { h with p7 := _ } = { h with p7 := _ }; rw [g3]⟩
 · obtain ⟨g1, g2, g3⟩ := step_num (h := h) hr.p8 (t := 8) (by omega) rfl
   exact ⟨by rw [g1, g2]; simp [okT]; rfl, fun _ => by rw [g1]; show { h with p8 := _ } = { h with p8 := _ }; rw [g3]⟩
 · obtain ⟨g1, g2, g3⟩ := step_num (h := h) hr.p9 (t := 9) (by omega) rfl
   exact ⟨by rw [g1, g2]; simp [okT]; rfl, fun _ => by rw [g1]; show { h with p9 := _ } = { h with p9 := _ }; rw [g3]⟩
 · have hv := foldZ_range hr.val
   obtain ⟨g1, g2⟩ := lastN_f2 (x := (foldZ r.val).toNat) (by omega)
   rw [Int.toNat_of_nonneg hv.1] at g1;have hb : bytesR r 10 = formN (foldZ r.val).toNat := rfl;have hp : preR r h 10 = h := rfl;refine ⟨?_, fun _ => ?_⟩
   · rw [hp, hb, takeB, if_neg (by decide), if_neg (by decide), if_pos rfl, g2]
     simp [okT]
   · rw [hp, hb]
     show { h with val := unfoldZ (lastN (formN (foldZ r.val).toNat)).1 } = { h with val := r.val }
     rw [g1, unfold_fold hr.val]
 · exact ⟨rfl, fun _ => rfl⟩
theorem runR_copy {r : Rq} (hr : okRq r) : ∀ (l : List Int) (h : Rq), (∀ t ∈ l, 1 <= t /\ t <= 11) -> (runR r h l).2 = l.all (okT r) /\ (l.all (okT r) = true -> (runR r h l).1 = l.foldl (copyT r) h)
 | [], h, _ => ⟨rfl, fun _ => rfl⟩
 | t :: l, h, ht => by
   obtain ⟨g1, g2⟩ := step_copy (h := h) hr (ht t (by simp))
   rw [runR, g1]
   cases ho : okT r t with
   | false => simp [ho]
   | true =>
     obtain ⟨q1, q2⟩ := runR_copy hr l (copyT r h t) fun s hs => ht s (by simp [hs])
     rw [if_pos rfl, g2 ho];simp only [List.all_cons, ho, Bool.true_and, List.foldl_cons];exact ⟨q1, q2⟩
def rightS (r : Rq) : Bool := match tagL r.kind r.what with
 | none => false
 | some l => decide (r.name.size <= 255) && (decide (r.fed.length <= 15000) && (l.all (okT r) && sameR (l.foldl (copyT r) (had0 r)) r))
theorem right_eq {r : Rq} (hr : okRq r) : rightR r = rightS r := by
 unfold rightR rightS
 cases hq : tagL r.kind r.what with
 | none => rfl
 | some l =>
   obtain ⟨q1, q2⟩ := runR_copy hr l (had0 r) (tagL_ok hq).1
   simp only
   rw [q1]
   cases ha : l.all (okT r) with
   | false => rfl
   | true => rw [q2 ha]
def e1 : Rq := { zeroRq with kind := 9 }
def e2 : Rq := { zeroRq with kind := 6, p7 := 5 }
def e3 : Rq := { zeroRq with kind := 2, name := ⟨#[97]⟩, p3 := 2 }
def e4 : Rq := { zeroRq with kind := 5, p4 := 300, p7 := 7, val := -1 }
def e5 : Rq := { zeroRq with kind := 7, what := 2, p4 := 3 }
theorem ok_e : okRq e1 /\ okRq e2 /\ okRq e3 /\ okRq e4 /\ okRq e5 := by
 refine ⟨?_, ?_, ?_, ?_, ?_⟩
 all_goals constructor
 all_goals first
  | (intro z hz; cases hz)
  | (simp [e1, e2, e3, e4, e5, zeroRq, i64R])
theorem right_e : rightR e1 = true /\ rightR e2 = true /\ rightR e3 = true /\ rightR e4 = true /\ rightR e5 = true := by
 obtain ⟨h1, h2, h3, h4, h5⟩ := ok_e;rw [right_eq h1, right_eq h2, right_eq h3, right_eq h4, right_eq h5]
 decide +kernel
theorem f300 : formN 300 = [248, 1, 44] := by simp [formN, digN, be]
theorem write_e : writeR e1 = [1, 9] /\ writeR e2 = [1, 6, 7, 1, 5] /\ writeR e3 = [1, 2, 2, 1, 97, 3, 1, 2] /\ writeR e5 = [1, 7, 1, 1, 2, 4, 1, 3] := by
 decide +kernel
theorem write_e4 : writeR e4 = [1, 5, 4, 3, 248, 1, 44, 7, 1, 7, 10, 1, 1] := by
 have h4 : bytesR e4 4 = [248, 1, 44] := by
  show formN (IntKind.u64.wrap 300).toNat = _
  rw [show (IntKind.u64.wrap 300).toNat = 300 by decide, f300]
 have ht : tagsR e4 = [4, 7, 10] := rfl;rw [writeR, ht, fldsR];simp only [List.map_cons, h4]
 decide +kernel
theorem acc_no {bs : List Int} (h : (readF (bs.drop 2)).2.2 ≠ 0) : accB bs = false := by
 rw [accB, decide_eq_false h]; simp
theorem acc_tag {bs : List Int} (h : (tagB bs).isSome = false \/ (runB bs).2 = false) : accB bs = false := by
 rw [accB]
 rcases h with h | h <;> rw [h] <;> simp
theorem q1 : accB [1, 6] = false := by
 have h : readF [] = ([], 0, 0) := by simp [readF, yields, goF]
 have hf : flB [1, 6] = [] := by show (readF []).1 = []; rw [h]
 refine acc_tag (.inr ?_)
 rw [runB, tagB, whatB, hf]; rfl
theorem q2 : accB [1, 6, 7, 1, 5, 7, 1, 5] = false := acc_no (by
 show (readF [7, 1, 5, 7, 1, 5]).2.2 ≠ 0
 simp [readF, yields, fstep, intN, readN, goF])
theorem q3 : accB [2, 9] = false := by
 rw [accB]; simp
theorem q4 : accB [1, 0] = false := by
 have h : readF [] = ([], 0, 0) := by simp [readF, yields, goF]
 have hf : flB [1, 0] = [] := by show (readF []).1 = []; rw [h]
 refine acc_tag (.inl ?_)
 rw [tagB, whatB, hf]; rfl
theorem q5 : accB [1, 10] = false := by
 have h : readF [] = ([], 0, 0) := by simp [readF, yields, goF]
 have hf : flB [1, 10] = [] := by show (readF []).1 = []; rw [h]
 refine acc_tag (.inl ?_)
 rw [tagB, whatB, hf]; rfl
theorem q6 : accB [1, 9, 0] = false := acc_no (by
 show (readF [0]).2.2 ≠ 0
 have hf : fstep [0] 0 = none := by decide
 simp [readF, yields, hf, goF])
theorem q7 : accB [1, 7, 1, 1, 6] = false := by
 have h : (readF [1, 1, 6]).1 = [(1, [6])] := by simp [readF, yields, fstep, intN, readN, goF]
 have hf : flB [1, 7, 1, 1, 6] = [(1, [6])] := h;refine acc_tag (.inl ?_);rw [tagB, whatB, hf]
 have hl : lastN [6] = (6, 1, 0) := by decide
 rw [whatL, hl]; rfl
def namesL : List ByteArray := [⟨#[]⟩, ⟨#[99, 114, 101, 97, 116, 101]⟩, ⟨#[111, 112, 101, 110]⟩, ⟨#[103, 114, 97, 110, 116]⟩, ⟨#[114, 101, 118, 111, 107, 101]⟩, ⟨#[115, 117, 98, 109, 105, 116]⟩, ⟨#[115, 116, 101, 112]⟩, ⟨#[113, 117, 101, 114, 121]⟩, ⟨#[99, 97, 110, 99, 101, 108]⟩, ⟨#[100, 101, 115, 116, 114, 111, 121]⟩]
def asksL : List ByteArray := [⟨#[]⟩, ⟨#[115, 116, 97, 116, 117, 115]⟩, ⟨#[99, 101, 108, 108, 115]⟩, ⟨#[101, 118, 101, 110, 116, 115]⟩, ⟨#[112, 111, 114, 116, 115]⟩, ⟨#[104, 97, 110, 100, 108, 101, 115]⟩]
def nameS (k : Int) : ByteArray := (namesL[k.toNat]?).getD ⟨#[]⟩
def askS (k : Int) : ByteArray := (asksL[k.toNat]?).getD ⟨#[]⟩
theorem ct24 (k : Int) (hk : 0 <= k /\ k <= 255) (I : Mem) : Ct Try.prog (fnv 24) #[.int .u8 k] I (fun v I' => v = .string (nameS k)) := by
 refine viaR (ct_via (A := { calls := [(10, .sym)] }) Try.func24 rfl Try.call24 rfl rfl) (Wr .i64 k fun c => Br (decide (10 <= c)) (Value.string ⟨#[]⟩ = .string (nameS k)) (0 <= k /\ k < 10 /\ ∃ q, [Value.string ⟨#[]⟩, .string ⟨#[99, 114, 101, 97, 116, 101]⟩, .string ⟨#[111, 112, 101, 110]⟩, .string ⟨#[103, 114, 97, 110, 116]⟩, .string ⟨#[114, 101, 118, 111, 107, 101]⟩, .string ⟨#[115, 117, 98, 109, 105, 116]⟩, .string ⟨#[115, 116, 101, 112]⟩, .string ⟨#[113, 117, 101, 114, 121]⟩, .string ⟨#[99, 97, 110, 99, 101, 108]⟩, .string ⟨#[100, 101, 115, 116, 114, 111, 121]⟩][0 + k.toNat * 1 + 0]? = some (.string q) /\ Value.string q = .string (nameS k))) (by kernel_rfl) ?_
 refine wr_i64 (by omega) (by omega) (Br.mk (fun h => ?_) (fun h => ?_))
 · have h := of_decide_eq_true h
   have : nameS k = ⟨#[]⟩ := by rw [nameS, List.getElem?_eq_none (by simp [namesL]; omega)]; rfl
   rw [this]
 · have h := of_decide_eq_false h
   rcases (by omega : k = 0 \/ k = 1 \/ k = 2 \/ k = 3 \/ k = 4 \/ k = 5 \/ k = 6 \/ k = 7 \/ k = 8 \/ k = 9) with rfl | rfl | rfl | rfl | rfl | rfl | rfl | rfl | rfl | rfl
   all_goals exact ⟨by omega, by omega, _, rfl, rfl⟩
theorem ct28 (k : Int) (hk : 0 <= k /\ k <= 255) (I : Mem) : Ct Try.prog (fnv 28) #[.int .u8 k] I (fun v I' => v = .string (askS k)) := by
 refine viaR (ct_via (A := { calls := [(10, .sym)] }) Try.func28 rfl Try.call28 rfl rfl) (Wr .i64 k fun c => Br (decide (6 <= c)) (Value.string ⟨#[]⟩ = .string (askS k)) (0 <= k /\ k < 6 /\ ∃ q, [Value.string ⟨#[]⟩, .string ⟨#[115, 116, 97, 116, 117, 115]⟩, .string ⟨#[99, 101, 108, 108, 115]⟩, .string ⟨#[101, 118, 101, 110, 116, 115]⟩, .string ⟨#[112, 111, 114, 116, 115]⟩, .string ⟨#[104, 97, 110, 100, 108, 101, 115]⟩][0 + k.toNat * 1 + 0]? = some (.string q) /\ Value.string q = .string (askS k))) (by kernel_rfl) ?_
 refine wr_i64 (by omega) (by omega) (Br.mk (fun h => ?_) (fun h => ?_))
 · have h := of_decide_eq_true h
   have : askS k = ⟨#[]⟩ := by rw [askS, List.getElem?_eq_none (by simp [asksL]; omega)]; rfl
   rw [this]
 · have h := of_decide_eq_false h
   rcases (by omega : k = 0 \/ k = 1 \/ k = 2 \/ k = 3 \/ k = 4 \/ k = 5) with rfl | rfl | rfl | rfl | rfl | rfl
   all_goals exact ⟨by omega, by omega, _, rfl, rfl⟩
theorem bysl_lit {I : Mem} {b n : Nat} {cs : Array Value} {el : TypeId} {bs : List Int} (h : I b = some (.cells cs el)) (hx : cs = (ints .u8 bs).toArray) (hn : n = bs.length) (hm : n <= 100) : SlM I (some ⟨b, 0, none⟩) n 1 (ints .u8 bs) := by
 subst hx
 have := sl_cells (n := n) (sz := 1) h (by simp [ints]; omega) (by simp only [maxLen]; omega)
 simpa using this
theorem ex_step (e : Rq) (hok : okRq e) (hnm : e.name.size <= 1000000) (hfd : e.fed = []) (hr : rightR e = true) (form : List Int) (hw : writeR e = form) (hf : byteL form) (J : Mem) (b : Option Addr) (m c : Nat) (hs : SlM J b m 1 (ints .u8 form)) (Q : Prop) (hq : Q) :
 Ct Try.prog (fnv 14) #[.agg (rqV e (.slice none 0 0)).toArray] J (fun v I' => ∃ a n_13 c_1 n_14, v = Value.tuple #[Value.slice a n_13 c_1, Value.int .i64 n_14] /\ Br (n_14 != 0) (Value.bool false = Value.bool true) (Ct Try.prog (fnv 18) #[Value.slice a n_13 c_1, Value.slice b m c] I' fun v I' => ∃ b, v = Value.bool b /\ Br (!b) (Value.bool false = Value.bool true) Q)) := by
 refine (ct14 e hok hnm (.slice none 0 0) J ⟨none, 0, 0, rfl, by rw [hfd]; exact sl_nil _ _, by omega, by omega⟩ (by rw [hfd]; simp)).mono fun v I1 l1 ⟨a, n, c', hv, h1, h2, h3⟩ => ⟨_, _, _, _, hv, ?_⟩
 rw [hr, if_pos rfl, hw] at h1;rw [hr]
 exact Br.f rfl ((ct18 form form hf hf a b n c' m c I1 h1 (hs.mono l1)).mono fun v I2 l2 hv => ⟨_, hv, Br.f (by simp) hq⟩)
theorem no_step (bs : List Int) (hb : byteL bs) (hno : accB bs = false) (J : Mem) (b : Option Addr) (m : Nat) (hm : m <= 100) (hs : SlM J b m 1 (ints .u8 bs)) (Q : Mem -> Prop) (hq : ∀ J', J.le J' -> Q J') :
 Ct Try.prog (fnv 16) #[.slice b m m] J (fun v I' => ∃ n_2 n_3 q n_4 n_5 n_6 n_7 n_8 n_9 n_10 n_11 a n_12 c n_13, v = Value.tuple #[Value.agg #[Value.int .u8 n_2, Value.int .u8 n_3, Value.string q, Value.int .i64 n_4, Value.int .i64 n_5, Value.int .i64 n_6, Value.int .i64 n_7, Value.int .i64 n_8, Value.int .i64 n_9, Value.int .i64 n_10, Value.int .i64 n_11, Value.slice a n_12 c], Value.int .i64 n_13] /\ Br (n_13 != 341) (Value.bool false = Value.bool true) (Q I')) := by
 refine (ct16 bs hb b m m J hs (by omega) (by omega) (by simp only [maxLen]; omega)).mono fun v I1 l1 ⟨y, hv, hy, _⟩ => ?_
 obtain ⟨a, n, c, rfl, _⟩ := hy
 have hr : readR bs = (zeroRq, 341) := by rw [readR, hno]; rfl
 rw [hr] at hv;exact ⟨_, _, _, _, _, _, _, _, _, _, _, _, _, _, _, hv, Br.f rfl (hq I1 l1)⟩
theorem ct12 (I : Mem) : Ct Try.prog (fnv 12) #[] I (fun v I' => v = .bool true) := by
 refine viaR (ct_via (A := { befores := [(2, [5]), (9, [13])], loops := [(2, ⟨[(24, .keep), (25, .keep), (26, .sh (.int .i64))], [], [], fun vals _ _ _ => match vals with | [.int .i64 j] => 0 <= j /\ j <= 5 | _ => False, fun vals _ => match vals with | [.int .i64 j] => (5 - j).toNat | _ => 0⟩), (9, ⟨[(53, .keep), (54, .keep), (55, .sh (.int .i64))], [], [], fun vals _ _ _ => match vals with | [.int .i64 j] => 0 <= j /\ j <= 7 | _ => False, fun vals _ => match vals with | [.int .i64 j] => (7 - j).toNat | _ => 0⟩)] }) Try.func12 rfl Try.call12 rfl rfl) (∀ (b : Nat) (a : Mem), I.le a -> a b = some (.cells #[.int .u8 1, .int .u8 9] 5 (0, 0)) -> ∀ (c : Nat) (d : Mem), a.le d -> d c = some (.cells #[.int .u8 1, .int .u8 6, .int .u8 7, .int .u8 1, .int .u8 5] 5 (0, 0)) -> ∀ (e : Nat) (f : Mem), d.le f -> f e = some (.cells #[.int .u8 1, .int .u8 2, .int .u8 2, .int .u8 1, .int .u8 97, .int .u8 3, .int .u8 1, .int .u8 2] 5 (0, 0)) -> ∀ (g : Nat) (h : Mem), f.le h -> h g = some (.cells #[.int .u8 1, .int .u8 5, .int .u8 4, .int .u8 3, .int .u8 248, .int .u8 1, .int .u8 44, .int .u8 7, .int .u8 1, .int .u8 7, .int .u8 10, .int .u8 1, .int .u8 1] 5 (0, 0)) -> ∀ (i : Nat) (j : Mem), h.le j -> j i = some (.cells #[.int .u8 1, .int .u8 7, .int .u8 1, .int .u8 1, .int .u8 2, .int .u8 4, .int .u8 1, .int .u8 3] 5 (0, 0)) -> ∀ (k : Nat) (l : Mem), j.le l -> l k = some (.cells #[.int .u8 9, .int .u8 0, .string ⟨#[]⟩, .int .i64 0, .int .i64 0, .int .i64 0, .int .i64 0, .int .i64 0, .int .i64 0, .int .i64 0, .int .i64 0, .slice none 0 0, .slice (some ⟨b, 0, none⟩) 2 2, .int .u8 6, .int .u8 0, .string ⟨#[]⟩, .int .i64 0, .int .i64 0, .int .i64 0, .int .i64 0, .int .i64 5, .int .i64 0, .int .i64 0, .int .i64 0, .slice none 0 0, .slice (some ⟨c, 0, none⟩) 5 5, .int .u8 2, .int .u8 0, .string ⟨#[97]⟩, .int .i64 2, .int .i64 0, .int .i64 0, .int .i64 0, .int .i64 0, .int .i64 0, .int .i64 0, .int .i64 0, .slice none 0 0, .slice (some ⟨e, 0, none⟩) 8 8, .int .u8 5, .int .u8 0, .string ⟨#[]⟩, .int .i64 0, .int .i64 300, .int .i64 0, .int .i64 0, .int .i64 7, .int .i64 0, .int .i64 0, .int .i64 (-1), .slice none 0 0, .slice (some ⟨g, 0, none⟩) 13 13, .int .u8 7, .int .u8 2, .string ⟨#[]⟩, .int .i64 0, .int .i64 3, .int .i64 0, .int .i64 0, .int .i64 0, .int .i64 0, .int .i64 0, .int .i64 0, .slice none 0 0, .slice (some ⟨i, 0, none⟩) 8 8] 66 (0, 0)) -> (Rf (SV.v (.slice (some ⟨k, 0, none⟩) 5 5)) /\ Rf (SV.v (.int .i64 5)) /\ (0 : Int) <= 0 /\ (0 : Int) <= 5) /\ ∀ (m : Mem), Mem -> l.le m -> ∀ (n : Int), 0 <= n /\ n <= 5 -> Br (decide (n < 5)) (0 <= n /\ n < 5 /\ true = true /\ (13 : Nat) = 13 /\ ∃ o, atI m (some ⟨k, 0, none⟩) (n.toNat * 13 + 0) = some (.int .u8 o) /\ ∃ p, atI m (some ⟨k, 0, none⟩) (n.toNat * 13 + 1) = some (.int .u8 p) /\ ∃ q, atI m (some ⟨k, 0, none⟩) (n.toNat * 13 + 2) = some (.string q) /\ ∃ r, atI m (some ⟨k, 0, none⟩) (n.toNat * 13 + 3) = some (.int .i64 r) /\ ∃ s, atI m (some ⟨k, 0, none⟩) (n.toNat * 13 + 4) = some (.int .i64 s) /\ ∃ t, atI m (some ⟨k, 0, none⟩) (n.toNat * 13 + 5) = some (.int .i64 t) /\ ∃ u, atI m (some ⟨k, 0, none⟩) (n.toNat * 13 + 6) = some (.int .i64 u) /\ ∃ v, atI m (some ⟨k, 0, none⟩) (n.toNat * 13 + 7) = some (.int .i64 v) /\ ∃ w, atI m (some ⟨k, 0, none⟩) (n.toNat * 13 + 8) = some (.int .i64 w) /\ ∃ x, atI m (some ⟨k, 0, none⟩) (n.toNat * 13 + 9) = some (.int .i64 x) /\ ∃ y, atI m (some ⟨k, 0, none⟩) (n.toNat * 13 + 10) = some (.int .i64 y) /\ ∃ z n1 c1, atI m (some ⟨k, 0, none⟩) (n.toNat * 13 + 11) = some (.slice z n1 c1) /\ ∃ a1 n2 c2, atI m (some ⟨k, 0, none⟩) (n.toNat * 13 + 12) = some (.slice a1 n2 c2) /\ Ct Try.prog (fnv 14) #[.agg #[.int .u8 o, .int .u8 p, .string q, .int .i64 r, .int .i64 s, .int .i64 t, .int .i64 u, .int .i64 v, .int .i64 w, .int .i64 x, .int .i64 y, .slice z n1 c1]] m fun v1 I1 => ∃ a2 n3 c3 n4, v1 = .tuple #[.slice a2 n3 c3, .int .i64 n4] /\ Br (n4 != 0) (Value.bool false = .bool true) (Ct Try.prog (fnv 18) #[.slice a2 n3 c3, .slice a1 n2 c2] I1 (fun v2 I2 => ∃ b1, v2 = .bool b1 /\ Br (!b1) (Value.bool false = .bool true) (Wr .i64 (n + 1) (fun c4 => Rf (SV.v (.slice (some ⟨k, 0, none⟩) 5 5)) /\ Rf (SV.v (.int .i64 5)) /\ (0 <= c4 /\ c4 <= 5) /\ Int.toNat (5 - c4) < Int.toNat (5 - n)))))) (∀ (o : Nat) (p : Mem), m.le p -> p o = some (.cells #[.int .u8 1, .int .u8 6] 5 (0, 0)) -> ∀ (q : Nat) (r : Mem), p.le r -> r q = some (.cells #[.int .u8 1, .int .u8 6, .int .u8 7, .int .u8 1, .int .u8 5, .int .u8 7, .int .u8 1, .int .u8 5] 5 (0, 0)) -> ∀ (s : Nat) (t : Mem), r.le t -> t s = some (.cells #[.int .u8 2, .int .u8 9] 5 (0, 0)) -> ∀ (u : Nat) (v : Mem), t.le v -> v u = some (.cells #[.int .u8 1, .int .u8 0] 5 (0, 0)) -> ∀ (w : Nat) (x : Mem), v.le x -> x w = some (.cells #[.int .u8 1, .int .u8 10] 5 (0, 0)) -> ∀ (y : Nat) (z : Mem), x.le z -> z y = some (.cells #[.int .u8 1, .int .u8 9, .int .u8 0] 5 (0, 0)) -> ∀ (b1 : Nat) (I1 : Mem), z.le I1 -> I1 b1 = some (.cells #[.int .u8 1, .int .u8 7, .int .u8 1, .int .u8 1, .int .u8 6] 5 (0, 0)) -> ∀ (b2 : Nat) (I2 : Mem), I1.le I2 -> I2 b2 = some (.cells #[.slice (some ⟨o, 0, none⟩) 2 2, .slice (some ⟨q, 0, none⟩) 8 8, .slice (some ⟨s, 0, none⟩) 2 2, .slice (some ⟨u, 0, none⟩) 2 2, .slice (some ⟨w, 0, none⟩) 2 2, .slice (some ⟨y, 0, none⟩) 3 3, .slice (some ⟨b1, 0, none⟩) 5 5] 22 (0, 0)) -> (Rf (SV.v (.slice (some ⟨b2, 0, none⟩) 7 7)) /\ Rf (SV.v (.int .i64 7)) /\ (0 : Int) <= 0 /\ (0 : Int) <= 7) /\ ∀ (I3 : Mem), Mem -> I2.le I3 -> ∀ (n1 : Int), 0 <= n1 /\ n1 <= 7 -> Br (decide (n1 < 7)) (0 <= n1 /\ n1 < 7 /\ true = true /\ ∃ a1 n2 c1, atI I3 (some ⟨b2, 0, none⟩) (n1.toNat * 1 + 0) = some (.slice a1 n2 c1) /\ Ct Try.prog (fnv 16) #[.slice a1 n2 c1] I3 fun v1 I4 => ∃ n3 n4 q1 n5 n6 n7 n8 n9 n10 n11 n12 a2 n13 c2 n14, v1 = .tuple #[.agg #[.int .u8 n3, .int .u8 n4, .string q1, .int .i64 n5, .int .i64 n6, .int .i64 n7, .int .i64 n8, .int .i64 n9, .int .i64 n10, .int .i64 n11, .int .i64 n12, .slice a2 n13 c2], .int .i64 n14] /\ Br (n14 != 341) (Value.bool false = .bool true) (Wr .i64 (n1 + 1) (fun c3 => Rf (SV.v (.slice (some ⟨b2, 0, none⟩) 7 7)) /\ Rf (SV.v (.int .i64 7)) /\ (0 <= c3 /\ c3 <= 7) /\ Int.toNat (7 - c3) < Int.toNat (7 - n1)))) (Ct Try.prog (fnv 24) #[.int .u8 6] I3 (fun v1 I4 => ∃ q1, v1 = .string q1 /\ Br (q1.toList == (ByteArray.mk #[115, 116, 101, 112]).toList) (Ct Try.prog (fnv 28) #[.int .u8 3] I4 (fun v2 I5 => ∃ q2, v2 = .string q2 /\ Value.bool (q2.toList == (ByteArray.mk #[101, 118, 101, 110, 116, 115]).toList) = .bool true)) (Value.bool false = .bool true))))) (by kernel_rfl) ?_
 simp only [eq_self, true_and];intro b1 I1 l1 h1 b2 I2 l2 h2 b3 I3 l3 h3 b4 I4 l4 h4 b5 I5 l5 h5 b6 I6 l6 h6
 refine ⟨⟨by omega, by omega⟩, fun I7 _ l7 n ⟨n0, n1⟩ => Br.mk (fun hlt => ?_) (fun hge => ?_)⟩
 · have hlt := of_decide_eq_true hlt
   have g6 := l7 _ _ h6;have g5 := (Mem.le_trans l6 l7) _ _ h5;have g4 := (Mem.le_trans l5 (Mem.le_trans l6 l7)) _ _ h4;have g3 := (Mem.le_trans l4 (Mem.le_trans l5 (Mem.le_trans l6 l7))) _ _ h3;have g2 := (Mem.le_trans l3 (Mem.le_trans l4 (Mem.le_trans l5 (Mem.le_trans l6 l7)))) _ _ h2;have g1 := (Mem.le_trans l2 (Mem.le_trans l3 (Mem.le_trans l4 (Mem.le_trans l5 (Mem.le_trans l6 l7))))) _ _ h1;obtain ⟨o1, o2, o3, o4, o5⟩ := ok_e;obtain ⟨r1, r2, r3, r4, r5⟩ := right_e;obtain ⟨w1, w2, w3, w5⟩ := write_e;refine ⟨n0, hlt, ?_⟩
   rcases (by omega : n = 0 \/ n = 1 \/ n = 2 \/ n = 3 \/ n = 4) with rfl | rfl | rfl | rfl | rfl
   · refine ⟨_, atC g6 rfl, _, atC g6 rfl, _, atC g6 rfl, _, atC g6 rfl, _, atC g6 rfl, _, atC g6 rfl, _, atC g6 rfl, _, atC g6 rfl, _, atC g6 rfl, _, atC g6 rfl, _, atC g6 rfl, _, _, _, atC g6 rfl, _, _, _, atC g6 rfl, ?_⟩
     exact ex_step e1 o1 (by decide) rfl r1 [1, 9] w1 (by simp [byteL]) I7 _ _ _ (bysl_lit g1 rfl rfl (by decide)) _ (wr_i64 (by omega) (by omega) ⟨⟨by omega, by omega⟩, by omega⟩)
   · refine ⟨_, atC g6 rfl, _, atC g6 rfl, _, atC g6 rfl, _, atC g6 rfl, _, atC g6 rfl, _, atC g6 rfl, _, atC g6 rfl, _, atC g6 rfl, _, atC g6 rfl, _, atC g6 rfl, _, atC g6 rfl, _, _, _, atC g6 rfl, _, _, _, atC g6 rfl, ?_⟩
     exact ex_step e2 o2 (by decide) rfl r2 [1, 6, 7, 1, 5] w2 (by simp [byteL]) I7 _ _ _ (bysl_lit g2 rfl rfl (by decide)) _ (wr_i64 (by omega) (by omega) ⟨⟨by omega, by omega⟩, by omega⟩)
   · refine ⟨_, atC g6 rfl, _, atC g6 rfl, _, atC g6 rfl, _, atC g6 rfl, _, atC g6 rfl, _, atC g6 rfl, _, atC g6 rfl, _, atC g6 rfl, _, atC g6 rfl, _, atC g6 rfl, _, atC g6 rfl, _, _, _, atC g6 rfl, _, _, _, atC g6 rfl, ?_⟩
     exact ex_step e3 o3 (by decide) rfl r3 [1, 2, 2, 1, 97, 3, 1, 2] w3 (by simp [byteL]) I7 _ _ _ (bysl_lit g3 rfl rfl (by decide)) _ (wr_i64 (by omega) (by omega) ⟨⟨by omega, by omega⟩, by omega⟩)
   · refine ⟨_, atC g6 rfl, _, atC g6 rfl, _, atC g6 rfl, _, atC g6 rfl, _, atC g6 rfl, _, atC g6 rfl, _, atC g6 rfl, _, atC g6 rfl, _, atC g6 rfl, _, atC g6 rfl, _, atC g6 rfl, _, _, _, atC g6 rfl, _, _, _, atC g6 rfl, ?_⟩
     exact ex_step e4 o4 (by decide) rfl r4 [1, 5, 4, 3, 248, 1, 44, 7, 1, 7, 10, 1, 1] write_e4 (by simp [byteL]) I7 _ _ _ (bysl_lit g4 rfl rfl (by decide)) _ (wr_i64 (by omega) (by omega) ⟨⟨by omega, by omega⟩, by omega⟩)
   · refine ⟨_, atC g6 rfl, _, atC g6 rfl, _, atC g6 rfl, _, atC g6 rfl, _, atC g6 rfl, _, atC g6 rfl, _, atC g6 rfl, _, atC g6 rfl, _, atC g6 rfl, _, atC g6 rfl, _, atC g6 rfl, _, _, _, atC g6 rfl, _, _, _, atC g6 rfl, ?_⟩
     exact ex_step e5 o5 (by decide) rfl r5 [1, 7, 1, 1, 2, 4, 1, 3] w5 (by simp [byteL]) I7 _ _ _ (bysl_lit g5 rfl rfl (by decide)) _ (wr_i64 (by omega) (by omega) ⟨⟨by omega, by omega⟩, by omega⟩)
 intro c1 J1 m1 k1 c2 J2 m2 k2 c3 J3 m3 k3 c4 J4 m4 k4 c5 J5 m5 k5 c6 J6 m6 k6 c7 J7 m7 k7 c8 J8 m8 k8
 refine ⟨⟨by omega, by omega⟩, fun J9 _ m9 n ⟨n0, n1⟩ => Br.mk (fun hlt => ?_) (fun hge => ?_)⟩
 · have hlt := of_decide_eq_true hlt
   have g8 := m9 _ _ k8;have g7 := (Mem.le_trans m8 m9) _ _ k7;have g6 := (Mem.le_trans m7 (Mem.le_trans m8 m9)) _ _ k6;have g5 := (Mem.le_trans m6 (Mem.le_trans m7 (Mem.le_trans m8 m9))) _ _ k5;have g4 := (Mem.le_trans m5 (Mem.le_trans m6 (Mem.le_trans m7 (Mem.le_trans m8 m9)))) _ _ k4;have g3 := (Mem.le_trans m4 (Mem.le_trans m5 (Mem.le_trans m6 (Mem.le_trans m7 (Mem.le_trans m8 m9))))) _ _ k3;have g2 := (Mem.le_trans m3 (Mem.le_trans m4 (Mem.le_trans m5 (Mem.le_trans m6 (Mem.le_trans m7 (Mem.le_trans m8 m9)))))) _ _ k2
   have g1 := (Mem.le_trans m2 (Mem.le_trans m3 (Mem.le_trans m4 (Mem.le_trans m5 (Mem.le_trans m6 (Mem.le_trans m7 (Mem.le_trans m8 m9))))))) _ _ k1;refine ⟨n0, hlt, ?_⟩
   rcases (by omega : n = 0 \/ n = 1 \/ n = 2 \/ n = 3 \/ n = 4 \/ n = 5 \/ n = 6) with rfl | rfl | rfl | rfl | rfl | rfl | rfl
   · refine ⟨_, _, _, atC g8 rfl, ?_⟩
     exact no_step [1, 6] (by simp [byteL]) q1 J9 _ _ (by decide) (bysl_lit g1 rfl rfl (by decide)) (fun _ => _) fun J' _ => wr_i64 (by omega) (by omega) ⟨⟨by omega, by omega⟩, by omega⟩
   · refine ⟨_, _, _, atC g8 rfl, ?_⟩
     exact no_step [1, 6, 7, 1, 5, 7, 1, 5] (by simp [byteL]) q2 J9 _ _ (by decide) (bysl_lit g2 rfl rfl (by decide)) (fun _ => _) fun J' _ => wr_i64 (by omega) (by omega) ⟨⟨by omega, by omega⟩, by omega⟩
   · refine ⟨_, _, _, atC g8 rfl, ?_⟩
     exact no_step [2, 9] (by simp [byteL]) q3 J9 _ _ (by decide) (bysl_lit g3 rfl rfl (by decide)) (fun _ => _) fun J' _ => wr_i64 (by omega) (by omega) ⟨⟨by omega, by omega⟩, by omega⟩
   · refine ⟨_, _, _, atC g8 rfl, ?_⟩
     exact no_step [1, 0] (by simp [byteL]) q4 J9 _ _ (by decide) (bysl_lit g4 rfl rfl (by decide)) (fun _ => _) fun J' _ => wr_i64 (by omega) (by omega) ⟨⟨by omega, by omega⟩, by omega⟩
   · refine ⟨_, _, _, atC g8 rfl, ?_⟩
     exact no_step [1, 10] (by simp [byteL]) q5 J9 _ _ (by decide) (bysl_lit g5 rfl rfl (by decide)) (fun _ => _) fun J' _ => wr_i64 (by omega) (by omega) ⟨⟨by omega, by omega⟩, by omega⟩
   · refine ⟨_, _, _, atC g8 rfl, ?_⟩
     exact no_step [1, 9, 0] (by simp [byteL]) q6 J9 _ _ (by decide) (bysl_lit g6 rfl rfl (by decide)) (fun _ => _) fun J' _ => wr_i64 (by omega) (by omega) ⟨⟨by omega, by omega⟩, by omega⟩
   · refine ⟨_, _, _, atC g8 rfl, ?_⟩
     exact no_step [1, 7, 1, 1, 6] (by simp [byteL]) q7 J9 _ _ (by decide) (bysl_lit g7 rfl rfl (by decide)) (fun _ => _) fun J' _ => wr_i64 (by omega) (by omega) ⟨⟨by omega, by omega⟩, by omega⟩
 · refine (ct24 6 (by omega) J9).mono fun v J10 m10 hv => ⟨_, hv, Br.t ?_ ((ct28 3 (by omega) J10).mono fun v J11 m11 hv => ⟨_, hv, ?_⟩)⟩
   · rw [str_eq]; decide
   · rw [str_eq, decide_eq_true (show askS 3 = ⟨#[101, 118, 101, 110, 116, 115]⟩ by decide)]
theorem right_none {r : Rq} (h : tagL r.kind r.what = none) : rightR r = false := by rw [rightR, h]
theorem tag_none {k w : Int} (h : k < 1 \/ 9 < k) : tagL k w = none := by
 rw [tagL, if_neg (by omega), if_neg (by omega), if_neg (by omega), if_neg (by omega), if_neg (by omega), if_neg (by omega), if_neg (by omega), if_neg (by omega), if_neg (by omega)]
theorem ask_none {w : Int} (h : w < 1 \/ 5 < w) : tagL 7 w = none := by
 have : askL w = none := by rw [askL, if_neg (by omega), if_neg (by omega), if_neg (by omega), if_neg (by omega), if_neg (by omega)]
 show (askL w).map (1 :: ·) = none
 rw [this]; rfl
theorem right_size {r : Rq} (h : 255 < r.name.size \/ 15000 < r.fed.length) : rightR r = false := by
 rw [rightR];split
 · rfl
 · rcases h with h | h
   · rw [decide_eq_false (p := r.name.size <= 255) (by omega), Bool.false_and]
   · rw [decide_eq_false (p := r.fed.length <= 15000) (by omega), Bool.false_and, Bool.and_false]
theorem same_iff {r q : Rq} : sameR r q = true ↔ r = q := by
 constructor
 · intro h
   have h := of_decide_eq_true h
   cases r; cases q
   simp only at h
   obtain ⟨rfl, rfl, rfl, rfl, rfl, rfl, rfl, rfl, rfl, rfl, rfl, rfl⟩ := h;rfl
 · rintro rfl
   simp [sameR]
theorem right_run {r : Rq} (hr : okRq r) (h : rightR r = true) : (tagsR r).all (okT r) = true /\ (tagsR r).foldl (copyT r) (had0 r) = r := by
 have ht := (right_tag h).1;rw [right_eq hr, rightS, ht] at h;simp only [Bool.and_eq_true] at h;exact ⟨h.2.2.1, same_iff.1 h.2.2.2⟩
theorem tag_seven {k w : Int} {l : List Int} (h : tagL k w = some l) : (k = 7 /\ ∃ m, askL w = some m /\ l = 1 :: m) \/ (k ≠ 7 /\ (∀ t ∈ l, t ≠ 1) /\ ∀ w', tagL k w' = some l) := by
 by_cases h7 : k = 7
 · subst h7
   have : (askL w).map (1 :: ·) = some l := h
   cases hq : askL w with
   | none => rw [hq] at this; cases this
   | some m =>
     rw [hq] at this;cases this;exact .inl ⟨rfl, m, rfl, rfl⟩
 · refine .inr ⟨h7, ?_, fun w' => ?_⟩
   · unfold tagL at h
     rw [if_neg h7] at h
     repeat' split at h
     all_goals first | (cases h; simp; done) | (cases h; done)
   · unfold tagL at h ⊢
     rw [if_neg h7] at h ⊢;exact h
theorem fold_what (r : Rq) : ∀ (l : List Int) (h : Rq), (∀ t ∈ l, t ≠ 1) -> (l.foldl (copyT r) h).what = h.what
 | [], h, _ => rfl
 | t :: l, h, ht => by
   rw [List.foldl_cons, fold_what r l _ fun s hs => ht s (by simp [hs])]
   have h1 := ht t (by simp)
   unfold copyT;rw [if_neg h1]
   repeat' split
   all_goals rfl
def setW (h : Rq) (w : Int) : Rq := { h with what := w }
theorem copy_what (r h : Rq) (t : Int) : copyT r (setW h r.what) t = setW (copyT r h t) r.what := by
 unfold copyT
 by_cases h1 : t = 1
 · rw [if_pos h1, if_pos h1]; rfl
 rw [if_neg h1, if_neg h1]
 by_cases h2 : t = 2
 · rw [if_pos h2, if_pos h2]; rfl
 rw [if_neg h2, if_neg h2]
 by_cases h3 : t = 3
 · rw [if_pos h3, if_pos h3]; rfl
 rw [if_neg h3, if_neg h3]
 by_cases h4 : t = 4
 · rw [if_pos h4, if_pos h4]; rfl
 rw [if_neg h4, if_neg h4]
 by_cases h5 : t = 5
 · rw [if_pos h5, if_pos h5]; rfl
 rw [if_neg h5, if_neg h5]
 by_cases h6 : t = 6
 · rw [if_pos h6, if_pos h6]; rfl
 rw [if_neg h6, if_neg h6]
 by_cases h7 : t = 7
 · rw [if_pos h7, if_pos h7]; rfl
 rw [if_neg h7, if_neg h7]
 by_cases h8 : t = 8
 · rw [if_pos h8, if_pos h8]; rfl
 rw [if_neg h8, if_neg h8]
 by_cases h9 : t = 9
 · rw [if_pos h9, if_pos h9]; rfl
 rw [if_neg h9, if_neg h9]
 by_cases h10 : t = 10
 · rw [if_pos h10, if_pos h10]; rfl
 rw [if_neg h10, if_neg h10];rfl
theorem fold_set (r : Rq) : ∀ (l : List Int) (h : Rq), l.foldl (copyT r) (setW h r.what) = setW (l.foldl (copyT r) h) r.what
 | [], h => rfl
 | t :: l, h => by
   rw [List.foldl_cons, copy_what, fold_set r l]; rfl
theorem try_copy {r : Rq} (hr : okRq r) : ∀ (l : List Int) (h : Rq), (∀ t ∈ l, 1 <= t /\ t <= 11) -> h.what = r.what -> l.all (okT r) = true -> tryT h l (fldsR r l) = (l.foldl (copyT r) h, true)
 | [], h, _, _, _ => rfl
 | t :: l, h, ht, hw, ha => by
   rw [List.all_cons, Bool.and_eq_true] at ha
   obtain ⟨g1, g2⟩ := step_copy (h := h) hr (ht t (by simp))
   have hp : preR r h t = h := by
    unfold preR;split
    · rw [<- hw]
    · rfl
   rw [hp, ha.1] at g1;have g2 := g2 ha.1;rw [hp] at g2;have hf : fldsR r (t :: l) = (t, bytesR r t) :: fldsR r l := rfl
   have hcw : (copyT r h t).what = r.what := by
    unfold copyT
    repeat' split
    all_goals first | rfl | exact hw
   rw [hf, tryT, if_pos rfl, if_pos g1, g2, try_copy hr l _ (fun s hs => ht s (by simp [hs])) hcw ha.2, List.foldl_cons]
theorem flds_ok {r : Rq} (hr : okRq r) {l : List Int} (hl : ∀ t ∈ l, 1 <= t /\ t <= 11) : ∀ f ∈ fldsR r l, okFld f := fun f hf => by
 obtain ⟨t, ht, rfl⟩ := List.mem_map.1 hf;have := hl t ht
 exact ⟨⟨by show -9223372036854775808 <= t; omega, by show t <= 9223372036854775807; omega⟩, bytesR_ok hr t⟩
theorem write_ok {r : Rq} (hr : okRq r) (h : rightR r = true) : byteL (writeR r) := fun z hz => by
 have hk := hr.kind
 rcases List.mem_cons.1 hz with rfl | hz
 · omega
 rcases List.mem_cons.1 hz with rfl | hz
 · exact hk
 exact write_bytes (right_flds hr h) (flds_ok hr (tagL_ok (right_tag h).1).1) z hz
theorem read_writeR {r : Rq} (hr : okRq r) (h : rightR r = true) : accB (writeR r) = true /\ readR (writeR r) = (r, 0) := by
 obtain ⟨ha, hf⟩ := right_run hr h;have ht := (right_tag h).1;have hl := (tagL_ok ht).1;have hF := right_flds hr h;have hrd := read_write hF;have hd : (writeR r).drop 2 = writeF (fldsR r (tagsR r)) := rfl;have hk : kindB (writeR r) = r.kind := rfl
 have hfl : flB (writeR r) = fldsR r (tagsR r) := by rw [flB, hd, hrd]
 have hw : whatB (writeR r) = r.what := by
  rw [whatB, hk, hfl]
  rcases tag_seven ht with ⟨h7, m, hm, he⟩ | ⟨h7, hn, _⟩
  · have hwr := hr.what
    obtain ⟨g1, g2⟩ := lastN_f2 (x := r.what.toNat) (by omega)
    rw [Int.toNat_of_nonneg hwr.1] at g1
    have : fldsR r (tagsR r) = (1, formN r.what.toNat) :: fldsR r m := by rw [he]; rfl
    rw [this]
    show (if r.kind = 7 /\ (lastN (formN r.what.toNat)).2.2 = 0 /\ (lastN (formN r.what.toNat)).1 < 256 then (lastN (formN r.what.toNat)).1 else 0) = r.what
    rw [g1, g2, if_pos ⟨h7, rfl, by omega⟩]
  · have hw0 : r.what = 0 := by
     have := fold_what r (tagsR r) (had0 r) hn;rw [hf] at this;exact this
    rw [hw0]
    cases fldsR r (tagsR r) with
    | nil => rfl
    | cons f fs =>
      show (if r.kind = 7 /\ _ then _ else _) = _
      rw [if_neg (fun hc => h7 hc.1)]
 have hst : startQ (writeR r) = setW (had0 r) r.what := by rw [startQ, hk, hw]; rfl
 have htb : tagB (writeR r) = some (tagsR r) := by rw [tagB, hk, hw, ht]
 have hrun : runB (writeR r) = (r, true) := by
  rw [runB, htb, hfl, hst, Option.getD_some, try_copy hr (tagsR r) (setW (had0 r) r.what) hl rfl ha, fold_set, hf]; rfl
 have hacc : accB (writeR r) = true := by
  rw [accB, hd, hrd, htb, hrun];simp only [h]
  have h1 : 2 <= (writeR r).length := by rw [writeR, List.length_cons, List.length_cons]; omega
  have h2 : (writeR r)[0]? = some 1 := rfl
  rw [decide_eq_true h1, decide_eq_true h2]; rfl
 exact ⟨hacc, by rw [readR, hacc, if_pos rfl, hrun]⟩
theorem strL_strB {bs : List Int} (h : byteL bs) : strL (strB bs) = bs := by
 show (u8s bs).toArray.toList.map _ = bs
 simp only [u8s, List.map_map]
 conv => rhs; rw [<- List.map_id bs]
 apply List.map_congr_left;intro z hz;exact u8_nat (h z hz)
theorem fold_unfold {y : Int} (h : 0 <= y) : foldZ (unfoldZ y) = y := by
 unfold foldZ unfoldZ
 split <;> split <;> omega
theorem form_last {bs : List Int} (hb : byteL bs) (h : (lastN bs).2.2 = 0) : formN (lastN bs).1.toNat = bs /\ 0 <= (lastN bs).1 := by
 rcases lastN_cases bs hb with ⟨_, h1, _, h2⟩ | ⟨_, h1⟩
 · exact ⟨h2, h1⟩
 · omega
theorem num_back {h : Rq} {t : Int} {bs : List Int} (hb : byteL bs) (ht : 3 <= t /\ t <= 9) (ha : takeB h t bs = true) : formN (IntKind.u64.wrap (IntKind.i64.wrap (lastN bs).1)).toNat = bs := by
 rw [takeB, if_neg (by omega), if_neg (by omega), if_neg (by omega), Bool.and_eq_true, decide_eq_true_eq, decide_eq_true_eq] at ha
 obtain ⟨g1, g2⟩ := form_last hb ha.1
 have : IntKind.u64.wrap (IntKind.i64.wrap (lastN bs).1) = (lastN bs).1 := by
  rw [w64, IntKind.wrap_i64]; omega
 rw [this, g1]
theorem bytes_take {h : Rq} {t : Int} {bs : List Int} (hb : byteL bs) (ht : 1 <= t /\ t <= 11) (ha : takeB h t bs = true) : bytesR (takeR h t bs) t = bs := by
 rcases (by omega : t = 1 \/ t = 2 \/ t = 3 \/ t = 4 \/ t = 5 \/ t = 6 \/ t = 7 \/ t = 8 \/ t = 9 \/ t = 10 \/ t = 11) with rfl | rfl | rfl | rfl | rfl | rfl | rfl | rfl | rfl | rfl | rfl
 · rw [takeB, if_neg (by omega), if_pos rfl, Bool.and_eq_true, decide_eq_true_eq, decide_eq_true_eq] at ha
   show formN h.what.toNat = bs
   rw [<- ha.2];exact (form_last hb ha.1).1
 · exact strL_strB hb
 · exact num_back hb (by omega) ha
 · exact num_back hb (by omega) ha
 · exact num_back hb (by omega) ha
 · exact num_back hb (by omega) ha
 · exact num_back hb (by omega) ha
 · exact num_back hb (by omega) ha
 · exact num_back hb (by omega) ha
 · rw [takeB, if_neg (by omega), if_neg (by omega), if_pos rfl, decide_eq_true_eq] at ha
   obtain ⟨g1, g2⟩ := form_last hb ha
   show formN (foldZ (unfoldZ (lastN bs).1)).toNat = bs
   rw [fold_unfold g2, g1]
 · rfl
theorem bytes_other {h : Rq} {t s : Int} {bs : List Int} (ht : 1 <= t /\ t <= 11) (hs : 1 <= s /\ s <= 11) (hne : s ≠ t) : bytesR (takeR h t bs) s = bytesR h s := by
 rcases (by omega : t = 1 \/ t = 2 \/ t = 3 \/ t = 4 \/ t = 5 \/ t = 6 \/ t = 7 \/ t = 8 \/ t = 9 \/ t = 10 \/ t = 11) with rfl | rfl | rfl | rfl | rfl | rfl | rfl | rfl | rfl | rfl | rfl
 all_goals
  rcases (by omega : s = 1 \/ s = 2 \/ s = 3 \/ s = 4 \/ s = 5 \/ s = 6 \/ s = 7 \/ s = 8 \/ s = 9 \/ s = 10 \/ s = 11) with rfl | rfl | rfl | rfl | rfl | rfl | rfl | rfl | rfl | rfl | rfl
  all_goals first | rfl | exact absurd rfl hne
theorem take_kw (h : Rq) (t : Int) (bs : List Int) : (takeR h t bs).kind = h.kind /\ (takeR h t bs).what = h.what := by
 unfold takeR
 repeat' split
 all_goals exact ⟨rfl, rfl⟩
theorem try_back : ∀ (ts : List Int) (fs : List (Int × List Int)) (h r : Rq), okRq h -> (∀ t ∈ ts, 1 <= t /\ t <= 11) -> ts.Nodup -> (∀ f ∈ fs, okFld f) -> tryT h ts fs = (r, true) ->
 okRq r /\ r.kind = h.kind /\ r.what = h.what /\ fldsR r ts = fs /\ ∀ s, 1 <= s /\ s <= 11 -> s ∉ ts -> bytesR r s = bytesR h s
 | [], [], h, r, hh, _, _, _, he => by
   cases he;exact ⟨hh, rfl, rfl, rfl, fun _ _ _ => rfl⟩
 | [], _ :: _, h, r, hh, _, _, _, he => by simp [tryT] at he
 | _ :: _, [], h, r, hh, _, _, _, he => by simp [tryT] at he
 | t :: ts, f :: fs, h, r, hh, ht, hn, hok, he => by
   rw [tryT] at he
   split at he
   · rename_i hft
     split at he
     · rename_i hb
       have hof := hok f (by simp)
       have htr := ht t (by simp)
       rw [List.nodup_cons] at hn
       obtain ⟨g1, g2, g3, g4, g5⟩ := try_back ts fs _ r (okRq_take hh t hof.2) (fun s hs => ht s (by simp [hs])) hn.2 (fun g hg => hok g (by simp [hg])) he
       obtain ⟨k1, k2⟩ := take_kw h t f.2;refine ⟨g1, g2.trans k1, g3.trans k2, ?_, fun s hs hns => ?_⟩
       · have : fldsR r (t :: ts) = (t, bytesR r t) :: fldsR r ts := rfl
         rw [this, g4, g5 t htr hn.1, bytes_take hof.2 htr hb, <- hft]
       · rw [g5 s hs (fun hc => hns (by simp [hc])), bytes_other htr hs (fun hc => hns (by simp [hc]))]
     · cases he
   · cases he
theorem tag_nodup {k w : Int} {l : List Int} (h : tagL k w = some l) : l.Nodup := by
 have := tagL_shape h;simp only [shapesL, List.mem_cons, List.not_mem_nil, or_false] at this
 rcases this with rfl | rfl | rfl | rfl | rfl | rfl | rfl | rfl | rfl | rfl | rfl | rfl
 all_goals decide
theorem what_range {bs : List Int} (hb : byteL bs) : (0 <= kindB bs /\ kindB bs <= 255) /\ (0 <= whatB bs /\ whatB bs <= 255) /\ ∀ f ∈ flB bs, okFld f := by
 have hbd : byteL (bs.drop 2) := fun z hz => hb z (List.mem_of_mem_drop hz)
 have hk : 0 <= kindB bs /\ kindB bs <= 255 := by
  rw [kindB]
  cases hq : bs[1]? with
  | none => show (0 : Int) <= 0 /\ (0 : Int) <= 255; omega
  | some x => exact hb x (List.mem_of_getElem? hq)
 have hfo : ∀ f ∈ flB bs, okFld f := by
  rcases read_cases (bs.drop 2) hbd with ⟨_, _, hr, hw⟩ | ⟨hr, _⟩
  · intro f hf
    have h1 := right_at (rightF_iff.1 hr).1 f hf
    refine ⟨⟨by omega, by omega⟩, fun z hz => hbd z ?_⟩
    rw [<- hw, writeF, List.mem_flatMap]
    exact ⟨f, hf, by simp [hz]⟩
  · intro f hf
    have : flB bs = [] := hr
    rw [this] at hf; cases hf
 refine ⟨hk, ?_, hfo⟩;rw [whatB]
 cases hq : flB bs with
 | nil =>
   show (0 : Int) <= 0 /\ (0 : Int) <= 255
   omega
 | cons f r0 =>
   have hok := hfo f (by rw [hq]; simp)
   have hr := last_range hok.2;rw [whatL]
   split <;> omega
theorem read_back {bs : List Int} (hb : byteL bs) (h : accB bs = true) : okRq (readR bs).1 /\ rightR (readR bs).1 = true /\ writeR (readR bs).1 = bs /\ (readR bs).2 = 0 := by
 have hrd : readR bs = ((runB bs).1, 0) := by rw [readR, h, if_pos rfl]
 rw [hrd]
 simp only
 rw [accB, Bool.and_eq_true, Bool.and_eq_true, Bool.and_eq_true, Bool.and_eq_true, Bool.and_eq_true] at h;obtain ⟨h1, h2, h3, h4, h5, h6⟩ := h;have h1 := of_decide_eq_true h1;have h2 := of_decide_eq_true h2;have h3 := of_decide_eq_true h3;obtain ⟨ts, hts⟩ := Option.isSome_iff_exists.1 h4;obtain ⟨hk, hw, hfo⟩ := what_range hb
 have hrun : runB bs = tryT (startQ bs) ts (flB bs) := by rw [runB, hts]; rfl
 have hpair : tryT (startQ bs) ts (flB bs) = ((runB bs).1, true) := by rw [<- hrun]; exact Prod.ext rfl h5
 obtain ⟨g1, g2, g3, g4, _⟩ := try_back ts (flB bs) (startQ bs) (runB bs).1 (okRq_start hk hw) (tagL_ok hts).1 (tag_nodup hts) hfo hpair;refine ⟨g1, h6, ?_, trivial⟩;have g2 : (runB bs).1.kind = kindB bs := g2;have g3 : (runB bs).1.what = whatB bs := g3
 have htg : tagsR (runB bs).1 = ts := by
  rw [tagsR, g2, g3];have : tagL (kindB bs) (whatB bs) = some ts := hts
  rw [this]; rfl
 rw [writeR, htg, g4, g2];have hbd : byteL (bs.drop 2) := fun z hz => hb z (List.mem_of_mem_drop hz)
 have hwf : writeF (flB bs) = bs.drop 2 := by
  rcases read_cases (bs.drop 2) hbd with ⟨_, _, _, hw⟩ | ⟨_, hr⟩
  · exact hw
  · omega
 rw [hwf]
 match bs, h1, h2 with
 | x :: y :: r, _, h2 =>
   cases h2;rfl
theorem read_bad {bs : List Int} (h : accB bs = false) : readR bs = (zeroRq, 341) := by rw [readR, h]; rfl
theorem ct69 (l : List Int) (t : Int) (a : Option Addr) (n c : Nat) (I : Mem) (h : SlM I a n 1 (ints .i64 l)) (hn : n <= 1000000) :
 Ct Try.prog (fnv 69) #[.slice a n c, .int .i64 t] I (fun v _ => v = .bool (decide (t ∈ l))) := by
 refine viaR (ct_via (A := { loops := [(2, ⟨[(0, .keep), (1, .keep), (5, .sh (.int .i64))], [], [], fun vals _ _ _ => match vals with | [.int .i64 j] => 0 <= j /\ j <= n /\ t ∉ l.take j.toNat | _ => False, fun vals _ => match vals with | [.int .i64 j] => (n - j).toNat | _ => 0⟩)] }) Try.func69 rfl Try.call69 rfl rfl) ((Rf (SV.v (.slice a n c)) /\ Rf (SV.v (.int .i64 t)) /\ (0 : Int) <= 0 /\ 0 <= (n : Int) /\ ¬(Membership.mem ([] : List Int) t)) /\ ∀ (b : Mem), Mem -> I.le b -> ∀ (d : Int), 0 <= d /\ d <= (n : Int) /\ ¬(Membership.mem (List.take d.toNat l) t) -> Br (decide (d < (n : Int))) (0 <= d /\ d < (n : Int) /\ a.isSome = true /\ ∃ e, atI b a (d.toNat * 1 + 0) = some (.int .i64 e) /\ Br (e == t) (Value.bool true = .bool (decide (Membership.mem l t))) (Wr .i64 (d + 1) (fun f => Rf (SV.v (.slice a n c)) /\ Rf (SV.v (.int .i64 t)) /\ (0 <= f /\ f <= (n : Int) /\ ¬(Membership.mem (List.take f.toNat l) t)) /\ Int.toNat ((n : Int) - f) < Int.toNat ((n : Int) - d)))) (Value.bool false = .bool (decide (Membership.mem l t)))) (by kernel_rfl) ?_
 have hl := h.numLen
 refine ⟨⟨rfl, rfl, by omega, by omega, by simp⟩, fun I' _ l' j ⟨j0, j1, hj⟩ => Br.mk (fun hlt => ?_) (fun hge => ?_)⟩
 · have hlt := of_decide_eq_true hlt
   obtain ⟨x, hx, e⟩ := (h.mono l').intAt j0 (by omega)
   refine ⟨j0, hlt, h.isSome (by omega), x, e, Br.mk (fun hq => ?_) (fun hq => ?_)⟩
   · have hq := eqv hq
     rw [decide_eq_true (by rw [<- hq]; exact List.mem_of_getElem? hx)]
   · have hq := nev hq
     refine wr_i64 (by omega) (by omega) ⟨rfl, rfl, ⟨by omega, by omega, ?_⟩, by omega⟩
     rw [show (j + 1).toNat = j.toNat + 1 by omega, take_succ' hx]
     simp only [List.mem_append, List.mem_singleton]
     rintro (hc | hc)
     · exact hj hc
     · exact hq hc.symm
 · have hge := of_decide_eq_false hge
   rw [List.take_of_length_le (by omega)] at hj
   rw [decide_eq_false hj]
theorem ct50 (r : Rq) (y : Value) (t : Int) (ht : 3 <= t /\ t <= 9) (I : Mem) :
 Ct Try.prog (fnv 50) #[.agg (rqV r y).toArray, .int .i64 t] I (fun v _ => v = .int .i64 (numR r t)) := by
 refine viaR (ct_via (A := { }) Try.func50 rfl Try.call50 rfl rfl) (Wr .i64 (t - 3) fun c => 0 <= c /\ c < 7 /\ ∃ n, [SV.v (.int .i64 r.p3), .v (.int .i64 r.p4), .v (.int .i64 r.p5), .v (.int .i64 r.p6), .v (.int .i64 r.p7), .v (.int .i64 r.p8), .v (.int .i64 r.p9)][0 + c.toNat * 1 + 0]?.bind (fun (x : SV) => (match x with
  | SV.v x => some x
  | x => none)) = some (.int .i64 n) /\ Value.int .i64 n = .int .i64 (numR r t)) (by kernel_rfl) ?_
 rcases (by omega : t = 3 \/ t = 4 \/ t = 5 \/ t = 6 \/ t = 7 \/ t = 8 \/ t = 9) with rfl | rfl | rfl | rfl | rfl | rfl | rfl
 all_goals exact wr_i64 (by omega) (by omega) ⟨by omega, by omega, _, rfl, rfl⟩
theorem ct33 (r : Rq) (y : Value) (I : Mem) (hy : BySl I y r.fed) (hfl : r.fed.length <= 1000000) :
 Ct Try.prog (fnv 33) #[.agg (rqV r y).toArray] I (fun v I' => ∃ y', v = .agg (rqV r y').toArray /\ BySl I' y' r.fed) := by
 obtain ⟨a1, n1, c1, rfl, hs1, hc1, hm1⟩ := hy
 refine viaR (ct_via (A := { }) Try.func33 rfl Try.call33 rfl rfl) (Ct Try.prog (fnv 54) #[.slice a1 n1 c1] I fun v a => ∃ b n c, v = .slice b n c /\ ∃ y, Value.agg #[.int .u8 r.kind, .int .u8 r.what, .string r.name, .int .i64 r.p3, .int .i64 r.p4, .int .i64 r.p5, .int .i64 r.p6, .int .i64 r.p7, .int .i64 r.p8, .int .i64 r.p9, .int .i64 r.val, .slice b n c] = .agg #[.int .u8 r.kind, .int .u8 r.what, .string r.name, .int .i64 r.p3, .int .i64 r.p4, .int .i64 r.p5, .int .i64 r.p6, .int .i64 r.p7, .int .i64 r.p8, .int .i64 r.p9, .int .i64 r.val, y] /\ ∃ d m e, y = .slice d m e /\ SlM a d m 1 (List.map (Value.int .u8) r.fed) /\ m <= e /\ e <= 9223372036854775807) (by kernel_rfl) ?_
 have hn := hs1.numLen
 exact (ct54 r.fed a1 n1 c1 I hs1 (by omega)).mono fun v I1 l1 ⟨a, n, c, hv, h1, h2, h3⟩ => ⟨a, n, c, hv, _, rfl, a, n, c, rfl, h1, h2, h3⟩
theorem ct23 (r : Rq) (y : Value) (I : Mem) (hy : BySl I y r.fed) (hfl : r.fed.length <= 1000000) :
 Ct Try.prog (fnv 23) #[.agg (rqV r y).toArray] I (fun v I' => ∃ y', v = .agg (rqV r y').toArray /\ BySl I' y' r.fed /\ NewB I I' y') := by
 obtain ⟨a1, n1, c1, rfl, hs1, hc1, hm1⟩ := hy
 refine viaR (ct_via (A := { }) Try.func23 rfl Try.call23 rfl rfl) (Ct Try.prog (fnv 30) #[.slice a1 n1 c1] I fun v a => ∃ b n c, v = .slice b n c /\ ∃ y, Value.agg #[.int .u8 r.kind, .int .u8 r.what, .string r.name, .int .i64 r.p3, .int .i64 r.p4, .int .i64 r.p5, .int .i64 r.p6, .int .i64 r.p7, .int .i64 r.p8, .int .i64 r.p9, .int .i64 r.val, .slice b n c] = .agg #[.int .u8 r.kind, .int .u8 r.what, .string r.name, .int .i64 r.p3, .int .i64 r.p4, .int .i64 r.p5, .int .i64 r.p6, .int .i64 r.p7, .int .i64 r.p8, .int .i64 r.p9, .int .i64 r.val, y] /\ (∃ d m e, y = .slice d m e /\ SlM a d m 1 (List.map (Value.int .u8) r.fed) /\ m <= e /\ e <= 9223372036854775807) /\ NewB I a y) (by kernel_rfl) ?_
 have hn := hs1.numLen
 exact (ct30N r.fed a1 n1 c1 I hs1 (by omega)).mono fun v I1 l1 ⟨⟨a, n, c, hv, h1, h2, h3⟩, hnb⟩ => ⟨a, n, c, hv, _, rfl, ⟨a, n, c, rfl, h1, h2, h3⟩, hv ▸ hnb⟩
theorem small_at {J : Mem} {b : Nat} {l : List Int} (h : J b = some (.cells (ints .i64 l).toArray 3)) : ∀ (j : Nat) (v : Value), (ints .i64 l)[j]? = some v -> atI J (some ⟨b, 0, none⟩) j = some v := fun j v hj => atC h (by simpa using hj)
theorem tagE {J : Mem} {a : Option Addr} {n cp : Nat} {k w : Int} {l : List Int} (ht : tagL k w = some l) (hr : RowM J a cp 1 (ints .i64 l)) (hn : n = l.length) : ∃ a_3 n_1 c, Value.tuple #[Value.slice a n cp, Value.bool true] = Value.tuple #[Value.slice a_3 n_1 c, Value.bool (tagL k w).isSome] /\ SlM J a_3 n_1 1 (ints .i64 ((tagL k w).getD [])) /\ n_1 <= c /\ c <= maxLen := by
 rw [ht];have h1 := hr.1;rw [ints_len] at h1
 exact ⟨a, n, cp, rfl, hr.sl (by omega) (by rw [ints_len]; omega), by omega, hr.2.1⟩
theorem ct26 (k w : Int) (hk : 0 <= k /\ k <= 255) (hw : 0 <= w /\ w <= 255) (I : Mem) : Ct Try.prog (fnv 26) #[.int .u8 k, .int .u8 w] I (fun v I' => ∃ (a : Option Addr) (n c : Nat), v = .tuple #[.slice a n c, .bool (tagL k w).isSome] /\ SlM I' a n 1 (ints .i64 ((tagL k w).getD [])) /\ n <= c /\ c <= maxLen) := by
 refine viaR (ct_via (A := { befores := [(3, [0, 1, 2, 3, 4, 5, 6, 7, 8, 10, 11, 12, 13, 14])] }) Try.func26 rfl Try.call26 rfl rfl) (let E1 := fun (x : Nat) => .v (.slice (some ⟨x, 0, none⟩) 1 1)
  ∀ (b : Nat) (a : Mem), I.le a -> a b = some (.cells #[.int .i64 11] 3 (0, 0)) -> ∀ (c : Nat) (d : Mem), a.le d -> d c = some (.cells #[.int .i64 2, .int .i64 3] 3 (0, 0)) -> ∀ (e : Nat) (f : Mem), d.le f -> f e = some (.cells #[.int .i64 4, .int .i64 5, .int .i64 6] 3 (0, 0)) -> ∀ (g : Nat) (h : Mem), f.le h -> h g = some (.cells #[.int .i64 4] 3 (0, 0)) -> ∀ (i : Nat) (j : Mem), h.le j -> j i = some (.cells #[.int .i64 4, .int .i64 7, .int .i64 10] 3 (0, 0)) -> ∀ (l : Nat) (m : Mem), j.le m -> m l = some (.cells #[.int .i64 7] 3 (0, 0)) -> ∀ (n : Nat) (o : Mem), m.le o -> o n = some (.cells #[.int .i64 1] 3 (0, 0)) -> ∀ (p : Nat) (q : Mem), o.le q -> q p = some (.cells #[.int .i64 8, .int .i64 9] 3 (0, 0)) -> ∀ (r : Nat) (s : Mem), q.le s -> s r = some (.cells #[] 3 (0, 0)) -> ∀ (t : Nat) (u : Mem), s.le u -> u t = some (.cells #[] 3 (0, 0)) -> ∀ (v : Nat) (x : Mem), u.le x -> x v = some (.cells #[.int .i64 4] 3 (0, 0)) -> ∀ (y : Nat) (z : Mem), x.le z -> z y = some (.cells #[.int .i64 7, .int .i64 8, .int .i64 9] 3 (0, 0)) -> ∀ (b1 : Nat) (I1 : Mem), z.le I1 -> I1 b1 = some (.cells #[.int .i64 2] 3 (0, 0)) -> ∀ (b2 : Nat) (I2 : Mem), I1.le I2 -> I2 b2 = some (.cells #[.int .i64 4] 3 (0, 0)) -> Br (decide (k < 1)) (∃ a1 n1 c1, Value.tuple #[.slice none 0 0, .bool false] = .tuple #[.slice a1 n1 c1, .bool (tagL k w).isSome] /\ SlM I2 a1 n1 1 (List.map (Value.int .i64) ((tagL k w).getD ([] : List Int))) /\ n1 <= c1 /\ c1 <= 9223372036854775807) (Br (decide (9 < k)) (∃ a1 n1 c1, Value.tuple #[.slice none 0 0, .bool false] = .tuple #[.slice a1 n1 c1, .bool (tagL k w).isSome] /\ SlM I2 a1 n1 1 (List.map (Value.int .i64) ((tagL k w).getD ([] : List Int))) /\ n1 <= c1 /\ c1 <= 9223372036854775807) (0 <= k /\ k < 10 /\ ∃ a1 n1 c1, [SV.v (.slice none 0 0), E1 b, .v (.slice (some ⟨c, 0, none⟩) 2 2), .v (.slice (some ⟨e, 0, none⟩) 3 3), E1 g, .v (.slice (some ⟨i, 0, none⟩) 3 3), E1 l, E1 n, .v (.slice (some ⟨p, 0, none⟩) 2 2), .v (.slice (some ⟨r, 0, none⟩) 0 0)][0 + k.toNat * 1 + 0]?.bind (fun (x1 : SV) => (match x1 with
  | SV.v x => some x
  | x => none)) = some (.slice a1 n1 c1) /\ ∃ y1, y1.length = n1 * 1 /\ (a1 = none -> n1 = 0) /\ (∀ (j1 : Nat) (v1 : Value), y1[j1]? = some v1 -> atI I2 a1 j1 = some v1) /\ (∀ (v1 : Value), Membership.mem y1 v1 -> v1.oneCell' = true) /\ (0 : Nat) = 0 /\ 0 + n1 <= 9223372036854775807 /\ (0 + n1) * 8 <= 140737488355328 /\ Br (k == 7) (Br (decide (w < 1)) (∃ a2 n2 c2, Value.tuple #[.slice none 0 0, .bool false] = .tuple #[.slice a2 n2 c2, .bool (tagL k w).isSome] /\ SlM I2 a2 n2 1 (List.map (Value.int .i64) ((tagL k w).getD ([] : List Int))) /\ n2 <= c2 /\ c2 <= 9223372036854775807) (Br (decide (5 < w)) (∃ a2 n2 c2, Value.tuple #[.slice none 0 0, .bool false] = .tuple #[.slice a2 n2 c2, .bool (tagL k w).isSome] /\ SlM I2 a2 n2 1 (List.map (Value.int .i64) ((tagL k w).getD ([] : List Int))) /\ n2 <= c2 /\ c2 <= 9223372036854775807) (0 <= w /\ w < 6 /\ ∃ a2 n2 c2, [SV.v (.slice none 0 0), .v (.slice (some ⟨t, 0, none⟩) 0 0), E1 v, .v (.slice (some ⟨y, 0, none⟩) 3 3), E1 b1, E1 b2][0 + w.toNat * 1 + 0]?.bind (fun (x1 : SV) => (match x1 with
  | SV.v x => some x
  | x => none)) = some (.slice a2 n2 c2) /\ ∃ y2, y2.length = n2 * 1 /\ (a2 = none -> n2 = 0) /\ (∀ (j1 : Nat) (v1 : Value), y2[j1]? = some v1 -> atI I2 a2 j1 = some v1) /\ (∀ (v1 : Value), Membership.mem y2 v1 -> v1.oneCell' = true) /\ y1.length = (0 + n1) * 1 /\ 0 + n1 + n2 <= 9223372036854775807 /\ (0 + n1 + n2) * 8 <= 140737488355328 /\ ∀ (a3 : Option Addr) (c3 : Nat) (I3 : Mem), I2.le I3 -> RowM I3 a3 c3 1 (y1 ++ y2) -> ∃ a4 n3 c4, Value.tuple #[.slice a3 (0 + n1 + n2) c3, .bool true] = .tuple #[.slice a4 n3 c4, .bool (tagL k w).isSome] /\ SlM I3 a4 n3 1 (List.map (Value.int .i64) ((tagL k w).getD ([] : List Int))) /\ n3 <= c4 /\ c4 <= 9223372036854775807))) (∀ (a2 : Option Addr) (c2 : Nat) (I3 : Mem), I2.le I3 -> RowM I3 a2 c2 1 y1 -> ∃ a3 n2 c3, Value.tuple #[.slice a2 (0 + n1) c2, .bool true] = .tuple #[.slice a3 n2 c3, .bool (tagL k w).isSome] /\ SlM I3 a3 n2 1 (List.map (Value.int .i64) ((tagL k w).getD ([] : List Int))) /\ n2 <= c3 /\ c3 <= 9223372036854775807)))) (by kernel_rfl) ?_
 intro E1
 have Z : ∀ {J : Mem}, tagL k w = none -> ∃ a n c, Value.tuple #[Value.slice none 0 0, Value.bool false] = Value.tuple #[Value.slice a n c, Value.bool (tagL k w).isSome] /\ SlM J a n 1 (ints .i64 ((tagL k w).getD [])) /\ n <= c /\ c <= maxLen := fun {J} hz => by
  rw [hz]
  exact ⟨none, 0, 0, rfl, sl_nil _ _, by omega, by omega⟩
 intro b0 J0 l0 h0 b1 J1 l1 h1 b2 J2 l2 h2 b3 J3 l3 h3 b4 J4 l4 h4 b5 J5 l5 h5 b6 J6 l6 h6 b7 J7 l7 h7 b8 J8 l8 h8 b9 J9 l9 h9 b10 J10 l10 h10 b11 J11 l11 h11 b12 J12 l12 h12 b13 J13 l13 h13;have h0 := (Mem.le_trans l1 (Mem.le_trans l2 (Mem.le_trans l3 (Mem.le_trans l4 (Mem.le_trans l5 (Mem.le_trans l6 (Mem.le_trans l7 (Mem.le_trans l8 (Mem.le_trans l9 (Mem.le_trans l10 (Mem.le_trans l11 (Mem.le_trans l12 l13)))))))))))) _ _ h0
 have h1 := (Mem.le_trans l2 (Mem.le_trans l3 (Mem.le_trans l4 (Mem.le_trans l5 (Mem.le_trans l6 (Mem.le_trans l7 (Mem.le_trans l8 (Mem.le_trans l9 (Mem.le_trans l10 (Mem.le_trans l11 (Mem.le_trans l12 l13))))))))))) _ _ h1;have h2 := (Mem.le_trans l3 (Mem.le_trans l4 (Mem.le_trans l5 (Mem.le_trans l6 (Mem.le_trans l7 (Mem.le_trans l8 (Mem.le_trans l9 (Mem.le_trans l10 (Mem.le_trans l11 (Mem.le_trans l12 l13)))))))))) _ _ h2
 have h3 := (Mem.le_trans l4 (Mem.le_trans l5 (Mem.le_trans l6 (Mem.le_trans l7 (Mem.le_trans l8 (Mem.le_trans l9 (Mem.le_trans l10 (Mem.le_trans l11 (Mem.le_trans l12 l13))))))))) _ _ h3;have h4 := (Mem.le_trans l5 (Mem.le_trans l6 (Mem.le_trans l7 (Mem.le_trans l8 (Mem.le_trans l9 (Mem.le_trans l10 (Mem.le_trans l11 (Mem.le_trans l12 l13)))))))) _ _ h4;have h5 := (Mem.le_trans l6 (Mem.le_trans l7 (Mem.le_trans l8 (Mem.le_trans l9 (Mem.le_trans l10 (Mem.le_trans l11 (Mem.le_trans l12 l13))))))) _ _ h5
 have h6 := (Mem.le_trans l7 (Mem.le_trans l8 (Mem.le_trans l9 (Mem.le_trans l10 (Mem.le_trans l11 (Mem.le_trans l12 l13)))))) _ _ h6;have h7 := (Mem.le_trans l8 (Mem.le_trans l9 (Mem.le_trans l10 (Mem.le_trans l11 (Mem.le_trans l12 l13))))) _ _ h7;have h8 := (Mem.le_trans l9 (Mem.le_trans l10 (Mem.le_trans l11 (Mem.le_trans l12 l13)))) _ _ h8;have h9 := (Mem.le_trans l10 (Mem.le_trans l11 (Mem.le_trans l12 l13))) _ _ h9;have h10 := (Mem.le_trans l11 (Mem.le_trans l12 l13)) _ _ h10;have h11 := (Mem.le_trans l12 l13) _ _ h11;have h12 := l13 _ _ h12
 refine Br.mk (fun g => Z (tag_none (.inl (of_decide_eq_true g)))) (fun g1 => Br.mk (fun g => Z (tag_none (.inr (of_decide_eq_true g)))) (fun g2 => ?_));have g1 := of_decide_eq_false g1;have g2 := of_decide_eq_false g2
 refine ⟨by omega, by omega, ?_⟩
 rcases (by omega : k = 1 \/ k = 2 \/ k = 3 \/ k = 4 \/ k = 5 \/ k = 6 \/ k = 7 \/ k = 8 \/ k = 9) with rfl | rfl | rfl | rfl | rfl | rfl | rfl | rfl | rfl
 · exact ⟨_, _, _, rfl, ints .i64 [11], rfl, (fun h => by cases h), small_at h0, one_ints, rfl, by omega, by omega, Br.f rfl (fun a cp J _ hr => tagE (l := [11]) rfl hr rfl)⟩
 · exact ⟨_, _, _, rfl, ints .i64 [2, 3], rfl, (fun h => by cases h), small_at h1, one_ints, rfl, by omega, by omega, Br.f rfl (fun a cp J _ hr => tagE (l := [2, 3]) rfl hr rfl)⟩
 · exact ⟨_, _, _, rfl, ints .i64 [4, 5, 6], rfl, (fun h => by cases h), small_at h2, one_ints, rfl, by omega, by omega, Br.f rfl (fun a cp J _ hr => tagE (l := [4, 5, 6]) rfl hr rfl)⟩
 · exact ⟨_, _, _, rfl, ints .i64 [4], rfl, (fun h => by cases h), small_at h3, one_ints, rfl, by omega, by omega, Br.f rfl (fun a cp J _ hr => tagE (l := [4]) rfl hr rfl)⟩
 · exact ⟨_, _, _, rfl, ints .i64 [4, 7, 10], rfl, (fun h => by cases h), small_at h4, one_ints, rfl, by omega, by omega, Br.f rfl (fun a cp J _ hr => tagE (l := [4, 7, 10]) rfl hr rfl)⟩
 · exact ⟨_, _, _, rfl, ints .i64 [7], rfl, (fun h => by cases h), small_at h5, one_ints, rfl, by omega, by omega, Br.f rfl (fun a cp J _ hr => tagE (l := [7]) rfl hr rfl)⟩
 · refine ⟨_, _, _, rfl, ints .i64 [1], rfl, (fun h => by cases h), small_at h6, one_ints, rfl, by omega, by omega, Br.t rfl (Br.mk (fun g => Z (ask_none (.inl (of_decide_eq_true g)))) (fun g3 => Br.mk (fun g => Z (ask_none (.inr (of_decide_eq_true g)))) (fun g4 => ?_)))⟩
   have g3 := of_decide_eq_false g3;have g4 := of_decide_eq_false g4
   refine ⟨by omega, by omega, ?_⟩
   rcases (by omega : w = 1 \/ w = 2 \/ w = 3 \/ w = 4 \/ w = 5) with rfl | rfl | rfl | rfl | rfl
   · exact ⟨_, _, _, rfl, ints .i64 [], rfl, (fun h => by cases h), small_at h9, one_ints, rfl, by omega, by omega, fun a cp J _ hr => tagE (l := [1]) rfl hr rfl⟩
   · exact ⟨_, _, _, rfl, ints .i64 [4], rfl, (fun h => by cases h), small_at h10, one_ints, rfl, by omega, by omega, fun a cp J _ hr => tagE (l := [1, 4]) rfl hr rfl⟩
   · exact ⟨_, _, _, rfl, ints .i64 [7, 8, 9], rfl, (fun h => by cases h), small_at h11, one_ints, rfl, by omega, by omega, fun a cp J _ hr => tagE (l := [1, 7, 8, 9]) rfl hr rfl⟩
   · exact ⟨_, _, _, rfl, ints .i64 [2], rfl, (fun h => by cases h), small_at h12, one_ints, rfl, by omega, by omega, fun a cp J _ hr => tagE (l := [1, 2]) rfl hr rfl⟩
   · exact ⟨_, _, _, rfl, ints .i64 [4], rfl, (fun h => by cases h), small_at h13, one_ints, rfl, by omega, by omega, fun a cp J _ hr => tagE (l := [1, 4]) rfl hr rfl⟩
 · exact ⟨_, _, _, rfl, ints .i64 [8, 9], rfl, (fun h => by cases h), small_at h7, one_ints, rfl, by omega, by omega, Br.f rfl (fun a cp J _ hr => tagE (l := [8, 9]) rfl hr rfl)⟩
 · exact ⟨_, _, _, rfl, ints .i64 [], rfl, (fun h => by cases h), small_at h8, one_ints, rfl, by omega, by omega, Br.f rfl (fun a cp J _ hr => tagE (l := []) rfl hr rfl)⟩
def refQ (r : Rq) (l : List Int) (t : Int) : Bool := decide (0 <= numR r t) && (decide (numR r t <= 0) || decide (t ∈ l))
def refR (r : Rq) : Bool := match tagL r.kind r.what with
 | none => false
 | some l => decide (r.name.size <= 255) && decide (r.fed.length <= 15000) && ([3, 4, 5, 6, 7, 8, 9].all (refQ r l) && ((decide (r.what = 0) || decide ((1 : Int) ∈ l)) && ((decide (r.name = ⟨#[]⟩) || decide ((2 : Int) ∈ l)) && ((decide (r.val = 0) || decide ((10 : Int) ∈ l)) && (decide (r.fed = []) || decide ((11 : Int) ∈ l))))))
theorem refR_eq {r : Rq} (hr : okRq r) : refR r = rightR r := by
 rw [right_eq hr, refR, rightS]
 cases hq : tagL r.kind r.what with
 | none => rfl
 | some l =>
   simp only
   rw [Bool.and_assoc]
   congr 2
   have hsh := tagL_shape hq;simp only [shapesL, List.mem_cons, List.not_mem_nil, or_false] at hsh;obtain ⟨e, he⟩ : ∃ e : ByteArray, e = ⟨#[]⟩ := ⟨_, rfl⟩
   have hh : had0 r = { kind := r.kind, what := 0, name := e, p3 := 0, p4 := 0, p5 := 0, p6 := 0, p7 := 0, p8 := 0, p9 := 0, val := 0, fed := [] } := by rw [he]; rfl
   rw [hh, <- he]
   clear hh he hq hr
   by_cases hnm : r.name = e
   · by_cases hfd : r.fed = []
     · rcases hsh with rfl | rfl | rfl | rfl | rfl | rfl | rfl | rfl | rfl | rfl | rfl | rfl
       all_goals
        rw [Bool.eq_iff_iff];simp [refQ, okT, numR, sameR, copyT, hnm, hfd]
        try omega
     · have hfd' : ¬ [] = r.fed := fun h => hfd h.symm
       rcases hsh with rfl | rfl | rfl | rfl | rfl | rfl | rfl | rfl | rfl | rfl | rfl | rfl
       all_goals
        rw [Bool.eq_iff_iff];simp [refQ, okT, numR, sameR, copyT, hnm, hfd, hfd']
        try omega
   · have hnm' : ¬ e = r.name := fun h => hnm h.symm
     by_cases hfd : r.fed = []
     · rcases hsh with rfl | rfl | rfl | rfl | rfl | rfl | rfl | rfl | rfl | rfl | rfl | rfl
       all_goals
        rw [Bool.eq_iff_iff];simp [refQ, okT, numR, sameR, copyT, hnm, hnm', hfd]
        try omega
     · have hfd' : ¬ [] = r.fed := fun h => hfd h.symm
       rcases hsh with rfl | rfl | rfl | rfl | rfl | rfl | rfl | rfl | rfl | rfl | rfl | rfl
       all_goals
        rw [Bool.eq_iff_iff];simp [refQ, okT, numR, sameR, copyT, hnm, hnm', hfd, hfd']
        try omega
theorem ct46 (r : Rq) (hr : okRq r) (y : Value) (I : Mem) (hy : BySl I y r.fed) (hn : r.fed.length <= 1000000) :
 Ct Try.prog (fnv 46) #[.agg (rqV r y).toArray] I (fun v _ => v = .bool (rightR r)) := by
 obtain ⟨a1, n1, c1, rfl, hs1, _⟩ := hy
 refine viaR (ct_via (A := { befores := [(1, [0])], cuts := [(10, ⟨[(1, .keep), (3, .keep)], [], [], fun vals _ _ _ => ∀ i : Int, 3 <= i -> i <= 9 -> refQ r (tagsR r) i = true, fun _ _ => 0⟩)], loops := [(5, ⟨[(1, .keep), (3, .keep), (5, .sh (.int .i64))], [], [], fun vals _ _ _ => match vals with | [.int .i64 j] => 3 <= j /\ j <= 10 /\ ∀ i : Int, 3 <= i -> i <= 9 -> i < j -> refQ r (tagsR r) i = true | _ => False, fun vals _ => match vals with | [.int .i64 j] => (10 - j).toNat | _ => 0⟩)] }) Try.func46 rfl Try.call46 rfl rfl) (∀ (b : Nat) (a : Mem), I.le a -> a b = some (.cells #[.int .u8 r.kind, .int .u8 r.what, .string r.name, .int .i64 r.p3, .int .i64 r.p4, .int .i64 r.p5, .int .i64 r.p6, .int .i64 r.p7, .int .i64 r.p8, .int .i64 r.p9, .int .i64 r.val, .slice a1 n1 c1] 55 (0, 0)) -> true = true /\ ∃ n, atI a (some ⟨b, 0, none⟩) 0 = some (.int .u8 n) /\ true = true /\ ∃ c, atI a (some ⟨b, 0, none⟩) 1 = some (.int .u8 c) /\ Ct Try.prog (fnv 26) #[.int .u8 n, .int .u8 c] a fun v d => ∃ e f g h, v = .tuple #[.slice e f g, .bool h] /\ Br (!h) (Value.bool false = .bool (rightR r)) (true = true /\ ∃ q, atI d (some ⟨b, 0, none⟩) 2 = some (.string q) /\ Br (decide (255 < (q.size : Int))) (Value.bool false = .bool (rightR r)) (true = true /\ ∃ i j k, atI d (some ⟨b, 0, none⟩) 11 = some (.slice i j k) /\ Br (decide (15000 < (j : Int))) (Value.bool false = .bool (rightR r)) (((Rf (SV.v (.pointer (some ⟨b, 0, none⟩))) /\ Rf (SV.v (.slice e f g)) /\ (3 : Int) <= 3 /\ (3 : Int) <= 10 /\ ∀ (l : Int), 3 <= l -> l <= 9 -> l < 3 -> refQ r (tagsR r) l = true) /\ ∀ (l : Mem), Mem -> d.le l -> ∀ (m : Int), 3 <= m /\ m <= 10 /\ (∀ (o : Int), 3 <= o -> o <= 9 -> o < m -> refQ r (tagsR r) o = true) -> Br (decide (m < 10)) ((12 : Nat) = 12 /\ ∃ o, atI l (some ⟨b, 0, none⟩) 0 = some (.int .u8 o) /\ ∃ p, atI l (some ⟨b, 0, none⟩) 1 = some (.int .u8 p) /\ ∃ s, atI l (some ⟨b, 0, none⟩) 2 = some (.string s) /\ ∃ t, atI l (some ⟨b, 0, none⟩) 3 = some (.int .i64 t) /\ ∃ u, atI l (some ⟨b, 0, none⟩) 4 = some (.int .i64 u) /\ ∃ w, atI l (some ⟨b, 0, none⟩) 5 = some (.int .i64 w) /\ ∃ x, atI l (some ⟨b, 0, none⟩) 6 = some (.int .i64 x) /\ ∃ y, atI l (some ⟨b, 0, none⟩) 7 = some (.int .i64 y) /\ ∃ z, atI l (some ⟨b, 0, none⟩) 8 = some (.int .i64 z) /\ ∃ n2, atI l (some ⟨b, 0, none⟩) 9 = some (.int .i64 n2) /\ ∃ n3, atI l (some ⟨b, 0, none⟩) 10 = some (.int .i64 n3) /\ ∃ a2 n4 c2, atI l (some ⟨b, 0, none⟩) 11 = some (.slice a2 n4 c2) /\ Ct Try.prog (fnv 50) #[.agg #[.int .u8 o, .int .u8 p, .string s, .int .i64 t, .int .i64 u, .int .i64 w, .int .i64 x, .int .i64 y, .int .i64 z, .int .i64 n2, .int .i64 n3, .slice a2 n4 c2], .int .i64 m] l fun v1 I1 => ∃ n5, v1 = .int .i64 n5 /\ Br (decide (n5 < 0)) (Value.bool false = .bool (rightR r)) (Br (decide (0 < n5)) (Ct Try.prog (fnv 69) #[.slice e f g, .int .i64 m] I1 (fun v2 I2 => ∃ b1, v2 = .bool b1 /\ Br (!b1) (Value.bool false = .bool (rightR r)) (Wr .i64 (m + 1) (fun c3 => Rf (SV.v (.pointer (some ⟨b, 0, none⟩))) /\ Rf (SV.v (.slice e f g)) /\ (3 <= c3 /\ c3 <= 10 /\ ∀ (i1 : Int), 3 <= i1 -> i1 <= 9 -> i1 < c3 -> refQ r (tagsR r) i1 = true) /\ Int.toNat (10 - c3) < Int.toNat (10 - m))))) (Wr .i64 (m + 1) (fun c3 => Rf (SV.v (.pointer (some ⟨b, 0, none⟩))) /\ Rf (SV.v (.slice e f g)) /\ (3 <= c3 /\ c3 <= 10 /\ ∀ (i1 : Int), 3 <= i1 -> i1 <= 9 -> i1 < c3 -> refQ r (tagsR r) i1 = true) /\ Int.toNat (10 - c3) < Int.toNat (10 - m))))) (Rf (SV.v (.pointer (some ⟨b, 0, none⟩))) /\ Rf (SV.v (.slice e f g)) /\ ∀ (o : Int), 3 <= o -> o <= 9 -> refQ r (tagsR r) o = true)) /\ ∀ (l : Mem), Mem -> d.le l -> (∀ (m : Int), 3 <= m -> m <= 9 -> refQ r (tagsR r) m = true) -> true = true /\ ∃ m, atI l (some ⟨b, 0, none⟩) 1 = some (.int .u8 m) /\ Br (m == 0) (true = true /\ ∃ o, atI l (some ⟨b, 0, none⟩) 2 = some (.string o) /\ Br (o.toList == (ByteArray.mk #[]).toList) (true = true /\ ∃ p, atI l (some ⟨b, 0, none⟩) 10 = some (.int .i64 p) /\ Br (p == 0) (true = true /\ ∃ s t u, atI l (some ⟨b, 0, none⟩) 11 = some (.slice s t u) /\ Br ((t : Int) == 0) (Value.bool true = .bool (rightR r)) (Ct Try.prog (fnv 69) #[.slice e f g, .int .i64 11] l (fun w x => ∃ y, w = .bool y /\ Value.bool y = .bool (rightR r)))) (Ct Try.prog (fnv 69) #[.slice e f g, .int .i64 10] l (fun s t => ∃ u, s = .bool u /\ Br u (true = true /\ ∃ w x y, atI t (some ⟨b, 0, none⟩) 11 = some (.slice w x y) /\ Br ((x : Int) == 0) (Value.bool true = .bool (rightR r)) (Ct Try.prog (fnv 69) #[.slice e f g, .int .i64 11] t (fun z I1 => ∃ b1, z = .bool b1 /\ Value.bool b1 = .bool (rightR r)))) (Value.bool false = .bool (rightR r))))) (Ct Try.prog (fnv 69) #[.slice e f g, .int .i64 2] l (fun p s => ∃ t, p = .bool t /\ Br t (true = true /\ ∃ u, atI s (some ⟨b, 0, none⟩) 10 = some (.int .i64 u) /\ Br (u == 0) (true = true /\ ∃ w x y, atI s (some ⟨b, 0, none⟩) 11 = some (.slice w x y) /\ Br ((x : Int) == 0) (Value.bool true = .bool (rightR r)) (Ct Try.prog (fnv 69) #[.slice e f g, .int .i64 11] s (fun z I1 => ∃ b1, z = .bool b1 /\ Value.bool b1 = .bool (rightR r)))) (Ct Try.prog (fnv 69) #[.slice e f g, .int .i64 10] s (fun w x => ∃ y, w = .bool y /\ Br y (true = true /\ ∃ z n2 c2, atI x (some ⟨b, 0, none⟩) 11 = some (.slice z n2 c2) /\ Br ((n2 : Int) == 0) (Value.bool true = .bool (rightR r)) (Ct Try.prog (fnv 69) #[.slice e f g, .int .i64 11] x (fun v1 I1 => ∃ b1, v1 = .bool b1 /\ Value.bool b1 = .bool (rightR r)))) (Value.bool false = .bool (rightR r))))) (Value.bool false = .bool (rightR r))))) (Ct Try.prog (fnv 69) #[.slice e f g, .int .i64 1] l (fun o p => ∃ s, o = .bool s /\ Br s (true = true /\ ∃ t, atI p (some ⟨b, 0, none⟩) 2 = some (.string t) /\ Br (t.toList == (ByteArray.mk #[]).toList) (true = true /\ ∃ u, atI p (some ⟨b, 0, none⟩) 10 = some (.int .i64 u) /\ Br (u == 0) (true = true /\ ∃ w x y, atI p (some ⟨b, 0, none⟩) 11 = some (.slice w x y) /\ Br ((x : Int) == 0) (Value.bool true = .bool (rightR r)) (Ct Try.prog (fnv 69) #[.slice e f g, .int .i64 11] p (fun z I1 => ∃ b1, z = .bool b1 /\ Value.bool b1 = .bool (rightR r)))) (Ct Try.prog (fnv 69) #[.slice e f g, .int .i64 10] p (fun w x => ∃ y, w = .bool y /\ Br y (true = true /\ ∃ z n2 c2, atI x (some ⟨b, 0, none⟩) 11 = some (.slice z n2 c2) /\ Br ((n2 : Int) == 0) (Value.bool true = .bool (rightR r)) (Ct Try.prog (fnv 69) #[.slice e f g, .int .i64 11] x (fun v1 I1 => ∃ b1, v1 = .bool b1 /\ Value.bool b1 = .bool (rightR r)))) (Value.bool false = .bool (rightR r))))) (Ct Try.prog (fnv 69) #[.slice e f g, .int .i64 2] p (fun u w => ∃ x, u = .bool x /\ Br x (true = true /\ ∃ y, atI w (some ⟨b, 0, none⟩) 10 = some (.int .i64 y) /\ Br (y == 0) (true = true /\ ∃ z n2 c2, atI w (some ⟨b, 0, none⟩) 11 = some (.slice z n2 c2) /\ Br ((n2 : Int) == 0) (Value.bool true = .bool (rightR r)) (Ct Try.prog (fnv 69) #[.slice e f g, .int .i64 11] w (fun v1 I1 => ∃ b1, v1 = .bool b1 /\ Value.bool b1 = .bool (rightR r)))) (Ct Try.prog (fnv 69) #[.slice e f g, .int .i64 10] w (fun z I1 => ∃ b1, z = .bool b1 /\ Br b1 (true = true /\ ∃ a2 n2 c2, atI I1 (some ⟨b, 0, none⟩) 11 = some (.slice a2 n2 c2) /\ Br ((n2 : Int) == 0) (Value.bool true = .bool (rightR r)) (Ct Try.prog (fnv 69) #[.slice e f g, .int .i64 11] I1 (fun v1 I2 => ∃ b2, v1 = .bool b2 /\ Value.bool b2 = .bool (rightR r)))) (Value.bool false = .bool (rightR r))))) (Value.bool false = .bool (rightR r))))) (Value.bool false = .bool (rightR r)))))))) (by kernel_rfl) ?_
 intro b I1 l1 hb;obtain ⟨sfr, hsf⟩ : ∃ R, R = rightR r := ⟨_, rfl⟩;refine ⟨rfl, _, atC hb rfl, rfl, _, atC hb rfl, (ct26 r.kind r.what hr.kind hr.what I1).mono fun v I2 l2 ⟨a, n, c, hv, hs, hn1, hc1⟩ => ⟨_, _, _, _, hv, Br.mk (fun h => ?_) (fun h => ?_)⟩⟩
 · have h : tagL r.kind r.what = none := by simpa using h
   rw [right_none h]
 have h : (tagL r.kind r.what).isSome = true := by simpa using h
 obtain ⟨l, hq⟩ := Option.isSome_iff_exists.1 h;rw [hq, Option.getD_some] at hs
 have htg : tagsR r = l := by rw [tagsR, hq]; rfl
 rw [htg];have hll := tagL_ok hq;have hln := hs.numLen;have hb2 := l2 _ _ hb;have hfl := hs1.numLen;refine ⟨rfl, _, atC hb2 rfl, Br.mk (fun g => ?_) (fun g1 => ⟨rfl, _, _, _, atC hb2 rfl, Br.mk (fun g => ?_) (fun g2 => ?_)⟩)⟩
 · have g := of_decide_eq_true g
   rw [right_size (.inl (by omega))]
 · have g := of_decide_eq_true g
   rw [right_size (.inr (by omega))]
 have g1 := of_decide_eq_false g1;have g2 := of_decide_eq_false g2
 have hR : rightR r = ([3, 4, 5, 6, 7, 8, 9].all (refQ r l) && ((decide (r.what = 0) || decide ((1 : Int) ∈ l)) && ((decide (r.name = ⟨#[]⟩) || decide ((2 : Int) ∈ l)) && ((decide (r.val = 0) || decide ((10 : Int) ∈ l)) && (decide (r.fed = []) || decide ((11 : Int) ∈ l)))))) := by
  rw [<- refR_eq hr, refR, hq]
  simp only
  rw [decide_eq_true (by omega : r.name.size <= 255), decide_eq_true (by omega : r.fed.length <= 15000)]; rfl
 have C : ∀ (t : Int) (J : Mem), I2.le J -> Ct Try.prog (fnv 69) #[.slice a n c, .int .i64 t] J (fun v _ => v = .bool (decide (t ∈ l))) := fun t J lJ => ct69 l t a n c J (hs.mono lJ) (by omega)
 refine ⟨⟨⟨rfl, rfl, by omega, by omega, fun i h3 h9 h => by omega⟩, fun I3 _ l3 j ⟨j3, j10, hj⟩ => Br.mk (fun hlt => ?_) (fun hge => ?_)⟩, ?_⟩
 · have hlt := of_decide_eq_true hlt
   have hb3 := l3 _ _ hb2
   have NO : refQ r l j = false -> Value.bool false = Value.bool (rightR r) := fun hx => by
    have : [3, 4, 5, 6, 7, 8, 9].all (refQ r l) = false := by
     cases hz : [3, 4, 5, 6, 7, 8, 9].all (refQ r l) with
     | false => rfl
     | true =>
       have := (List.all_eq_true.1 hz) j (by rcases (by omega : j = 3 \/ j = 4 \/ j = 5 \/ j = 6 \/ j = 7 \/ j = 8 \/ j = 9) with rfl | rfl | rfl | rfl | rfl | rfl | rfl <;> simp)
       rw [hx] at this; cases this
    rw [hR, this, Bool.false_and]
   have YES : refQ r l j = true -> ∀ i : Int, 3 <= i -> i <= 9 -> i < j + 1 -> refQ r l i = true := fun hx i h3 h9 hi => by
    by_cases hij : i = j
    · rw [hij]; exact hx
    · exact hj i h3 h9 (by omega)
   refine ⟨rfl, _, atC hb3 rfl, _, atC hb3 rfl, _, atC hb3 rfl, _, atC hb3 rfl, _, atC hb3 rfl, _, atC hb3 rfl, _, atC hb3 rfl, _, atC hb3 rfl, _, atC hb3 rfl, _, atC hb3 rfl, _, atC hb3 rfl, _, _, _, atC hb3 rfl, ?_⟩
   refine (ct50 r _ j ⟨j3, by omega⟩ I3).mono fun v I4 l4 hv => ⟨_, hv, Br.mk (fun g => ?_) (fun g => Br.mk (fun g' => ?_) (fun g' => ?_))⟩
   · have g := of_decide_eq_true g
     exact NO (by rw [refQ, decide_eq_false (by omega), Bool.false_and])
   · have g := of_decide_eq_false g
     have g' := of_decide_eq_true g';refine (C j I4 (Mem.le_trans l3 l4)).mono fun v I5 l5 hv => ⟨_, hv, Br.mk (fun k => ?_) (fun k => ?_)⟩
     · have k : ¬ j ∈ l := by simpa using k
       exact NO (by rw [refQ, decide_eq_false (p := numR r j <= 0) (by omega), decide_eq_false k]; simp)
     · have k : j ∈ l := by simpa using k
       exact wr_i64 (by omega) (by omega) ⟨rfl, rfl, ⟨by omega, by omega, YES (by rw [refQ, decide_eq_true k, decide_eq_true (by omega)]; simp)⟩, by omega⟩
   · have g := of_decide_eq_false g
     have g' := of_decide_eq_false g'
     exact wr_i64 (by omega) (by omega) ⟨rfl, rfl, ⟨by omega, by omega, YES (by rw [refQ, decide_eq_true (by omega : 0 <= numR r j), decide_eq_true (by omega : numR r j <= 0)]; rfl)⟩, by omega⟩
 · have hge := of_decide_eq_false hge
   exact ⟨rfl, rfl, fun i h3 h9 => hj i h3 h9 (by omega)⟩
 intro I3 _ l3 hall;have hb3 := (Mem.le_trans l2 l3) _ _ hb
 have ha : [3, 4, 5, 6, 7, 8, 9].all (refQ r l) = true := by
  rw [List.all_eq_true];intro i hi;simp only [List.mem_cons, List.not_mem_nil, or_false] at hi
  exact hall i (by omega) (by omega)
 rw [ha, Bool.true_and] at hR
 have sF : ∀ J, I3.le J -> rightR r = (decide (r.fed = []) || decide ((11 : Int) ∈ l)) -> (true = true /\ ∃ a_4 n_5 c_2, atI J (some { block := b, off := 0 }) 11 = some (Value.slice a_4 n_5 c_2) /\ Br (((n_5 : Nat) : Int) == 0) (Value.bool true = Value.bool (rightR r)) (Ct Try.prog (fnv 69) #[Value.slice a n c, Value.int IntKind.i64 11] J fun v I' => ∃ b, v = Value.bool b /\ Value.bool b = Value.bool (rightR r))) := fun J lJ e => by
  refine ⟨rfl, _, _, _, atC (lJ _ _ hb3) rfl, Br.mk (fun g => ?_) (fun g => ?_)⟩
  · have g : n1 = 0 := by simpa using g
    rw [e, decide_eq_true (List.eq_nil_of_length_eq_zero (by omega))]; rfl
  · have g : n1 ≠ 0 := by simpa using g
    refine (C 11 J (Mem.le_trans l3 lJ)).mono fun v I5 l5 hv => ⟨_, hv, ?_⟩
    rw [e, decide_eq_false (p := r.fed = []) (fun hc => by rw [hc] at hfl; simp at hfl; omega), Bool.false_or]
 have sV : ∀ J, I3.le J -> rightR r = ((decide (r.val = 0) || decide ((10 : Int) ∈ l)) && (decide (r.fed = []) || decide ((11 : Int) ∈ l))) -> (true = true /\ ∃ n_4, atI J (some { block := b, off := 0 }) 10 = some (Value.int IntKind.i64 n_4) /\ Br (n_4 == 0) (true = true /\ ∃ a_4 n_5 c_2, atI J (some { block := b, off := 0 }) 11 = some (Value.slice a_4 n_5 c_2) /\ Br (((n_5 : Nat) : Int) == 0) (Value.bool true = Value.bool (rightR r)) (Ct Try.prog (fnv 69) #[Value.slice a n c, Value.int IntKind.i64 11] J fun v I' => ∃ b, v = Value.bool b /\ Value.bool b = Value.bool (rightR r))) (Ct Try.prog (fnv 69) #[Value.slice a n c, Value.int IntKind.i64 10] J fun v I' => ∃ b_2, v = Value.bool b_2 /\ Br b_2 (true = true /\ ∃ a_4 n_5 c_2, atI I' (some { block := b, off := 0 }) 11 = some (Value.slice a_4 n_5 c_2) /\ Br (((n_5 : Nat) : Int) == 0) (Value.bool true = Value.bool (rightR r)) (Ct Try.prog (fnv 69) #[Value.slice a n c, Value.int IntKind.i64 11] I' fun v I' => ∃ b, v = Value.bool b /\ Value.bool b = Value.bool (rightR r))) (Value.bool false = Value.bool (rightR r)))) := fun J lJ e => by
  refine ⟨rfl, _, atC (lJ _ _ hb3) rfl, Br.mk (fun g => ?_) (fun g => ?_)⟩
  · have g := eqv g
    exact sF J lJ (by rw [e, decide_eq_true g]; simp)
  · have g := nev g
    refine (C 10 J (Mem.le_trans l3 lJ)).mono fun v I5 l5 hv => ⟨_, hv, Br.mk (fun k => ?_) (fun k => ?_)⟩
    · exact sF I5 (Mem.le_trans lJ l5) (by rw [e, k]; simp)
    · rw [e, k, decide_eq_false g]; rfl
 have sN : ∀ J, I3.le J -> rightR r = ((decide (r.name = ⟨#[]⟩) || decide ((2 : Int) ∈ l)) && ((decide (r.val = 0) || decide ((10 : Int) ∈ l)) && (decide (r.fed = []) || decide ((11 : Int) ∈ l)))) -> (true = true /\ ∃ q, atI J (some { block := b, off := 0 }) 2 = some (Value.string q) /\ Br (q.toList == (⟨#[]⟩ : ByteArray).toList) (true = true /\ ∃ n_4, atI J (some { block := b, off := 0 }) 10 = some (Value.int IntKind.i64 n_4) /\ Br (n_4 == 0) (true = true /\ ∃ a_4 n_5 c_2, atI J (some { block := b, off := 0 }) 11 = some (Value.slice a_4 n_5 c_2) /\ Br (((n_5 : Nat) : Int) == 0) (Value.bool true = Value.bool (rightR r)) (Ct Try.prog (fnv 69) #[Value.slice a n c, Value.int IntKind.i64 11] J fun v I' => ∃ b, v = Value.bool b /\ Value.bool b = Value.bool (rightR r))) (Ct Try.prog (fnv 69) #[Value.slice a n c, Value.int IntKind.i64 10] J fun v I' => ∃ b_2, v = Value.bool b_2 /\ Br b_2 (true = true /\ ∃ a_4 n_5 c_2, atI I' (some { block := b, off := 0 }) 11 = some (Value.slice a_4 n_5 c_2) /\ Br (((n_5 : Nat) : Int) == 0) (Value.bool true = Value.bool (rightR r)) (Ct Try.prog (fnv 69) #[Value.slice a n c, Value.int IntKind.i64 11] I' fun v I' => ∃ b, v = Value.bool b /\ Value.bool b = Value.bool (rightR r))) (Value.bool false = Value.bool (rightR r)))) (Ct Try.prog (fnv 69) #[Value.slice a n c, Value.int IntKind.i64 2] J fun v I' => ∃ b_2, v = Value.bool b_2 /\ Br b_2 (true = true /\ ∃ n_4, atI I' (some { block := b, off := 0 }) 10 = some (Value.int IntKind.i64 n_4) /\ Br (n_4 == 0) (true = true /\ ∃ a_4 n_5 c_2, atI I' (some { block := b, off := 0 }) 11 = some (Value.slice a_4 n_5 c_2) /\ Br (((n_5 : Nat) : Int) == 0) (Value.bool true = Value.bool (rightR r)) (Ct Try.prog (fnv 69) #[Value.slice a n c, Value.int IntKind.i64 11] I' fun v K => ∃ b, v = Value.bool b /\ Value.bool b = Value.bool (rightR r))) (Ct Try.prog (fnv 69) #[Value.slice a n c, Value.int IntKind.i64 10] I' fun v K => ∃ b_2, v = Value.bool b_2 /\ Br b_2 (true = true /\ ∃ a_4 n_5 c_2, atI K (some { block := b, off := 0 }) 11 = some (Value.slice a_4 n_5 c_2) /\ Br (((n_5 : Nat) : Int) == 0) (Value.bool true = Value.bool (rightR r)) (Ct Try.prog (fnv 69) #[Value.slice a n c, Value.int IntKind.i64 11] K fun v K => ∃ b, v = Value.bool b /\ Value.bool b = Value.bool (rightR r))) (Value.bool false = Value.bool (rightR r)))) (Value.bool false = Value.bool (rightR r)))) := fun J lJ e => by
  refine ⟨rfl, _, atC (lJ _ _ hb3) rfl, Br.mk (fun g => ?_) (fun g => ?_)⟩
  · rw [str_eq] at g
    have g : r.name = ⟨#[]⟩ := by simpa using g
    exact sV J lJ (by rw [e, decide_eq_true g]; simp)
  · rw [str_eq] at g
    have g : ¬ r.name = ⟨#[]⟩ := by simpa using g
    refine (C 2 J (Mem.le_trans l3 lJ)).mono fun v I5 l5 hv => ⟨_, hv, Br.mk (fun k => ?_) (fun k => ?_)⟩
    · exact sV I5 (Mem.le_trans lJ l5) (by rw [e, k]; simp)
    · rw [e, k, decide_eq_false g]; rfl
 refine ⟨rfl, _, atC hb3 rfl, Br.mk (fun g => ?_) (fun g => ?_)⟩
 · have g := eqv g
   exact sN I3 (Mem.le_refl _) (by rw [hR, decide_eq_true g]; simp)
 · have g := nev g
   refine (C 1 I3 l3).mono fun v I5 l5 hv => ⟨_, hv, Br.mk (fun k => ?_) (fun k => ?_)⟩
   · exact sN I5 l5 (by rw [hR, k]; simp)
   · rw [hR, k, decide_eq_false g]; rfl
theorem ct36 (r q : Rq) (hr : okRq r) (hq : okRq q) (y z : Value) (I : Mem) (hy : BySl I y r.fed) (hz : BySl I z q.fed) (hn : r.fed.length <= 1000000) :
 Ct Try.prog (fnv 36) #[.agg (rqV r y).toArray, .agg (rqV q z).toArray] I (fun v _ => v = .bool (sameR r q)) := by
 obtain ⟨a1, n1, c1, rfl, hs1, _⟩ := hy;obtain ⟨a2, n2, c2, rfl, hs2, _⟩ := hz
 refine viaR (ct_via (A := { befores := [(1, [0, 1])], loops := [(4, ⟨[(2, .keep), (3, .keep), (5, .sh (.int .i64))], [], [], fun vals _ _ _ => match vals with | [.int .i64 j] => 0 <= j /\ j <= n1 /\ r.fed.take j.toNat = q.fed.take j.toNat | _ => False, fun vals _ => match vals with | [.int .i64 j] => (n1 - j).toNat | _ => 0⟩), (9, ⟨[(2, .keep), (3, .keep), (6, .sh (.int .i64))], [], [], fun vals _ _ _ => match vals with | [.int .i64 j] => 3 <= j /\ j <= 10 /\ ∀ i : Int, 3 <= i -> i <= 9 -> i < j -> numR r i = numR q i | _ => False, fun vals _ => match vals with | [.int .i64 j] => (10 - j).toNat | _ => 0⟩)] }) Try.func36 rfl Try.call36 rfl rfl) (∀ (b : Nat) (a : Mem), I.le a -> a b = some (.cells #[.int .u8 r.kind, .int .u8 r.what, .string r.name, .int .i64 r.p3, .int .i64 r.p4, .int .i64 r.p5, .int .i64 r.p6, .int .i64 r.p7, .int .i64 r.p8, .int .i64 r.p9, .int .i64 r.val, .slice a1 n1 c1] 55 (0, 0)) -> ∀ (c : Nat) (d : Mem), a.le d -> d c = some (.cells #[.int .u8 q.kind, .int .u8 q.what, .string q.name, .int .i64 q.p3, .int .i64 q.p4, .int .i64 q.p5, .int .i64 q.p6, .int .i64 q.p7, .int .i64 q.p8, .int .i64 q.p9, .int .i64 q.val, .slice a2 n2 c2] 55 (0, 0)) -> true = true /\ ∃ e n f, atI d (some ⟨b, 0, none⟩) 11 = some (.slice e n f) /\ true = true /\ ∃ g h i, atI d (some ⟨c, 0, none⟩) 11 = some (.slice g h i) /\ Br ((n : Int) != (h : Int)) (Value.bool false = .bool (sameR r q)) ((Rf (SV.v (.pointer (some ⟨b, 0, none⟩))) /\ Rf (SV.v (.pointer (some ⟨c, 0, none⟩))) /\ (0 : Int) <= 0 /\ 0 <= (n1 : Int) /\ Rf ([] : List Int)) /\ ∀ (j : Mem), Mem -> d.le j -> ∀ (k : Int), 0 <= k /\ k <= (n1 : Int) /\ List.take k.toNat r.fed = List.take k.toNat q.fed -> true = true /\ ∃ l m o, atI j (some ⟨b, 0, none⟩) 11 = some (.slice l m o) /\ Br (decide (k < (m : Int))) (true = true /\ ∃ p s t, atI j (some ⟨b, 0, none⟩) 11 = some (.slice p s t) /\ 0 <= k /\ k < (s : Int) /\ p.isSome = true /\ ∃ u, atI j p (k.toNat * 1 + 0) = some (.int .u8 u) /\ true = true /\ ∃ v w x, atI j (some ⟨c, 0, none⟩) 11 = some (.slice v w x) /\ 0 <= k /\ k < (w : Int) /\ v.isSome = true /\ ∃ y, atI j v (k.toNat * 1 + 0) = some (.int .u8 y) /\ Br (u != y) (Value.bool false = .bool (sameR r q)) (Wr .i64 (k + 1) (fun z => Rf (SV.v (.pointer (some ⟨b, 0, none⟩))) /\ Rf (SV.v (.pointer (some ⟨c, 0, none⟩))) /\ (0 <= z /\ z <= (n1 : Int) /\ List.take z.toNat r.fed = List.take z.toNat q.fed) /\ Int.toNat ((n1 : Int) - z) < Int.toNat ((n1 : Int) - k)))) ((Rf (SV.v (.pointer (some ⟨b, 0, none⟩))) /\ Rf (SV.v (.pointer (some ⟨c, 0, none⟩))) /\ (3 : Int) <= 3 /\ (3 : Int) <= 10 /\ ∀ (p : Int), 3 <= p -> p <= 9 -> p < 3 -> numR r p = numR q p) /\ ∀ (p : Mem), Mem -> j.le p -> ∀ (s : Int), 3 <= s /\ s <= 10 /\ (∀ (t : Int), 3 <= t -> t <= 9 -> t < s -> numR r t = numR q t) -> Br (decide (s < 10)) ((12 : Nat) = 12 /\ ∃ t, atI p (some ⟨b, 0, none⟩) 0 = some (.int .u8 t) /\ ∃ u, atI p (some ⟨b, 0, none⟩) 1 = some (.int .u8 u) /\ ∃ v, atI p (some ⟨b, 0, none⟩) 2 = some (.string v) /\ ∃ w, atI p (some ⟨b, 0, none⟩) 3 = some (.int .i64 w) /\ ∃ x, atI p (some ⟨b, 0, none⟩) 4 = some (.int .i64 x) /\ ∃ y, atI p (some ⟨b, 0, none⟩) 5 = some (.int .i64 y) /\ ∃ z, atI p (some ⟨b, 0, none⟩) 6 = some (.int .i64 z) /\ ∃ n3, atI p (some ⟨b, 0, none⟩) 7 = some (.int .i64 n3) /\ ∃ n4, atI p (some ⟨b, 0, none⟩) 8 = some (.int .i64 n4) /\ ∃ n5, atI p (some ⟨b, 0, none⟩) 9 = some (.int .i64 n5) /\ ∃ n6, atI p (some ⟨b, 0, none⟩) 10 = some (.int .i64 n6) /\ ∃ a3 n7 c3, atI p (some ⟨b, 0, none⟩) 11 = some (.slice a3 n7 c3) /\ (12 : Nat) = 12 /\ ∃ n8, atI p (some ⟨c, 0, none⟩) 0 = some (.int .u8 n8) /\ ∃ n9, atI p (some ⟨c, 0, none⟩) 1 = some (.int .u8 n9) /\ ∃ q1, atI p (some ⟨c, 0, none⟩) 2 = some (.string q1) /\ ∃ n10, atI p (some ⟨c, 0, none⟩) 3 = some (.int .i64 n10) /\ ∃ n11, atI p (some ⟨c, 0, none⟩) 4 = some (.int .i64 n11) /\ ∃ n12, atI p (some ⟨c, 0, none⟩) 5 = some (.int .i64 n12) /\ ∃ n13, atI p (some ⟨c, 0, none⟩) 6 = some (.int .i64 n13) /\ ∃ n14, atI p (some ⟨c, 0, none⟩) 7 = some (.int .i64 n14) /\ ∃ n15, atI p (some ⟨c, 0, none⟩) 8 = some (.int .i64 n15) /\ ∃ n16, atI p (some ⟨c, 0, none⟩) 9 = some (.int .i64 n16) /\ ∃ n17, atI p (some ⟨c, 0, none⟩) 10 = some (.int .i64 n17) /\ ∃ a4 n18 c4, atI p (some ⟨c, 0, none⟩) 11 = some (.slice a4 n18 c4) /\ Ct Try.prog (fnv 50) #[.agg #[.int .u8 t, .int .u8 u, .string v, .int .i64 w, .int .i64 x, .int .i64 y, .int .i64 z, .int .i64 n3, .int .i64 n4, .int .i64 n5, .int .i64 n6, .slice a3 n7 c3], .int .i64 s] p fun v1 I1 => ∃ n19, v1 = .int .i64 n19 /\ Ct Try.prog (fnv 50) #[.agg #[.int .u8 n8, .int .u8 n9, .string q1, .int .i64 n10, .int .i64 n11, .int .i64 n12, .int .i64 n13, .int .i64 n14, .int .i64 n15, .int .i64 n16, .int .i64 n17, .slice a4 n18 c4], .int .i64 s] I1 fun v2 I2 => ∃ n20, v2 = .int .i64 n20 /\ Br (n19 != n20) (Value.bool false = .bool (sameR r q)) (Wr .i64 (s + 1) (fun c5 => Rf (SV.v (.pointer (some ⟨b, 0, none⟩))) /\ Rf (SV.v (.pointer (some ⟨c, 0, none⟩))) /\ (3 <= c5 /\ c5 <= 10 /\ ∀ (i1 : Int), 3 <= i1 -> i1 <= 9 -> i1 < c5 -> numR r i1 = numR q i1) /\ Int.toNat (10 - c5) < Int.toNat (10 - s)))) (true = true /\ ∃ t, atI p (some ⟨b, 0, none⟩) 0 = some (.int .u8 t) /\ true = true /\ ∃ u, atI p (some ⟨c, 0, none⟩) 0 = some (.int .u8 u) /\ Br (t == u) (true = true /\ ∃ v, atI p (some ⟨b, 0, none⟩) 1 = some (.int .u8 v) /\ true = true /\ ∃ w, atI p (some ⟨c, 0, none⟩) 1 = some (.int .u8 w) /\ Br (v == w) (true = true /\ ∃ x, atI p (some ⟨b, 0, none⟩) 2 = some (.string x) /\ true = true /\ ∃ y, atI p (some ⟨c, 0, none⟩) 2 = some (.string y) /\ Br (x.toList == y.toList) (true = true /\ ∃ z, atI p (some ⟨b, 0, none⟩) 10 = some (.int .i64 z) /\ true = true /\ ∃ n3, atI p (some ⟨c, 0, none⟩) 10 = some (.int .i64 n3) /\ Value.bool (z == n3) = .bool (sameR r q)) (Value.bool false = .bool (sameR r q))) (Value.bool false = .bool (sameR r q))) (Value.bool false = .bool (sameR r q)))))) (by kernel_rfl) ?_
 intro b I1 l1 hb c I2 l2 hc;have hb := l2 _ _ hb;have hn1 := hs1.numLen;have hn2 := hs2.numLen;refine ⟨rfl, _, _, _, atC hb rfl, rfl, _, _, _, atC hc rfl, Br.mk (fun h => ?_) (fun h => ?_)⟩
 · have h : n1 ≠ n2 := by simp at h; omega
   exact same_no (Q := r.fed.length = q.fed.length) (by omega) fun hs => by rw [same_iff.1 hs]
 have h : n1 = n2 := by simp at h; omega
 refine ⟨⟨rfl, rfl, by omega, by omega, by simp⟩, fun I3 _ l3 j ⟨j0, j1, hj⟩ => ⟨rfl, _, _, _, atC (l3 _ _ hb) rfl, Br.mk (fun hlt => ?_) (fun hge => ?_)⟩⟩
 · have hlt := of_decide_eq_true hlt
   obtain ⟨x, hx, e1⟩ := (hs1.mono (Mem.le_trans l1 (Mem.le_trans l2 l3))).intAt j0 (by omega)
   obtain ⟨z, hz, e2⟩ := (hs2.mono (Mem.le_trans l1 (Mem.le_trans l2 l3))).intAt j0 (by omega)
   refine ⟨rfl, _, _, _, atC (l3 _ _ hb) rfl, j0, hlt, hs1.isSome (by omega), x, e1, rfl, _, _, _, atC (l3 _ _ hc) rfl, j0, by omega, hs2.isSome (by omega), z, e2, Br.mk (fun hq => ?_) (fun hq => ?_)⟩
   · have hq : ¬ x = z := by simpa using hq
     exact same_no hq fun hs => by
      have := same_iff.1 hs;rw [this, hz] at hx;exact (Option.some.inj hx).symm
   · have hq : x = z := by simpa using hq
     subst hq
     refine wr_i64 (by omega) (by omega) ⟨rfl, rfl, ⟨by omega, by omega, ?_⟩, by omega⟩
     rw [show (j + 1).toNat = j.toNat + 1 by omega, take_succ' hx, take_succ' hz, hj]
 have hge := of_decide_eq_false hge
 have hfd : r.fed = q.fed := by rw [List.take_of_length_le (by omega), List.take_of_length_le (by omega)] at hj; exact hj
 refine ⟨⟨rfl, rfl, by omega, by omega, fun i h3 h9 h => by omega⟩, fun I4 _ l4 j ⟨j3, j10, hj⟩ => Br.mk (fun hlt => ?_) (fun hge => ?_)⟩
 · have hlt := of_decide_eq_true hlt
   have hb4 := (Mem.le_trans l3 l4) _ _ hb;have hc4 := (Mem.le_trans l3 l4) _ _ hc;refine ⟨rfl, _, atC hb4 rfl, _, atC hb4 rfl, _, atC hb4 rfl, _, atC hb4 rfl, _, atC hb4 rfl, _, atC hb4 rfl, _, atC hb4 rfl, _, atC hb4 rfl, _, atC hb4 rfl, _, atC hb4 rfl, _, atC hb4 rfl, _, _, _, atC hb4 rfl, rfl, _, atC hc4 rfl, _, atC hc4 rfl, _, atC hc4 rfl, _, atC hc4 rfl, _, atC hc4 rfl, _, atC hc4 rfl, _, atC hc4 rfl, _, atC hc4 rfl, _, atC hc4 rfl, _, atC hc4 rfl, _, atC hc4 rfl, _, _, _, atC hc4 rfl, ?_⟩
   refine (ct50 r _ j ⟨j3, by omega⟩ I4).mono fun v I5 l5 hv => ⟨_, hv, (ct50 q _ j ⟨j3, by omega⟩ I5).mono fun v I6 l6 hv => ⟨_, hv, Br.mk (fun hq => ?_) (fun hq => ?_)⟩⟩
   · have hq : ¬ numR r j = numR q j := by simpa using hq
     exact same_no hq fun hs => same_num hs j
   · have hq : numR r j = numR q j := by simpa using hq
     refine wr_i64 (by omega) (by omega) ⟨rfl, rfl, ⟨by omega, by omega, fun i h3 h9 hi => ?_⟩, by omega⟩
     by_cases hij : i = j
     · rw [hij]; exact hq
     · exact hj i h3 h9 (by omega)
 have hge := of_decide_eq_false hge;have hb4 := (Mem.le_trans l3 l4) _ _ hb;have hc4 := (Mem.le_trans l3 l4) _ _ hc
 have g := fun i h3 h9 => hj i h3 h9 (by omega)
 refine ⟨rfl, _, atC hb4 rfl, rfl, _, atC hc4 rfl, Br.mk (fun e1 => ⟨rfl, _, atC hb4 rfl, rfl, _, atC hc4 rfl, Br.mk (fun e2 => ⟨rfl, _, atC hb4 rfl, rfl, _, atC hc4 rfl, Br.mk (fun e3 => ⟨rfl, _, atC hb4 rfl, rfl, _, atC hc4 rfl, ?_⟩) (fun h => ?_)⟩) (fun h => ?_)⟩) (fun h => ?_)⟩
 · have e1 := eqv e1
   have e2 := eqv e2;rw [str_eq] at e3
   have e3 : r.name = q.name := by simpa using e3
   by_cases e4 : r.val = q.val
   · have : sameR r q = true := decide_eq_true ⟨hfd, e1, e2, e3, e4, g 3 (by omega) (by omega), g 4 (by omega) (by omega), g 5 (by omega) (by omega), g 6 (by omega) (by omega), g 7 (by omega) (by omega), g 8 (by omega) (by omega), g 9 (by omega) (by omega)⟩
     rw [this, e4]; simp
   · rw [<- same_no e4 fun hs => by rw [same_iff.1 hs]]
     simp [e4]
 · rw [str_eq] at h
   have h : ¬ r.name = q.name := by simpa using h
   exact same_no h fun hs => by rw [same_iff.1 hs]
 · exact same_no (nev h) fun hs => by rw [same_iff.1 hs]
 · exact same_no (nev h) fun hs => by rw [same_iff.1 hs]
set_option maxRecDepth 100000 in
theorem ct29 (r : Rq) (hr : okRq r) (hnm : r.name.size <= 1000000) (y : Value) (I : Mem) (hy : BySl I y r.fed) (hfl : r.fed.length <= 1000000) :
 Ct Try.prog (fnv 29) #[.agg (rqV r y).toArray] I (fun v I' => ∃ a' n' c', v = .tuple #[.slice a' n' c', .int .i64 (if rightR r then 0 else 340)] /\ SlM I' a' n' 1 (ints .u8 (if rightR r then writeR r else [])) /\ n' <= c' /\ c' <= maxLen) := by
 obtain ⟨a1, n1, c1, rfl, hs1, hc1, hm1⟩ := hy
 refine viaR (ct_via (A := { befores := [(1,[0])], loops := [(6, ⟨[(1, .keep), (4, .keep), (6, .row 1), (7, .sh (.int .i64))], [(1, .row)], [(6, 2, 93)], fun vals xss I' _ => match vals, xss with | [.int .i64 j], [xs] => 0 <= j /\ j <= (tagsR r).length /\ FR I' xs (fldsR r ((tagsR r).take j.toNat)) | _, _ => False, fun vals _ => match vals with | [.int .i64 j] => ((tagsR r).length - j).toNat | _ => 0⟩)] }) Try.func29 rfl Try.call29 rfl rfl) (∀ (b : Nat) (a : Mem), I.le a -> a b = some (.cells #[.int .u8 r.kind, .int .u8 r.what, .string r.name, .int .i64 r.p3, .int .i64 r.p4, .int .i64 r.p5, .int .i64 r.p6, .int .i64 r.p7, .int .i64 r.p8, .int .i64 r.p9, .int .i64 r.val, .slice a1 n1 c1] 55 (0, 0)) -> (12 : Nat) = 12 /\ ∃ n, atI a (some ⟨b, 0, none⟩) 0 = some (.int .u8 n) /\ ∃ c, atI a (some ⟨b, 0, none⟩) 1 = some (.int .u8 c) /\ ∃ q, atI a (some ⟨b, 0, none⟩) 2 = some (.string q) /\ ∃ d, atI a (some ⟨b, 0, none⟩) 3 = some (.int .i64 d) /\ ∃ e, atI a (some ⟨b, 0, none⟩) 4 = some (.int .i64 e) /\ ∃ f, atI a (some ⟨b, 0, none⟩) 5 = some (.int .i64 f) /\ ∃ g, atI a (some ⟨b, 0, none⟩) 6 = some (.int .i64 g) /\ ∃ h, atI a (some ⟨b, 0, none⟩) 7 = some (.int .i64 h) /\ ∃ i, atI a (some ⟨b, 0, none⟩) 8 = some (.int .i64 i) /\ ∃ j, atI a (some ⟨b, 0, none⟩) 9 = some (.int .i64 j) /\ ∃ k, atI a (some ⟨b, 0, none⟩) 10 = some (.int .i64 k) /\ ∃ l m o, atI a (some ⟨b, 0, none⟩) 11 = some (.slice l m o) /\ Ct Try.prog (fnv 46) #[.agg #[.int .u8 n, .int .u8 c, .string q, .int .i64 d, .int .i64 e, .int .i64 f, .int .i64 g, .int .i64 h, .int .i64 i, .int .i64 j, .int .i64 k, .slice l m o]] a fun v p => ∃ s, v = .bool s /\ Br (!s) (∃ t u w, Value.tuple #[.slice none 0 0, .int .i64 340] = .tuple #[.slice t u w, .int .i64 (if rightR r = true then 0 else 340)] /\ SlM p t u 1 (List.map (Value.int .u8) (if rightR r = true then (1 : Int) :: r.kind :: writeF (fldsR r (tagsR r)) else ([] : List Int))) /\ u <= w /\ w <= 9223372036854775807) (true = true /\ ∃ t, atI p (some ⟨b, 0, none⟩) 0 = some (.int .u8 t) /\ true = true /\ ∃ u, atI p (some ⟨b, 0, none⟩) 1 = some (.int .u8 u) /\ Ct Try.prog (fnv 26) #[.int .u8 t, .int .u8 u] p fun w x => ∃ y z c2 b1, w = .tuple #[.slice y z c2, .bool b1] /\ (Rf (SV.v (.pointer (some ⟨b, 0, none⟩))) /\ Rf (SV.v (.slice y z c2)) /\ (0 : Nat) = 0 /\ (0 : Int) <= 0 /\ 0 <= ((tagsR r).length : Int) /\ FR x [] []) /\ ∀ (I1 : Mem), Mem -> x.le I1 -> ∀ (x1 : List Value) (n2 : Int), 0 <= n2 /\ n2 <= ((tagsR r).length : Int) /\ FR I1 x1 (fldsR r (List.take n2.toNat (tagsR r))) -> Br (decide (n2 < (z : Int))) (0 <= n2 /\ n2 < (z : Int) /\ y.isSome = true /\ ∃ n3, atI I1 y (n2.toNat * 1 + 0) = some (.int .i64 n3) /\ 0 <= n2 /\ n2 < (z : Int) /\ y.isSome = true /\ ∃ n4, atI I1 y (n2.toNat * 1 + 0) = some (.int .i64 n4) /\ Br (n4 == 1) (true = true /\ ∃ n5, atI I1 (some ⟨b, 0, none⟩) 1 = some (.int .u8 n5) /\ Wr .u64 n5 fun c3 => Ct Try.prog (fnv 48) #[.int .u64 c3] I1 fun v1 I2 => ∃ a2 n6 c4, v1 = .slice a2 n6 c4 /\ x1.length = x1.length / 2 * 2 /\ x1.length / 2 + 1 <= 9223372036854775807 /\ (x1.length / 2 + 1) * 32 <= 140737488355328 /\ Wr .i64 (n2 + 1) fun c5 => Rf (SV.v (.pointer (some ⟨b, 0, none⟩))) /\ Rf (SV.v (.slice y z c2)) /\ x1.length / 2 + 1 = List.length (x1 ++ [.int .i64 n3, .slice a2 n6 c4]) / 2 /\ (0 <= c5 /\ c5 <= ((tagsR r).length : Int) /\ FR I2 (x1 ++ [.int .i64 n3, .slice a2 n6 c4]) (fldsR r (List.take c5.toNat (tagsR r)))) /\ Int.toNat (((tagsR r).length : Int) - c5) < Int.toNat (((tagsR r).length : Int) - n2)) (Br (n4 == 2) (true = true /\ ∃ q1, atI I1 (some ⟨b, 0, none⟩) 2 = some (.string q1) /\ q1.size <= 4611686018427387904 /\ ∀ (a2 : Option Addr) (c3 : Nat) (I2 : Mem), I1.le I2 -> a2.isSome = true -> q1.size <= c3 -> c3 <= 9223372036854775807 -> (∀ (j1 : Nat) (b2 : UInt8), q1.data.toList[j1]? = some b2 -> atI I2 a2 j1 = some (.int .u8 (b2.toNat : Int))) -> x1.length = x1.length / 2 * 2 /\ x1.length / 2 + 1 <= 9223372036854775807 /\ (x1.length / 2 + 1) * 32 <= 140737488355328 /\ Wr .i64 (n2 + 1) fun c4 => Rf (SV.v (.pointer (some ⟨b, 0, none⟩))) /\ Rf (SV.v (.slice y z c2)) /\ x1.length / 2 + 1 = List.length (x1 ++ [.int .i64 n3, .slice a2 q1.size c3]) / 2 /\ (0 <= c4 /\ c4 <= ((tagsR r).length : Int) /\ FR I2 (x1 ++ [.int .i64 n3, .slice a2 q1.size c3]) (fldsR r (List.take c4.toNat (tagsR r)))) /\ Int.toNat (((tagsR r).length : Int) - c4) < Int.toNat (((tagsR r).length : Int) - n2)) (Br (n4 == 10) (true = true /\ ∃ n5, atI I1 (some ⟨b, 0, none⟩) 10 = some (.int .i64 n5) /\ Ct Try.prog (fnv 49) #[.int .i64 n5] I1 fun v1 I2 => ∃ n6, v1 = .int .u64 n6 /\ Ct Try.prog (fnv 48) #[.int .u64 n6] I2 fun v2 I3 => ∃ a2 n7 c3, v2 = .slice a2 n7 c3 /\ x1.length = x1.length / 2 * 2 /\ x1.length / 2 + 1 <= 9223372036854775807 /\ (x1.length / 2 + 1) * 32 <= 140737488355328 /\ Wr .i64 (n2 + 1) fun c4 => Rf (SV.v (.pointer (some ⟨b, 0, none⟩))) /\ Rf (SV.v (.slice y z c2)) /\ x1.length / 2 + 1 = List.length (x1 ++ [.int .i64 n3, .slice a2 n7 c3]) / 2 /\ (0 <= c4 /\ c4 <= ((tagsR r).length : Int) /\ FR I3 (x1 ++ [.int .i64 n3, .slice a2 n7 c3]) (fldsR r (List.take c4.toNat (tagsR r)))) /\ Int.toNat (((tagsR r).length : Int) - c4) < Int.toNat (((tagsR r).length : Int) - n2)) (Br (n4 == 11) (true = true /\ ∃ a2 n5 c3, atI I1 (some ⟨b, 0, none⟩) 11 = some (.slice a2 n5 c3) /\ x1.length = x1.length / 2 * 2 /\ x1.length / 2 + 1 <= 9223372036854775807 /\ (x1.length / 2 + 1) * 32 <= 140737488355328 /\ Wr .i64 (n2 + 1) fun c4 => Rf (SV.v (.pointer (some ⟨b, 0, none⟩))) /\ Rf (SV.v (.slice y z c2)) /\ x1.length / 2 + 1 = List.length (x1 ++ [.int .i64 n3, .slice a2 n5 c3]) / 2 /\ (0 <= c4 /\ c4 <= ((tagsR r).length : Int) /\ FR I1 (x1 ++ [.int .i64 n3, .slice a2 n5 c3]) (fldsR r (List.take c4.toNat (tagsR r)))) /\ Int.toNat (((tagsR r).length : Int) - c4) < Int.toNat (((tagsR r).length : Int) - n2)) ((12 : Nat) = 12 /\ ∃ n5, atI I1 (some ⟨b, 0, none⟩) 0 = some (.int .u8 n5) /\ ∃ n6, atI I1 (some ⟨b, 0, none⟩) 1 = some (.int .u8 n6) /\ ∃ q1, atI I1 (some ⟨b, 0, none⟩) 2 = some (.string q1) /\ ∃ n7, atI I1 (some ⟨b, 0, none⟩) 3 = some (.int .i64 n7) /\ ∃ n8, atI I1 (some ⟨b, 0, none⟩) 4 = some (.int .i64 n8) /\ ∃ n9, atI I1 (some ⟨b, 0, none⟩) 5 = some (.int .i64 n9) /\ ∃ n10, atI I1 (some ⟨b, 0, none⟩) 6 = some (.int .i64 n10) /\ ∃ n11, atI I1 (some ⟨b, 0, none⟩) 7 = some (.int .i64 n11) /\ ∃ n12, atI I1 (some ⟨b, 0, none⟩) 8 = some (.int .i64 n12) /\ ∃ n13, atI I1 (some ⟨b, 0, none⟩) 9 = some (.int .i64 n13) /\ ∃ n14, atI I1 (some ⟨b, 0, none⟩) 10 = some (.int .i64 n14) /\ ∃ a2 n15 c3, atI I1 (some ⟨b, 0, none⟩) 11 = some (.slice a2 n15 c3) /\ 0 <= n2 /\ n2 < (z : Int) /\ y.isSome = true /\ ∃ n16, atI I1 y (n2.toNat * 1 + 0) = some (.int .i64 n16) /\ Ct Try.prog (fnv 50) #[.agg #[.int .u8 n5, .int .u8 n6, .string q1, .int .i64 n7, .int .i64 n8, .int .i64 n9, .int .i64 n10, .int .i64 n11, .int .i64 n12, .int .i64 n13, .int .i64 n14, .slice a2 n15 c3], .int .i64 n16] I1 fun v1 I2 => ∃ n17, v1 = .int .i64 n17 /\ Wr .u64 n17 fun c4 => Ct Try.prog (fnv 48) #[.int .u64 c4] I2 fun v2 I3 => ∃ a3 n18 c5, v2 = .slice a3 n18 c5 /\ x1.length = x1.length / 2 * 2 /\ x1.length / 2 + 1 <= 9223372036854775807 /\ (x1.length / 2 + 1) * 32 <= 140737488355328 /\ Wr .i64 (n2 + 1) fun c6 => Rf (SV.v (.pointer (some ⟨b, 0, none⟩))) /\ Rf (SV.v (.slice y z c2)) /\ x1.length / 2 + 1 = List.length (x1 ++ [.int .i64 n3, .slice a3 n18 c5]) / 2 /\ (0 <= c6 /\ c6 <= ((tagsR r).length : Int) /\ FR I3 (x1 ++ [.int .i64 n3, .slice a3 n18 c5]) (fldsR r (List.take c6.toNat (tagsR r)))) /\ Int.toNat (((tagsR r).length : Int) - c6) < Int.toNat (((tagsR r).length : Int) - n2)))))) (∀ (a2 : Option Addr) (c3 : Nat) (I2 : Mem), I1.le I2 -> RowM I2 a2 c3 2 x1 -> Ct Try.prog (fnv 51) #[.slice a2 (x1.length / 2) c3] I2 fun v1 I3 => ∃ a3 n3 c4 n4, v1 = .tuple #[.slice a3 n3 c4, .int .i64 n4] /\ true = true /\ ∃ n5, atI I3 (some ⟨b, 0, none⟩) 0 = some (.int .u8 n5) /\ ∃ y1, y1.length = n3 * 1 /\ (a3 = none -> n3 = 0) /\ (∀ (j1 : Nat) (v2 : Value), y1[j1]? = some v2 -> atI I3 a3 j1 = some v2) /\ (∀ (v2 : Value), Membership.mem y1 v2 -> v2.oneCell' = true) /\ (2 : Nat) = 2 /\ 2 + n3 <= 9223372036854775807 /\ (2 + n3) * 1 <= 140737488355328 /\ ∀ (a4 : Option Addr) (c5 : Nat) (I4 : Mem), I3.le I4 -> RowM I4 a4 c5 1 (.int .u8 1 :: .int .u8 n5 :: y1) -> ∃ a5 n6 c6, Value.tuple #[.slice a4 (2 + n3) c5, .int .i64 0] = .tuple #[.slice a5 n6 c6, .int .i64 (if rightR r = true then 0 else 340)] /\ SlM I4 a5 n6 1 (List.map (Value.int .u8) (if rightR r = true then (1 : Int) :: r.kind :: writeF (fldsR r (tagsR r)) else ([] : List Int))) /\ n6 <= c6 /\ c6 <= 9223372036854775807))) (by kernel_rfl) ?_
 have hmx : maxLen = 9223372036854775807 := by decide
 intro b I1 l1 hb;have hs1 := hs1.mono l1;have hyB : ∀ {J : Mem}, I1.le J -> BySl J (.slice a1 n1 c1) r.fed := fun l => ⟨_, _, _, rfl, hs1.mono l, hc1, hm1⟩;refine ⟨rfl, _, atC hb rfl, _, atC hb rfl, _, atC hb rfl, _, atC hb rfl, _, atC hb rfl, _, atC hb rfl, _, atC hb rfl, _, atC hb rfl, _, atC hb rfl, _, atC hb rfl, _, atC hb rfl, _, _, _, atC hb rfl, ?_⟩;refine (ct46 r hr _ I1 (hyB (Mem.le_refl _)) hfl).mono fun v I2 l2 hv => ⟨_, hv, Br.mk (fun h => ?_) (fun h => ?_)⟩
 · have h : rightR r = false := by simpa using h
   rw [h]
   exact ⟨none, 0, 0, rfl, sl_nil _ _, by omega, by omega⟩
 have h : rightR r = true := by simpa using h
 obtain ⟨ht, hn1, hn2, _⟩ := right_tag h;obtain ⟨hl1, hl2⟩ := tagL_ok ht;have hF := right_flds hr h;have hb2 := l2 _ _ hb;have hk := hr.kind;have hw := hr.what;refine ⟨rfl, _, atC hb2 rfl, rfl, _, atC hb2 rfl, ?_⟩;refine (ct26 r.kind r.what hk hw I2).mono fun v I3 l3 ⟨a, n, c, hv, hs, hn, hc⟩ => ⟨_, _, _, _, hv, ?_⟩;rw [ht, Option.getD_some] at hs;have hnn := hs.numLen;have hb3 := l3 _ _ hb2
 refine ⟨⟨rfl, rfl, rfl, by omega, by omega, trivial⟩, ?_⟩
 rintro I4 _ l4 xs j ⟨h0, h1, hFR⟩;have hb4 := l4 _ _ hb3;have hs4 := hs.mono l4;have hxl := hFR.len
 have htl : (fldsR r ((tagsR r).take j.toNat)).length = j.toNat := by rw [fldsR, List.length_map, List.length_take]; omega
 rw [htl] at hxl;refine Br.mk (fun hlt => ?_) (fun hge => ?_)
 · have hlt := of_decide_eq_true hlt
   obtain ⟨t, ht1, hat⟩ := hs4.intAt h0 hlt;have htr := hl1 t (List.mem_of_getElem? ht1)
   have hsome : a.isSome = true := by
    cases ha : a with
    | none => have := hs4.nil ha; omega
    | some _ => rfl
   have e1 : xs.length = xs.length / 2 * 2 := by omega
   have nx : ∀ {J : Mem} {a : Option Addr} {m c : Nat}, I4.le J -> BySl J (.slice a m c) (bytesR r t) -> FR J (xs ++ [.int .i64 t, .slice a m c]) (fldsR r ((tagsR r).take (j + 1).toNat)) := fun {J a m c} l hB => by
    rw [show (j + 1).toNat = j.toNat + 1 by omega, take_succ' ht1]
    have : fldsR r ((tagsR r).take j.toNat ++ [t]) = fldsR r ((tagsR r).take j.toNat) ++ [(t, bytesR r t)] := by simp [fldsR]
    rw [this]
    exact (hFR.mono l).snoc ⟨⟨⟨by show -9223372036854775808 <= t; omega, by show t <= 9223372036854775807; omega⟩, bytesR_ok hr t⟩, rfl, hB⟩
   refine ⟨h0, hlt, hsome, t, hat, h0, hlt, hsome, t, hat, Br.mk (fun g => ?_) (fun g1 => Br.mk (fun g => ?_) (fun g2 => Br.mk (fun g => ?_) (fun g10 => Br.mk (fun g => ?_) (fun g11 => ?_))))⟩
   · obtain rfl := eqv g
     refine ⟨rfl, _, atC hb4 rfl, _, IntWalk.u64_in _ ⟨by omega, by omega⟩, ?_⟩
     refine (ct48 r.what ⟨by omega, by omega⟩ I4).mono fun v I5 l5 ⟨a5, m5, c5, hv, g1, g2, g3⟩ => ⟨_, _, _, hv, ⟨e1, by omega, by omega, wr_i64 (by omega) (by omega) ⟨rfl, rfl, by simp <;> omega, ⟨by omega, by omega, nx l5 ⟨_, _, _, rfl, g1, g2, g3⟩⟩, by omega⟩⟩⟩
   · obtain rfl := eqv g
     refine ⟨rfl, _, atC hb4 rfl, by omega, fun a5 cp I5 l5 hsm hq hcp hat5 => ⟨e1, by omega, by omega, wr_i64 (by omega) (by omega) ⟨rfl, rfl, by simp <;> omega, ⟨by omega, by omega, nx l5 ⟨_, _, _, rfl, str_sl hsm (by omega) hat5, hq, hcp⟩⟩, by omega⟩⟩⟩
   · obtain rfl := eqv g
     refine ⟨rfl, _, atC hb4 rfl, ?_⟩;refine (ct49 r.val hr.val I4).mono fun v I5 l5 hv => ⟨_, hv, ?_⟩
     refine (ct48 (foldZ r.val) (foldZ_range hr.val) I5).mono fun v I6 l6 ⟨a5, m5, c5, hv, g1, g2, g3⟩ => ⟨_, _, _, hv, ⟨e1, by omega, by omega, wr_i64 (by omega) (by omega) ⟨rfl, rfl, by simp <;> omega, ⟨by omega, by omega, nx (Mem.le_trans l5 l6) ⟨_, _, _, rfl, g1, g2, g3⟩⟩, by omega⟩⟩⟩
   · obtain rfl := eqv g
     exact ⟨rfl, _, _, _, atC hb4 rfl, ⟨e1, by omega, by omega, wr_i64 (by omega) (by omega) ⟨rfl, rfl, by simp <;> omega, ⟨by omega, by omega, nx (Mem.le_refl _) (hyB (Mem.le_trans (Mem.le_trans l2 l3) l4))⟩, by omega⟩⟩⟩
   · have e1' := nev g1
     have e2' := nev g2;have e10 := nev g10;have e11 := nev g11;refine ⟨rfl, _, atC hb4 rfl, _, atC hb4 rfl, _, atC hb4 rfl, _, atC hb4 rfl, _, atC hb4 rfl, _, atC hb4 rfl, _, atC hb4 rfl, _, atC hb4 rfl, _, atC hb4 rfl, _, atC hb4 rfl, _, atC hb4 rfl, _, _, _, atC hb4 rfl, h0, hlt, hsome, t, hat, ?_⟩
     refine (ct50 r _ t (by omega) I4).mono fun v I5 l5 hv => ⟨_, hv, _, rfl, ?_⟩
     have hbt : bytesR r t = formN (IntKind.u64.wrap (numR r t)).toNat := by
      rw [bytesR, if_neg e1', if_neg e2', if_neg e10, if_neg e11]
     refine (ct48 _ (w64_range (numR r t)) I5).mono fun v I6 l6 ⟨a5, m5, c5, hv, g1, g2, g3⟩ => ⟨_, _, _, hv, ⟨e1, by omega, by omega, wr_i64 (by omega) (by omega) ⟨rfl, rfl, by simp <;> omega, ⟨by omega, by omega, nx (Mem.le_trans l5 l6) (by rw [hbt]; exact ⟨_, _, _, rfl, g1, g2, g3⟩)⟩, by omega⟩⟩⟩
 · have hge := of_decide_eq_false hge
   rw [List.take_of_length_le (by omega)] at hFR
   refine fun a5 cp I5 l5 hrow => ?_
   have hll : (fldsR r (tagsR r)).length = (tagsR r).length := by rw [fldsR, List.length_map]
   have hfm := fldM_row hrow (hFR.mono l5)
   rw [show xs.length / 2 = (fldsR r (tagsR r)).length by omega]
   refine (ct51 _ (fun f hf => by
    obtain ⟨t, _, rfl⟩ := List.mem_map.1 hf
    exact bytesR_len hr hnm hfl t) a5 _ cp I5 hfm (by omega)).mono fun v I6 l6 ⟨a6, n6, c6, hv, hw6, hn6, hc6⟩ => ⟨_, _, _, _, hv, rfl, _, atC (l6 _ _ (l5 _ _ hb4)) rfl, ?_⟩
   rw [if_pos hF] at hw6;have hl6 := hw6.numLen;have hwl := write_len hF;rw [h]
   refine ⟨_, hw6.len, hw6.nil, hw6.at_, one_ints, rfl, by omega, by omega, fun a7 cp I7 l7 hrow => ⟨a7, 2 + n6, cp, rfl, ?_⟩⟩
   have hrow : RowM I7 a7 cp 1 (ints .u8 (writeR r)) := hrow
   have hlw : (writeR r).length = 2 + n6 := by rw [writeR, List.length_cons, List.length_cons]; omega
   have h1 := hrow.1;rw [ints_len] at h1
   exact ⟨hrow.sl (by omega) (by rw [ints_len]; omega), by omega, hrow.2.1⟩
def setN (r : Rq) (t n : Int) : Rq := if t = 3 then { r with p3 := n } else if t = 4 then { r with p4 := n } else if t = 5 then { r with p5 := n } else if t = 6 then { r with p6 := n } else if t = 7 then { r with p7 := n } else if t = 8 then { r with p8 := n } else { r with p9 := n }
theorem ct59 (r : Rq) (y : Value) (t n : Int) (I : Mem) (hy : BySl I y r.fed) :
 Ct Try.prog (fnv 59) #[.agg (rqV r y).toArray, .int .i64 t, .int .i64 n] I (fun v I' => v = .agg (rqV (setN r t n) y).toArray) := by
 obtain ⟨a1, n1, c1, rfl, hs1, hc1, hm1⟩ := hy
 refine viaR (ct_via (A := { }) Try.func59 rfl Try.call59 rfl rfl) (Br (t == 3) (Value.agg #[.int .u8 r.kind, .int .u8 r.what, .string r.name, .int .i64 n, .int .i64 r.p4, .int .i64 r.p5, .int .i64 r.p6, .int .i64 r.p7, .int .i64 r.p8, .int .i64 r.p9, .int .i64 r.val, .slice a1 n1 c1] = .agg #[.int .u8 (setN r t n).kind, .int .u8 (setN r t n).what, .string (setN r t n).name, .int .i64 (setN r t n).p3, .int .i64 (setN r t n).p4, .int .i64 (setN r t n).p5, .int .i64 (setN r t n).p6, .int .i64 (setN r t n).p7, .int .i64 (setN r t n).p8, .int .i64 (setN r t n).p9, .int .i64 (setN r t n).val, .slice a1 n1 c1]) (Br (t == 4) (Value.agg #[.int .u8 r.kind, .int .u8 r.what, .string r.name, .int .i64 r.p3, .int .i64 n, .int .i64 r.p5, .int .i64 r.p6, .int .i64 r.p7, .int .i64 r.p8, .int .i64 r.p9, .int .i64 r.val, .slice a1 n1 c1] = .agg #[.int .u8 (setN r t n).kind, .int .u8 (setN r t n).what, .string (setN r t n).name, .int .i64 (setN r t n).p3, .int .i64 (setN r t n).p4, .int .i64 (setN r t n).p5, .int .i64 (setN r t n).p6, .int .i64 (setN r t n).p7, .int .i64 (setN r t n).p8, .int .i64 (setN r t n).p9, .int .i64 (setN r t n).val, .slice a1 n1 c1]) (Br (t == 5) (Value.agg #[.int .u8 r.kind, .int .u8 r.what, .string r.name, .int .i64 r.p3, .int .i64 r.p4, .int .i64 n, .int .i64 r.p6, .int .i64 r.p7, .int .i64 r.p8, .int .i64 r.p9, .int .i64 r.val, .slice a1 n1 c1] = .agg #[.int .u8 (setN r t n).kind, .int .u8 (setN r t n).what, .string (setN r t n).name, .int .i64 (setN r t n).p3, .int .i64 (setN r t n).p4, .int .i64 (setN r t n).p5, .int .i64 (setN r t n).p6, .int .i64 (setN r t n).p7, .int .i64 (setN r t n).p8, .int .i64 (setN r t n).p9, .int .i64 (setN r t n).val, .slice a1 n1 c1]) (Br (t == 6) (Value.agg #[.int .u8 r.kind, .int .u8 r.what, .string r.name, .int .i64 r.p3, .int .i64 r.p4, .int .i64 r.p5, .int .i64 n, .int .i64 r.p7, .int .i64 r.p8, .int .i64 r.p9, .int .i64 r.val, .slice a1 n1 c1] = .agg #[.int .u8 (setN r t n).kind, .int .u8 (setN r t n).what, .string (setN r t n).name, .int .i64 (setN r t n).p3, .int .i64 (setN r t n).p4, .int .i64 (setN r t n).p5, .int .i64 (setN r t n).p6, .int .i64 (setN r t n).p7, .int .i64 (setN r t n).p8, .int .i64 (setN r t n).p9, .int .i64 (setN r t n).val, .slice a1 n1 c1]) (Br (t == 7) (Value.agg #[.int .u8 r.kind, .int .u8 r.what, .string r.name, .int .i64 r.p3, .int .i64 r.p4, .int .i64 r.p5, .int .i64 r.p6, .int .i64 n, .int .i64 r.p8, .int .i64 r.p9, .int .i64 r.val, .slice a1 n1 c1] = .agg #[.int .u8 (setN r t n).kind, .int .u8 (setN r t n).what, .string (setN r t n).name, .int .i64 (setN r t n).p3, .int .i64 (setN r t n).p4, .int .i64 (setN r t n).p5, .int .i64 (setN r t n).p6, .int .i64 (setN r t n).p7, .int .i64 (setN r t n).p8, .int .i64 (setN r t n).p9, .int .i64 (setN r t n).val, .slice a1 n1 c1]) (Br (t == 8) (Value.agg #[.int .u8 r.kind, .int .u8 r.what, .string r.name, .int .i64 r.p3, .int .i64 r.p4, .int .i64 r.p5, .int .i64 r.p6, .int .i64 r.p7, .int .i64 n, .int .i64 r.p9, .int .i64 r.val, .slice a1 n1 c1] = .agg #[.int .u8 (setN r t n).kind, .int .u8 (setN r t n).what, .string (setN r t n).name, .int .i64 (setN r t n).p3, .int .i64 (setN r t n).p4, .int .i64 (setN r t n).p5, .int .i64 (setN r t n).p6, .int .i64 (setN r t n).p7, .int .i64 (setN r t n).p8, .int .i64 (setN r t n).p9, .int .i64 (setN r t n).val, .slice a1 n1 c1]) (Value.agg #[.int .u8 r.kind, .int .u8 r.what, .string r.name, .int .i64 r.p3, .int .i64 r.p4, .int .i64 r.p5, .int .i64 r.p6, .int .i64 r.p7, .int .i64 r.p8, .int .i64 n, .int .i64 r.val, .slice a1 n1 c1] = .agg #[.int .u8 (setN r t n).kind, .int .u8 (setN r t n).what, .string (setN r t n).name, .int .i64 (setN r t n).p3, .int .i64 (setN r t n).p4, .int .i64 (setN r t n).p5, .int .i64 (setN r t n).p6, .int .i64 (setN r t n).p7, .int .i64 (setN r t n).p8, .int .i64 (setN r t n).p9, .int .i64 (setN r t n).val, .slice a1 n1 c1]))))))) (by kernel_rfl) ?_
 refine Br.mk (fun g => ?_) (fun g3 => Br.mk (fun g => ?_) (fun g4 => Br.mk (fun g => ?_) (fun g5 => Br.mk (fun g => ?_) (fun g6 => Br.mk (fun g => ?_) (fun g7 => Br.mk (fun g => ?_) (fun g8 => ?_))))))
 · obtain rfl := eqv g; rfl
 · obtain rfl := eqv g; rfl
 · obtain rfl := eqv g; rfl
 · obtain rfl := eqv g; rfl
 · obtain rfl := eqv g; rfl
 · obtain rfl := eqv g; rfl
 · have : setN r t n = { r with p9 := n } := by
    rw [setN, if_neg (nev g3), if_neg (nev g4), if_neg (nev g5), if_neg (nev g6), if_neg (nev g7), if_neg (nev g8)]
   rw [this]
def refTake (h : Rq) (t : Int) (bs : List Int) : Rq := if t = 1 then { h with what := (lastN bs).1 } else takeR h t bs
def RefB (bs : List Int) (j : Int) : Bool := match (flB bs)[j.toNat]? with
 | some f => decide ((lastN f.2).2.2 ≠ 0) || (decide (11 < f.1) || ((decide (f.1 = 1) && decide (255 < (lastN f.2).1)) || (decide (f.1 < 10) && decide (9223372036854775807 < (lastN f.2).1))))
 | none => false
def RefI (bs : List Int) (I' : Mem) (j : Int) (cs : List Value) : Prop := 0 <= j /\ j <= (flB bs).length /\ ∃ h y, cs = rqV h y /\ okRq h /\ h.name.size <= 1000000 /\ h.fed.length <= 1000000 /\ BySl I' y h.fed /\ (accB bs = true -> h = ((tagsR (readR bs).1).take j.toNat).foldl (copyT (readR bs).1) (had0 (readR bs).1))
def RefJ (bs : List Int) (I' : Mem) (a : Option Addr) (n : Nat) (j : Int) (cs : List Value) : Prop := ∃ h y, cs = rqV h y /\ okRq h /\ rightR h = true /\ BySl I' y h.fed /\ SlM I' a n 1 (ints .u8 (writeR h)) /\ n = bs.length /\ 0 <= j /\ j <= n /\ (writeR h).take j.toNat = bs.take j.toNat /\ (accB bs = true -> h = (readR bs).1)
def RefE (bs : List Int) (I' : Mem) (v : Value) : Prop := ∃ y, v = .tuple #[.agg (rqV (readR bs).1 y).toArray, .int .i64 (readR bs).2] /\ BySl I' y (readR bs).1.fed
theorem acc_flds {bs : List Int} (hb : byteL bs) (h : accB bs = true) : okRq (readR bs).1 /\ rightR (readR bs).1 = true /\ writeR (readR bs).1 = bs /\ flB bs = fldsR (readR bs).1 (tagsR (readR bs).1) /\ kindB bs = (readR bs).1.kind := by
 obtain ⟨h1, h2, h3, _⟩ := read_back hb h;refine ⟨h1, h2, h3, ?_, ?_⟩
 · have : (readF ((writeR (readR bs).1).drop 2)).1 = fldsR (readR bs).1 (tagsR (readR bs).1) := by
    rw [show (writeR (readR bs).1).drop 2 = writeF (fldsR (readR bs).1 (tagsR (readR bs).1)) from rfl, read_write (right_flds h1 h2)]
   rw [h3] at this;exact this
 · have : kindB (writeR (readR bs).1) = (readR bs).1.kind := rfl
   rw [h3] at this;exact this
theorem refE_bad {bs : List Int} {J : Mem} (h : accB bs = false) : RefE bs J (.tuple #[.agg (rqV zeroRq (.slice none 0 0)).toArray, .int .i64 341]) := by
 unfold RefE;rw [read_bad h]
 exact ⟨_, rfl, none, 0, 0, rfl, sl_nil _ _, by omega, by omega⟩
theorem refI_start {bs : List Int} (hb : byteL bs) {J : Mem} : RefI bs J 0 (rqV { zeroRq with kind := kindB bs } (.slice none 0 0)) := by
 obtain ⟨hk, _, _⟩ := what_range hb
 refine ⟨by omega, by omega, _, _, rfl, okRq_start (w := 0) hk (by omega), (by show (⟨#[]⟩ : ByteArray).size <= 1000000; decide), (by show ([] : List Int).length <= 1000000; decide), ⟨none, 0, 0, rfl, sl_nil _ _, by omega, by omega⟩, fun ha => ?_⟩
 rw [(acc_flds hb ha).2.2.2.2]; rfl
theorem refTake_ok {h : Rq} (hh : okRq h) {t : Int} {b : List Int} (hb : byteL b) (h1 : t = 1 -> (lastN b).1 <= 255) : okRq (refTake h t b) := by
 unfold refTake;split
 · rename_i he
   have hr := last_range hb;have := h1 he;exact ⟨hh.kind, ⟨hr.1, this⟩, hh.p3, hh.p4, hh.p5, hh.p6, hh.p7, hh.p8, hh.p9, hh.val, hh.fed⟩
 · exact okRq_take hh t hb
theorem refTake_size {h : Rq} {t : Int} {b : List Int} (h1 : h.name.size <= 1000000) (h2 : h.fed.length <= 1000000) (hb : b.length <= 1000000) : (refTake h t b).name.size <= 1000000 /\ (refTake h t b).fed.length <= 1000000 := by
 unfold refTake;split
 · exact ⟨h1, h2⟩
 · exact size_take h1 h2 hb
theorem ref_copy {R h : Rq} (hR : okRq R) {t : Int} (ht : 1 <= t /\ t <= 11) (hk : okT R t = true) : refTake h t (bytesR R t) = copyT R h t := by
 by_cases h1 : t = 1
 · subst h1
   have hw := hR.what
   obtain ⟨g1, _⟩ := lastN_f2 (x := R.what.toNat) (by omega)
   rw [Int.toNat_of_nonneg hw.1] at g1
   show { h with what := (lastN (formN R.what.toNat)).1 } = { h with what := R.what }
   rw [g1]
 · have := (step_copy (h := h) hR ht).2 hk
   rw [show preR R h t = h from if_neg h1] at this
   rw [refTake, if_neg h1, this]
theorem acc_at {bs : List Int} (hb : byteL bs) (ha : accB bs = true) {j : Nat} {f : Int × List Int} (hf : (flB bs)[j]? = some f) : (tagsR (readR bs).1)[j]? = some f.1 /\ f.2 = bytesR (readR bs).1 f.1 /\ (1 <= f.1 /\ f.1 <= 11) /\ okT (readR bs).1 f.1 = true := by
 obtain ⟨h1, h2, _, h4, _⟩ := acc_flds hb ha;rw [h4, fldsR, List.getElem?_map, Option.map_eq_some_iff] at hf;obtain ⟨t, ht, rfl⟩ := hf;have hm := List.mem_of_getElem? ht;exact ⟨ht, rfl, (tagL_ok (right_tag h2).1).1 t hm, List.all_eq_true.1 (right_run h1 h2).1 t hm⟩
theorem refI_next {bs : List Int} (hb : byteL bs) {J' : Mem} {j : Int} {h : Rq} {y' : Value} {f : Int × List Int} (g1 : 0 <= j) (g3 : okRq h) (g4 : h.name.size <= 1000000) (g5 : h.fed.length <= 1000000)
 (g6 : accB bs = true -> h = ((tagsR (readR bs).1).take j.toNat).foldl (copyT (readR bs).1) (had0 (readR bs).1)) (hf : (flB bs)[j.toNat]? = some f) (hlen : f.2.length <= 1000000) (h1 : f.1 = 1 -> (lastN f.2).1 <= 255)
 (hy : BySl J' y' (refTake h f.1 f.2).fed) {cs : List Value} (hcs : cs = rqV (refTake h f.1 f.2) y') : RefI bs J' (j + 1) cs := by
 subst hcs;have hlt := (List.getElem?_eq_some_iff.1 hf).1;obtain ⟨_, _, hok⟩ := what_range hb;have hfo := hok f (List.mem_of_getElem? hf);obtain ⟨s1, s2⟩ := refTake_size (t := f.1) g4 g5 hlen
 refine ⟨by omega, by omega, _, _, rfl, refTake_ok g3 hfo.2 h1, s1, s2, hy, fun ha => ?_⟩
 obtain ⟨k1, k2, k3, k4⟩ := acc_at hb ha hf
 rw [show (j + 1).toNat = j.toNat + 1 by omega, take_succ' k1, List.foldl_append, List.foldl_cons, List.foldl_nil, <- g6 ha, k2, ref_copy (acc_flds hb ha).1 k3 k4]
theorem refB_bad {bs : List Int} (hb : byteL bs) {j : Int} {f : Int × List Int} (hf : (flB bs)[j.toNat]? = some f) (h2 : f.1 ≠ 2) (h11 : f.1 ≠ 11) (h : RefB bs j = true) : accB bs = false := by
 cases ha : accB bs with
 | false => rfl
 | true =>
   obtain ⟨_, k2, k3, k4⟩ := acc_at hb ha hf;have hR := (acc_flds hb ha).1;generalize (readR bs).1 = R at *;have hs := (step_copy (h := R) hR k3).1;rw [k4, <- k2] at hs;rw [RefB, hf] at h;simp only [Bool.or_eq_true, Bool.and_eq_true, decide_eq_true_eq] at h
   rw [takeB, if_neg (by omega)] at hs
   by_cases e1 : f.1 = 1
   · rw [if_pos e1, Bool.and_eq_true, decide_eq_true_eq, decide_eq_true_eq] at hs
     have hw := hR.what
     rw [show (preR R R f.1).what = R.what by unfold preR; split <;> rfl] at hs
     omega
   · rw [if_neg e1] at hs
     by_cases e10 : f.1 = 10
     · rw [if_pos e10, decide_eq_true_eq] at hs
       omega
     · rw [if_neg e10, Bool.and_eq_true, decide_eq_true_eq, decide_eq_true_eq] at hs
       omega
set_option maxRecDepth 100000 in
set_option maxHeartbeats 2000000 in
theorem ct35 (bs : List Int) (hbs : byteL bs) (a : Option Addr) (n c : Nat) (I : Mem) (h : SlM I a n 1 (ints .u8 bs)) (hn : n <= 1000000) (hc : n <= c) (hm : c <= maxLen) :
 Ct Try.prog (fnv 35) #[.slice a n c] I (fun v I' => RefE bs I' v) := by
 refine viaR (ct_via (A := { cuts := [(17, ⟨[(0,.keep),(2,.keep),(4,.keep),(7,.keep),(8,.kv),(9,.keep),(90,.sh .bool)],[(0,.keep),(1,.keep)],[], fun vals _ _ _ => match vals with | [.int .i64 j, .bool b] => b = RefB bs j | _ => False, fun _ _ => 0⟩)], loops := [(8, ⟨[(0, .keep), (2, .keep), (4, .keep), (7, .keep), (8, .sh (.int .i64))], [(0, .keep), (1, .cells cellsA)], [], fun vals _ I' _ => match vals with | .int .i64 j :: cs => RefI bs I' j cs | _ => False, fun vals _ => match vals with | .int .i64 j :: _ => ((flB bs).length - j).toNat | _ => 0⟩), (26, ⟨[(0, .keep), (2, .keep), (7, .keep), (12, .kv), (13, .sh (.int .i64))], [(0, .keep), (1, .cells cellsA)], [], fun vals _ I' _ => match vals with | .slice a n c :: .int .i64 j :: cs => RefJ bs I' a n j cs | _ => False, fun vals _ => match vals with | .slice a n c :: .int .i64 j :: cs => (bs.length - j).toNat | _ => 0⟩)] }) Try.func35 rfl Try.call35 rfl rfl) (let E1 := Ent.mk (.cells [.v (.int .u8 0), .v (.int .u8 0), .v (.string ⟨#[]⟩), .v (.int .i64 0), .v (.int .i64 0), .v (.int .i64 0), .v (.int .i64 0), .v (.int .i64 0), .v (.int .i64 0), .v (.int .i64 0), .v (.int .i64 0), .v (.slice none 0 0)] 55) none
  let E2 := fun (x : ByteArray) (b : Int) (d : Int) (e : Int) (f : Int) (g : Int) (i : Int) (j : Int) (k : Int) (l : Option Addr) (m : Nat) (o : Nat) => [.v (.string x), .v (.int .i64 b), .v (.int .i64 d), .v (.int .i64 e), .v (.int .i64 f), .v (.int .i64 g), .v (.int .i64 i), .v (.int .i64 j), .v (.int .i64 k), .v (.slice l m o)]
  Br (decide ((n : Int) < 2)) (RefE bs I (.tuple #[.agg #[.int .u8 0, .int .u8 0, .string ⟨#[]⟩, .int .i64 0, .int .i64 0, .int .i64 0, .int .i64 0, .int .i64 0, .int .i64 0, .int .i64 0, .int .i64 0, .slice none 0 0], .int .i64 341])) ((0 : Int) <= 0 /\ 0 < (n : Int) /\ a.isSome = true /\ ∃ (b : Int), atI I a 0 = some (.int .u8 b) /\ Br (b != 1) (RefE bs I (.tuple #[.agg #[.int .u8 0, .int .u8 0, .string ⟨#[]⟩, .int .i64 0, .int .i64 0, .int .i64 0, .int .i64 0, .int .i64 0, .int .i64 0, .int .i64 0, .int .i64 0, .slice none 0 0], .int .i64 341])) ((0 : Int) <= 2 /\ 2 <= (n : Int) /\ Ct Try.prog (fnv 56) #[.slice (sladdr a c 2 1) (n - 2) (c - 2)] I fun (v : Value) (d : Mem) => ∃ (e : Option Addr) (f g : Nat) (i j : Int), v = .tuple #[.slice e f g, .int .i64 i, .int .i64 j] /\ Br (j != 0) (RefE bs d (.tuple #[.agg #[.int .u8 0, .int .u8 0, .string ⟨#[]⟩, .int .i64 0, .int .i64 0, .int .i64 0, .int .i64 0, .int .i64 0, .int .i64 0, .int .i64 0, .int .i64 0, .slice none 0 0], .int .i64 341])) ((0 : Int) <= 1 /\ 1 < (n : Int) /\ a.isSome = true /\ ∃ (k : Int), atI d a 1 = some (.int .u8 k) /\ (Rf E1 /\ Rf (SV.v (.slice a n c)) /\ Rf (SV.ptr 0 0) /\ Rf (SV.v (.slice e f g)) /\ Rf (SV.ptr 1 0) /\ Rf (none : Option Nat) /\ RefI bs d 0 [.int .u8 k, .int .u8 0, .string ⟨#[]⟩, .int .i64 0, .int .i64 0, .int .i64 0, .int .i64 0, .int .i64 0, .int .i64 0, .int .i64 0, .int .i64 0, .slice none 0 0]) /\ ∀ (l : Mem), Mem -> d.le l -> ∀ (m o p : Int) (q : ByteArray) (r s t u w x y z : Int) (a1 : Option Addr) (n1 c1 : Nat), RefI bs l m [.int .u8 o, .int .u8 p, .string q, .int .i64 r, .int .i64 s, .int .i64 t, .int .i64 u, .int .i64 w, .int .i64 x, .int .i64 y, .int .i64 z, .slice a1 n1 c1] -> Br (decide (m < (f : Int))) (0 <= m /\ m < (f : Int) /\ e.isSome = true /\ e.isSome = true /\ ∃ (a2 : Option Addr) (n2 c2 : Nat), atI l e (m.toNat * 2 + 1 + 0) = some (.slice a2 n2 c2) /\ Ct Try.prog (fnv 57) #[.slice a2 n2 c2] l fun (v1 : Value) (I1 : Mem) => ∃ (n3 n4 n5 : Int), v1 = .tuple #[.int .u64 n3, .int .i64 n4, .int .i64 n5] /\ 0 <= m /\ m < (f : Int) /\ e.isSome = true /\ e.isSome = true /\ ∃ (n6 : Int), atI I1 e (m.toNat * 2 + 0 + 0) = some (.int .i64 n6) /\ Br (n6 == 2) (0 <= m /\ m < (f : Int) /\ e.isSome = true /\ e.isSome = true /\ ∃ (a3 : Option Addr) (n7 c3 : Nat), atI I1 e (m.toNat * 2 + 1 + 0) = some (.slice a3 n7 c3) /\ ∃ (q1 : List UInt8), q1.length = n7 /\ (a3 = none -> n7 = 0) /\ (∀ (j1 : Nat) (b1 : UInt8), q1[j1]? = some b1 -> atI I1 a3 j1 = some (.int .u8 (b1.toNat : Int))) /\ Wr .i64 (m + 1) fun (c4 : Int) => Rf E1 /\ Rf (SV.v (.slice a n c)) /\ Rf (SV.ptr 0 0) /\ Rf (SV.v (.slice e f g)) /\ Rf (SV.ptr 1 0) /\ Rf (none : Option Nat) /\ RefI bs I1 c4 [.int .u8 o, .int .u8 p, .string ⟨q1.toArray⟩, .int .i64 r, .int .i64 s, .int .i64 t, .int .i64 u, .int .i64 w, .int .i64 x, .int .i64 y, .int .i64 z, .slice a1 n1 c1] /\ Int.toNat (((flB bs).length : Int) - c4) < Int.toNat (((flB bs).length : Int) - m)) (0 <= m /\ m < (f : Int) /\ e.isSome = true /\ e.isSome = true /\ ∃ (n7 : Int), atI I1 e (m.toNat * 2 + 0 + 0) = some (.int .i64 n7) /\ Br (n7 == 11) (0 <= m /\ m < (f : Int) /\ e.isSome = true /\ e.isSome = true /\ ∃ (a3 : Option Addr) (n8 c3 : Nat), atI I1 e (m.toNat * 2 + 1 + 0) = some (.slice a3 n8 c3) /\ Wr .i64 (m + 1) fun (c4 : Int) => Rf E1 /\ Rf (SV.v (.slice a n c)) /\ Rf (SV.ptr 0 0) /\ Rf (SV.v (.slice e f g)) /\ Rf (SV.ptr 1 0) /\ Rf (none : Option Nat) /\ RefI bs I1 c4 [.int .u8 o, .int .u8 p, .string q, .int .i64 r, .int .i64 s, .int .i64 t, .int .i64 u, .int .i64 w, .int .i64 x, .int .i64 y, .int .i64 z, .slice a3 n8 c3] /\ Int.toNat (((flB bs).length : Int) - c4) < Int.toNat (((flB bs).length : Int) - m)) (Br (n5 != 0) (Rf E1 /\ Rf (Ent.mk (.cells (.v (.int .u8 o) :: .v (.int .u8 p) :: E2 q r s t u w x y z a1 n1 c1) 55) none) /\ Rf (SV.v (.slice a n c)) /\ Rf (SV.ptr 0 0) /\ Rf (SV.v (.slice e f g)) /\ Rf (SV.ptr 1 0) /\ Rf (SV.v (.int .i64 m)) /\ Rf (SV.v (.int .u64 n3)) /\ true = RefB bs m) (0 <= m /\ m < (f : Int) /\ e.isSome = true /\ e.isSome = true /\ ∃ (n8 : Int), atI I1 e (m.toNat * 2 + 0 + 0) = some (.int .i64 n8) /\ Br (decide (11 < n8)) (Rf E1 /\ Rf (Ent.mk (.cells (.v (.int .u8 o) :: .v (.int .u8 p) :: E2 q r s t u w x y z a1 n1 c1) 55) none) /\ Rf (SV.v (.slice a n c)) /\ Rf (SV.ptr 0 0) /\ Rf (SV.v (.slice e f g)) /\ Rf (SV.ptr 1 0) /\ Rf (SV.v (.int .i64 m)) /\ Rf (SV.v (.int .u64 n3)) /\ true = RefB bs m) (0 <= m /\ m < (f : Int) /\ e.isSome = true /\ e.isSome = true /\ ∃ (n9 : Int), atI I1 e (m.toNat * 2 + 0 + 0) = some (.int .i64 n9) /\ Br (n9 == 1) (Br (decide (255 < n3)) (Rf E1 /\ Rf (Ent.mk (.cells (.v (.int .u8 o) :: .v (.int .u8 p) :: E2 q r s t u w x y z a1 n1 c1) 55) none) /\ Rf (SV.v (.slice a n c)) /\ Rf (SV.ptr 0 0) /\ Rf (SV.v (.slice e f g)) /\ Rf (SV.ptr 1 0) /\ Rf (SV.v (.int .i64 m)) /\ Rf (SV.v (.int .u64 n3)) /\ true = RefB bs m) (0 <= m /\ m < (f : Int) /\ e.isSome = true /\ e.isSome = true /\ ∃ (n10 : Int), atI I1 e (m.toNat * 2 + 0 + 0) = some (.int .i64 n10) /\ Br (decide (n10 < 10)) (Rf E1 /\ Rf (Ent.mk (.cells (.v (.int .u8 o) :: .v (.int .u8 p) :: E2 q r s t u w x y z a1 n1 c1) 55) none) /\ Rf (SV.v (.slice a n c)) /\ Rf (SV.ptr 0 0) /\ Rf (SV.v (.slice e f g)) /\ Rf (SV.ptr 1 0) /\ Rf (SV.v (.int .i64 m)) /\ Rf (SV.v (.int .u64 n3)) /\ decide (9223372036854775807 < n3) = RefB bs m) (Rf E1 /\ Rf (Ent.mk (.cells (.v (.int .u8 o) :: .v (.int .u8 p) :: E2 q r s t u w x y z a1 n1 c1) 55) none) /\ Rf (SV.v (.slice a n c)) /\ Rf (SV.ptr 0 0) /\ Rf (SV.v (.slice e f g)) /\ Rf (SV.ptr 1 0) /\ Rf (SV.v (.int .i64 m)) /\ Rf (SV.v (.int .u64 n3)) /\ false = RefB bs m))) (0 <= m /\ m < (f : Int) /\ e.isSome = true /\ e.isSome = true /\ ∃ (n10 : Int), atI I1 e (m.toNat * 2 + 0 + 0) = some (.int .i64 n10) /\ Br (decide (n10 < 10)) (Rf E1 /\ Rf (Ent.mk (.cells (.v (.int .u8 o) :: .v (.int .u8 p) :: E2 q r s t u w x y z a1 n1 c1) 55) none) /\ Rf (SV.v (.slice a n c)) /\ Rf (SV.ptr 0 0) /\ Rf (SV.v (.slice e f g)) /\ Rf (SV.ptr 1 0) /\ Rf (SV.v (.int .i64 m)) /\ Rf (SV.v (.int .u64 n3)) /\ decide (9223372036854775807 < n3) = RefB bs m) (Rf E1 /\ Rf (Ent.mk (.cells (.v (.int .u8 o) :: .v (.int .u8 p) :: E2 q r s t u w x y z a1 n1 c1) 55) none) /\ Rf (SV.v (.slice a n c)) /\ Rf (SV.ptr 0 0) /\ Rf (SV.v (.slice e f g)) /\ Rf (SV.ptr 1 0) /\ Rf (SV.v (.int .i64 m)) /\ Rf (SV.v (.int .u64 n3)) /\ false = RefB bs m)))) /\ ∀ (I2 : Mem), Mem -> I1.le I2 -> ∀ (b1 : Bool), b1 = RefB bs m -> Br b1 (RefE bs I2 (.tuple #[.agg #[.int .u8 0, .int .u8 0, .string ⟨#[]⟩, .int .i64 0, .int .i64 0, .int .i64 0, .int .i64 0, .int .i64 0, .int .i64 0, .int .i64 0, .int .i64 0, .slice none 0 0], .int .i64 341])) (0 <= m /\ m < (f : Int) /\ e.isSome = true /\ e.isSome = true /\ ∃ (n8 : Int), atI I2 e (m.toNat * 2 + 0 + 0) = some (.int .i64 n8) /\ Br (n8 == 1) (Wr .u8 n3 (fun (c3 : Int) => Wr .i64 (m + 1) fun (c4 : Int) => Rf E1 /\ Rf (SV.v (.slice a n c)) /\ Rf (SV.ptr 0 0) /\ Rf (SV.v (.slice e f g)) /\ Rf (SV.ptr 1 0) /\ Rf (none : Option Nat) /\ RefI bs I2 c4 [.int .u8 o, .int .u8 c3, .string q, .int .i64 r, .int .i64 s, .int .i64 t, .int .i64 u, .int .i64 w, .int .i64 x, .int .i64 y, .int .i64 z, .slice a1 n1 c1] /\ Int.toNat (((flB bs).length : Int) - c4) < Int.toNat (((flB bs).length : Int) - m))) (0 <= m /\ m < (f : Int) /\ e.isSome = true /\ e.isSome = true /\ ∃ (n9 : Int), atI I2 e (m.toNat * 2 + 0 + 0) = some (.int .i64 n9) /\ Br (n9 == 10) (Ct Try.prog (fnv 58) #[.int .u64 n3] I2 (fun (v2 : Value) (I3 : Mem) => ∃ (n10 : Int), v2 = .int .i64 n10 /\ Wr .i64 (m + 1) fun (c3 : Int) => Rf E1 /\ Rf (SV.v (.slice a n c)) /\ Rf (SV.ptr 0 0) /\ Rf (SV.v (.slice e f g)) /\ Rf (SV.ptr 1 0) /\ Rf (none : Option Nat) /\ RefI bs I3 c3 [.int .u8 o, .int .u8 p, .string q, .int .i64 r, .int .i64 s, .int .i64 t, .int .i64 u, .int .i64 w, .int .i64 x, .int .i64 y, .int .i64 n10, .slice a1 n1 c1] /\ Int.toNat (((flB bs).length : Int) - c3) < Int.toNat (((flB bs).length : Int) - m))) (0 <= m /\ m < (f : Int) /\ e.isSome = true /\ e.isSome = true /\ ∃ (n10 : Int), atI I2 e (m.toNat * 2 + 0 + 0) = some (.int .i64 n10) /\ Wr .i64 n3 fun (c3 : Int) => Ct Try.prog (fnv 59) #[.agg #[.int .u8 o, .int .u8 p, .string q, .int .i64 r, .int .i64 s, .int .i64 t, .int .i64 u, .int .i64 w, .int .i64 x, .int .i64 y, .int .i64 z, .slice a1 n1 c1], .int .i64 n10, .int .i64 c3] I2 fun (v2 : Value) (I3 : Mem) => ∃ (n11 n12 : Int) (q1 : ByteArray) (n13 n14 n15 n16 n17 n18 n19 n20 : Int) (a3 : Option Addr) (n21 c4 : Nat), v2 = .agg #[.int .u8 n11, .int .u8 n12, .string q1, .int .i64 n13, .int .i64 n14, .int .i64 n15, .int .i64 n16, .int .i64 n17, .int .i64 n18, .int .i64 n19, .int .i64 n20, .slice a3 n21 c4] /\ Wr .i64 (m + 1) fun (c5 : Int) => Rf E1 /\ Rf (SV.v (.slice a n c)) /\ Rf (SV.ptr 0 0) /\ Rf (SV.v (.slice e f g)) /\ Rf (SV.ptr 1 0) /\ Rf (none : Option Nat) /\ RefI bs I3 c5 [.int .u8 n11, .int .u8 n12, .string q1, .int .i64 n13, .int .i64 n14, .int .i64 n15, .int .i64 n16, .int .i64 n17, .int .i64 n18, .int .i64 n19, .int .i64 n20, .slice a3 n21 c4] /\ Int.toNat (((flB bs).length : Int) - c5) < Int.toNat (((flB bs).length : Int) - m))))))) (Ct Try.prog (fnv 29) #[.agg #[.int .u8 o, .int .u8 p, .string q, .int .i64 r, .int .i64 s, .int .i64 t, .int .i64 u, .int .i64 w, .int .i64 x, .int .i64 y, .int .i64 z, .slice a1 n1 c1]] l (fun (v1 : Value) (I1 : Mem) => ∃ (a2 : Option Addr) (n2 c2 : Nat) (n3 : Int), v1 = .tuple #[.slice a2 n2 c2, .int .i64 n3] /\ Br (n3 != 0) (RefE bs I1 (.tuple #[.agg #[.int .u8 0, .int .u8 0, .string ⟨#[]⟩, .int .i64 0, .int .i64 0, .int .i64 0, .int .i64 0, .int .i64 0, .int .i64 0, .int .i64 0, .int .i64 0, .slice none 0 0], .int .i64 341])) (Br ((n2 : Int) != (n : Int)) (RefE bs I1 (.tuple #[.agg #[.int .u8 0, .int .u8 0, .string ⟨#[]⟩, .int .i64 0, .int .i64 0, .int .i64 0, .int .i64 0, .int .i64 0, .int .i64 0, .int .i64 0, .int .i64 0, .slice none 0 0], .int .i64 341])) ((Rf E1 /\ Rf (SV.v (.slice a n c)) /\ Rf (SV.ptr 0 0) /\ Rf (SV.ptr 1 0) /\ Rf (SV.v (.slice a2 n2 c2)) /\ Rf (none : Option Nat) /\ RefJ bs I1 a2 n2 0 [.int .u8 o, .int .u8 p, .string q, .int .i64 r, .int .i64 s, .int .i64 t, .int .i64 u, .int .i64 w, .int .i64 x, .int .i64 y, .int .i64 z, .slice a1 n1 c1]) /\ ∀ (I2 : Mem), Mem -> I1.le I2 -> ∀ (n4 n5 n6 : Int) (q1 : ByteArray) (n7 n8 n9 n10 n11 n12 n13 n14 : Int) (a3 : Option Addr) (n15 c3 : Nat), RefJ bs I2 a2 n2 n4 [.int .u8 n5, .int .u8 n6, .string q1, .int .i64 n7, .int .i64 n8, .int .i64 n9, .int .i64 n10, .int .i64 n11, .int .i64 n12, .int .i64 n13, .int .i64 n14, .slice a3 n15 c3] -> Br (decide (n4 < (n : Int))) (0 <= n4 /\ n4 < (n2 : Int) /\ a2.isSome = true /\ ∃ (n16 : Int), atI I2 a2 (n4.toNat * 1 + 0) = some (.int .u8 n16) /\ 0 <= n4 /\ n4 < (n : Int) /\ a.isSome = true /\ ∃ (n17 : Int), atI I2 a (n4.toNat * 1 + 0) = some (.int .u8 n17) /\ Br (n16 != n17) (RefE bs I2 (.tuple #[.agg #[.int .u8 0, .int .u8 0, .string ⟨#[]⟩, .int .i64 0, .int .i64 0, .int .i64 0, .int .i64 0, .int .i64 0, .int .i64 0, .int .i64 0, .int .i64 0, .slice none 0 0], .int .i64 341])) (Wr .i64 (n4 + 1) (fun (c4 : Int) => Rf E1 /\ Rf (SV.v (.slice a n c)) /\ Rf (SV.ptr 0 0) /\ Rf (SV.ptr 1 0) /\ Rf (SV.v (.slice a2 n2 c2)) /\ Rf (none : Option Nat) /\ RefJ bs I2 a2 n2 c4 [.int .u8 n5, .int .u8 n6, .string q1, .int .i64 n7, .int .i64 n8, .int .i64 n9, .int .i64 n10, .int .i64 n11, .int .i64 n12, .int .i64 n13, .int .i64 n14, .slice a3 n15 c3] /\ Int.toNat ((bs.length : Int) - c4) < Int.toNat ((bs.length : Int) - n4)))) (RefE bs I2 (.tuple #[.agg #[.int .u8 n5, .int .u8 n6, .string q1, .int .i64 n7, .int .i64 n8, .int .i64 n9, .int .i64 n10, .int .i64 n11, .int .i64 n12, .int .i64 n13, .int .i64 n14, .slice a3 n15 c3], .int .i64 0])))))))))) (by kernel_rfl) ?_
 intro E1 E2
 have hmx : maxLen = 9223372036854775807 := by decide
 have hln := h.numLen;refine Br.mk (fun h1 => refE_bad ?_) (fun h1 => ?_)
 · have h1 := of_decide_eq_true h1
   rw [accB, decide_eq_false (by omega)]; rfl
 have h1 := of_decide_eq_false h1
 obtain ⟨x0, hx0, e0⟩ := h.intAt (i := 0) (by omega) (by omega)
 have hx0 : bs[0]? = some x0 := hx0
 refine ⟨by omega, by omega, h.isSome (by omega), x0, e0, Br.mk (fun h2 => refE_bad ?_) (fun h2 => ?_)⟩
 · have h2 : x0 ≠ 1 := by simpa using h2
   rw [accB, hx0, decide_eq_false (p := some x0 = some 1) (fun hc => h2 (Option.some.inj hc)), Bool.false_and, Bool.and_false]
 have h2 : x0 = 1 := by simpa using h2
 have hsub := sl_sub h (f := 2) (t := n) (by omega) (by omega) hc
 rw [List.take_of_length_le (by rw [List.length_drop]; omega)] at hsub
 have hbd : byteL (bs.drop 2) := fun z hz => hbs z (List.mem_of_mem_drop hz)
 refine ⟨by omega, by omega, (ct56 (bs.drop 2) hbd _ (n - 2) (c - 2) I hsub (by omega) (by omega) (by omega)).mono fun v I1 l1 ⟨a1, n1, c1, hv, hF, hn1, hc1⟩ => ⟨_, _, _, _, _, hv, Br.mk (fun h3 => refE_bad ?_) (fun h3 => ?_)⟩⟩
 · have h3 : (readF (bs.drop 2)).2.2 ≠ 0 := by simpa using h3
   rw [accB, decide_eq_false (p := (readF (bs.drop 2)).2.2 = 0) h3]
   simp
 have hF : FldM I1 a1 n1 (flB bs) := hF;have hlen := hF.len
 have hle : ∀ f ∈ flB bs, f.2.length <= 16384 /\ 0 < f.1 := by
  rcases read_cases (bs.drop 2) hbd with ⟨_, _, hr, _⟩ | ⟨hr, _⟩
  · intro f hf
    have := right_at (rightF_iff.1 hr).1 f hf;omega
  · intro f hf
    have : flB bs = [] := hr
    rw [this] at hf; cases hf
 obtain ⟨x1, hx1, e1⟩ := (h.mono l1).intAt (i := 1) (by omega) (by omega)
 have hx1 : bs[1]? = some x1 := hx1
 have hk : kindB bs = x1 := by rw [kindB, hx1]; rfl
 refine ⟨by omega, by omega, h.isSome (by omega), x1, e1, ⟨rfl, rfl, rfl, rfl, rfl, rfl, ?_⟩, ?_⟩
 · have := refI_start hbs (J := I1)
   rw [hk] at this;exact this
 intro I2 _ l2 j y0 y1 yq y3 y4 y5 y6 y7 y8 y9 y10 ah nh ch hI;obtain ⟨j0, j1, hq, yq', heq, hok, hs1, hs2, hy, hacc⟩ := hI;simp only [rqV, List.cons.injEq, Value.int.injEq, Value.string.injEq, true_and, and_true] at heq;obtain ⟨rfl, rfl, rfl, rfl, rfl, rfl, rfl, rfl, rfl, rfl, rfl, rfl⟩ := heq;refine Br.mk (fun hlt => ?_) (fun hge => ?_)
 · have hlt := of_decide_eq_true hlt
   have hF2 := hF.mono l2;obtain ⟨f, b, m, c', hf, hfo, e2, e3, hfs, hmc, hcm⟩ := hF2.at_ j0 hlt;have hfl := hle f (List.mem_of_getElem? hf);have hml := hfs.numLen
   have hsome := hF2.isSome (by omega)
   have hr := last_range hfo.2
   refine ⟨j0, hlt, hsome, hsome, _, _, _, e3, (ct57 f.2 hfo.2 b m c' I2 hfs (by omega) hmc).mono fun v I3 l3 hv => ⟨_, _, _, hv, ?_⟩⟩
   obtain ⟨f', b', m', c2, hf', _, e4, e5, hfs3, hmc, hcm⟩ := (hF2.mono l3).at_ j0 hlt;rw [hf] at hf'
   cases hf'
   have hml3 := hfs3.numLen;have hy3 := hy.mono l3;refine ⟨j0, hlt, hsome, hsome, _, e4, Br.mk (fun g2 => ?_) (fun g2 => ?_)⟩
   · have g2 := eqv g2
     obtain ⟨q1, q2, q3⟩ := u8s_at hfo.2 hfs3
     refine ⟨j0, hlt, hsome, hsome, _, _, _, e5, _, q1, q2, q3, wr_i64 (by omega) (by omega) ⟨rfl, rfl, rfl, rfl, rfl, rfl, refI_next hbs (y' := .slice ah nh ch) j0 hok hs1 hs2 hacc hf (by omega) (by omega) ?_ ?_, by omega⟩⟩
     · rw [g2]; exact hy3
     · rw [g2]; rfl
   refine ⟨j0, hlt, hsome, hsome, _, e4, Br.mk (fun g11 => ?_) (fun g11 => ?_)⟩
   · have g11 := eqv g11
     refine ⟨j0, hlt, hsome, hsome, _, _, _, e5, wr_i64 (by omega) (by omega) ⟨rfl, rfl, rfl, rfl, rfl, rfl, refI_next hbs (y' := .slice b' m' c2) j0 hok hs1 hs2 hacc hf (by omega) (by omega) ?_ ?_, by omega⟩⟩
     · rw [g11]; exact ⟨_, _, _, rfl, hfs3, hmc, hcm⟩
     · rw [g11]; rfl
   have g2 := nev g2;have g11 := nev g11
   have hRB : RefB bs j = (decide ((lastN f.2).2.2 ≠ 0) || (decide (11 < f.1) || ((decide (f.1 = 1) && decide (255 < (lastN f.2).1)) || (decide (f.1 < 10) && decide (9223372036854775807 < (lastN f.2).1))))) := by
    rw [RefB, hf]
   refine ⟨?_, ?_⟩
   · rw [hRB]
     refine Br.mk (fun k1 => ⟨rfl, rfl, rfl, rfl, rfl, rfl, rfl, rfl, ?_⟩) (fun k1 => ⟨j0, hlt, hsome, hsome, _, e4, Br.mk (fun k2 => ⟨rfl, rfl, rfl, rfl, rfl, rfl, rfl, rfl, ?_⟩) (fun k2 => ⟨j0, hlt, hsome, hsome, _, e4, Br.mk (fun k3 => Br.mk (fun k4 => ⟨rfl, rfl, rfl, rfl, rfl, rfl, rfl, rfl, ?_⟩) (fun k4 => ⟨j0, hlt, hsome, hsome, _, e4, Br.mk (fun k5 => ⟨rfl, rfl, rfl, rfl, rfl, rfl, rfl, rfl, ?_⟩) (fun k5 => ⟨rfl, rfl, rfl, rfl, rfl, rfl, rfl, rfl, ?_⟩)⟩)) (fun k3 => ⟨j0, hlt, hsome, hsome, _, e4, Br.mk (fun k5 => ⟨rfl, rfl, rfl, rfl, rfl, rfl, rfl, rfl, ?_⟩) (fun k5 => ⟨rfl, rfl, rfl, rfl, rfl, rfl, rfl, rfl, ?_⟩)⟩)⟩)⟩)
     · have k1 : (lastN f.2).2.2 ≠ 0 := by simpa using k1
       rw [decide_eq_true k1]; rfl
     all_goals have k1 : decide ((lastN f.2).2.2 ≠ 0) = false := decide_eq_false (by simpa using k1)
     all_goals rw [k1, Bool.false_or]
     · rw [k2, Bool.true_or]
     all_goals rw [k2, Bool.false_or]
     · rw [decide_eq_true (eqv k3), k4]; rfl
     · rw [k4, Bool.and_false, Bool.false_or, k5, Bool.true_and]
     · rw [k4, Bool.and_false, Bool.false_or, k5, Bool.false_and]
     · rw [decide_eq_false (nev k3), Bool.false_and, Bool.false_or, k5, Bool.true_and]
     · rw [decide_eq_false (nev k3), Bool.false_and, Bool.false_or, k5, Bool.false_and]
   rintro I4 _ l4 bb rfl;refine Br.mk (fun hb => refE_bad (refB_bad hbs hf g2 g11 hb)) (fun hb => ?_);rw [hRB] at hb;simp only [Bool.or_eq_false_iff, Bool.and_eq_false_iff, decide_eq_false_iff_not] at hb;have hy4 := hy3.mono l4;obtain ⟨f', b', m', c2, hf', _, e4, e5, _⟩ := ((hF2.mono l3).mono l4).at_ j0 hlt;rw [hf] at hf'
   cases hf'
   refine ⟨j0, hlt, hsome, hsome, _, e4, Br.mk (fun k1 => ?_) (fun k1 => ?_)⟩
   · have k1 := eqv k1
     refine ⟨_, IntWalk.u8_in _ ⟨hr.1, by omega⟩, wr_i64 (by omega) (by omega) ⟨rfl, rfl, rfl, rfl, rfl, rfl, refI_next hbs (y' := .slice ah nh ch) j0 hok hs1 hs2 hacc hf (by omega) (by omega) ?_ ?_, by omega⟩⟩
     · rw [k1]; exact hy4
     · rw [k1]; rfl
   have k1 := nev k1;refine ⟨j0, hlt, hsome, hsome, _, e4, Br.mk (fun k10 => ?_) (fun k10 => ?_)⟩
   · have k10 := eqv k10
     refine (ct58 _ hr I4).mono fun v I5 l5 hv => ⟨_, hv, wr_i64 (by omega) (by omega) ⟨rfl, rfl, rfl, rfl, rfl, rfl, refI_next hbs (y' := .slice ah nh ch) j0 hok hs1 hs2 hacc hf (by omega) (by omega) ?_ ?_, by omega⟩⟩
     · rw [k10]; exact hy4.mono l5
     · rw [k10]; rfl
   have k10 := nev k10;refine ⟨j0, hlt, hsome, hsome, _, e4, _, rfl, ?_⟩;refine (ct59 hq (.slice ah nh ch) f.1 _ I4 hy4).mono fun v I5 l5 hv => ?_
   have hst : setN hq f.1 (IntKind.i64.wrap (lastN f.2).1) = refTake hq f.1 f.2 := by
    rcases (by omega : f.1 = 3 \/ f.1 = 4 \/ f.1 = 5 \/ f.1 = 6 \/ f.1 = 7 \/ f.1 = 8 \/ f.1 = 9) with e | e | e | e | e | e | e
    all_goals rw [e]; rfl
   rw [hst] at hv
   refine ⟨_, _, _, _, _, _, _, _, _, _, _, _, _, _, hv, wr_i64 (by omega) (by omega) ⟨rfl, rfl, rfl, rfl, rfl, rfl, refI_next hbs (y' := .slice ah nh ch) j0 hok hs1 hs2 hacc hf (by omega) (by omega) ?_ rfl, by omega⟩⟩
   rw [<- hst]
   have : (setN hq f.1 (IntKind.i64.wrap (lastN f.2).1)).fed = hq.fed := by
    unfold setN
    repeat' split
    all_goals rfl
   rw [this];exact hy4.mono l5
 have hge := of_decide_eq_false hge
 have hR : accB bs = true -> hq = (readR bs).1 := fun ha => by
  obtain ⟨r1, r2, _, r4, _⟩ := acc_flds hbs ha
  have hl : (flB bs).length = (tagsR (readR bs).1).length := by rw [r4, fldsR, List.length_map]
  rw [hacc ha, List.take_of_length_le (by omega), (right_run r1 r2).2]
 refine (ct29 hq hok hs1 _ I2 hy hs2).mono fun v I3 l3 ⟨a5, n5, c5, hv, hw5, hn5, hc5⟩ => ⟨_, _, _, _, hv, Br.mk (fun k => refE_bad ?_) (fun k => ?_)⟩
 · cases ha : accB bs with
   | false => rfl
   | true =>
     rw [hR ha, (acc_flds hbs ha).2.1] at k;cases k
 have hrr : rightR hq = true := by
  cases hr : rightR hq with
  | true => rfl
  | false => rw [hr] at k; cases k
 rw [hrr] at hw5;simp only [if_true] at hw5;have hl5 := hw5.numLen;refine Br.mk (fun k => refE_bad ?_) (fun k => ?_)
 · have k : (n5 : Int) ≠ n := by simpa using k
   cases ha : accB bs with
   | false => rfl
   | true =>
     have := (acc_flds hbs ha).2.2.1;rw [<- hR ha] at this;rw [this] at hl5;omega
 have k : (n5 : Int) = n := by simpa using k
 have hle3 := Mem.le_trans (Mem.le_trans l1 l2) l3
 refine ⟨⟨rfl, rfl, rfl, rfl, rfl, rfl, _, _, rfl, hok, hrr, hy.mono l3, hw5, by omega, by omega, by omega, by simp, hR⟩, ?_⟩
 intro I4 _ l4 i z0 z1 zq z3 z4 z5 z6 z7 z8 z9 z10 ai ni ci hJ;obtain ⟨g, yg, heq, gok, grr, gy, gw, gn, i0, i1, gt, gR⟩ := hJ;simp only [rqV, List.cons.injEq, Value.int.injEq, Value.string.injEq, true_and, and_true] at heq;obtain ⟨rfl, rfl, rfl, rfl, rfl, rfl, rfl, rfl, rfl, rfl, rfl, rfl⟩ := heq;refine Br.mk (fun hlt => ?_) (fun hge => ?_)
 · have hlt := of_decide_eq_true hlt
   obtain ⟨u, hu, hau⟩ := gw.intAt i0 (by omega)
   obtain ⟨w, hw, haw⟩ := (h.mono (Mem.le_trans hle3 l4)).intAt i0 hlt
   refine ⟨i0, by omega, gw.isSome (by omega), u, hau, i0, hlt, h.isSome (by omega), w, haw, Br.mk (fun k => refE_bad ?_) (fun k => ?_)⟩
   · have k : u ≠ w := by simpa using k
     cases ha : accB bs with
     | false => rfl
     | true =>
       have := (acc_flds hbs ha).2.2.1;rw [<- gR ha] at this;rw [this, hw] at hu;exact absurd (Option.some.inj hu).symm k
   · have k : u = w := by simpa using k
     refine wr_i64 (by omega) (by omega) ⟨rfl, rfl, rfl, rfl, rfl, rfl, ⟨_, _, rfl, gok, grr, gy, gw, gn, by omega, by omega, ?_, gR⟩, by omega⟩
     rw [show (i + 1).toNat = i.toNat + 1 by omega, take_succ' hu, take_succ' hw, gt, k]
 · have hge := of_decide_eq_false hge
   have gl := gw.numLen
   have he : writeR g = bs := by
    rw [List.take_of_length_le (by omega), List.take_of_length_le (by omega)] at gt
    exact gt
   have := (read_writeR gok grr).2;rw [he] at this;unfold RefE;rw [this];exact ⟨_, rfl, gy⟩
section
variable {H : Type} {enc : TypeId × Value -> H} {W : World} {r : Reach} {b0 : Nat} {v : Value} {d : DataW H} {ps : List MemPlace}
end
section
variable {H : Type} {enc : TypeId × Value -> H} {W : World} {r : Reach} {b0 : Nat} {v : Value} {d : DataW H} {ps : List MemPlace}
end
theorem sl_pre {I : Mem} {a : Option Addr} {n k : Nat} {xs ys : List Int} (h : SlM I a (n + k) 1 (ints .u8 (xs ++ ys))) (hx : n = xs.length) : SlM I a n 1 (ints .u8 xs) := by
 refine ⟨by rw [ints_len]; omega, fun hn => by have := h.nil hn; omega, Nat.le_trans (by omega) h.max, fun j v hj => h.at_ j v ?_⟩
 have hl := (List.getElem?_eq_some_iff.1 hj).1;unfold ints at hj hl ⊢;rw [List.map_append, List.getElem?_append_left hl];exact hj
theorem ownS_mono {sz : Nat} {G G' : Mem} {a : Option Addr} {c : Nat} (h : OwnS sz G a c) (hle : G.le G') : OwnS sz G' a c := fun hc => by
 obtain ⟨b, off, cur, el, fz, h1, h2, h3⟩ := h hc;exact ⟨b, off, cur, el, fz, h1, hle _ _ h2, h3⟩
theorem read_okRq {bs : List Int} (hb : byteL bs) : okRq (readR bs).1 /\ (readR bs).1.name.size <= 255 /\ (readR bs).1.fed.length <= 15000 := by
 cases ha : accB bs with
 | true =>
   obtain ⟨h1, h2, _⟩ := acc_flds hb ha;obtain ⟨_, h3, h4, _⟩ := right_tag h2;exact ⟨h1, h3, h4⟩
 | false =>
   rw [read_bad ha]
   exact ⟨okRq_start (k := 0) (w := 0) (by omega) (by omega), by decide, by decide⟩
set_option maxRecDepth 100000 in
set_option maxHeartbeats 2000000 in
theorem ct11 (bs : List Int) (hbs : byteL bs) (a : Option Addr) (n c : Nat) (I : Mem) (h : SlM I a n 1 (ints .u8 bs)) (hc : n <= c) (hm : c <= maxLen) :
 Ct Try.prog (fnv 11) #[.slice a n c] I (fun v _ => v = .bool true) := by
 refine viaR (ct_via (A := { calls := [(15, .g), (24, .g), (26, .g), (35, .g)] }) Try.func11 rfl Try.call11 rfl rfl) (Br (decide (20000 < (n : Int))) (Rf (Value.bool true)) (Ct Try.prog (fnv 34) #[.slice a n c] I (fun v b => ∃ d e f, v = .slice d e f /\ CtH Try.prog (fnv 16) #[.slice d e f] b Mem.emp fun g i G => ∃ j k q l m o p r s t u w x y z, g = .tuple #[.agg #[.int .u8 j, .int .u8 k, .string q, .int .i64 l, .int .i64 m, .int .i64 o, .int .i64 p, .int .i64 r, .int .i64 s, .int .i64 t, .int .i64 u, .slice w x y], .int .i64 z] /\ Ct Try.prog (fnv 35) #[.slice a n c] i fun v1 I1 => ∃ n1 n2 q1 n3 n4 n5 n6 n7 n8 n9 n10 a1 n11 c1 n12, v1 = .tuple #[.agg #[.int .u8 n1, .int .u8 n2, .string q1, .int .i64 n3, .int .i64 n4, .int .i64 n5, .int .i64 n6, .int .i64 n7, .int .i64 n8, .int .i64 n9, .int .i64 n10, .slice a1 n11 c1], .int .i64 n12] /\ CtH Try.prog (fnv 33) #[.agg #[.int .u8 j, .int .u8 k, .string q, .int .i64 l, .int .i64 m, .int .i64 o, .int .i64 p, .int .i64 r, .int .i64 s, .int .i64 t, .int .i64 u, .slice w x y]] I1 G fun v2 I2 G1 => ∃ n13 n14 q2 n15 n16 n17 n18 n19 n20 n21 n22 a2 n23 c2, v2 = .agg #[.int .u8 n13, .int .u8 n14, .string q2, .int .i64 n15, .int .i64 n16, .int .i64 n17, .int .i64 n18, .int .i64 n19, .int .i64 n20, .int .i64 n21, .int .i64 n22, .slice a2 n23 c2] /\ CtH Try.prog (fnv 36) #[.agg #[.int .u8 n13, .int .u8 n14, .string q2, .int .i64 n15, .int .i64 n16, .int .i64 n17, .int .i64 n18, .int .i64 n19, .int .i64 n20, .int .i64 n21, .int .i64 n22, .slice a2 n23 c2], .agg #[.int .u8 n1, .int .u8 n2, .string q1, .int .i64 n3, .int .i64 n4, .int .i64 n5, .int .i64 n6, .int .i64 n7, .int .i64 n8, .int .i64 n9, .int .i64 n10, .slice a1 n11 c1]] I2 G1 fun v3 I3 G2 => ∃ b1, v3 = .bool b1 /\ Br (!b1) (Value.bool false = .bool true) (Br (z != n12) (Value.bool false = .bool true) (CtH Try.prog (fnv 37) #[.slice w x y] I3 G2 (fun v4 I4 G3 => v4 = .tuple #[] /\ Ct Try.prog (fnv 38) #[.slice d e f, .slice a n c] I4 fun v5 I5 => ∃ b2, v5 = .bool b2 /\ Value.bool b2 = .bool true)))))) (by kernel_rfl) ?_
 have hnl := h.numLen;refine Br.mk (fun _ => rfl) (fun hlt => ?_);have hlt := of_decide_eq_false hlt;obtain ⟨rok, rs1, rs2⟩ := read_okRq hbs
 refine (ct34 bs a n c I h (by omega)).mono fun v I1 l1 ⟨a1, cp, hv, hcp, hcm, hs1⟩ => ⟨_, _, _, hv, ?_⟩
 have hs2 := sl_pre hs1 hnl
 refine (ct_own (ct16 bs hbs a1 n cp I1 hs2 (by omega) (by omega) hcm)).mono ?_
 rintro v I2 G2 _ ⟨rfl, J, lJ, ⟨y, hv, hy, hO⟩, rfl⟩;obtain ⟨ba, bn, bc, rfl, hb1, hb2, hb3⟩ := hy;obtain ⟨hO1, hO2⟩ := hO _ _ _ rfl
 refine ⟨_, _, _, _, _, _, _, _, _, _, _, _, _, _, _, hv, (ct35 bs hbs a n c I2 (h.mono l1) (by omega) hc hm).mono fun v I3 l3 ⟨y', hv, hy'⟩ => ?_⟩
 obtain ⟨da, dn, dc, rfl, hd1, hd2, hd3⟩ := hy'
 refine ⟨_, _, _, _, _, _, _, _, _, _, _, _, _, _, _, hv, (ct_bothN fun hap => ct33 (readR bs).1 (.slice ba bn bc) _ ⟨_, _, _, rfl, hb1.mono (Mem.le_trans (le_gained lJ) (both_mono l3 hap)), hb2, hb3⟩ (by omega)).mono ?_⟩
 rintro v I4 G4 _ ⟨rfl, lG, _, ⟨y3, hv, hy3⟩⟩;obtain ⟨ea, en, ec, rfl, he1, he2, he3⟩ := hy3
 refine ⟨_, _, _, _, _, _, _, _, _, _, _, _, _, _, hv, (ct_both fun hap => ct36 (readR bs).1 (readR bs).1 rok rok (.slice ea en ec) (.slice da dn dc) _ ⟨_, _, _, rfl, he1, he2, he3⟩ ⟨_, _, _, rfl, hd1.mono (both_le _ _), hd2, hd3⟩ (by omega)).mono ?_⟩
 rintro v I5 G5 _ ⟨rfl, rfl, _, hv⟩
 refine ⟨_, hv, Br.f (by rw [same_iff.2 rfl]; rfl) (Br.f (by simp) ((ct37 ba bn bc _ _ hb2 hO2 (ownS_mono hO1.own lG)).mono fun v I6 G6 l6 hv => ⟨hv.1, ?_⟩))⟩
 exact (ct38 bs bs a1 n cp a n c I6 (hs1.mono (Mem.le_trans l3 l6)) rfl rfl hcp (h.mono (Mem.le_trans l1 (Mem.le_trans l3 l6))) (by omega)).mono fun v I7 l7 hv => ⟨_, hv, rfl⟩
