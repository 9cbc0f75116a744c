/- Part of a proof by the rules of the symbolic walk (see the law's own text): contracts of functions of the program. -/
import Derived.Test.YtdmhilnnendcoaaGreatRea6
import Derived.Test.YtdmhilnnendcoaaGreatRea5
import Derived.Test.YtdmhilnnendcoaaGreatRea3
set_option linter.unusedVariables false
set_option linter.unusedSimpArgs false
open Go Go.Proofs Go.SE Go.RowKit
set_option linter.unusedVariables false
set_option maxRecDepth 100000
set_option maxHeartbeats 1000000
def evI (x : EvT) : List Int := [x.1.1, x.1.2.1, x.1.2.2, x.2.1, foldZ x.2.2]
def evO (x : EvT) : List Int := [x.1.1, x.1.2.1, x.1.2.2, x.2.1, 0]
theorem splice_set {k : IntKind} (F : List Int) {i : Nat} {z : Int} (h : i < F.length) : splice (ints k F) i [.int k z] = ints k (F.set i z) := by
 simp [splice, ints, List.map_set]
theorem ct20_11 (h : Rs) (hh : okRf h) (hs : smallF h) (y : Ys) (I : Mem) (hM : RfM I h y) (bs : List Int) (hbs : byteL bs) (b : Option Addr) (m c : Nat) (hb : SlM I b m 1 (ints .u8 bs)) (hmc : m <= c) (hcm : c <= maxLen) (hm : m <= 20000) (hN : NilF 11 h y) :
 Ct Tryz.prog (fnv 20) #[.agg (rfV h y).toArray, .agg #[.int .i64 11, .slice b m c]] I (fun v I' => RdP h 11 bs I' v) := by
 obtain ⟨Q, hQ⟩ : ∃ f : Value -> Mem -> Prop, f = fun v I' => RdP h 11 bs I' v := ⟨_, rfl⟩
 show Ct Tryz.prog (fnv 20) #[_, _] I (fun v I' => (fun v I' => RdP h 11 bs I' v) v I')
 rw [<- hQ];have hM0 := hM;obtain ⟨⟨ac, nc, cc, hyc, hc, hcc, hcm'⟩, ⟨al, nl, cl, hyl, hl, hlc, hlm⟩, ⟨ae, ne, ce, hye, he, hec, hem⟩, ⟨ap, np, cp, hyp, hp, hpc, hpm⟩, ⟨ah, nh, ch, hyh, hh', hhc, hhm⟩⟩ := hM;obtain ⟨yc, yl, ye, yp, yh⟩ := y
 simp only at hyc hyl hye hyp hyh
 have hz : ye = .slice none 0 0 := (hN.2.1 (by omega)).1
 clear hye he hec hem
 subst hyc hyl hz hyp hyh;obtain ⟨AI, hAI⟩ : ∃ f : Int -> List Value -> List Value -> Prop, f = fun (i : Int) f g => 4 <= i /\ i <= 20010 /\ ∃ F V : List Int, f = ints .u64 F /\ g = ints .i64 V /\ (∀ x ∈ F, u64R x) /\ (∀ x ∈ V, i64R x) /\ i = 5 * (V.length : Int) + 4 /\ F.length <= 20000 /\ F.length % 5 = 0 /\ ∀ R, okRs R -> rightS R = true -> (11, bs) ∈ allF R -> F = (R.events.take V.length).flatMap evO ++ (R.events.drop V.length).flatMap evI /\ V = (R.events.take V.length).map fun x => x.2.2 := ⟨_, rfl⟩
 obtain ⟨BI, hBI⟩ : ∃ f : Int -> List Value -> Prop, f = fun (r : Int) q => 0 <= r /\ r <= 20000 /\ ∃ V : List EvT, q = V.flatMap cE /\ 5 * (V.length : Int) = r /\ (∀ x ∈ V, (i64R x.1.1 /\ i64R x.1.2.1 /\ i64R x.1.2.2) /\ i64R x.2.1 /\ i64R x.2.2) /\ ∀ R, okRs R -> rightS R = true -> (11, bs) ∈ allF R -> V = R.events.take V.length := ⟨_, rfl⟩
 refine viaR (ct_via (A := { calls := [(33, .lend [] (.tup [.row 0, .sh (.int .i64)]) [.row 1 85])], loops := [(17, ⟨[(2, .keep), (3, .keep), (4, .keep), (8, .row 3), (9, .keep), (11, .row 4), (12, .sh (.int .i64))], [(0, .keep), (1, .keep), (2, .keep), (3, .row), (4, .row)], [(11, 1, 2)], fun vals xss _ _ => match vals, xss with | [.int .i64 j], [xs, ys] => AI j xs ys | _, _ => False, fun vals _ => match vals with | [.int .i64 j] => (100000000 - j).toNat | _ => 0⟩), (50, ⟨[(2, .keep), (3, .keep), (4, .keep), (11, .keep), (13, .keep), (15, .sh (.int .i64))], [(0, .cells [.keep, .keep, .keep, .keep, .keep, .keep, .keep, .keep, .keep, .keep, .keep, .keep, .row 5, .keep, .keep]), (1, .keep), (2, .keep), (4, .keep), (5, .row)], [(2, 12005, 69)], fun vals xss _ _ => match vals, xss with | [.int .i64 j], [xs] => BI j xs | _, _ => False, fun vals _ => match vals with | [.int .i64 j] => (100000000 - j).toNat | _ => 0⟩)] }) Tryz.func20 rfl Tryz.call20 rfl rfl) (let E1 := Ent.mk (.cells [.v (.int .i64 0), .v (.int .i64 0), .v (.int .i64 0), .v (.int .i64 0), .v (.int .i64 0), .v (.int .i64 0), .v (.bool false), .v (.int .i64 0), .v (.int .i64 0), .v (.int .i64 0), .v (.slice none 0 0), .v (.slice none 0 0), .v (.slice none 0 0), .v (.slice none 0 0), .v (.slice none 0 0)] 41) none
  let E2 := Ent.mk (.cells [.v (.int .i64 h.num), .v (.int .i64 h.code), .v (.int .i64 h.ser), .v (.int .i64 h.port), .v (.int .i64 h.time), .v (.int .i64 h.kind), .v (.bool h.more), .v (.int .i64 h.key.1), .v (.int .i64 h.key.2.1), .v (.int .i64 h.key.2.2), .v (.slice ac nc cc), .v (.slice al nl cl), .v (.slice none 0 0), .v (.slice ap np cp), .v (.slice ah nh ch)] 41) none
  let E3 := Ent.mk (.cells [.v (.int .i64 11), .v (.slice b m c)] 65) none
  CtS Tryz.prog (.v (fnv 53)) [.v (.slice b m c)] [] I fun s H a => ∃ n d x, s = .tup [.rsl 0 n, .v (.int .i64 d)] /\ H = [⟨.row x 1 85, none⟩] /\ Br (d != 0) (Q (.tuple #[.agg #[.int .i64 h.num, .int .i64 h.code, .int .i64 h.ser, .int .i64 h.port, .int .i64 h.time, .int .i64 h.kind, .bool h.more, .int .i64 h.key.1, .int .i64 h.key.2.1, .int .i64 h.key.2.2, .slice ac nc cc, .slice al nl cl, .slice none 0 0, .slice ap np cp, .slice ah nh ch], .bool false]) a) ((5 : Int) ≠ 0 /\ Br (Int.tmod (n : Int) 5 == 0) ((Rf E2 /\ Rf E3 /\ Rf E1 /\ Rf (SV.ptr 0 0) /\ Rf (SV.ptr 1 0) /\ Rf (SV.ptr 2 0) /\ n = x.length /\ Rf (SV.v (.int .i64 d)) /\ (0 : Nat) = 0 /\ AI 4 x []) /\ ∀ (e : Mem), Mem -> a.le e -> ∀ (f g : List Value) (i : Int), AI i f g -> Br (decide (i < (f.length : Int))) (0 <= i /\ i < (f.length : Int) /\ f.length * 1 <= f.length /\ ∃ j, f[i.toNat * 1 + 0]? = some (.int .u64 j) /\ Ct Tryz.prog (fnv 54) #[.int .u64 j] e fun v k => ∃ l, v = .int .i64 l /\ g.length = g.length * 1 /\ g.length + 1 <= 9223372036854775807 /\ (g.length + 1) * 8 <= 140737488355328 /\ 0 <= i /\ i < (f.length : Int) /\ f.length * 1 <= f.length /\ i.toNat * 1 + 1 <= f.length /\ (0 : Nat) < 1 /\ Wr .i64 (i + 5) fun o => Rf E2 /\ Rf E3 /\ Rf E1 /\ Rf (SV.ptr 0 0) /\ Rf (SV.ptr 1 0) /\ Rf (SV.ptr 2 0) /\ f.length = (splice f (i.toNat * 1) [.int .u64 0]).length /\ Rf (SV.v (.int .i64 d)) /\ g.length + 1 = List.length (g ++ [.int .i64 l]) /\ AI o (splice f (i.toNat * 1) [.int .u64 0]) (g ++ [.int .i64 l]) /\ Int.toNat (100000000 - o) < Int.toNat (100000000 - i)) (∀ (j : Option Addr) (k : Nat) (l : Mem), e.le l -> RowM l j k 1 f -> Ct Tryz.prog (fnv 55) #[.slice j f.length k] l fun v o => ∃ p q r t, v = .tuple #[.slice p q r, .bool t] /\ Br (!t) (Q (.tuple #[.agg #[.int .i64 h.num, .int .i64 h.code, .int .i64 h.ser, .int .i64 h.port, .int .i64 h.time, .int .i64 h.kind, .bool h.more, .int .i64 h.key.1, .int .i64 h.key.2.1, .int .i64 h.key.2.2, .slice ac nc cc, .slice al nl cl, .slice none 0 0, .slice ap np cp, .slice ah nh ch], .bool false]) o) ((5 : Int) ≠ 0 /\ Br (decide (0 < Int.tmod (q : Int) 5)) (Q (.tuple #[.agg #[.int .i64 h.num, .int .i64 h.code, .int .i64 h.ser, .int .i64 h.port, .int .i64 h.time, .int .i64 h.kind, .bool h.more, .int .i64 h.key.1, .int .i64 h.key.2.1, .int .i64 h.key.2.2, .slice ac nc cc, .slice al nl cl, .slice none 0 0, .slice ap np cp, .slice ah nh ch], .bool false]) o) ((Rf E3 /\ Rf E1 /\ Rf (Ent.mk (.row g 1 2) none) /\ Rf (SV.ptr 0 0) /\ Rf (SV.ptr 1 0) /\ Rf (SV.ptr 2 0) /\ Rf (SV.rsl 4 g.length) /\ Rf (SV.v (.slice p q r)) /\ Rf (none : Option Nat) /\ Rf (SV.v (.int .i64 h.num)) /\ Rf (SV.v (.int .i64 h.code)) /\ Rf (SV.v (.int .i64 h.ser)) /\ Rf (SV.v (.int .i64 h.port)) /\ Rf (SV.v (.int .i64 h.time)) /\ Rf (SV.v (.int .i64 h.kind)) /\ Rf (SV.v (.bool h.more)) /\ Rf (SV.v (.int .i64 h.key.1)) /\ Rf (SV.v (.int .i64 h.key.2.1)) /\ Rf (SV.v (.int .i64 h.key.2.2)) /\ Rf (SV.v (.slice ac nc cc)) /\ Rf (SV.v (.slice al nl cl)) /\ (0 : Nat) = 0 /\ Rf (SV.v (.slice ap np cp)) /\ Rf (SV.v (.slice ah nh ch)) /\ BI 0 []) /\ ∀ (u : Mem), Mem -> o.le u -> ∀ (w : List Value) (y : Int), BI y w -> Br (decide (y < (q : Int))) (0 <= y /\ y < (q : Int) /\ p.isSome = true /\ ∃ z, atI u p (y.toNat * 1 + 0) = some (.int .i64 z) /\ Wr .i64 (y + 1) fun c1 => 0 <= c1 /\ c1 < (q : Int) /\ p.isSome = true /\ ∃ n1, atI u p (c1.toNat * 1 + 0) = some (.int .i64 n1) /\ Wr .i64 (y + 2) fun c2 => 0 <= c2 /\ c2 < (q : Int) /\ p.isSome = true /\ ∃ n2, atI u p (c2.toNat * 1 + 0) = some (.int .i64 n2) /\ Wr .i64 (y + 3) fun c3 => 0 <= c3 /\ c3 < (q : Int) /\ p.isSome = true /\ ∃ n3, atI u p (c3.toNat * 1 + 0) = some (.int .i64 n3) /\ (5 : Int) ≠ 0 /\ Wr .i64 (y.tdiv 5) fun c4 => 0 <= c4 /\ c4 < (g.length : Int) /\ g.length * 1 <= g.length /\ ∃ n4, g[c4.toNat * 1 + 0]? = some (.int .i64 n4) /\ w.length = w.length / 5 * 5 /\ w.length / 5 + 1 <= 9223372036854775807 /\ (w.length / 5 + 1) * 40 <= 140737488355328 /\ Wr .i64 (y + 5) fun c5 => Rf E3 /\ Rf E1 /\ Rf (Ent.mk (.row g 1 2) none) /\ Rf (SV.ptr 0 0) /\ Rf (SV.ptr 1 0) /\ Rf (SV.ptr 2 0) /\ Rf (SV.rsl 4 g.length) /\ Rf (SV.v (.slice p q r)) /\ Rf (none : Option Nat) /\ Rf (SV.v (.int .i64 h.num)) /\ Rf (SV.v (.int .i64 h.code)) /\ Rf (SV.v (.int .i64 h.ser)) /\ Rf (SV.v (.int .i64 h.port)) /\ Rf (SV.v (.int .i64 h.time)) /\ Rf (SV.v (.int .i64 h.kind)) /\ Rf (SV.v (.bool h.more)) /\ Rf (SV.v (.int .i64 h.key.1)) /\ Rf (SV.v (.int .i64 h.key.2.1)) /\ Rf (SV.v (.int .i64 h.key.2.2)) /\ Rf (SV.v (.slice ac nc cc)) /\ Rf (SV.v (.slice al nl cl)) /\ w.length / 5 + 1 = List.length (w ++ [.int .i64 z, .int .i64 n1, .int .i64 n2, .int .i64 n3, .int .i64 n4]) / 5 /\ Rf (SV.v (.slice ap np cp)) /\ Rf (SV.v (.slice ah nh ch)) /\ BI c5 (w ++ [.int .i64 z, .int .i64 n1, .int .i64 n2, .int .i64 n3, .int .i64 n4]) /\ Int.toNat (100000000 - c5) < Int.toNat (100000000 - y)) (∀ (z : Option Addr) (c1 : Nat) (I1 : Mem), u.le I1 -> RowM I1 z c1 5 w -> Q (.tuple #[.agg #[.int .i64 h.num, .int .i64 h.code, .int .i64 h.ser, .int .i64 h.port, .int .i64 h.time, .int .i64 h.kind, .bool h.more, .int .i64 h.key.1, .int .i64 h.key.2.1, .int .i64 h.key.2.2, .slice ac nc cc, .slice al nl cl, .slice z (w.length / 5) c1, .slice ap np cp, .slice ah nh ch], .bool true]) I1))))) (∀ (e : Option Addr) (f : Nat) (g : Mem), a.le g -> RowM g e f 1 x -> Ct Tryz.prog (fnv 55) #[.slice e n f] g fun v i => ∃ j k l o, v = .tuple #[.slice j k l, .bool o] /\ Br (!o) (Q (.tuple #[.agg #[.int .i64 h.num, .int .i64 h.code, .int .i64 h.ser, .int .i64 h.port, .int .i64 h.time, .int .i64 h.kind, .bool h.more, .int .i64 h.key.1, .int .i64 h.key.2.1, .int .i64 h.key.2.2, .slice ac nc cc, .slice al nl cl, .slice none 0 0, .slice ap np cp, .slice ah nh ch], .bool false]) i) ((5 : Int) ≠ 0 /\ Br (decide (0 < Int.tmod (k : Int) 5)) (Q (.tuple #[.agg #[.int .i64 h.num, .int .i64 h.code, .int .i64 h.ser, .int .i64 h.port, .int .i64 h.time, .int .i64 h.kind, .bool h.more, .int .i64 h.key.1, .int .i64 h.key.2.1, .int .i64 h.key.2.2, .slice ac nc cc, .slice al nl cl, .slice none 0 0, .slice ap np cp, .slice ah nh ch], .bool false]) i) ((Rf E3 /\ Rf E1 /\ Rf (Ent.mk (.row [] 5 69) none) /\ False) /\ ∀ (p : Mem), Mem -> i.le p -> List Value -> False))))) (by kernel_rfl) ?_
 intro E1 E2 E3;simp only [Rf, eq_self, true_and]
 have fail : ∀ J, I.le J -> (∀ R, okRs R -> rightS R = true -> (11, bs) ∈ allF R -> False) -> Q (.tuple #[.agg (rfV h ⟨.slice ac nc cc, .slice al nl cl, .slice none 0 0, .slice ap np cp, .slice ah nh ch⟩).toArray, .bool false]) J := fun J lJ H => by
  rw [hQ]
  exact ⟨h, _, false, rfl, hM0.mono lJ, hh, hs, (fun h => by cases h), fun R a b c => (H R a b c).elim⟩
 have good : ∀ R, okRs R -> rightS R = true -> (11, bs) ∈ allF R -> ∃ L, L = R.events.flatMap evI /\ bs = numsF L /\ ∀ x ∈ L, u64R x := fun R hR hr hk => by
  obtain ⟨⟨p1, p2, p3, p4, p5, p6, p7, p8, p9⟩, q1, q2, q3, q4⟩ := right_nn hR hr;obtain ⟨b1, b2, b3, b4, b5, b6, b7, b8, b9, b10, b11, b12, b13, b14⟩ := fn_at hk
  have hp : ∀ x ∈ R.events, ∀ y ∈ evI x, u64R y := fun x hx y hy => by
   have h1 := q2 x hx;have h2 := hR.events x hx;simp only [evI, List.mem_cons, List.not_mem_nil, or_false] at hy
   rcases hy with rfl | rfl | rfl | rfl | rfl
   · exact u64_of h1.1 h2.1.1
   · exact u64_of h1.2.1 h2.1.2.1
   · exact u64_of h1.2.2.1 h2.1.2.2
   · exact u64_of h1.2.2.2 h2.2.1
   · exact foldZ_range h2.2.2
  have e1 : bs = numsF (R.events.flatMap evI) := by
   rw [b11 rfl];refine fm_nums fun x hx => ?_;have h1 := q2 x hx;have h2 := hR.events x hx;rw [<- evF_eq, fmR_nat h1.1 h2.1.1, fmR_nat h1.2.1 h2.1.2.1, fmR_nat h1.2.2.1 h2.1.2.2, fmR_nat h1.2.2.2 h2.2.1];simp [evI, numsF]
  refine ⟨_, rfl, e1, fun y hy => ?_⟩;obtain ⟨x, hx, hy⟩ := List.mem_flatMap.1 hy;exact hp x hx y hy
 refine (cts_new2 (sz := 1) (el := 85) (by omega) (ct53L bs hbs b m c I hb (by omega) hmc)).mono fun sv H' J0 l0 ⟨xs, n, w, hsv, hH, ⟨hnx, l, e, hxs, hw, hll, hlr, hgd⟩⟩ => ?_
 subst hxs hw;have hml := hb.numLen
 have G : ∀ R, okRs R -> rightS R = true -> (11, bs) ∈ allF R -> e = 0 /\ l = R.events.flatMap evI := fun R hR hr hk => by
  obtain ⟨L, hL, hb, hp⟩ := good R hR hr hk;obtain ⟨h1, h2⟩ := hgd L hp hb
  exact ⟨h1, by rw [h2, hL]⟩
 have hnl : n = l.length := by rw [ints_len] at hnx; omega
 refine ⟨n, e, _, hsv, hH, Br.mk (fun he => fail _ l0 fun R hR hr hk => ?_) (fun he => ?_)⟩
 · rw [(G R hR hr hk).1] at he; cases he
 have lI : ∀ L : List EvT, (L.flatMap evI).length = L.length * 5 := fun L => by
  induction L with
  | nil => rfl
  | cons x L ih => rw [List.flatMap_cons, List.length_append, ih]; simp [evI]; omega
 have lO : ∀ L : List EvT, (L.flatMap evO).length = L.length * 5 := fun L => by
  induction L with
  | nil => rfl
  | cons x L ih => rw [List.flatMap_cons, List.length_append, ih]; simp [evO]; omega
 have ht5 : ∀ k : Nat, Int.tmod (k : Int) 5 = (k : Int) % 5 := fun k => Int.tmod_eq_emod_of_nonneg (by omega)
 refine ⟨by decide, Br.mk (fun h5 => ?_) (fun h5 => ?_)⟩
 · have h5 : (n : Int) % 5 = 0 := by rw [ht5] at h5; simpa using h5
   refine ⟨⟨by rw [ints_len]; omega, by rw [hAI]; exact ⟨by omega, by omega, l, [], rfl, rfl, hlr, (fun x hx => by cases hx), rfl, by omega, by omega, fun R hR hr hk => ⟨by rw [(G R hR hr hk).2]; simp, rfl⟩⟩⟩, fun J _ lJ f g i hi => ?_⟩
   rw [hAI] at hi;obtain ⟨i0, i1, F, V, rfl, rfl, hF, hV, hiV, hF2, hF5, hFV⟩ := hi;have hFl : (ints .u64 F).length = F.length := ints_len;have hVl : (ints .i64 V).length = V.length := ints_len;refine Br.mk (fun hlt => ?_) (fun hge => ?_)
   · have hlt := of_decide_eq_true hlt
     obtain ⟨x, hx⟩ : ∃ x, F[i.toNat]? = some x := ⟨_, List.getElem?_eq_getElem (by omega)⟩
     have hxr := hF x (List.mem_of_getElem? hx)
     refine ⟨by omega, hlt, by omega, x, by rw [Nat.mul_one, Nat.add_zero]; exact ints_get hx, (ct54 x hxr J).mono fun v J1 l1 hv => ⟨_, hv, by omega, by omega, by omega, by omega, hlt, by omega, by omega, by decide, wr_i64 (by omega) (by omega) ⟨?_, by rw [List.length_append]; rfl, ?_, by omega⟩⟩⟩
     · rw [Nat.mul_one, splice_set F (by omega), ints_len, ints_len, List.length_set]
     rw [Nat.mul_one, splice_set F (by omega), hAI]
     refine ⟨by omega, by omega, F.set i.toNat 0, V ++ [unfoldZ x], rfl, ints_snoc, fun y hy => ?_, fun y hy => ?_, by rw [List.length_append, List.length_singleton]; omega, by rw [List.length_set]; exact hF2, by rw [List.length_set]; exact hF5, fun R hR hr hk => ?_⟩
     · rcases List.mem_or_eq_of_mem_set hy with hy | rfl
       · exact hF y hy
       · exact ⟨by omega, by omega⟩
     · rcases List.mem_append.1 hy with hy | hy
       · exact hV y hy
       · rw [List.mem_singleton.1 hy]; exact unfoldZ_rng hxr
     · obtain ⟨q1, q2⟩ := hFV R hR hr hk
       have hlen := congrArg List.length q1;rw [List.length_append, lO, lI, List.length_take, List.length_drop] at hlen
       obtain ⟨z, hz⟩ : ∃ z, R.events[V.length]? = some z := ⟨_, List.getElem?_eq_getElem (by omega)⟩
       have hdr : R.events.drop V.length = z :: R.events.drop (V.length + 1) := drop_cons hz
       have htk : R.events.take (V.length + 1) = R.events.take V.length ++ [z] := by rw [List.take_add_one, hz]; rfl
       have hOl : ((R.events.take V.length).flatMap evO).length = 5 * V.length := by rw [lO, List.length_take]; omega
       rw [hdr, List.flatMap_cons] at q1
       have hxz : x = foldZ z.2.2 := by
        rw [q1, List.getElem?_append_right (by omega), hOl, show i.toNat - 5 * V.length = 4 by omega] at hx
        simp [evI] at hx;exact hx.symm
       rw [List.length_append, List.length_singleton, htk];refine ⟨?_, ?_⟩
       · rw [q1, List.set_append_right _ _ (by omega), hOl, show i.toNat - 5 * V.length = 4 by omega]
         simp [evI, evO]
       · rw [List.map_append, <- q2, hxz, unfold_fold (hR.events z (List.mem_of_getElem? hz)).2.2]
         rfl
   have hge := of_decide_eq_false hge;intro e1 f1 J1 l1 hrow;rw [hFl]
   have GF : ∀ R, okRs R -> rightS R = true -> (11, bs) ∈ allF R -> F = R.events.flatMap evO /\ V = R.events.map (fun x => x.2.2) /\ V.length = R.events.length := fun R hR hr hk => by
    obtain ⟨q1, q2⟩ := hFV R hR hr hk;have hlen := congrArg List.length q1;have hlen2 := congrArg List.length q2;rw [List.length_append, lO, lI, List.length_take, List.length_drop] at hlen;rw [List.length_map, List.length_take] at hlen2
    rw [List.take_of_length_le (by omega), List.drop_eq_nil_of_le (by omega)] at q1
    rw [List.take_of_length_le (by omega)] at q2
    exact ⟨by rw [q1]; simp, q2, by omega⟩
   refine ints_call hF hrow rfl (by omega) (fun j k c J l2 hx => ⟨_, _, _, _, rfl, Br.t rfl (fail _ (Mem.le_trans l0 (Mem.le_trans lJ (Mem.le_trans l1 l2))) fun R hR hr hk => ?_)⟩) (fun j k c J l2 hpos hsl hk hkc hcm2 hN2 => ⟨_, _, _, _, rfl, Br.f rfl ⟨by decide, ?_⟩⟩)
   · obtain ⟨x, hx, hx2⟩ := hx
     rw [(GF R hR hr hk).1] at hx;obtain ⟨y, hy, hx⟩ := List.mem_flatMap.1 hx;have h2 := hR.events y hy;simp only [i64R] at h2;simp only [evO, List.mem_cons, List.not_mem_nil, or_false] at hx
     rcases hx with rfl | rfl | rfl | rfl | rfl <;> omega
   have l02 := Mem.le_trans l0 (Mem.le_trans lJ (Mem.le_trans l1 l2))
   refine Br.f (by rw [ht5]; exact decide_eq_false (by omega)) ?_
   refine ⟨by rw [hBI]; exact ⟨by omega, by omega, [], rfl, by simp, (fun x hx => by cases hx), fun R _ _ _ => rfl⟩, fun K _ lK q r hr0 => ?_⟩
   rw [hBI] at hr0;obtain ⟨r0, r1, W, rfl, hWl, hWr, hWR⟩ := hr0;have hql : (W.flatMap cE).length = W.length * 5 := fm_len (c := cE) (k := 5) (fun _ => rfl) W;refine Br.mk (fun hlt => ?_) (fun hge2 => ?_)
   · have hlt := of_decide_eq_true hlt
     have hs5 := hsl.isSome (show 0 < k by omega)
     have hat : ∀ i : Nat, i < 5 -> ∃ z, F[r.toNat + i]? = some z /\ atI K j (r.toNat + i) = some (.int .i64 z) /\ 0 <= z /\ i64R z := fun i hi => by
      obtain ⟨z, hz⟩ : ∃ z, F[r.toNat + i]? = some z := ⟨_, List.getElem?_eq_getElem (by omega)⟩
      have := hpos z (List.mem_of_getElem? hz);exact ⟨z, hz, (hsl.mono lK).at_ _ _ (ints_get hz), this.1, this.2⟩
     obtain ⟨z0, a0, t0, u0⟩ := hat 0 (by omega)
     obtain ⟨z1, a1, t1, u1⟩ := hat 1 (by omega)
     obtain ⟨z2, a2, t2, u2⟩ := hat 2 (by omega)
     obtain ⟨z3, a3, t3, u3⟩ := hat 3 (by omega)
     have en : ∀ i : Int, 0 <= i -> (r + i).toNat * 1 + 0 = r.toNat + i.toNat := fun i hi => by omega
     have hdv : r.tdiv 5 = (W.length : Int) := by rw [Int.tdiv_eq_ediv_of_nonneg r0]; omega
     obtain ⟨z4, a4⟩ : ∃ z, V[W.length]? = some z := ⟨_, List.getElem?_eq_getElem (by omega)⟩
     have u4 := hV z4 (List.mem_of_getElem? a4);rw [hdv]
     refine ⟨r0, hlt, hs5, z0, by simpa using t0, wr_i64 (by omega) (by omega) ⟨by omega, by omega, hs5, z1, by rw [en 1 (by omega)]; exact t1, wr_i64 (by omega) (by omega) ⟨by omega, by omega, hs5, z2, by rw [en 2 (by omega)]; exact t2, wr_i64 (by omega) (by omega) ⟨by omega, by omega, hs5, z3, by rw [en 3 (by omega)]; exact t3, by decide, wr_i64 (by omega) (by omega) ⟨by omega, by omega, by omega, z4, by rw [Int.toNat_natCast, Nat.mul_one, Nat.add_zero]; exact ints_get a4, by omega, by omega, by omega, wr_i64 (by omega) (by omega) ⟨by rw [List.length_append]; simp only [List.length_cons, List.length_nil]; omega, ?_, by omega⟩⟩⟩⟩⟩⟩
     rw [hBI]
     refine ⟨by omega, by omega, W ++ [((z0, z1, z2), z3, z4)], by rw [List.flatMap_append]; rfl, by rw [List.length_append, List.length_singleton]; omega, fun y hy => ?_, fun R hR hr hk' => ?_⟩
     · rcases List.mem_append.1 hy with hy | hy
       · exact hWr y hy
       · rw [List.mem_singleton.1 hy]; exact ⟨⟨u0.2, u1.2, u2.2⟩, u3.2, u4⟩
     · obtain ⟨q1, q2, q3⟩ := GF R hR hr hk'
       have hlen := congrArg List.length q1;rw [lO] at hlen
       obtain ⟨x, hx⟩ : ∃ x, R.events[W.length]? = some x := ⟨_, List.getElem?_eq_getElem (by omega)⟩
       have hi : ∀ i : Nat, i < 5 -> (ints .i64 F)[r.toNat + i]? = (ints .i64 (evO x))[i]? := fun i hi => by
        have hfm : ints .i64 F = R.events.flatMap (fun x => ints .i64 (evO x)) := by rw [q1]; simp [ints, List.map_flatMap]
        rw [hfm, show r.toNat + i = W.length * 5 + i by omega]
        exact fm_get (c := fun x => ints .i64 (evO x)) (k := 5) (fun _ => rfl) hx hi
       have gt : ∀ i z, i < 5 -> F[r.toNat + i]? = some z -> (ints .i64 (evO x))[i]? = some (.int .i64 z) := fun i z h5 hz => by rw [<- hi i h5]; exact ints_get hz
       have w0 := gt 0 _ (by omega) a0
       have w1 := gt 1 _ (by omega) a1
       have w2 := gt 2 _ (by omega) a2
       have w3 := gt 3 _ (by omega) a3
       simp [ints, evO] at w0 w1 w2 w3;rw [q2, List.getElem?_map, hx] at a4
       have w4 : x.2.2 = z4 := by simpa using a4
       rw [List.length_append, List.length_singleton, List.take_add_one, hx, <- hWR R hR hr hk', <- w0, <- w1, <- w2, <- w3, <- w4];rfl
   have hge2 := of_decide_eq_false hge2;intro i2 jj N lN hrow2;rw [hQ]
   refine ⟨{ h with events := W }, ⟨.slice ac nc cc, .slice al nl cl, .slice i2 ((W.flatMap cE).length / 5) jj, .slice ap np cp, .slice ah nh ch⟩, true, rfl, ?_, { hh with events := hWr }, { hs with events := by simp only; omega }, fun _ => ⟨fun h => by omega, fun h => by omega, fun _ => hN.2.2 (by omega)⟩, fun R hR hr hk' => ⟨rfl, ?_⟩⟩
   · have hM1 := hM0.mono (Mem.le_trans l02 (Mem.le_trans lK lN))
     refine ⟨hM1.c, hM1.l, ?_, hM1.p, hM1.h⟩
     simp only
     rw [show (W.flatMap cE).length / 5 = W.length by omega]
     exact row_lst hrow2 (by omega) hql
   · obtain ⟨q1, q2, q3⟩ := GF R hR hr hk'
     have hlen := congrArg List.length q1;rw [lO] at hlen
     have : W = R.events := by rw [hWR R hR hr hk', List.take_of_length_le (by omega)]
     rw [this]; rfl
 · have h5 : (n : Int) % 5 ≠ 0 := by rw [ht5] at h5; simpa using h5
   intro e1 f1 J1 l1 hrow
   have nog : ∀ R, okRs R -> rightS R = true -> (11, bs) ∈ allF R -> False := fun R hR hr hk => by
    have hlen := congrArg List.length (G R hR hr hk).2;rw [lI] at hlen;omega
   refine ints_call hlr hrow hnl (by omega) (fun j k c J l2 hx => ⟨_, _, _, _, rfl, Br.t rfl (fail _ (Mem.le_trans l0 (Mem.le_trans l1 l2)) nog)⟩) (fun j k c J l2 hpos hsl hk hkc hcm2 hN2 => ⟨_, _, _, _, rfl, Br.f rfl ⟨by decide, Br.t (by rw [ht5]; exact decide_eq_true (by omega)) (fail _ (Mem.le_trans l0 (Mem.le_trans l1 l2)) nog)⟩⟩)
set_option maxHeartbeats 1000000
def hdI (x : HdT) : List Int := [x.1, x.2.1, x.2.2.1, x.2.2.2.1, x.2.2.2.2]
theorem ct20_13 (h : Rs) (hh : okRf h) (hs : smallF h) (y : Ys) (I : Mem) (hM : RfM I h y) (bs : List Int) (hbs : byteL bs) (b : Option Addr) (m c : Nat) (hb : SlM I b m 1 (ints .u8 bs)) (hmc : m <= c) (hcm : c <= maxLen) (hm : m <= 20000) (hN : NilF 13 h y) :
 Ct Tryz.prog (fnv 20) #[.agg (rfV h y).toArray, .agg #[.int .i64 13, .slice b m c]] I (fun v I' => RdP h 13 bs I' v) := by
 obtain ⟨Q, hQ⟩ : ∃ f : Value -> Mem -> Prop, f = fun v I' => RdP h 13 bs I' v := ⟨_, rfl⟩
 show Ct Tryz.prog (fnv 20) #[_, _] I (fun v I' => (fun v I' => RdP h 13 bs I' v) v I')
 rw [<- hQ];have hM0 := hM;obtain ⟨⟨ac, nc, cc, hyc, hc, hcc, hcm'⟩, ⟨al, nl, cl, hyl, hl, hlc, hlm⟩, ⟨ae, ne, ce, hye, he, hec, hem⟩, ⟨ap, np, cp, hyp, hp, hpc, hpm⟩, ⟨ah, nh, ch, hyh, hh', hhc, hhm⟩⟩ := hM;obtain ⟨yc, yl, ye, yp, yh⟩ := y
 simp only at hyc hyl hye hyp hyh
 have hz : yh = .slice none 0 0 := (hN.2.2 (by omega)).1
 clear hyh hh' hhc hhm
 subst hyc hyl hye hyp hz;obtain ⟨BI, hBI⟩ : ∃ f : Int -> List Value -> Prop, f = fun (r : Int) q => 0 <= r /\ r <= 20000 /\ ∃ V : List HdT, q = V.flatMap cG /\ 5 * (V.length : Int) = r /\ (∀ x ∈ V, (i64R x.1 /\ i64R x.2.1 /\ i64R x.2.2.1 /\ i64R x.2.2.2.1) /\ 0 <= x.2.2.2.2 /\ x.2.2.2.2 <= 9223372036854775807) /\ ∀ R, okRs R -> rightS R = true -> (13, bs) ∈ allF R -> V = R.handles.take V.length := ⟨_, rfl⟩
 refine viaR (ct_via (A := { calls := [(33, .lend [] (.tup [.row 0, .sh (.int .i64)]) [.row 1 85])], loops := [(25, ⟨[(2, .keep), (3, .keep), (4, .keep), (13, .keep), (16, .sh (.int .i64))], [(0, .cells [.keep, .keep, .keep, .keep, .keep, .keep, .keep, .keep, .keep, .keep, .keep, .keep, .keep, .keep, .row 4]), (1, .keep), (2, .keep), (4, .row)], [(2, 14005, 73)], fun vals xss _ _ => match vals, xss with | [.int .i64 j], [xs] => BI j xs | _, _ => False, fun vals _ => match vals with | [.int .i64 j] => (100000000 - j).toNat | _ => 0⟩)] }) Tryz.func20 rfl Tryz.call20 rfl rfl) (let E1 := Ent.mk (.cells [.v (.int .i64 0), .v (.int .i64 0), .v (.int .i64 0), .v (.int .i64 0), .v (.int .i64 0), .v (.int .i64 0), .v (.bool false), .v (.int .i64 0), .v (.int .i64 0), .v (.int .i64 0), .v (.slice none 0 0), .v (.slice none 0 0), .v (.slice none 0 0), .v (.slice none 0 0), .v (.slice none 0 0)] 41) none
  CtS Tryz.prog (.v (fnv 53)) [.v (.slice b m c)] [] I fun s H a => ∃ n d x, s = .tup [.rsl 0 n, .v (.int .i64 d)] /\ H = [⟨.row x 1 85, none⟩] /\ Br (d != 0) (Q (.tuple #[.agg #[.int .i64 h.num, .int .i64 h.code, .int .i64 h.ser, .int .i64 h.port, .int .i64 h.time, .int .i64 h.kind, .bool h.more, .int .i64 h.key.1, .int .i64 h.key.2.1, .int .i64 h.key.2.2, .slice ac nc cc, .slice al nl cl, .slice ae ne ce, .slice ap np cp, .slice none 0 0], .bool false]) a) (∀ (e : Option Addr) (f : Nat) (g : Mem), a.le g -> RowM g e f 1 x -> Ct Tryz.prog (fnv 55) #[.slice e n f] g fun v i => ∃ j k l o, v = .tuple #[.slice j k l, .bool o] /\ Br (!o) (Q (.tuple #[.agg #[.int .i64 h.num, .int .i64 h.code, .int .i64 h.ser, .int .i64 h.port, .int .i64 h.time, .int .i64 h.kind, .bool h.more, .int .i64 h.key.1, .int .i64 h.key.2.1, .int .i64 h.key.2.2, .slice ac nc cc, .slice al nl cl, .slice ae ne ce, .slice ap np cp, .slice none 0 0], .bool false]) i) ((5 : Int) ≠ 0 /\ Br (decide (0 < Int.tmod (k : Int) 5)) (Q (.tuple #[.agg #[.int .i64 h.num, .int .i64 h.code, .int .i64 h.ser, .int .i64 h.port, .int .i64 h.time, .int .i64 h.kind, .bool h.more, .int .i64 h.key.1, .int .i64 h.key.2.1, .int .i64 h.key.2.2, .slice ac nc cc, .slice al nl cl, .slice ae ne ce, .slice ap np cp, .slice none 0 0], .bool false]) i) ((Rf (Ent.mk (.cells [.v (.int .i64 13), .v (.slice b m c)] 65) none) /\ Rf E1 /\ Rf (SV.ptr 0 0) /\ Rf (SV.ptr 1 0) /\ Rf (SV.ptr 2 0) /\ Rf (SV.v (.slice j k l)) /\ Rf (none : Option Nat) /\ Rf (SV.v (.int .i64 h.num)) /\ Rf (SV.v (.int .i64 h.code)) /\ Rf (SV.v (.int .i64 h.ser)) /\ Rf (SV.v (.int .i64 h.port)) /\ Rf (SV.v (.int .i64 h.time)) /\ Rf (SV.v (.int .i64 h.kind)) /\ Rf (SV.v (.bool h.more)) /\ Rf (SV.v (.int .i64 h.key.1)) /\ Rf (SV.v (.int .i64 h.key.2.1)) /\ Rf (SV.v (.int .i64 h.key.2.2)) /\ Rf (SV.v (.slice ac nc cc)) /\ Rf (SV.v (.slice al nl cl)) /\ Rf (SV.v (.slice ae ne ce)) /\ Rf (SV.v (.slice ap np cp)) /\ (0 : Nat) = 0 /\ BI 0 []) /\ ∀ (p : Mem), Mem -> i.le p -> ∀ (q : List Value) (r : Int), BI r q -> Br (decide (r < (k : Int))) (0 <= r /\ r < (k : Int) /\ j.isSome = true /\ ∃ t, atI p j (r.toNat * 1 + 0) = some (.int .i64 t) /\ Wr .i64 (r + 1) fun u => 0 <= u /\ u < (k : Int) /\ j.isSome = true /\ ∃ w, atI p j (u.toNat * 1 + 0) = some (.int .i64 w) /\ Wr .i64 (r + 2) fun y => 0 <= y /\ y < (k : Int) /\ j.isSome = true /\ ∃ z, atI p j (y.toNat * 1 + 0) = some (.int .i64 z) /\ Wr .i64 (r + 3) fun c1 => 0 <= c1 /\ c1 < (k : Int) /\ j.isSome = true /\ ∃ n1, atI p j (c1.toNat * 1 + 0) = some (.int .i64 n1) /\ Wr .i64 (r + 4) fun c2 => 0 <= c2 /\ c2 < (k : Int) /\ j.isSome = true /\ ∃ n2, atI p j (c2.toNat * 1 + 0) = some (.int .i64 n2) /\ q.length = q.length / 5 * 5 /\ q.length / 5 + 1 <= 9223372036854775807 /\ (q.length / 5 + 1) * 40 <= 140737488355328 /\ Wr .i64 (r + 5) fun c3 => Rf (Ent.mk (.cells [.v (.int .i64 13), .v (.slice b m c)] 65) none) /\ Rf E1 /\ Rf (SV.ptr 0 0) /\ Rf (SV.ptr 1 0) /\ Rf (SV.ptr 2 0) /\ Rf (SV.v (.slice j k l)) /\ Rf (none : Option Nat) /\ Rf (SV.v (.int .i64 h.num)) /\ Rf (SV.v (.int .i64 h.code)) /\ Rf (SV.v (.int .i64 h.ser)) /\ Rf (SV.v (.int .i64 h.port)) /\ Rf (SV.v (.int .i64 h.time)) /\ Rf (SV.v (.int .i64 h.kind)) /\ Rf (SV.v (.bool h.more)) /\ Rf (SV.v (.int .i64 h.key.1)) /\ Rf (SV.v (.int .i64 h.key.2.1)) /\ Rf (SV.v (.int .i64 h.key.2.2)) /\ Rf (SV.v (.slice ac nc cc)) /\ Rf (SV.v (.slice al nl cl)) /\ Rf (SV.v (.slice ae ne ce)) /\ Rf (SV.v (.slice ap np cp)) /\ q.length / 5 + 1 = List.length (q ++ [.int .i64 t, .int .i64 w, .int .i64 z, .int .i64 n1, .int .i64 n2]) / 5 /\ BI c3 (q ++ [.int .i64 t, .int .i64 w, .int .i64 z, .int .i64 n1, .int .i64 n2]) /\ Int.toNat (100000000 - c3) < Int.toNat (100000000 - r)) (∀ (t : Option Addr) (u : Nat) (w : Mem), p.le w -> RowM w t u 5 q -> Q (.tuple #[.agg #[.int .i64 h.num, .int .i64 h.code, .int .i64 h.ser, .int .i64 h.port, .int .i64 h.time, .int .i64 h.kind, .bool h.more, .int .i64 h.key.1, .int .i64 h.key.2.1, .int .i64 h.key.2.2, .slice ac nc cc, .slice al nl cl, .slice ae ne ce, .slice ap np cp, .slice t (q.length / 5) u], .bool true]) w))))) (by kernel_rfl) ?_
 intro E1;simp only [Rf, eq_self, true_and]
 have fail : ∀ J, I.le J -> (∀ R, okRs R -> rightS R = true -> (13, bs) ∈ allF R -> False) -> Q (.tuple #[.agg (rfV h ⟨.slice ac nc cc, .slice al nl cl, .slice ae ne ce, .slice ap np cp, .slice none 0 0⟩).toArray, .bool false]) J := fun J lJ H => by
  rw [hQ]
  exact ⟨h, _, false, rfl, hM0.mono lJ, hh, hs, (fun h => by cases h), fun R a b c => (H R a b c).elim⟩
 have good : ∀ R, okRs R -> rightS R = true -> (13, bs) ∈ allF R -> ∃ L, L = R.handles.flatMap hdI /\ bs = numsF L /\ ∀ x ∈ L, u64R x := fun R hR hr hk => by
  obtain ⟨⟨p1, p2, p3, p4, p5, p6, p7, p8, p9⟩, q1, q2, q3, q4⟩ := right_nn hR hr;obtain ⟨b1, b2, b3, b4, b5, b6, b7, b8, b9, b10, b11, b12, b13, b14⟩ := fn_at hk
  have hp : ∀ x ∈ R.handles, ∀ y ∈ hdI x, 0 <= y /\ i64R y := fun x hx y hy => by
   have h1 := q4 x hx;have h2 := hR.handles x hx;simp only [hdI, List.mem_cons, List.not_mem_nil, or_false] at hy
   rcases hy with rfl | rfl | rfl | rfl | rfl
   · exact ⟨h1.1, h2.1.1⟩
   · exact ⟨h1.2.1, h2.1.2.1⟩
   · exact ⟨h1.2.2.1, h2.1.2.2.1⟩
   · exact ⟨h1.2.2.2, h2.1.2.2.2⟩
   · exact ⟨h2.2.1, by unfold i64R; omega⟩
  exact ⟨_, rfl, by rw [b13 rfl]; exact fm_nums fun x hx => by rw [hdF]; exact forms_nums (hp x hx), fun y hy => by
   obtain ⟨x, hx, hy⟩ := List.mem_flatMap.1 hy;exact u64_of (hp x hx y hy).1 (hp x hx y hy).2⟩
 refine (cts_new2 (sz := 1) (el := 85) (by omega) (ct53L bs hbs b m c I hb (by omega) hmc)).mono fun sv H' J0 l0 ⟨xs, n, w, hsv, hH, ⟨hnx, l, e, hxs, hw, hll, hlr, hgd⟩⟩ => ?_
 subst hxs hw;have hml := hb.numLen
 have G : ∀ R, okRs R -> rightS R = true -> (13, bs) ∈ allF R -> e = 0 /\ l = R.handles.flatMap hdI := fun R hR hr hk => by
  obtain ⟨L, hL, hb, hp⟩ := good R hR hr hk;obtain ⟨h1, h2⟩ := hgd L hp hb
  exact ⟨h1, by rw [h2, hL]⟩
 have hnl : n = l.length := by rw [ints_len] at hnx; omega
 refine ⟨n, e, _, hsv, hH, Br.mk (fun he => fail _ l0 fun R hR hr hk => ?_) (fun he => ?_)⟩
 · rw [(G R hR hr hk).1] at he; cases he
 intro e1 f1 J1 l1 hrow
 refine ints_call hlr hrow hnl (by omega) (fun j k c J l2 hx => ⟨_, _, _, _, rfl, Br.t rfl (fail _ (Mem.le_trans l0 (Mem.le_trans l1 l2)) fun R hR hr hk => ?_)⟩) (fun j k c J l2 hpos hsl hk hkc hcm2 hN2 => ⟨_, _, _, _, rfl, Br.f rfl ⟨by decide, ?_⟩⟩)
 · obtain ⟨x, hx, hx2⟩ := hx
   rw [(G R hR hr hk).2] at hx;obtain ⟨y, hy, hx⟩ := List.mem_flatMap.1 hx;have h2 := hR.handles y hy;simp only [i64R] at h2;simp only [hdI, List.mem_cons, List.not_mem_nil, or_false] at hx
   rcases hx with rfl | rfl | rfl | rfl | rfl <;> omega
 have l02 := Mem.le_trans l0 (Mem.le_trans l1 l2)
 have hdl : ∀ L : List HdT, (L.flatMap hdI).length = L.length * 5 := fun L => by
  induction L with
  | nil => rfl
  | cons x L ih => rw [List.flatMap_cons, List.length_append, ih]; simp [hdI]; omega
 have ht5 : Int.tmod (k : Int) 5 = (k : Int) % 5 := Int.tmod_eq_emod_of_nonneg (by omega)
 rw [ht5];refine Br.mk (fun h1 => fail _ l02 fun R hR hr hk' => ?_) (fun h1 => ?_)
 · have h1 := of_decide_eq_true h1
   have := congrArg List.length (G R hR hr hk').2;rw [hdl] at this;omega
 have h5 : k % 5 = 0 := by have := of_decide_eq_false h1; omega
 refine ⟨by rw [hBI]; exact ⟨by omega, by omega, [], rfl, by simp, (fun x hx => by cases hx), fun R _ _ _ => rfl⟩, fun K _ lK q r hr0 => ?_⟩
 rw [hBI] at hr0;obtain ⟨r0, r1, V, rfl, hVl, hVr, hVR⟩ := hr0;have hql := cG_lenT V;refine Br.mk (fun hlt => ?_) (fun hge => ?_)
 · have hlt := of_decide_eq_true hlt
   have hs5 := hsl.isSome (show 0 < k by omega)
   have hat : ∀ i : Nat, i < 5 -> ∃ z, l[r.toNat + i]? = some z /\ atI K j (r.toNat + i) = some (.int .i64 z) /\ 0 <= z /\ i64R z := fun i hi => by
    obtain ⟨z, hz⟩ : ∃ z, l[r.toNat + i]? = some z := ⟨_, List.getElem?_eq_getElem (by omega)⟩
    have := hpos z (List.mem_of_getElem? hz);exact ⟨z, hz, (hsl.mono lK).at_ _ _ (ints_get hz), this.1, this.2⟩
   obtain ⟨z0, a0, t0, u0⟩ := hat 0 (by omega)
   obtain ⟨z1, a1, t1, u1⟩ := hat 1 (by omega)
   obtain ⟨z2, a2, t2, u2⟩ := hat 2 (by omega)
   obtain ⟨z3, a3, t3, u3⟩ := hat 3 (by omega)
   obtain ⟨z4, a4, t4, u4⟩ := hat 4 (by omega)
   have en : ∀ i : Int, 0 <= i -> (r + i).toNat * 1 + 0 = r.toNat + i.toNat := fun i hi => by omega
   refine ⟨r0, hlt, hs5, z0, by simpa using t0, wr_i64 (by omega) (by omega) ⟨by omega, by omega, hs5, z1, by rw [en 1 (by omega)]; exact t1, wr_i64 (by omega) (by omega) ⟨by omega, by omega, hs5, z2, by rw [en 2 (by omega)]; exact t2, wr_i64 (by omega) (by omega) ⟨by omega, by omega, hs5, z3, by rw [en 3 (by omega)]; exact t3, wr_i64 (by omega) (by omega) ⟨by omega, by omega, hs5, z4, by rw [en 4 (by omega)]; exact t4, by omega, by omega, by omega, wr_i64 (by omega) (by omega) ⟨by rw [List.length_append]; simp only [List.length_cons, List.length_nil]; omega, ?_, by omega⟩⟩⟩⟩⟩⟩
   rw [hBI]
   refine ⟨by omega, by omega, V ++ [(z0, z1, z2, z3, z4)], by rw [List.flatMap_append]; rfl, by rw [List.length_append, List.length_singleton]; omega, fun y hy => ?_, fun R hR hr hk' => ?_⟩
   · rcases List.mem_append.1 hy with hy | hy
     · exact hVr y hy
     · rw [List.mem_singleton.1 hy]; exact ⟨⟨u0.2, u1.2, u2.2, u3.2⟩, u4.1, u4.2.2⟩
   · have hG := (G R hR hr hk').2
     have hlen := congrArg List.length hG;rw [hdl] at hlen
     obtain ⟨x, hx⟩ : ∃ x, R.handles[V.length]? = some x := ⟨_, List.getElem?_eq_getElem (by omega)⟩
     have hi : ∀ i : Nat, i < 5 -> (ints .i64 l)[r.toNat + i]? = (ints .i64 (hdI x))[i]? := fun i hi => by
      have hfm : ints .i64 l = R.handles.flatMap (fun x => ints .i64 (hdI x)) := by rw [hG]; simp [ints, List.map_flatMap]
      rw [hfm, show r.toNat + i = V.length * 5 + i by omega]
      exact fm_get (c := fun x => ints .i64 (hdI x)) (k := 5) (fun _ => rfl) hx hi
     have gt : ∀ i z, i < 5 -> l[r.toNat + i]? = some z -> (ints .i64 (hdI x))[i]? = some (.int .i64 z) := fun i z h5 hz => by rw [<- hi i h5]; exact ints_get hz
     have w0 := gt 0 _ (by omega) a0
     have w1 := gt 1 _ (by omega) a1
     have w2 := gt 2 _ (by omega) a2
     have w3 := gt 3 _ (by omega) a3
     have w4 := gt 4 _ (by omega) a4
     simp [ints, hdI] at w0 w1 w2 w3 w4;rw [List.length_append, List.length_singleton, List.take_add_one, hx, <- hVR R hR hr hk', <- w0, <- w1, <- w2, <- w3, <- w4];rfl
 have hge := of_decide_eq_false hge;intro i jj N lN hrow2;rw [hQ]
 refine ⟨{ h with handles := V }, ⟨.slice ac nc cc, .slice al nl cl, .slice ae ne ce, .slice ap np cp, .slice i ((V.flatMap cG).length / 5) jj⟩, true, rfl, ?_, { hh with handles := hVr }, { hs with handles := by simp only; omega }, fun _ => ⟨fun h => by omega, fun h => by omega, fun h => by omega⟩, fun R hR hr hk' => ⟨rfl, ?_⟩⟩
 · have hM1 := hM0.mono (Mem.le_trans l02 (Mem.le_trans lK lN))
   refine ⟨hM1.c, hM1.l, hM1.e, hM1.p, ?_⟩
   simp only
   rw [show (V.flatMap cG).length / 5 = V.length by omega]
   exact row_lst hrow2 (by omega) hql
 · have hlen := congrArg List.length (G R hR hr hk').2
   rw [hdl] at hlen
   have : V = R.handles := by rw [hVR R hR hr hk', List.take_of_length_le (by omega)]
   rw [this]; rfl
set_option maxHeartbeats 1000000
theorem ct20 (h : Rs) (hh : okRf h) (hs : smallF h) (y : Ys) (I : Mem) (hM : RfM I h y) (t : Int) (ht : 1 <= t /\ t <= 200) (bs : List Int) (hbs : byteL bs) (b : Option Addr) (m c : Nat) (hb : SlM I b m 1 (ints .u8 bs)) (hmc : m <= c) (hcm : c <= maxLen) (hm : m <= 20000) (hN : NilF t h y) :
 Ct Tryz.prog (fnv 20) #[.agg (rfV h y).toArray, .agg #[.int .i64 t, .slice b m c]] I (fun v I' => RdP h t bs I' v) := by
 by_cases h14 : 14 <= t
 · exact ct20_14 h hh hs y I hM t ⟨h14, ht.2⟩ bs hbs b m c hb hmc hcm hm hN
 rcases (by omega : t = 1 \/ t = 2 \/ t = 3 \/ t = 4 \/ t = 5 \/ t = 6 \/ t = 7 \/ t = 8 \/ t = 9 \/ t = 10 \/ t = 11 \/ t = 12 \/ t = 13) with rfl | rfl | rfl | rfl | rfl | rfl | rfl | rfl | rfl | rfl | rfl | rfl | rfl
 · exact ct20_1 h hh hs y I hM bs hbs b m c hb hmc hcm hm hN
 · exact ct20_2 h hh hs y I hM bs hbs b m c hb hmc hcm hm hN
 · exact ct20_3 h hh hs y I hM bs hbs b m c hb hmc hcm hm hN
 · exact ct20_4 h hh hs y I hM bs hbs b m c hb hmc hcm hm hN
 · exact ct20_5 h hh hs y I hM bs hbs b m c hb hmc hcm hm hN
 · exact ct20_6 h hh hs y I hM bs hbs b m c hb hmc hcm hm hN
 · exact ct20_7 h hh hs y I hM bs hbs b m c hb hmc hcm hm hN
 · exact ct20_8 h hh hs y I hM bs hbs b m c hb hmc hcm hm hN
 · exact ct20_9 h hh hs y I hM bs hbs b m c hb hmc hcm hm hN
 · exact ct20_10 h hh hs y I hM bs hbs b m c hb hmc hcm hm hN
 · exact ct20_11 h hh hs y I hM bs hbs b m c hb hmc hcm hm hN
 · exact ct20_12 h hh hs y I hM bs hbs b m c hb hmc hcm hm hN
 · exact ct20_13 h hh hs y I hM bs hbs b m c hb hmc hcm hm hN
set_option maxHeartbeats 1000000
theorem ct9 (r q : Rs) (hr : okRf r) (hq : okRf q) (hs : smallF r) (y z : Ys) (I : Mem) (hM : RfM I r y) (hM' : RfM I q z) :
 Ct Tryz.prog (fnv 9) #[.agg (rfV r y).toArray, .agg (rfV q z).toArray] I (fun v _ => v = .bool (sameS r q)) := by
 obtain ⟨⟨ac, nc, cc, hyc, hc, hcc, hcm⟩, ⟨al, nl, cl, hyl, hl, hlc, hlm⟩, ⟨ae, ne, ce, hye, he, hec, hem⟩, ⟨ap, np, cp, hyp, hp, hpc, hpm⟩, ⟨ah, nh, ch, hyh, hh, hhc, hhm⟩⟩ := hM;obtain ⟨yc, yl, ye, yp, yh⟩ := y
 simp only at hyc hyl hye hyp hyh
 subst hyc hyl hye hyp hyh;obtain ⟨⟨bc, mc, dc, hzc, gc, _⟩, ⟨bl, ml, dl, hzl, gl, _⟩, ⟨be, me, de, hze, ge, _⟩, ⟨bp, mp, dp, hzp, gp, _⟩, ⟨bh, mh, dh, hzh, gh, _⟩⟩ := hM';obtain ⟨zc, zl, ze, zp, zh⟩ := z
 simp only at hzc hzl hze hzp hzh
 subst hzc hzl hze hzp hzh;obtain ⟨S, hS⟩ : ∃ S, S = sameS r q := ⟨_, rfl⟩;rw [<- hS];obtain ⟨AI, hAI⟩ : ∃ f : Int -> Prop, f = fun (j : Int) => 0 <= j /\ j <= nc /\ r.counts.take j.toNat = q.counts.take j.toNat := ⟨_, rfl⟩;obtain ⟨BI, hBI⟩ : ∃ f : Int -> Prop, f = fun (j : Int) => 0 <= j /\ j <= nl /\ r.cells.take j.toNat = q.cells.take j.toNat := ⟨_, rfl⟩;obtain ⟨CI, hCI⟩ : ∃ f : Int -> Prop, f = fun (j : Int) => 0 <= j /\ j <= ne /\ r.events.take j.toNat = q.events.take j.toNat := ⟨_, rfl⟩
 obtain ⟨DI, hDI⟩ : ∃ f : Int -> Prop, f = fun (j : Int) => 0 <= j /\ j <= np /\ r.ports.take j.toNat = q.ports.take j.toNat := ⟨_, rfl⟩;obtain ⟨EI, hEI⟩ : ∃ f : Int -> Prop, f = fun (j : Int) => 0 <= j /\ j <= nh /\ r.handles.take j.toNat = q.handles.take j.toNat := ⟨_, rfl⟩
 refine viaR (ct_via (A := { loops := [(6, ⟨[(2, .keep), (3, .keep), (5, .sh (.int .i64))], [(0, .keep), (1, .keep)], [], fun vals _ _ _ => match vals with | [.int .i64 j] => AI j | _ => False, fun vals _ => match vals with | [.int .i64 j] => (nc - j).toNat | _ => 0⟩), (11, ⟨[(2, .keep), (3, .keep), (6, .sh (.int .i64))], [(0, .keep), (1, .keep)], [], fun vals _ _ _ => match vals with | [.int .i64 j] => BI j | _ => False, fun vals _ => match vals with | [.int .i64 j] => (nl - j).toNat | _ => 0⟩), (16, ⟨[(2, .keep), (3, .keep), (7, .sh (.int .i64))], [(0, .keep), (1, .keep)], [], fun vals _ _ _ => match vals with | [.int .i64 j] => CI j | _ => False, fun vals _ => match vals with | [.int .i64 j] => (ne - j).toNat | _ => 0⟩), (21, ⟨[(2, .keep), (3, .keep), (8, .sh (.int .i64))], [(0, .keep), (1, .keep)], [], fun vals _ _ _ => match vals with | [.int .i64 j] => DI j | _ => False, fun vals _ => match vals with | [.int .i64 j] => (np - j).toNat | _ => 0⟩), (26, ⟨[(2, .keep), (3, .keep), (9, .sh (.int .i64))], [(0, .keep), (1, .keep)], [], fun vals _ _ _ => match vals with | [.int .i64 j] => EI j | _ => False, fun vals _ => match vals with | [.int .i64 j] => (nh - j).toNat | _ => 0⟩)] }) Tryz.func9 rfl Tryz.call9 rfl rfl) (let E1 := Ent.mk (.cells [.v (.int .i64 r.num), .v (.int .i64 r.code), .v (.int .i64 r.ser), .v (.int .i64 r.port), .v (.int .i64 r.time), .v (.int .i64 r.kind), .v (.bool r.more), .v (.int .i64 r.key.1), .v (.int .i64 r.key.2.1), .v (.int .i64 r.key.2.2), .v (.slice ac nc cc), .v (.slice al nl cl), .v (.slice ae ne ce), .v (.slice ap np cp), .v (.slice ah nh ch)] 41) none
  let E2 := Ent.mk (.cells [.v (.int .i64 q.num), .v (.int .i64 q.code), .v (.int .i64 q.ser), .v (.int .i64 q.port), .v (.int .i64 q.time), .v (.int .i64 q.kind), .v (.bool q.more), .v (.int .i64 q.key.1), .v (.int .i64 q.key.2.1), .v (.int .i64 q.key.2.2), .v (.slice bc mc dc), .v (.slice bl ml dl), .v (.slice be me de), .v (.slice bp mp dp), .v (.slice bh mh dh)] 41) none
  Br (r.num != q.num) (Value.bool false = .bool S) (Br (r.code != q.code) (Value.bool false = .bool S) (Br (r.ser != q.ser) (Value.bool false = .bool S) (Br (r.port != q.port) (Value.bool false = .bool S) (Br (r.time != q.time) (Value.bool false = .bool S) (Br (r.kind != q.kind) (Value.bool false = .bool S) (Br (!(r.more == q.more)) (Value.bool false = .bool S) (Br (!(r.key.1 == q.key.1 && (r.key.2.1 == q.key.2.1 && (r.key.2.2 == q.key.2.2 && true)))) (Value.bool false = .bool S) (Br ((nc : Int) != (mc : Int)) (Value.bool false = .bool S) (Br ((nl : Int) != (ml : Int)) (Value.bool false = .bool S) (Br ((ne : Int) != (me : Int)) (Value.bool false = .bool S) (Br ((np : Int) != (mp : Int)) (Value.bool false = .bool S) (Br ((nh : Int) != (mh : Int)) (Value.bool false = .bool S) ((Rf E1 /\ Rf E2 /\ Rf (SV.ptr 0 0) /\ Rf (SV.ptr 1 0) /\ AI 0) /\ ∀ (a : Mem), Mem -> I.le a -> ∀ (n : Int), AI n -> Br (decide (n < (nc : Int))) (0 <= n /\ n < (nc : Int) /\ ac.isSome = true /\ ∃ b, atI a ac (n.toNat * 1 + 0) = some (.int .i64 b) /\ 0 <= n /\ n < (mc : Int) /\ bc.isSome = true /\ ∃ c, atI a bc (n.toNat * 1 + 0) = some (.int .i64 c) /\ Br (b != c) (Value.bool false = .bool S) (Wr .i64 (n + 1) (fun d => Rf E1 /\ Rf E2 /\ Rf (SV.ptr 0 0) /\ Rf (SV.ptr 1 0) /\ AI d /\ Int.toNat ((nc : Int) - d) < Int.toNat ((nc : Int) - n)))) ((Rf E1 /\ Rf E2 /\ Rf (SV.ptr 0 0) /\ Rf (SV.ptr 1 0) /\ BI 0) /\ ∀ (b : Mem), Mem -> a.le b -> ∀ (c : Int), BI c -> Br (decide (c < (nl : Int))) (0 <= c /\ c < (nl : Int) /\ al.isSome = true /\ ∃ d, atI b al (c.toNat * 1 + 0) = some (.int .i64 d) /\ 0 <= c /\ c < (ml : Int) /\ bl.isSome = true /\ ∃ e, atI b bl (c.toNat * 1 + 0) = some (.int .i64 e) /\ Br (d != e) (Value.bool false = .bool S) (Wr .i64 (c + 1) (fun f => Rf E1 /\ Rf E2 /\ Rf (SV.ptr 0 0) /\ Rf (SV.ptr 1 0) /\ BI f /\ Int.toNat ((nl : Int) - f) < Int.toNat ((nl : Int) - c)))) ((Rf E1 /\ Rf E2 /\ Rf (SV.ptr 0 0) /\ Rf (SV.ptr 1 0) /\ CI 0) /\ ∀ (d : Mem), Mem -> b.le d -> ∀ (e : Int), CI e -> Br (decide (e < (ne : Int))) (0 <= e /\ e < (ne : Int) /\ ae.isSome = true /\ (5 : Nat) = 5 /\ ∃ f, atI d ae (e.toNat * 5 + 0) = some (.int .i64 f) /\ ∃ g, atI d ae (e.toNat * 5 + 1) = some (.int .i64 g) /\ ∃ h, atI d ae (e.toNat * 5 + 2) = some (.int .i64 h) /\ ∃ i, atI d ae (e.toNat * 5 + 3) = some (.int .i64 i) /\ ∃ j, atI d ae (e.toNat * 5 + 4) = some (.int .i64 j) /\ 0 <= e /\ e < (me : Int) /\ be.isSome = true /\ (5 : Nat) = 5 /\ ∃ k, atI d be (e.toNat * 5 + 0) = some (.int .i64 k) /\ ∃ l, atI d be (e.toNat * 5 + 1) = some (.int .i64 l) /\ ∃ m, atI d be (e.toNat * 5 + 2) = some (.int .i64 m) /\ ∃ o, atI d be (e.toNat * 5 + 3) = some (.int .i64 o) /\ ∃ p, atI d be (e.toNat * 5 + 4) = some (.int .i64 p) /\ Br (!((f == k && (g == l && (h == m && true))) && (i == o && (j == p && true)))) (Value.bool false = .bool S) (Wr .i64 (e + 1) (fun s => Rf E1 /\ Rf E2 /\ Rf (SV.ptr 0 0) /\ Rf (SV.ptr 1 0) /\ CI s /\ Int.toNat ((ne : Int) - s) < Int.toNat ((ne : Int) - e)))) ((Rf E1 /\ Rf E2 /\ Rf (SV.ptr 0 0) /\ Rf (SV.ptr 1 0) /\ DI 0) /\ ∀ (f : Mem), Mem -> d.le f -> ∀ (g : Int), DI g -> Br (decide (g < (np : Int))) (0 <= g /\ g < (np : Int) /\ ap.isSome = true /\ (3 : Nat) = 3 /\ ∃ h, atI f ap (g.toNat * 3 + 0) = some (.int .i64 h) /\ ∃ i, atI f ap (g.toNat * 3 + 1) = some (.string i) /\ ∃ j, atI f ap (g.toNat * 3 + 2) = some (.int .i64 j) /\ 0 <= g /\ g < (mp : Int) /\ bp.isSome = true /\ (3 : Nat) = 3 /\ ∃ k, atI f bp (g.toNat * 3 + 0) = some (.int .i64 k) /\ ∃ l, atI f bp (g.toNat * 3 + 1) = some (.string l) /\ ∃ m, atI f bp (g.toNat * 3 + 2) = some (.int .i64 m) /\ Br (!(h == k && (i.toList == l.toList && (j == m && true)))) (Value.bool false = .bool S) (Wr .i64 (g + 1) (fun o => Rf E1 /\ Rf E2 /\ Rf (SV.ptr 0 0) /\ Rf (SV.ptr 1 0) /\ DI o /\ Int.toNat ((np : Int) - o) < Int.toNat ((np : Int) - g)))) ((Rf E1 /\ Rf E2 /\ Rf (SV.ptr 0 0) /\ Rf (SV.ptr 1 0) /\ EI 0) /\ ∀ (h : Mem), Mem -> f.le h -> ∀ (i : Int), EI i -> Br (decide (i < (nh : Int))) (0 <= i /\ i < (nh : Int) /\ ah.isSome = true /\ (5 : Nat) = 5 /\ ∃ j, atI h ah (i.toNat * 5 + 0) = some (.int .i64 j) /\ ∃ k, atI h ah (i.toNat * 5 + 1) = some (.int .i64 k) /\ ∃ l, atI h ah (i.toNat * 5 + 2) = some (.int .i64 l) /\ ∃ m, atI h ah (i.toNat * 5 + 3) = some (.int .i64 m) /\ ∃ o, atI h ah (i.toNat * 5 + 4) = some (.int .i64 o) /\ 0 <= i /\ i < (mh : Int) /\ bh.isSome = true /\ (5 : Nat) = 5 /\ ∃ p, atI h bh (i.toNat * 5 + 0) = some (.int .i64 p) /\ ∃ s, atI h bh (i.toNat * 5 + 1) = some (.int .i64 s) /\ ∃ t, atI h bh (i.toNat * 5 + 2) = some (.int .i64 t) /\ ∃ u, atI h bh (i.toNat * 5 + 3) = some (.int .i64 u) /\ ∃ v, atI h bh (i.toNat * 5 + 4) = some (.int .i64 v) /\ Br (!(j == p && (k == s && (l == t && (m == u && (o == v && true)))))) (Value.bool false = .bool S) (Wr .i64 (i + 1) (fun w => Rf E1 /\ Rf E2 /\ Rf (SV.ptr 0 0) /\ Rf (SV.ptr 1 0) /\ EI w /\ Int.toNat ((nh : Int) - w) < Int.toNat ((nh : Int) - i)))) (Value.bool true = .bool S))))))))))))))))))) (by kernel_rfl) ?_
 intro E1 E2;simp only [Rf, eq_self, true_and]
 have no : (r = q -> False) -> Value.bool false = Value.bool S := fun h => by
  rw [hS]
  cases hv : sameS r q with
  | false => rfl
  | true => exact (h (sameS_iff.1 hv)).elim
 refine Br.mk (fun h => no fun e => ?_) (fun a1 => ?_)
 · rw [e] at h; simp at h
 refine Br.mk (fun h => no fun e => ?_) (fun a2 => ?_)
 · rw [e] at h; simp at h
 refine Br.mk (fun h => no fun e => ?_) (fun a3 => ?_)
 · rw [e] at h; simp at h
 refine Br.mk (fun h => no fun e => ?_) (fun a4 => ?_)
 · rw [e] at h; simp at h
 refine Br.mk (fun h => no fun e => ?_) (fun a5 => ?_)
 · rw [e] at h; simp at h
 refine Br.mk (fun h => no fun e => ?_) (fun a6 => ?_)
 · rw [e] at h; simp at h
 refine Br.mk (fun h => no fun e => ?_) (fun a7 => ?_)
 · rw [e] at h; simp at h
 refine Br.mk (fun h => no fun e => ?_) (fun a8 => ?_)
 · rw [e] at h; simp at h
 have xcounts := fm_len (c := cI) (k := 1) (fun _ => rfl) r.counts;have ycounts := fm_len (c := cI) (k := 1) (fun _ => rfl) q.counts
 have ncounts : nc = r.counts.length := by have := hc.len; omega
 have mcounts : mc = q.counts.length := by have := gc.len; omega
 have xcells := fm_len (c := cI) (k := 1) (fun _ => rfl) r.cells;have ycells := fm_len (c := cI) (k := 1) (fun _ => rfl) q.cells
 have ncells : nl = r.cells.length := by have := hl.len; omega
 have mcells : ml = q.cells.length := by have := gl.len; omega
 have xevents := fm_len (c := cE) (k := 5) (fun _ => rfl) r.events;have yevents := fm_len (c := cE) (k := 5) (fun _ => rfl) q.events
 have nevents : ne = r.events.length := by have := he.len; omega
 have mevents : me = q.events.length := by have := ge.len; omega
 have xports := fm_len (c := cP) (k := 3) (fun _ => rfl) r.ports;have yports := fm_len (c := cP) (k := 3) (fun _ => rfl) q.ports
 have nports : np = r.ports.length := by have := hp.len; omega
 have mports : mp = q.ports.length := by have := gp.len; omega
 have xhandles := fm_len (c := cG) (k := 5) (fun _ => rfl) r.handles;have yhandles := fm_len (c := cG) (k := 5) (fun _ => rfl) q.handles
 have nhandles : nh = r.handles.length := by have := hh.len; omega
 have mhandles : mh = q.handles.length := by have := gh.len; omega
 refine Br.mk (fun h => no fun e => ?_) (fun b0 => ?_)
 · rw [ncounts, mcounts, e] at h; simp at h
 have b0 : nc = mc := by have : (nc : Int) = mc := (by simpa using b0); omega
 refine Br.mk (fun h => no fun e => ?_) (fun b1 => ?_)
 · rw [ncells, mcells, e] at h; simp at h
 have b1 : nl = ml := by have : (nl : Int) = ml := (by simpa using b1); omega
 refine Br.mk (fun h => no fun e => ?_) (fun b2 => ?_)
 · rw [nevents, mevents, e] at h; simp at h
 have b2 : ne = me := by have : (ne : Int) = me := (by simpa using b2); omega
 refine Br.mk (fun h => no fun e => ?_) (fun b3 => ?_)
 · rw [nports, mports, e] at h; simp at h
 have b3 : np = mp := by have : (np : Int) = mp := (by simpa using b3); omega
 refine Br.mk (fun h => no fun e => ?_) (fun b4 => ?_)
 · rw [nhandles, mhandles, e] at h; simp at h
 have b4 : nh = mh := by have : (nh : Int) = mh := (by simpa using b4); omega
 obtain ⟨s1, s2, s3, s4, s5, s6⟩ := hs
 refine ⟨by rw [hAI]; exact ⟨by omega, by omega, rfl⟩, fun J0 _ l0 j0 hj0 => ?_⟩
 rw [hAI] at hj0;obtain ⟨d0, e0, t0⟩ := hj0;refine Br.mk (fun hlt => ?_) (fun hge => ?_)
 · have hlt := of_decide_eq_true hlt
   obtain ⟨x, hx, u1⟩ := lst_at (c := cI) (k := 1) (fun _ => rfl) (hc.mono l0) ncounts d0 hlt
   obtain ⟨z, hz, u2⟩ := lst_at (c := cI) (k := 1) (fun _ => rfl) (gc.mono l0) mcounts d0 (by omega)
   refine ⟨d0, hlt, hc.isSome (by omega), _, u1 0 _ (by omega) rfl, d0, by omega, gc.isSome (by omega), _, u2 0 _ (by omega) rfl, Br.mk (fun hq => no fun e => ?_) (fun hq => ?_)⟩
   · have hq : x ≠ z := by simpa using hq
     rw [e, hz] at hx;exact hq (Option.some.inj hx).symm
   · have hq : x = z := by simpa using hq
     refine wr_i64 (by omega) (by omega) ⟨?_, by omega⟩
     rw [hAI]
     exact ⟨by omega, by omega, by rw [show (j0 + 1).toNat = j0.toNat + 1 by omega, take_succ' hx, take_succ' hz, t0, hq]⟩
 have hge := of_decide_eq_false hge
 rw [List.take_of_length_le (by omega), List.take_of_length_le (by omega)] at t0
 clear hge
 refine ⟨by rw [hBI]; exact ⟨by omega, by omega, rfl⟩, fun J1 _ l1 j1 hj1 => ?_⟩
 rw [hBI] at hj1;obtain ⟨d1, e1, t1⟩ := hj1;refine Br.mk (fun hlt => ?_) (fun hge => ?_)
 · have hlt := of_decide_eq_true hlt
   obtain ⟨x, hx, u1⟩ := lst_at (c := cI) (k := 1) (fun _ => rfl) (hl.mono (Mem.le_trans l0 l1)) ncells d1 hlt
   obtain ⟨z, hz, u2⟩ := lst_at (c := cI) (k := 1) (fun _ => rfl) (gl.mono (Mem.le_trans l0 l1)) mcells d1 (by omega)
   refine ⟨d1, hlt, hl.isSome (by omega), _, u1 0 _ (by omega) rfl, d1, by omega, gl.isSome (by omega), _, u2 0 _ (by omega) rfl, Br.mk (fun hq => no fun e => ?_) (fun hq => ?_)⟩
   · have hq : x ≠ z := by simpa using hq
     rw [e, hz] at hx;exact hq (Option.some.inj hx).symm
   · have hq : x = z := by simpa using hq
     refine wr_i64 (by omega) (by omega) ⟨?_, by omega⟩
     rw [hBI]
     exact ⟨by omega, by omega, by rw [show (j1 + 1).toNat = j1.toNat + 1 by omega, take_succ' hx, take_succ' hz, t1, hq]⟩
 have hge := of_decide_eq_false hge
 rw [List.take_of_length_le (by omega), List.take_of_length_le (by omega)] at t1
 clear hge
 refine ⟨by rw [hCI]; exact ⟨by omega, by omega, rfl⟩, fun J2 _ l2 j2 hj2 => ?_⟩
 rw [hCI] at hj2;obtain ⟨d2, e2, t2⟩ := hj2;refine Br.mk (fun hlt => ?_) (fun hge => ?_)
 · have hlt := of_decide_eq_true hlt
   obtain ⟨x, hx, u1⟩ := lst_at (c := cE) (k := 5) (fun _ => rfl) (he.mono (Mem.le_trans l0 (Mem.le_trans l1 l2))) nevents d2 hlt
   obtain ⟨z, hz, u2⟩ := lst_at (c := cE) (k := 5) (fun _ => rfl) (ge.mono (Mem.le_trans l0 (Mem.le_trans l1 l2))) mevents d2 (by omega)
   have hs1 := he.isSome (show 0 < ne by omega)
   have hs2 := ge.isSome (show 0 < me by omega)
   refine ⟨d2, hlt, hs1, _, u1 0 _ (by omega) rfl, _, u1 1 _ (by omega) rfl, _, u1 2 _ (by omega) rfl, _, u1 3 _ (by omega) rfl, _, u1 4 _ (by omega) rfl, d2, by omega, hs2, _, u2 0 _ (by omega) rfl, _, u2 1 _ (by omega) rfl, _, u2 2 _ (by omega) rfl, _, u2 3 _ (by omega) rfl, _, u2 4 _ (by omega) rfl, ?_⟩
   rw [eE x z];refine Br.mk (fun hq => no fun e => ?_) (fun hq => ?_)
   · have hq : x ≠ z := by simpa using hq
     rw [e, hz] at hx;exact hq (Option.some.inj hx).symm
   · have hq : x = z := by simpa using hq
     refine wr_i64 (by omega) (by omega) ⟨?_, by omega⟩
     rw [hCI]
     exact ⟨by omega, by omega, by rw [show (j2 + 1).toNat = j2.toNat + 1 by omega, take_succ' hx, take_succ' hz, t2, hq]⟩
 have hge := of_decide_eq_false hge
 rw [List.take_of_length_le (by omega), List.take_of_length_le (by omega)] at t2
 clear hge
 refine ⟨by rw [hDI]; exact ⟨by omega, by omega, rfl⟩, fun J3 _ l3 j3 hj3 => ?_⟩
 rw [hDI] at hj3;obtain ⟨d3, e3, t3⟩ := hj3;refine Br.mk (fun hlt => ?_) (fun hge => ?_)
 · have hlt := of_decide_eq_true hlt
   obtain ⟨x, hx, u1⟩ := lst_at (c := cP) (k := 3) (fun _ => rfl) (hp.mono (Mem.le_trans l0 (Mem.le_trans l1 (Mem.le_trans l2 l3)))) nports d3 hlt
   obtain ⟨z, hz, u2⟩ := lst_at (c := cP) (k := 3) (fun _ => rfl) (gp.mono (Mem.le_trans l0 (Mem.le_trans l1 (Mem.le_trans l2 l3)))) mports d3 (by omega)
   have hs1 := hp.isSome (show 0 < np by omega)
   have hs2 := gp.isSome (show 0 < mp by omega)
   refine ⟨d3, hlt, hs1, _, u1 0 _ (by omega) rfl, _, u1 1 _ (by omega) rfl, _, u1 2 _ (by omega) rfl, d3, by omega, hs2, _, u2 0 _ (by omega) rfl, _, u2 1 _ (by omega) rfl, _, u2 2 _ (by omega) rfl, ?_⟩
   rw [pE x z (hr.ports x (List.mem_of_getElem? hx)).2.1 (hq.ports z (List.mem_of_getElem? hz)).2.1];refine Br.mk (fun hq => no fun e => ?_) (fun hq => ?_)
   · have hq : x ≠ z := by simpa using hq
     rw [e, hz] at hx;exact hq (Option.some.inj hx).symm
   · have hq : x = z := by simpa using hq
     refine wr_i64 (by omega) (by omega) ⟨?_, by omega⟩
     rw [hDI]
     exact ⟨by omega, by omega, by rw [show (j3 + 1).toNat = j3.toNat + 1 by omega, take_succ' hx, take_succ' hz, t3, hq]⟩
 have hge := of_decide_eq_false hge
 rw [List.take_of_length_le (by omega), List.take_of_length_le (by omega)] at t3
 clear hge
 refine ⟨by rw [hEI]; exact ⟨by omega, by omega, rfl⟩, fun J4 _ l4 j4 hj4 => ?_⟩
 rw [hEI] at hj4;obtain ⟨d4, e4, t4⟩ := hj4;refine Br.mk (fun hlt => ?_) (fun hge => ?_)
 · have hlt := of_decide_eq_true hlt
   obtain ⟨x, hx, u1⟩ := lst_at (c := cG) (k := 5) (fun _ => rfl) (hh.mono (Mem.le_trans l0 (Mem.le_trans l1 (Mem.le_trans l2 (Mem.le_trans l3 l4))))) nhandles d4 hlt
   obtain ⟨z, hz, u2⟩ := lst_at (c := cG) (k := 5) (fun _ => rfl) (gh.mono (Mem.le_trans l0 (Mem.le_trans l1 (Mem.le_trans l2 (Mem.le_trans l3 l4))))) mhandles d4 (by omega)
   have hs1 := hh.isSome (show 0 < nh by omega)
   have hs2 := gh.isSome (show 0 < mh by omega)
   refine ⟨d4, hlt, hs1, _, u1 0 _ (by omega) rfl, _, u1 1 _ (by omega) rfl, _, u1 2 _ (by omega) rfl, _, u1 3 _ (by omega) rfl, _, u1 4 _ (by omega) rfl, d4, by omega, hs2, _, u2 0 _ (by omega) rfl, _, u2 1 _ (by omega) rfl, _, u2 2 _ (by omega) rfl, _, u2 3 _ (by omega) rfl, _, u2 4 _ (by omega) rfl, ?_⟩
   rw [hE x z];refine Br.mk (fun hq => no fun e => ?_) (fun hq => ?_)
   · have hq : x ≠ z := by simpa using hq
     rw [e, hz] at hx;exact hq (Option.some.inj hx).symm
   · have hq : x = z := by simpa using hq
     refine wr_i64 (by omega) (by omega) ⟨?_, by omega⟩
     rw [hEI]
     exact ⟨by omega, by omega, by rw [show (j4 + 1).toNat = j4.toNat + 1 by omega, take_succ' hx, take_succ' hz, t4, hq]⟩
 have hge := of_decide_eq_false hge
 rw [List.take_of_length_le (by omega), List.take_of_length_le (by omega)] at t4
 clear hge
 have e : r = q := by
  have a1 : r.num = q.num := by simpa using a1
  have a2 : r.code = q.code := by simpa using a2
  have a3 : r.ser = q.ser := by simpa using a3
  have a4 : r.port = q.port := by simpa using a4
  have a5 : r.time = q.time := by simpa using a5
  have a6 : r.kind = q.kind := by simpa using a6
  have a7 : r.more = q.more := by simpa using a7
  have a8 : r.key = q.key := by
   simp at a8;exact Prod.ext a8.1 (Prod.ext a8.2.1 a8.2.2)
  cases r; cases q
  simp only at a1 a2 a3 a4 a5 a6 a7 a8 t0 t1 t2 t3 t4
  simp only [Rs.mk.injEq];exact ⟨a1, a2, a3, a4, a5, a6, a7, a8, t0, t1, t2, t3, t4⟩
 rw [hS, sameS_iff.2 e]
set_option maxHeartbeats 1000000
def cellsR : List TA := [.sh (.int .i64), .sh (.int .i64), .sh (.int .i64), .sh (.int .i64), .sh (.int .i64), .sh (.int .i64), .sh .bool, .sh (.int .i64), .sh (.int .i64), .sh (.int .i64), .sh .sl, .sh .sl, .sh .sl, .sh .sl, .sh .sl]
def RefP (bs : List Int) (I' : Mem) (v : Value) : Prop := ∃ y, v = .tuple #[.agg (rfV (readS bs).1 y).toArray, .int .i64 (readS bs).2] /\ RfM I' (readS bs).1 y
theorem zero_f : okRf zeroRs := by
 refine ⟨?_, ?_, ?_, ?_, ?_, ?_, ?_, ?_, ?_, ?_, ?_, ?_⟩
 all_goals simp [zeroRs, i64R]
theorem zero_s : smallF zeroRs := ⟨by simp [zeroRs], by simp [zeroRs], by simp [zeroRs], by simp [zeroRs], by simp [zeroRs], by simp [zeroRs]⟩
theorem zero_RfM (I : Mem) : RfM I zeroRs nilY := ⟨lst_nil 1 I, lst_nil 1 I, lst_nil 5 I, lst_nil 3 I, lst_nil 5 I⟩
theorem zero_nil (t : Int) : NilF t zeroRs nilY := ⟨fun _ => ⟨rfl, rfl⟩, fun _ => ⟨rfl, rfl⟩, fun _ => ⟨rfl, rfl⟩⟩
theorem NilF.up {t s : Int} {h : Rs} {y : Ys} (hN : NilF t h y) (ht : t <= s) : NilF s h y := ⟨fun h => hN.1 (by omega), fun h => hN.2.1 (by omega), fun h => hN.2.2 (by omega)⟩
theorem twice {p : Prop} (h : p) : p /\ p := ⟨h, h⟩
theorem right_tail : ∀ {l : List (Int × List Int)} {last left : Int}, rightStep last left l = true -> ∀ j f, l[j]? = some f -> ∀ g ∈ l.drop (j + 1), f.1 + 1 <= g.1
 | [], _, _, _, j, f, hf, g, hg => by cases hf
 | x :: r, last, left, h, j, f, hf, g, hg => by
   rw [rightStep] at h
   split at h
   · cases h
   · cases j with
     | zero =>
       simp only [List.getElem?_cons_zero, Option.some.injEq] at hf;subst hf
       have := right_at h g (by simpa using hg)
       omega
     | succ j =>
       exact right_tail h j f (by simpa using hf) g (by simpa using hg)
theorem flS_right {R : Rs} (hr : rightS R = true) {bs : List Int} (hw : writeS R = bs) : bs ≠ [] /\ bs[0]? = some 1 /\ (readF (bs.drop 1)).1 = fieldsS R /\ (readF (bs.drop 1)).2.2 = 0 := by
 subst hw;have hd : (writeS R).drop 1 = writeF (fieldsS R) := rfl;have hrw := read_write (right_parts hr).2.1
 refine ⟨by simp [writeS], rfl, by rw [hd, hrw], by rw [hd, hrw]⟩
theorem rightR_of {R : Rs} (hR : okRs R) (hr : rightS R = true) : rightR R = true := by
 obtain ⟨h1, h2, h3⟩ := right_parts hr
 rw [rightR, vokR, h1, h2, decide_eq_true hR.kind.1, decide_eq_true h3]; rfl
theorem rightS_of {h : Rs} (hr : rightR h = true) : rightS h = true := by
 simp only [rightR, vokR, Bool.and_eq_true, decide_eq_true_eq] at hr
 rw [rightS, hr.1.1, hr.2.1, decide_eq_true hr.2.2]; rfl
theorem okRs_of {h : Rs} (hh : okRf h) (hr : rightR h = true) : okRs h := by
 have hv : vokR h = true := by
  simp only [rightR, Bool.and_eq_true] at hr;exact hr.1
 obtain ⟨h1, h2, h3, h4⟩ := (vokR_iff h).1 hv
 have hk : 0 <= h.kind := by
  simp only [vokR, Bool.and_eq_true, decide_eq_true_eq] at hv;exact hv.2
 exact ⟨hh.num, hh.code, hh.ser, hh.port, hh.time, ⟨hk, by omega⟩, hh.key, hh.counts, hh.cells, hh.events, hh.ports, fun x hx => ⟨(hh.handles x hx).1, (hh.handles x hx).2.1, by have := h4 x hx; omega⟩⟩
theorem ct8 (bs : List Int) (hbs : byteL bs) (a : Option Addr) (n c : Nat) (I : Mem) (h : SlM I a n 1 (ints .u8 bs)) (hn : n <= 20000) (hc : n <= c) (hm : c <= maxLen) :
 Ct Tryz.prog (fnv 8) #[.slice a n c] I (fun v I' => RefP bs I' v) := by
 obtain ⟨Q, hQ⟩ : ∃ f : Mem -> Value -> Prop, f = RefP bs := ⟨_, rfl⟩;rw [<- hQ];obtain ⟨L, hL⟩ : ∃ L, L = (readF (bs.drop 1)).1 := ⟨_, rfl⟩;obtain ⟨AI, hAI⟩ : ∃ f : Int -> List Value -> Mem -> Prop, f = fun (j : Int) cs I' => 0 <= j /\ j <= L.length /\ ∃ r y, cs = rfV r y /\ okRf r /\ smallF r /\ RfM I' r y /\ (∀ g ∈ L.drop j.toNat, NilF g.1 r y) /\ ∀ R, okRs R -> rightS R = true -> writeS R = bs -> r = (L.take j.toNat).foldl (fun h f => copyT R h f.1) zeroRs := ⟨_, rfl⟩
 obtain ⟨BI, hBI⟩ : ∃ f : Int -> Option Addr -> Nat -> List Value -> Mem -> Prop, f = fun (j : Int) b m cs I' => 0 <= j /\ j <= n /\ m = n /\ ∃ r y, cs = rfV r y /\ okRf r /\ RfM I' r y /\ rightR r = true /\ SlM I' b m 1 (ints .u8 (writeS r)) /\ (writeS r).take j.toNat = bs.take j.toNat /\ ∀ R, okRs R -> rightS R = true -> writeS R = bs -> r = R := ⟨_, rfl⟩
 refine viaR (ct_via (A := { loops := [(8, ⟨[(0, .keep), (2, .keep), (4, .keep), (7, .keep), (8, .sh (.int .i64))], [(0, .keep), (1, .cells cellsR)], [], fun vals _ I' _ => match vals with | .int .i64 j :: cs => AI j cs I' | _ => False, fun vals _ => match vals with | .int .i64 j :: cs => (L.length - j).toNat | _ => 0⟩), (18, ⟨[(0, .keep), (2, .keep), (7, .keep), (11, .sh .sl), (12, .sh (.int .i64))], [(0, .keep), (1, .cells cellsR)], [], fun vals _ I' _ => match vals with | .slice b m _ :: .int .i64 j :: cs => BI j b m cs I' | _ => False, fun vals _ => match vals with | .slice _ _ _ :: .int .i64 j :: _ => (n - j).toNat | _ => 0⟩)] }) Tryz.func8 rfl Tryz.call8 rfl rfl) (let E1 := Ent.mk (.cells [.v (.int .i64 0), .v (.int .i64 0), .v (.int .i64 0), .v (.int .i64 0), .v (.int .i64 0), .v (.int .i64 0), .v (.bool false), .v (.int .i64 0), .v (.int .i64 0), .v (.int .i64 0), .v (.slice none 0 0), .v (.slice none 0 0), .v (.slice none 0 0), .v (.slice none 0 0), .v (.slice none 0 0)] 41) none
  Br (decide ((n : Int) < 1)) (Q I (.tuple #[.agg #[.int .i64 0, .int .i64 0, .int .i64 0, .int .i64 0, .int .i64 0, .int .i64 0, .bool false, .int .i64 0, .int .i64 0, .int .i64 0, .slice none 0 0, .slice none 0 0, .slice none 0 0, .slice none 0 0, .slice none 0 0], .int .i64 351])) ((0 : Int) <= 0 /\ 0 < (n : Int) /\ a.isSome = true /\ ∃ b, atI I a 0 = some (.int .u8 b) /\ Br (b != 1) (Q I (.tuple #[.agg #[.int .i64 0, .int .i64 0, .int .i64 0, .int .i64 0, .int .i64 0, .int .i64 0, .bool false, .int .i64 0, .int .i64 0, .int .i64 0, .slice none 0 0, .slice none 0 0, .slice none 0 0, .slice none 0 0, .slice none 0 0], .int .i64 351])) ((0 : Int) <= 1 /\ 1 <= (n : Int) /\ Ct Tryz.prog (fnv 19) #[.slice (sladdr a c 1 1) (n - 1) (c - 1)] I fun v d => ∃ e f g i j, v = .tuple #[.slice e f g, .int .i64 i, .int .i64 j] /\ Br (j != 0) (Q d (.tuple #[.agg #[.int .i64 0, .int .i64 0, .int .i64 0, .int .i64 0, .int .i64 0, .int .i64 0, .bool false, .int .i64 0, .int .i64 0, .int .i64 0, .slice none 0 0, .slice none 0 0, .slice none 0 0, .slice none 0 0, .slice none 0 0], .int .i64 351])) ((Rf E1 /\ Rf (SV.v (.slice a n c)) /\ Rf (SV.ptr 0 0) /\ Rf (SV.v (.slice e f g)) /\ Rf (SV.ptr 1 0) /\ Rf (none : Option Nat) /\ AI 0 [.int .i64 0, .int .i64 0, .int .i64 0, .int .i64 0, .int .i64 0, .int .i64 0, .bool false, .int .i64 0, .int .i64 0, .int .i64 0, .slice none 0 0, .slice none 0 0, .slice none 0 0, .slice none 0 0, .slice none 0 0] d) /\ ∀ (k : Mem), Mem -> d.le k -> ∀ (l m o p q r s : Int) (t : Bool) (u w x : Int) (y : Option Addr) (z c1 : Nat) (a1 : Option Addr) (n1 c2 : Nat) (a2 : Option Addr) (n2 c3 : Nat) (a3 : Option Addr) (n3 c4 : Nat) (a4 : Option Addr) (n4 c5 : Nat), AI l [.int .i64 m, .int .i64 o, .int .i64 p, .int .i64 q, .int .i64 r, .int .i64 s, .bool t, .int .i64 u, .int .i64 w, .int .i64 x, .slice y z c1, .slice a1 n1 c2, .slice a2 n2 c3, .slice a3 n3 c4, .slice a4 n4 c5] k -> Br (decide (l < (f : Int))) (0 <= l /\ l < (f : Int) /\ e.isSome = true /\ (2 : Nat) = 2 /\ ∃ n5, atI k e (l.toNat * 2 + 0) = some (.int .i64 n5) /\ ∃ a5 n6 c6, atI k e (l.toNat * 2 + 1) = some (.slice a5 n6 c6) /\ Ct Tryz.prog (fnv 20) #[.agg #[.int .i64 m, .int .i64 o, .int .i64 p, .int .i64 q, .int .i64 r, .int .i64 s, .bool t, .int .i64 u, .int .i64 w, .int .i64 x, .slice y z c1, .slice a1 n1 c2, .slice a2 n2 c3, .slice a3 n3 c4, .slice a4 n4 c5], .agg #[.int .i64 n5, .slice a5 n6 c6]] k (fun v1 I1 => ∃ n7 n8 n9 n10 n11 n12 b1 n13 n14 n15 a6 n16 c7 a7 n17 c8 a8 n18 c9 a9 n19 c10 a10 n20 c11 b2, v1 = .tuple #[.agg #[.int .i64 n7, .int .i64 n8, .int .i64 n9, .int .i64 n10, .int .i64 n11, .int .i64 n12, .bool b1, .int .i64 n13, .int .i64 n14, .int .i64 n15, .slice a6 n16 c7, .slice a7 n17 c8, .slice a8 n18 c9, .slice a9 n19 c10, .slice a10 n20 c11], .bool b2] /\ Br (!b2) (Q I1 (.tuple #[.agg #[.int .i64 0, .int .i64 0, .int .i64 0, .int .i64 0, .int .i64 0, .int .i64 0, .bool false, .int .i64 0, .int .i64 0, .int .i64 0, .slice none 0 0, .slice none 0 0, .slice none 0 0, .slice none 0 0, .slice none 0 0], .int .i64 351])) (Wr .i64 (l + 1) (fun c12 => Rf E1 /\ Rf (SV.v (.slice a n c)) /\ Rf (SV.ptr 0 0) /\ Rf (SV.v (.slice e f g)) /\ Rf (SV.ptr 1 0) /\ Rf (none : Option Nat) /\ AI c12 [.int .i64 n7, .int .i64 n8, .int .i64 n9, .int .i64 n10, .int .i64 n11, .int .i64 n12, .bool b1, .int .i64 n13, .int .i64 n14, .int .i64 n15, .slice a6 n16 c7, .slice a7 n17 c8, .slice a8 n18 c9, .slice a9 n19 c10, .slice a10 n20 c11] I1 /\ Int.toNat ((L.length : Int) - c12) < Int.toNat ((L.length : Int) - l)))) /\ Ct Tryz.prog (fnv 20) #[.agg #[.int .i64 m, .int .i64 o, .int .i64 p, .int .i64 q, .int .i64 r, .int .i64 s, .bool t, .int .i64 u, .int .i64 w, .int .i64 x, .slice y z c1, .slice a1 n1 c2, .slice a2 n2 c3, .slice a3 n3 c4, .slice a4 n4 c5], .agg #[.int .i64 n5, .slice a5 n6 c6]] k fun v1 I1 => ∃ n7 n8 n9 n10 n11 n12 b1 n13 n14 n15 a6 n16 c7 a7 n17 c8 a8 n18 c9 a9 n19 c10 a10 n20 c11 b2, v1 = .tuple #[.agg #[.int .i64 n7, .int .i64 n8, .int .i64 n9, .int .i64 n10, .int .i64 n11, .int .i64 n12, .bool b1, .int .i64 n13, .int .i64 n14, .int .i64 n15, .slice a6 n16 c7, .slice a7 n17 c8, .slice a8 n18 c9, .slice a9 n19 c10, .slice a10 n20 c11], .bool b2] /\ Br (!b2) (Q I1 (.tuple #[.agg #[.int .i64 0, .int .i64 0, .int .i64 0, .int .i64 0, .int .i64 0, .int .i64 0, .bool false, .int .i64 0, .int .i64 0, .int .i64 0, .slice none 0 0, .slice none 0 0, .slice none 0 0, .slice none 0 0, .slice none 0 0], .int .i64 351])) (Wr .i64 (l + 1) (fun c12 => Rf E1 /\ Rf (SV.v (.slice a n c)) /\ Rf (SV.ptr 0 0) /\ Rf (SV.v (.slice e f g)) /\ Rf (SV.ptr 1 0) /\ Rf (none : Option Nat) /\ AI c12 [.int .i64 n7, .int .i64 n8, .int .i64 n9, .int .i64 n10, .int .i64 n11, .int .i64 n12, .bool b1, .int .i64 n13, .int .i64 n14, .int .i64 n15, .slice a6 n16 c7, .slice a7 n17 c8, .slice a8 n18 c9, .slice a9 n19 c10, .slice a10 n20 c11] I1 /\ Int.toNat ((L.length : Int) - c12) < Int.toNat ((L.length : Int) - l)))) (Ct Tryz.prog (fnv 21) #[.agg #[.int .i64 m, .int .i64 o, .int .i64 p, .int .i64 q, .int .i64 r, .int .i64 s, .bool t, .int .i64 u, .int .i64 w, .int .i64 x, .slice y z c1, .slice a1 n1 c2, .slice a2 n2 c3, .slice a3 n3 c4, .slice a4 n4 c5]] k (fun v1 I1 => ∃ a5 n5 c6 n6, v1 = .tuple #[.slice a5 n5 c6, .int .i64 n6] /\ Br (n6 != 0) (Q I1 (.tuple #[.agg #[.int .i64 0, .int .i64 0, .int .i64 0, .int .i64 0, .int .i64 0, .int .i64 0, .bool false, .int .i64 0, .int .i64 0, .int .i64 0, .slice none 0 0, .slice none 0 0, .slice none 0 0, .slice none 0 0, .slice none 0 0], .int .i64 351])) (Br ((n5 : Int) != (n : Int)) (Q I1 (.tuple #[.agg #[.int .i64 0, .int .i64 0, .int .i64 0, .int .i64 0, .int .i64 0, .int .i64 0, .bool false, .int .i64 0, .int .i64 0, .int .i64 0, .slice none 0 0, .slice none 0 0, .slice none 0 0, .slice none 0 0, .slice none 0 0], .int .i64 351])) ((Rf E1 /\ Rf (SV.v (.slice a n c)) /\ Rf (SV.ptr 0 0) /\ Rf (SV.ptr 1 0) /\ Rf (none : Option Nat) /\ BI 0 a5 n5 [.int .i64 m, .int .i64 o, .int .i64 p, .int .i64 q, .int .i64 r, .int .i64 s, .bool t, .int .i64 u, .int .i64 w, .int .i64 x, .slice y z c1, .slice a1 n1 c2, .slice a2 n2 c3, .slice a3 n3 c4, .slice a4 n4 c5] I1) /\ ∀ (I2 : Mem), Mem -> I1.le I2 -> ∀ (a6 : Option Addr) (n7 : Nat), Nat -> ∀ (n8 n9 n10 n11 n12 n13 n14 : Int) (b1 : Bool) (n15 n16 n17 : Int) (a7 : Option Addr) (n18 c7 : Nat) (a8 : Option Addr) (n19 c8 : Nat) (a9 : Option Addr) (n20 c9 : Nat) (a10 : Option Addr) (n21 c10 : Nat) (a11 : Option Addr) (n22 c11 : Nat), BI n8 a6 n7 [.int .i64 n9, .int .i64 n10, .int .i64 n11, .int .i64 n12, .int .i64 n13, .int .i64 n14, .bool b1, .int .i64 n15, .int .i64 n16, .int .i64 n17, .slice a7 n18 c7, .slice a8 n19 c8, .slice a9 n20 c9, .slice a10 n21 c10, .slice a11 n22 c11] I2 -> Br (decide (n8 < (n : Int))) (0 <= n8 /\ n8 < (n7 : Int) /\ a6.isSome = true /\ ∃ n23, atI I2 a6 (n8.toNat * 1 + 0) = some (.int .u8 n23) /\ 0 <= n8 /\ n8 < (n : Int) /\ a.isSome = true /\ ∃ n24, atI I2 a (n8.toNat * 1 + 0) = some (.int .u8 n24) /\ Br (n23 != n24) (Q I2 (.tuple #[.agg #[.int .i64 0, .int .i64 0, .int .i64 0, .int .i64 0, .int .i64 0, .int .i64 0, .bool false, .int .i64 0, .int .i64 0, .int .i64 0, .slice none 0 0, .slice none 0 0, .slice none 0 0, .slice none 0 0, .slice none 0 0], .int .i64 351])) (Wr .i64 (n8 + 1) (fun c12 => Rf E1 /\ Rf (SV.v (.slice a n c)) /\ Rf (SV.ptr 0 0) /\ Rf (SV.ptr 1 0) /\ Rf (none : Option Nat) /\ BI c12 a6 n7 [.int .i64 n9, .int .i64 n10, .int .i64 n11, .int .i64 n12, .int .i64 n13, .int .i64 n14, .bool b1, .int .i64 n15, .int .i64 n16, .int .i64 n17, .slice a7 n18 c7, .slice a8 n19 c8, .slice a9 n20 c9, .slice a10 n21 c10, .slice a11 n22 c11] I2 /\ Int.toNat ((n : Int) - c12) < Int.toNat ((n : Int) - n8)))) (Q I2 (.tuple #[.agg #[.int .i64 n9, .int .i64 n10, .int .i64 n11, .int .i64 n12, .int .i64 n13, .int .i64 n14, .bool b1, .int .i64 n15, .int .i64 n16, .int .i64 n17, .slice a7 n18 c7, .slice a8 n19 c8, .slice a9 n20 c9, .slice a10 n21 c10, .slice a11 n22 c11], .int .i64 0])))))))))) (by kernel_rfl) ?_
 intro E1;simp only [Rf, eq_self, true_and];have hln := h.numLen
 have Z : ∀ {J : Mem}, (∀ R, okRs R -> rightS R = true -> writeS R = bs -> False) -> Q J (.tuple #[.agg (rfV zeroRs nilY).toArray, .int .i64 351]) := fun {J} hz => by
  have hacc : accS bs = false := by
   cases ha : accS bs with
   | false => rfl
   | true => exact (hz _ (read_ok hbs).1 (acc_form ha).1 (acc_form ha).2.1).elim
  have : readS bs = (zeroRs, 351) := by rw [readS, hacc]; rfl
  rw [hQ];refine ⟨nilY, ?_, ?_⟩
  · rw [this]
  · rw [this]; exact zero_RfM J
 refine Br.mk (fun h1 => Z fun R hR hr hw => ?_) (fun h1 => ?_)
 · have h1 := of_decide_eq_true h1
   have := (flS_right hr hw).1
   cases hb : bs with
   | nil => exact this hb
   | cons x l => rw [hb] at hln; simp only [List.length_cons] at hln; omega
 have h1 := of_decide_eq_false h1
 obtain ⟨x0, hx0, e0⟩ := h.intAt (i := 0) (by omega) (by omega)
 have hx0 : bs[0]? = some x0 := hx0
 refine ⟨by omega, by omega, h.isSome (by omega), x0, e0, Br.mk (fun h2 => Z fun R hR hr hw => ?_) (fun h2 => ?_)⟩
 · have h2 : x0 ≠ 1 := by simpa using h2
   have := (flS_right hr hw).2.1;rw [hx0] at this;exact h2 (Option.some.inj this)
 have hsub := sl_sub h (f := 1) (t := n) (by omega) (by omega) hc
 rw [List.take_of_length_le (by rw [List.length_drop]; omega)] at hsub
 have hbd : byteL (bs.drop 1) := fun z hz => hbs z (List.mem_of_mem_drop hz)
 refine ⟨by omega, by omega, (ct19 (bs.drop 1) hbd _ (n - 1) (c - 1) I hsub (by omega) (by omega) (by omega)).mono fun v I1 l1 ⟨a1, n1, c1, hv, hF, hn1, hc1⟩ => ⟨_, _, _, _, _, hv, Br.mk (fun h3 => Z fun R hR hr hw => ?_) (fun h3 => ?_)⟩⟩
 · have h3 : (readF (bs.drop 1)).2.2 ≠ 0 := by simpa using h3
   exact h3 (flS_right hr hw).2.2.2
 have h3 : (readF (bs.drop 1)).2.2 = 0 := by simpa using h3
 rw [<- hL] at hF;have hlen := hF.len;have hmax := hF.max
 have hmx : maxLen = 9223372036854775807 := by decide
 have hFR : ∀ R, rightS R = true -> writeS R = bs -> L = fieldsS R := fun R hr hw => by rw [hL]; exact (flS_right hr hw).2.2.1
 have hst : rightStep 0 16384 L = true := by
  rcases read_cases (bs.drop 1) hbd with ⟨_, _, hr, _⟩ | ⟨hr, _⟩
  · rw [hL]; exact (rightF_iff.1 hr).1
  · rw [hL, hr]; rfl
 have hle : ∀ f ∈ L, 1 <= f.1 /\ f.1 <= 200 /\ f.2.length <= 16384 := fun f hf => by
  have := right_at hst f hf;omega
 refine ⟨?_, fun I2 _ l2 j y0 y1 y2 y3 y4 y5 y6 y7 y8 y9 ac nc cc al nl cl ae ne ce ap np cp ah nh ch hA => ?_⟩
 · rw [hAI]
   exact ⟨by omega, by omega, zeroRs, nilY, rfl, zero_f, zero_s, zero_RfM I1, fun g _ => zero_nil _, fun R _ _ _ => rfl⟩
 rw [hAI] at hA;obtain ⟨j0, j1, r, y, heq, okr, hs, hM, hN, hfold⟩ := hA;obtain ⟨yc, yl, ye, yp, yh⟩ := y;simp only [rfV, List.cons.injEq, Value.int.injEq, Value.bool.injEq, true_and, and_true] at heq;obtain ⟨rfl, rfl, rfl, rfl, rfl, rfl, rfl, rfl, rfl, rfl, rfl, rfl, rfl, rfl, rfl⟩ := heq;refine Br.mk (fun hlt => ?_) (fun hge => ?_)
 · have hlt := of_decide_eq_true hlt
   obtain ⟨f, b, m, c', hf, hokf, e2, e3, hfs, hm1, hm2⟩ := (hF.mono l2).at_ j0 hlt;have hfm := List.mem_of_getElem? hf;have hml := hfs.numLen;have hft := hle f hfm
   have hNf := hN f (by rw [drop_cons hf]; simp)
   have C := ct20 r okr hs _ I2 hM f.1 ⟨hft.1, hft.2.1⟩ f.2 hokf.2 b m c' hfs hm1 hm2 (by omega) hNf
   refine ⟨j0, hlt, hF.isSome (by omega), _, e2, _, _, _, e3, twice (C.mono fun v I3 l3 ⟨r', y', ok, hv, hM', okr', hs', hN', hR'⟩ => ?_)⟩
   subst hv;obtain ⟨⟨a5, n5, c5, q1, _⟩, ⟨a6, n6, c6, q2, _⟩, ⟨a7, n7, c7, q3, _⟩, ⟨a8, n8, c8, q4, _⟩, ⟨a9, n9, c9, q5, _⟩⟩ := id hM';obtain ⟨zc, zl, ze, zp, zh⟩ := y'
   simp only at q1 q2 q3 q4 q5
   subst q1 q2 q3 q4 q5
   have hall : ∀ R, okRs R -> rightS R = true -> writeS R = bs -> ok = true /\ r' = copyT R r f.1 := fun R hR hr hw => by
    refine hR' R hR hr ?_;have := hFR R hr hw;rw [this, fields_eq] at hfm;exact (List.mem_filter.1 hfm).1
   refine ⟨_, _, _, _, _, _, _, _, _, _, _, _, _, _, _, _, _, _, _, _, _, _, _, _, _, _, rfl, Br.mk (fun hb => Z fun R hR hr hw => ?_) (fun hb => ?_)⟩
   · rw [(hall R hR hr hw).1] at hb; cases hb
   · have hb : ok = true := by simpa using hb
     refine wr_i64 (by omega) (by omega) ⟨?_, by omega⟩
     rw [hAI]
     have e1 : (j + 1).toNat = j.toNat + 1 := by omega
     refine ⟨by omega, by omega, r', ⟨_, _, _, _, _⟩, rfl, okr', hs', hM', fun g hg => (hN' hb).up ?_, fun R hR hr hw => ?_⟩
     · rw [e1] at hg
       exact right_tail hst j.toNat f hf g hg
     · rw [e1, take_succ' hf, List.foldl_append, <- hfold R hR hr hw]
       exact (hall R hR hr hw).2
 · have hge := of_decide_eq_false hge
   rw [List.take_of_length_le (by omega)] at hfold
   have hRr : ∀ R, okRs R -> rightS R = true -> writeS R = bs -> r = R := fun R hR hr hw => by
    rw [hfold R hR hr hw, hFR R hr hw];exact fold_fields hR
   refine (ct21 r okr hs _ I2 hM).mono fun v I3 l3 ⟨a3, n3, c3, hv, hs3, hn3, hc3⟩ => ⟨_, _, _, _, hv, Br.mk (fun hb => Z fun R hR hr hw => ?_) (fun hb => ?_)⟩
   · have := rightR_of hR hr
     rw [<- hRr R hR hr hw] at this
     rw [this] at hb; cases hb
   have hrr : rightR r = true := by
    cases hrr : rightR r with
    | true => rfl
    | false => rw [hrr] at hb; cases hb
   rw [if_pos hrr] at hs3;have hl3 := hs3.numLen;refine Br.mk (fun hb => Z fun R hR hr hw => ?_) (fun hb => ?_)
   · rw [<- hRr R hR hr hw] at hw
     rw [hw] at hl3
     have : n3 = n := by omega
     rw [this] at hb; simp at hb
   have hb : n3 = n := by have : (n3 : Int) = n := (by simpa using hb); omega
   refine ⟨?_, fun I4 _ l4 b3 m3 d3 j' z0 z1 z2 z3 z4 z5 z6 z7 z8 z9 bc mc dc bl ml dl be me de bp mp dp bh mh dh hB => ?_⟩
   · rw [hBI]
     exact ⟨by omega, by omega, hb, r, ⟨_, _, _, _, _⟩, rfl, okr, hM.mono l3, hrr, hs3, rfl, hRr⟩
   rw [hBI] at hB;obtain ⟨k0, k1, hmn, q, z, heq, okq, hMq, hrq, hsq, htk, hRq⟩ := hB;obtain ⟨zc, zl, ze, zp, zh⟩ := z;simp only [rfV, List.cons.injEq, Value.int.injEq, Value.bool.injEq, true_and, and_true] at heq;obtain ⟨rfl, rfl, rfl, rfl, rfl, rfl, rfl, rfl, rfl, rfl, rfl, rfl, rfl, rfl, rfl⟩ := heq;have hlq := hsq.numLen;refine Br.mk (fun hlt => ?_) (fun hge => ?_)
   · have hlt := of_decide_eq_true hlt
     obtain ⟨x, hx, ex⟩ := hsq.intAt k0 (by omega)
     obtain ⟨w, hw, ew⟩ := (h.mono (Mem.le_trans (Mem.le_trans l1 l2) (Mem.le_trans l3 l4))).intAt k0 (by omega)
     refine ⟨k0, by omega, hsq.isSome (by omega), _, by simpa using ex, k0, hlt, h.isSome (by omega), _, by simpa using ew, Br.mk (fun hne => Z fun R hR hr hw' => ?_) (fun hne => ?_)⟩
     · rw [<- hRq R hR hr hw'] at hw'
       rw [hw', hw] at hx;cases hx;simp at hne
     · have hne : x = w := by simpa using hne
       refine wr_i64 (by omega) (by omega) ⟨?_, by omega⟩
       rw [hBI]
       refine ⟨by omega, by omega, hmn, q, ⟨_, _, _, _, _⟩, rfl, okq, hMq, hrq, hsq, ?_, hRq⟩
       rw [show (j' + 1).toNat = j'.toNat + 1 by omega, take_succ' hx, take_succ' hw, htk, hne]
   · have hge := of_decide_eq_false hge
     rw [List.take_of_length_le (by omega), List.take_of_length_le (by omega)] at htk
     have := (read_writeS (okRs_of okq hrq) (rightS_of hrq)).2;rw [htk] at this;rw [hQ];refine ⟨⟨.slice bc mc dc, .slice bl ml dl, .slice be me de, .slice bp mp dp, .slice bh mh dh⟩, ?_, ?_⟩
     · rw [this]; rfl
     · rw [this]; exact hMq
set_option maxHeartbeats 2000000
theorem sl_pre {I : Mem} {a : Option Addr} {n k : Nat} {xs ys : List Int} (h : SlM I a (n + k) 1 (ints .u8 (xs ++ ys))) (hx : n = xs.length) : SlM I a n 1 (ints .u8 xs) := by
 refine ⟨by rw [ints_len]; omega, fun hn => by have := h.nil hn; omega, Nat.le_trans (by omega) h.max, fun j v hj => h.at_ j v ?_⟩
 have hl := (List.getElem?_eq_some_iff.1 hj).1;unfold ints at hj hl ⊢;rw [List.map_append, List.getElem?_append_left hl];exact hj
theorem ownS_mono {sz : Nat} {G G' : Mem} {a : Option Addr} {c : Nat} (h : OwnS sz G a c) (hle : G.le G') : OwnS sz G' a c := fun hc => by
 obtain ⟨b, off, cur, el, fz, h1, h2, h3⟩ := h hc;exact ⟨b, off, cur, el, fz, h1, hle _ _ h2, h3⟩
theorem okRf_of {r : Rs} (h : okRs r) : okRf r := ⟨h.num, h.code, h.ser, h.port, h.time, by have := h.kind; unfold i64R; omega, h.key, h.counts, h.cells, h.events, h.ports, fun x hx => ⟨(h.handles x hx).1, (h.handles x hx).2.1, by have := (h.handles x hx).2.2; omega⟩⟩
theorem read_small (bs : List Int) : smallF (readS bs).1 := by
 cases ha : accS bs with
 | true =>
   have hv := (right_parts (acc_form ha).1).1;generalize (readS bs).1 = r at hv ⊢;simp only [vokS, lenOk, Bool.and_eq_true, decide_eq_true_eq] at hv;obtain ⟨_, ⟨h1, h2, h3, h4, h5⟩, _, h6, _⟩ := hv
   refine ⟨by omega, by omega, by omega, by omega, by omega, fun x hx => ?_⟩
   have := List.all_eq_true.1 h6 x hx;simp only [ptOk, nameB, Bool.and_eq_true, decide_eq_true_eq] at this;omega
 | false =>
   have : readS bs = (zeroRs, 351) := by rw [readS, ha]; rfl
   rw [this]; exact zero_s
theorem ct4 (bs : List Int) (hbs : byteL bs) (a : Option Addr) (n c : Nat) (I : Mem) (h : SlM I a n 1 (ints .u8 bs)) (hc : n <= c) (hm : c <= maxLen) :
 Ct Tryz.prog (fnv 4) #[.slice a n c] I (fun v _ => v = .bool true) := by
 refine viaR (ct_via (A := { calls := [(15, .g), (24, .g), (26, .g), (34, .g)] }) Tryz.func4 rfl Tryz.call4 rfl rfl) (Br (decide (20000 < (n : Int))) (Rf (Value.bool true)) (Ct Tryz.prog (fnv 6) #[.slice a n c] I (fun v b => ∃ d e f, v = .slice d e f /\ CtH Tryz.prog (fnv 7) #[.slice d e f] b Mem.emp fun g i G => ∃ j k l m o p q r s t u w x y z c1 a1 n1 c2 a2 n2 c3 a3 n3 c4 n4, g = .tuple #[.agg #[.int .i64 j, .int .i64 k, .int .i64 l, .int .i64 m, .int .i64 o, .int .u8 p, .bool q, .int .i64 r, .int .i64 s, .int .i64 t, .slice u w x, .slice y z c1, .slice a1 n1 c2, .slice a2 n2 c3, .slice a3 n3 c4], .int .i64 n4] /\ Ct Tryz.prog (fnv 8) #[.slice a n c] i fun v1 I1 => ∃ n5 n6 n7 n8 n9 n10 b1 n11 n12 n13 a4 n14 c5 a5 n15 c6 a6 n16 c7 a7 n17 c8 a8 n18 c9 n19, v1 = .tuple #[.agg #[.int .i64 n5, .int .i64 n6, .int .i64 n7, .int .i64 n8, .int .i64 n9, .int .i64 n10, .bool b1, .int .i64 n11, .int .i64 n12, .int .i64 n13, .slice a4 n14 c5, .slice a5 n15 c6, .slice a6 n16 c7, .slice a7 n17 c8, .slice a8 n18 c9], .int .i64 n19] /\ CtH Tryz.prog (fnv 10) #[.agg #[.int .i64 j, .int .i64 k, .int .i64 l, .int .i64 m, .int .i64 o, .int .u8 p, .bool q, .int .i64 r, .int .i64 s, .int .i64 t, .slice u w x, .slice y z c1, .slice a1 n1 c2, .slice a2 n2 c3, .slice a3 n3 c4]] I1 G fun v2 I2 G1 => ∃ n20 n21 n22 n23 n24 n25 b2 n26 n27 n28 a9 n29 c10 a10 n30 c11 a11 n31 c12 a12 n32 c13 a13 n33 c14, v2 = .agg #[.int .i64 n20, .int .i64 n21, .int .i64 n22, .int .i64 n23, .int .i64 n24, .int .i64 n25, .bool b2, .int .i64 n26, .int .i64 n27, .int .i64 n28, .slice a9 n29 c10, .slice a10 n30 c11, .slice a11 n31 c12, .slice a12 n32 c13, .slice a13 n33 c14] /\ CtH Tryz.prog (fnv 9) #[.agg #[.int .i64 n20, .int .i64 n21, .int .i64 n22, .int .i64 n23, .int .i64 n24, .int .i64 n25, .bool b2, .int .i64 n26, .int .i64 n27, .int .i64 n28, .slice a9 n29 c10, .slice a10 n30 c11, .slice a11 n31 c12, .slice a12 n32 c13, .slice a13 n33 c14], .agg #[.int .i64 n5, .int .i64 n6, .int .i64 n7, .int .i64 n8, .int .i64 n9, .int .i64 n10, .bool b1, .int .i64 n11, .int .i64 n12, .int .i64 n13, .slice a4 n14 c5, .slice a5 n15 c6, .slice a6 n16 c7, .slice a7 n17 c8, .slice a8 n18 c9]] I2 G1 fun v3 I3 G2 => ∃ b3, v3 = .bool b3 /\ Br (!b3) (Value.bool false = .bool true) (Br (n4 != n19) (Value.bool false = .bool true) (CtH Tryz.prog (fnv 11) #[.agg #[.int .i64 j, .int .i64 k, .int .i64 l, .int .i64 m, .int .i64 o, .int .u8 p, .bool q, .int .i64 r, .int .i64 s, .int .i64 t, .slice u w x, .slice y z c1, .slice a1 n1 c2, .slice a2 n2 c3, .slice a3 n3 c4]] I3 G2 (fun v4 I4 G3 => v4 = .tuple #[] /\ Ct Tryz.prog (fnv 12) #[.slice d e f, .slice a n c] I4 fun v5 I5 => ∃ b4, v5 = .bool b4 /\ Value.bool b4 = .bool true)))))) (by kernel_rfl) ?_
 simp only [Rf];have hnl := h.numLen
 refine Br.mk (fun _ => by trivial) (fun hlt => ?_)
 have hlt := of_decide_eq_false hlt;have rok := (read_ok hbs).1;have rs := read_small bs;generalize hX : readS bs = X at rok rs
 refine (ct6 bs a n c I h (by omega)).mono fun v I1 l1 ⟨a1, cp, hv, hcp, hcm, hs1⟩ => ⟨_, _, _, hv, ?_⟩
 have hs2 := sl_pre hs1 hnl
 refine (ct_own (ct7 bs hbs a1 n cp I1 hs2 (by omega) (by omega) hcm)).mono ?_
 rintro v I2 G2 _ ⟨rfl, J, lJ, ⟨y, hv, hM, hN⟩, rfl⟩;rw [hX] at hv hM;obtain ⟨⟨ac, nc, cc, hyc, hc1, hcc, hcm1⟩, ⟨al, nl, cl, hyl, hl1, hlc, hlm⟩, ⟨ae, ne, ce, hye, he1, hec, hem⟩, ⟨ap, np, cp', hyp, hp1, hpc, hpm⟩, ⟨ah, nh, ch, hyh, hh1, hhc, hhm⟩⟩ := id hM;obtain ⟨yc, yl, ye, yp, yh⟩ := y
 simp only at hyc hyl hye hyp hyh
 subst hyc hyl hye hyp hyh
 refine ⟨_, _, _, _, _, _, _, _, _, _, _, _, _, _, _, _, _, _, _, _, _, _, _, _, _, _, hv, (ct8 bs hbs a n c I2 (h.mono l1) (by omega) hc hm).mono fun v I3 l3 ⟨z, hv, hM3⟩ => ?_⟩
 rw [hX] at hv hM3;obtain ⟨⟨bc, mc, dc, hzc, _⟩, ⟨bl, ml, dl, hzl, _⟩, ⟨be, me, de, hze, _⟩, ⟨bp, mp, dp, hzp, _⟩, ⟨bh, mh, dh, hzh, _⟩⟩ := id hM3;obtain ⟨zc, zl, ze, zp, zh⟩ := z
 simp only at hzc hzl hze hzp hzh
 subst hzc hzl hze hzp hzh;refine ⟨_, _, _, _, _, _, _, _, _, _, _, _, _, _, _, _, _, _, _, _, _, _, _, _, _, _, hv, (ct_bothN fun hap => ct10 X.1 rok rs _ _ (hM.mono (Mem.le_trans (le_gained lJ) (both_mono l3 hap)))).mono ?_⟩;rintro v I4 G4 _ ⟨rfl, lG, _, ⟨w, hv, hM4⟩⟩;obtain ⟨⟨ec, kc, fc, hwc, _⟩, ⟨el, kl, fl, hwl, _⟩, ⟨ee, ke, fe, hwe, _⟩, ⟨ep, kp, fp, hwp, _⟩, ⟨eh, kh, fh, hwh, _⟩⟩ := id hM4;obtain ⟨wc, wl, we, wp, wh⟩ := w
 simp only at hwc hwl hwe hwp hwh
 subst hwc hwl hwe hwp hwh;refine ⟨_, _, _, _, _, _, _, _, _, _, _, _, _, _, _, _, _, _, _, _, _, _, _, _, _, hv, (ct_both fun hap => ct9 X.1 X.1 (okRf_of rok) (okRf_of rok) rs _ _ _ hM4 (hM3.mono (both_le _ _))).mono ?_⟩;rintro v I5 G5 _ ⟨rfl, rfl, _, hv⟩;have xcells := fm_len (c := cI) (k := 1) (fun _ => rfl) X.1.cells;have xcounts := fm_len (c := cI) (k := 1) (fun _ => rfl) X.1.counts;have xports := fm_len (c := cP) (k := 3) (fun _ => rfl) X.1.ports;have xhandles := fm_len (c := cH) (k := 5) (fun _ => rfl) X.1.handles;have z1 := hc1.len;have z2 := hl1.len;have z4 := hp1.len
 have z5 := hh1.len;have s1 := rs.counts;have s2 := rs.cells;have s4 := rs.ports;have s5 := rs.handles;have hO : OwnY G5 ac al ae ap ah cc cl ce cp' ch := ⟨ownS_mono (hN.c _ _ _ rfl).own lG, ownS_mono (hN.l _ _ _ rfl).own lG, ownS_mono (hN.e _ _ _ rfl).own lG, ownS_mono (hN.p _ _ _ rfl).own lG, ownS_mono (hN.h _ _ _ rfl).own lG⟩
 refine ⟨_, hv, Br.f (by rw [sameS_iff.2 rfl]; rfl) (Br.f (by simp) ((ct11 X.1 ac al ae ap ah nc nl ne np nh cc cl ce cp' ch _ _ ⟨⟨hcc, hlc, hec, hpc, hhc⟩, ⟨by omega, by omega, by omega, by omega⟩, hem⟩ hO).mono fun v I6 G6 l6 hv => ⟨hv, ?_⟩))⟩
 exact (ct12 bs bs a1 n cp a n c I6 (hs1.mono (Mem.le_trans l3 l6)) rfl rfl hcp (h.mono (Mem.le_trans l1 (Mem.le_trans l3 l6))) (by omega)).mono fun v I7 l7 hv => ⟨_, hv, rfl⟩
theorem ct3 (bs : List Int) (hbs : byteL bs) (a : Option Addr) (n c : Nat) (I : Mem) (h : SlM I a n 1 (ints .u8 bs)) (hc : n <= c) (hm : c <= maxLen) :
 Ct Tryz.prog (fnv 3) #[.slice a n c] I (fun v _ => v = .bool true) := by
 refine viaR (ct_via (A := { }) Tryz.func3 rfl Tryz.call3 rfl rfl) (Ct Tryz.prog (fnv 4) #[.slice a n c] I fun v b => ∃ d, v = .bool d /\ Br d (Ct Tryz.prog (fnv 5) #[] b (fun e f => ∃ g, e = .bool g /\ Value.bool g = .bool true)) (Value.bool false = .bool true)) (by kernel_rfl) ?_
 exact (ct4 bs hbs a n c I h hc hm).mono fun v I1 l1 hv => ⟨_, hv, Br.t rfl ((ct5 I1).mono fun v I2 l2 hv => ⟨_, hv, rfl⟩)⟩
theorem cells5 : Tryz.prog.cellsOf 5 = 1 := by kernel_rfl
def Q22 (I : Mem) (v : Value) : Prop := ∃ (a : Option Addr) (n c : Nat) (bs : List Int), v = .slice a n c /\ SlM I a n 1 (ints .u8 bs) /\ n <= c /\ c <= maxLen /\ byteL bs
section
variable {H : Type} {enc : TypeId × Value -> H} {W : World} {r : Reach} {b0 : Nat} {v : Value} {d : DataW H} {ps : List MemPlace}
set_option maxRecDepth 100000 in
theorem op22 (hval : Value.okWide Tryz.prog W r b0 22 v) (hd : DataW.Trod enc Tryz.prog W 0 (fun _ => true) true 22 v d ps) (hw : ∀ n ∈ d.weights Tryz.prog 22, n <= reachBytes) : Q22 (memW W) v := by
 obtain ⟨a, n, c, zs, rfl, h1, h2, h3, h4⟩ := opSl Tryz.underlying22 Tryz.underlying5 cells5 hval hd;exact ⟨a, n, c, zs, rfl, h1, h2, h3, h4⟩
end
theorem ct3Q (I : Mem) (v0 : Value) (h0 : Q22 I v0) : Ct Tryz.prog (fnv 3) #[v0] I (fun v _ => v = .bool true) := by
 obtain ⟨a, n, c, bs, rfl, hs, hc, hm, hb⟩ := h0;exact ct3 bs hb a n c I hs hc hm
