/- Part of a proof by the rules of the symbolic walk (see the law's own text): contracts of functions of the program. -/
import Derived.Test.YthfgpdjplknleaaGreatDoorGU
open Go Go.Proofs Go.SE Go.RowKit
set_option linter.unusedVariables false
set_option maxRecDepth 100000
theorem slM_drop {I : Mem} {g : Option Addr} {n m c sz : Nat} {xs : List Value} (h : SlM I g n sz xs) (hm : m ≤ n) (hc : n ≤ c) (hz : 0 < sz) :
    (sladdr g c m sz = none → n - m = 0) ∧ ∀ (j : Nat) (v : Value), (xs.drop (m * sz))[j]? = some v → atI I (sladdr g c m sz) j = some v := by
  unfold sladdr
  split
  · rename_i e
    refine ⟨fun _ => by omega, fun j v hj => ?_⟩
    have hl := h.len
    have := (List.getElem?_eq_some_iff.1 hj).1
    have hn : n = m := by omega
    rw [List.length_drop, hl, hn] at this
    omega
  · refine ⟨fun hg => ?_, fun j v hj => ?_⟩
    · cases g with
      | none => have := h.nil rfl; omega
      | some p => cases hg
    · rw [List.getElem?_drop] at hj
      have := h.at_ _ _ hj
      cases g with
      | none => exact this
      | some p =>
        simp only [atI, Option.map_some, Option.bind_some] at this ⊢
        rw [add_add]; exact this
theorem rowR_drop {α : Type} {k : Nat} {E : Mem → List Value → α → Prop} {I : Mem} : ∀ (n : Nat) {l : List α} {xs : List Value}, RowR k E I xs l → RowR k E I (xs.drop (n * k)) (l.drop n)
  | 0, _, _, h => by simpa using h
  | n + 1, [], _, h => by rw [show _ = [] from h]; simp [RowR]
  | n + 1, _ :: l, _, ⟨c, r, h1, h2, h3, h4⟩ => by
    rw [h1, List.drop_succ_cons, List.drop_append, List.drop_eq_nil_of_le (by rw [h2, Nat.add_mul]; omega), List.nil_append, h2, Nat.add_mul, Nat.one_mul, Nat.add_sub_cancel]
    exact rowR_drop n h4
theorem row_one {I : Mem} : ∀ {l : List En} {xs : List Value}, RowR 4 EnC I xs l → ∀ v ∈ xs, v.oneCell' = true
  | [], _, h, v, hv => by rw [show _ = [] from h] at hv; cases hv
  | _ :: _, _, ⟨c, r, h1, h2, ⟨_, y, h3, a, n, cp, h5, _⟩, h4⟩, v, hv => by
    rw [h1] at hv
    rcases List.mem_append.1 hv with hv | hv
    · rw [h3, h5] at hv
      simp only [enV, List.mem_cons, List.not_mem_nil, or_false] at hv
      rcases hv with rfl | rfl | rfl | rfl <;> rfl
    · exact row_one h4 v hv
/-- An entry that is not right, in memory. -/
def BadI (I : Mem) (p : Option Addr) : Prop := ∃ e a n c, okEn e ∧ cleanE e = false ∧ atI I p 0 = some (.int .u8 e.kind) ∧ atI I p 1 = some (.int .i64 e.slot) ∧ atI I p 2 = some (.int .i64 e.n) ∧ atI I p 3 = some (.slice a n c) ∧ BySl I (.slice a n c) e.bs
theorem bad_mk {I : Mem} {b : Nat} {e : En} {a : Option Addr} {n c : Nat} (h : I b = some (.cells #[.int .u8 e.kind, .int .i64 e.slot, .int .i64 e.n, .slice a n c] 35 (0, 0))) (hk : okEn e) (hc : cleanE e = false) (hy : BySl I (.slice a n c) e.bs) : BadI I (some ⟨b, 0, none⟩) := by
  refine ⟨e, a, n, c, hk, hc, ?_, ?_, ?_, ?_, hy⟩
  all_goals simp [atI, Addr.add_lit, cellM, h]
theorem min_neg (t : Int) : (bif false then imax t (-1) else imin t (-1)) ≤ -1 ∧ (i64R t → i64R (bif false then imax t (-1) else imin t (-1))) := by
  show imin t (-1) ≤ -1 ∧ (i64R t → i64R (imin t (-1)))
  rw [imin]
  unfold i64R
  split <;> constructor <;> omega
theorem max_pos {t c : Int} (hc : 0 ≤ c ∧ c ≤ 4294967296) : c ≤ (bif true then imax t c else imin t c) ∧ (i64R t → i64R (bif true then imax t c else imin t c)) := by
  show c ≤ imax t c ∧ (i64R t → i64R (imax t c))
  rw [imax]
  unfold i64R
  split <;> constructor <;> omega
theorem lastNeg {x : Int} (h : i64R x) (hx : x < 0) : (lastN (formN (IntKind.u64.wrap x).toNat)).1 = x + 18446744073709551616 := by
  have hw : IntKind.u64.wrap x = x + 18446744073709551616 := by
    unfold i64R at h
    rw [w64]; omega
  have h1 : (IntKind.u64.wrap x).toNat < 256 ^ 8 := by
    unfold i64R at h
    rw [hw]; omega
  rw [(lastN_f2 h1).1, hw]
  unfold i64R at h
  omega
def rq6 (x : Int) : Rq := { kind := 6, what := 0, name := ⟨#[]⟩, p3 := 0, p4 := 0, p5 := 0, p6 := 0, p7 := x, p8 := 0, p9 := 0, val := 0, fed := [] }
def rq9 : Rq := { kind := 9, what := 0, name := ⟨#[]⟩, p3 := 0, p4 := 0, p5 := 0, p6 := 0, p7 := 0, p8 := 0, p9 := 0, val := 0, fed := [] }
theorem rq6_ok {x : Int} (h : i64R x) : okRq (rq6 x) := by constructor <;> first | exact h | (simp [rq6, i64R, byteL]; done) | (constructor <;> simp [rq6])
theorem rq9_ok : okRq rq9 := by constructor <;> first | (simp [rq9, i64R, byteL]; done) | (constructor <;> simp [rq9])
theorem rq6_wrong {x : Int} (h : i64R x) (hx : x < 0) : rightR (rq6 x) = false := by
  have hb : takeB (preR (rq6 x) (had0 (rq6 x)) 7) 7 (bytesR (rq6 x) 7) = false := by
    rw [show bytesR (rq6 x) 7 = formN (IntKind.u64.wrap x).toNat from rfl]
    simp only [takeB, lastNeg h hx]
    unfold i64R at h
    rw [if_neg (by decide), if_neg (by decide), if_neg (by decide), decide_eq_false (p := x + 18446744073709551616 ≤ 9223372036854775807) (by omega)]
    simp
  have : runR (rq6 x) (had0 (rq6 x)) [7] = (had0 (rq6 x), false) := by rw [runR, hb]; rfl
  rw [rightR, show tagL (rq6 x).kind (rq6 x).what = some [7] from rfl]
  simp only
  rw [this]
  simp
theorem rq9_right : rightR rq9 = true := by decide +kernel
theorem cleanE_slot {s : Int} {bs : List Int} (h : s < 0) : cleanE ⟨1, s, 0, bs⟩ = false := by
  rw [cleanE, if_pos rfl, withinB, decide_eq_false (p := 0 ≤ s ∧ s ≤ 4294967295) (by omega)]
  rfl
theorem ask6 {x y : Int} (h : i64R x) (hx : x < 0) : askE y (rq6 x) = (zeroEn, 412) := by rw [askE, rq6_wrong h hx]; rfl
theorem ask9 {y : Int} (hy : y < 0) : askE y rq9 = (zeroEn, 410) := by
  rw [askE, rq9_right, cleanE_slot hy]; rfl
open Go Go.Proofs Go.SE Go.RowKit
set_option linter.unusedVariables false
set_option maxRecDepth 100000
theorem ct49N (es : List En) (a : Option Addr) (n c : Nat) (I : Mem) (h : EnM I a n es) (hn : n ≤ 1000000) :
    Ct Tryz.prog (fnv 49) #[.slice a n c] I (fun v I' => ∃ a' c' xs, v = .slice a' n c' ∧ SlM I' a' n 4 xs ∧ RowR 4 EnC I xs es ∧ n ≤ c' ∧ c' ≤ maxLen ∧ NewS 4 I I' a' c') := by
  refine viaR (ctF_via (A := { }) Tryz.func49 rfl Tryz.call49 rfl rfl) (Br a.isNone (∃ b d x, Value.slice none 0 0 = .slice b n d ∧ SlM I b n 4 x ∧ RowR 4 (fun (e : Mem) (f : List Value) (g : En) => okEn g ∧ ∃ y, f = enV g y ∧ BySl e y g.bs) I x es ∧ n ≤ d ∧ d ≤ 9223372036854775807 ∧ NewS 4 I I b d) (∃ y, y.length = n * 4 ∧ (a = none → n = 0) ∧ (∀ (j : Nat) (v : Value), y[j]? = some v → atI I a j = some v) ∧ (∀ (v : Value), Membership.mem y v → v.oneCell' = true) ∧ (0 : Nat) = 0 ∧ 0 + n ≤ 9223372036854775807 ∧ (0 + n) * 48 ≤ 140737488355328 ∧ ∀ (b : Option Addr) (d : Nat) (e : Mem), I.le e → RowF I e b d 4 y 35 → ∃ f g x, Value.slice b (0 + n) d = .slice f n g ∧ SlM e f n 4 x ∧ RowR 4 (fun (i : Mem) (j : List Value) (k : En) => okEn k ∧ ∃ l, j = enV k l ∧ BySl i l k.bs) I x es ∧ n ≤ g ∧ g ≤ 9223372036854775807 ∧ NewS 4 I e f g)) (by kernel_rfl) ?_
  obtain ⟨xs, hs, hr⟩ := h
  refine Br.mk (fun h0 => ?_) (fun h0 => ⟨xs, hs.len, hs.nil, hs.at_, row_one hr, rfl, by omega, by omega, fun a' cp I' lI hrow => ⟨a', cp, xs, by rw [Nat.zero_add], hrow.row.sl (by decide) hs.len, hr, ?_, hrow.row.2.1, hrow.newS⟩⟩)
  · have h0 : a = none := by simpa using h0
    subst h0
    have hn0 := hs.nil rfl
    subst hn0
    have hx : xs = [] := List.eq_nil_of_length_eq_zero (by have := hs.len; omega)
    subst hx
    exact ⟨none, 0, [], rfl, sl_nil _ _, hr, by omega, by omega, fun hc => absurd hc (by omega)⟩
  · have h1 := hrow.row.1
    have h2 := hs.len
    omega
theorem ct_free {P : Program} {fv : Value} {args : Array Value} {I : Mem} {post : Value → Mem → Mem → Prop} (h : CtH P fv args I Mem.emp post) :
    Ct P fv args I (fun v I' => ∃ I1 G1, I' = both I1 G1 ∧ I.le I1 ∧ I1.apart G1 ∧ post v I1 G1) := by
  intro W hI hG hap
  refine (h W hI hG hap).mono ?_
  rintro en W' ⟨v, I1, G1, rfl, h1, h2, h3, h4, h5, h6, h7, h8, h9⟩
  refine ⟨v, both I1 G1, Mem.emp, rfl, Mem.le_trans h1 (both_le _ _), fun b o hb => ?_, Mem.emp_inW _, Mem.apart_emp _, h5, h6, h7, fun b hb hg => ⟨rfl, fun hi => ?_⟩, I1, G1, rfl, h1, h4, h9⟩
  · unfold both at hb
    split at hb
    · cases hb; exact h2 _ _ (by assumption)
    · exact h3 _ _ hb
  · obtain ⟨g1, g2⟩ := h8 b hb hg
    simp [both, g2 hi, g1]
theorem rowR_put {I : Mem} {y : Value} : ∀ {l : List En} {xs : List Value} {j : Nat} {e : En}, RowR 4 EnC I xs l → l[j]? = some e → BySl I y e.bs → RowR 4 EnC I (xs.set (j * 4 + 3) y) l
  | [], _, _, _, _, hj, _ => by simp at hj
  | f :: l, xs, 0, e, ⟨c, r, h1, h2, ⟨h3, z, h4, h5⟩, h6⟩, hj, hy => by
    simp only [List.getElem?_cons_zero, Option.some.injEq] at hj
    subst hj
    refine ⟨enV f y, r, ?_, rfl, ⟨h3, y, rfl, hy⟩, h6⟩
    rw [h1, h4]; rfl
  | f :: l, xs, j + 1, e, ⟨c, r, h1, h2, h3, h6⟩, hj, hy => by
    refine ⟨c, r.set (j * 4 + 3) y, ?_, h2, h3, rowR_put h6 (by simpa using hj) hy⟩
    rw [h1, List.set_append_right _ _ (by omega), h2, show (j + 1) * 4 + 3 - 4 = j * 4 + 3 by omega]
/-- The copy so far: the entries' array is owned, the first lists are new. -/
def CpI (I0 : Mem) (es : List En) (n : Nat) (I G : Mem) (g : Option Addr) (j : Int) : Prop :=
  0 ≤ j ∧ j ≤ n ∧ (0 < n → ∃ (b off : Nat) (cur : Array Value) (el : TypeId), g = some ⟨b, off, none⟩ ∧ I0 b = none ∧ G b = some (.cells cur el (0, 0)) ∧ off + n * 4 ≤ cur.size ∧ RowR 4 EnC I ((cur.toList.drop off).take (n * 4)) es ∧
    ∀ (i : Nat) (v : Value), (i : Int) < j → ((cur.toList.drop off).take (n * 4))[i * 4 + 3]? = some v → NewB I0 I v)
theorem put_list {l : List Value} {off k N : Nat} {y : Value} (hk : k < N) (hl : off + N ≤ l.length) : ((l.take (off + k) ++ [y] ++ l.drop (off + k + 1)).drop off).take N = ((l.drop off).take N).set k y := by
  have h1 : l.take (off + k) ++ [y] ++ l.drop (off + k + 1) = l.set (off + k) y := by
    rw [List.set_eq_take_append_cons_drop, if_pos (by omega), List.append_assoc]; rfl
  rw [h1, List.drop_set, if_neg (by omega), List.take_set, Nat.add_sub_cancel_left]
theorem at_G {G : Mem} {b off k N : Nat} {cur : Array Value} {el : TypeId} {v : Value} (h : G b = some (.cells cur el (0, 0))) (hv : ((cur.toList.drop off).take N)[k]? = some v) : atI G (some ⟨b, off, none⟩) k = some v := by
  rw [List.getElem?_take] at hv
  split at hv
  · rw [List.getElem?_drop, Array.getElem?_toList] at hv
    simp only [atI, Option.bind_some, Addr.add_lit, cellM, h, Option.isSome_none, Bool.false_eq_true, if_false]
    exact hv
  · cases hv
theorem cells_eq {J : Mem} {b off n : Nat} {cur : Array Value} {el : TypeId} {xs : List Value} (h : J b = some (.cells cur el (0, 0))) (hs : SlM J (some ⟨b, off, none⟩) n 4 xs) (hc : off + n * 4 ≤ cur.size) : (cur.toList.drop off).take (n * 4) = xs := by
  apply List.ext_getElem?
  intro k
  have hl := hs.len
  by_cases hk : k < n * 4
  · have h1 := hs.at_ k _ (List.getElem?_eq_getElem (by omega))
    have h2 : ((cur.toList.drop off).take (n * 4))[k]? = some (((cur.toList.drop off).take (n * 4))[k]'(by simp; omega)) := List.getElem?_eq_getElem _
    rw [at_G h h2] at h1
    rw [h2, h1, List.getElem?_eq_getElem (by omega)]
  · rw [List.getElem?_eq_none (by simp; omega), List.getElem?_eq_none (by omega)]
theorem ct17G (es : List En) (hbl : ∀ e ∈ es, e.bs.length ≤ 1000000) (a : Option Addr) (n c : Nat) (I : Mem) (h : EnM I a n es) (hn : n ≤ 1000000) :
    CtH Tryz.prog (fnv 17) #[.slice a n c] I Mem.emp (fun v I' G' => ∃ a' c', v = .slice a' n c' ∧ n ≤ c' ∧ c' ≤ maxLen ∧ CpI I es n I' G' a' n) := by
  obtain ⟨XI, hXI⟩ : ∃ f, f = CpI I es n := ⟨_, rfl⟩
  refine viaR (ctG_via (A := { calls := [(5, .g), (17, .g), (20, .st)], loops := [(3, ⟨[(0, .kv), (7, .keep), (8, .sh (.int .i64))], [], [], fun vals _ I' G' => match vals with | [.slice g m d, .int .i64 j] => XI I' G' g j | _ => False, fun vals _ => match vals with | [_, .int .i64 j] => (n - j).toNat | _ => 0⟩)] }) Tryz.func17 rfl Tryz.call17 rfl rfl) (CtH Tryz.prog (.func (.func 49) #[] #[]) #[.slice a n c] I Mem.emp fun v b G => ∃ d e f, v = .slice d e f ∧ (Rf (SV.v (.slice d e f)) ∧ Rf (SV.v (.int .i64 (e : Int))) ∧ XI b G d 0) ∧ ∀ (g i : Mem), b.le g → ∀ (j : Int), XI g i d j → Br (decide (j < (e : Int))) (0 ≤ j ∧ j < (e : Int) ∧ d.isSome = true ∧ d.isSome = true ∧ ∃ k l m, atI i d (j.toNat * 4 + 3 + 0) = some (.slice k l m) ∧ Ct Tryz.prog (.func (.func 50) #[] #[]) #[.slice k l m] g fun o p => ∃ q r s, o = .slice q r s ∧ 0 ≤ j ∧ j < (e : Int) ∧ d.isSome = true ∧ d.isSome = true ∧ ∃ t, PutG i d (j.toNat * 4 + 3) [.slice q r s] t ∧ Wr .i64 (j + 1) fun u => Rf (SV.v (.slice d e f)) ∧ Rf (SV.v (.int .i64 (e : Int))) ∧ XI p t d u ∧ Int.toNat ((n : Int) - u) < Int.toNat ((n : Int) - j)) (∃ k l, Value.slice d e f = .slice k n l ∧ n ≤ l ∧ l ≤ 9223372036854775807 ∧ CpI I es n g i k (n : Int))) (by kernel_rfl) ?_
  simp only [Rf, eq_self, true_and]
  have hln : es.length = n := SlR.len (by decide) h
  refine (ct_own (ct49N es a n c I h hn)).mono ?_
  rintro v I1 G1 l1 ⟨rfl, J, lJ, ⟨a', c', xs, rfl, hs, hr, hc, hm, hN⟩, rfl⟩
  refine ⟨_, _, _, rfl, ?_, fun I2 G2 l2 j hj => ?_⟩
  · rw [hXI]
    refine ⟨by omega, by omega, fun h0 => ?_⟩
    obtain ⟨b, off, cur, el, e1, e2, e3, e4⟩ := hN (by omega)
    subst e1
    refine ⟨b, off, cur, el, rfl, e2, gained_new e2 e3, by omega, ?_, fun i v hi => by omega⟩
    rw [cells_eq e3 hs (by omega)]
    exact hr
  · rw [hXI] at hj
    refine Br.mk (fun hlt => ?_) (fun hge => ⟨a', c', rfl, hc, hm, ?_⟩)
    · have hlt := of_decide_eq_true hlt
      obtain ⟨h0, h1, hj⟩ := hj
      obtain ⟨b, off, cur, el, rfl, e2, e3, e4, hrow, hnew⟩ := hj (by omega)
      obtain ⟨e, he⟩ : ∃ e, es[j.toNat]? = some e := ⟨_, List.getElem?_eq_getElem (by omega)⟩
      obtain ⟨c0, hc0, ⟨hok, y, rfl, hy⟩, hget⟩ := hrow.get he
      have hy' := hy
      obtain ⟨k, l, m, rfl, hsl, hlm, hmm⟩ := hy'
      have h3 := hget 3 _ rfl
      have hlb := hbl e (List.mem_of_getElem? he)
      have hl1 := hsl.numLen
      refine ⟨h0, hlt, rfl, rfl, k, l, m, at_G e3 h3, (ct50N e.bs k l m I2 hsl (by omega)).mono fun v I3 l3 ⟨hv, hvN⟩ => ?_⟩
      have hv' := hv
      obtain ⟨q, r, s, rfl, _, _, _⟩ := hv'
      refine ⟨q, r, s, rfl, h0, hlt, rfl, rfl, _, ⟨b, off, cur, el, rfl, e3, by simp; omega, rfl⟩, wr_i64 (by omega) (by omega) ⟨?_, by omega⟩⟩
      rw [hXI]
      refine ⟨by omega, by omega, fun _ => ⟨b, off, _, el, rfl, e2, if_pos rfl, by simp; omega, ?_, fun i v hi hv2 => ?_⟩⟩
      · simp only [List.length_cons, List.length_nil, Nat.zero_add]
        rw [put_list (by omega) (by simpa using e4)]
        exact rowR_put (hrow.mono enC_mono l3) he hv
      · simp only [List.length_cons, List.length_nil, Nat.zero_add] at hv2
        rw [put_list (by omega) (by simpa using e4)] at hv2
        by_cases hij : i = j.toNat
        · subst hij
          rw [List.getElem?_set_self (by simp; omega)] at hv2
          cases hv2
          exact hvN.anti l2
        · rw [List.getElem?_set_ne (by omega)] at hv2
          exact (hnew i v (by omega) hv2).mono l3
    · have hge := of_decide_eq_false hge
      have : j = n := by have := hj.2.1; omega
      rw [← this]; exact hj
open Go Go.Proofs Go.SE Go.RowKit
set_option linter.unusedVariables false
set_option maxRecDepth 100000
/-- What may stand where v stood, and the entries stay readable. -/
def SameV (M : Mem) (v v' : Value) : Prop := v' = v ∨ (∃ x y, v = .int .u8 x ∧ v' = .int .u8 y ∧ 0 ≤ y ∧ y ≤ 255) ∨ (∃ x y, v = .int .i64 x ∧ v' = .int .i64 y ∧ i64R y) ∨ (∃ p q r, v = .slice p q r ∧ ∃ bs, BySl M v' bs ∧ byteL bs)
def Chg (M M2 : Mem) : Prop := ∀ ad v, cellM M ad = some v → ∃ v', cellM M2 ad = some v' ∧ SameV M2 v v'
theorem chg_at {M M2 : Mem} (h : Chg M M2) {a : Option Addr} {k : Nat} {v : Value} (hv : atI M a k = some v) : ∃ v', atI M2 a k = some v' ∧ SameV M2 v v' := by
  cases a with
  | none => cases hv
  | some p => exact h _ _ hv
theorem list_ch {P : Nat → Value → Prop} : ∀ n, (∀ k, k < n → ∃ v, P k v) → ∃ xs : List Value, xs.length = n ∧ ∀ k v, xs[k]? = some v → P k v
  | 0, _ => ⟨[], rfl, fun k v h => by simp at h⟩
  | n + 1, h => by
    obtain ⟨xs, h1, h2⟩ := list_ch n fun k hk => h k (by omega)
    obtain ⟨v, hv⟩ := h n (by omega)
    refine ⟨xs ++ [v], by simp [h1], fun k w hw => ?_⟩
    by_cases hk : k < n
    · rw [List.getElem?_append_left (by omega)] at hw
      exact h2 k w hw
    · have hlt := (List.getElem?_eq_some_iff.1 hw).1
      simp only [List.length_append, List.length_cons, List.length_nil] at hlt
      have : k = n := by omega
      subst this
      rw [List.getElem?_append_right (by omega), h1, Nat.sub_self] at hw
      cases hw
      exact hv
theorem chg_bytes {M M2 : Mem} (h : Chg M M2) {a : Option Addr} {n : Nat} {bs : List Int} (hs : SlM M a n 1 (ints .u8 bs)) (hb : byteL bs) : ∃ bs', SlM M2 a n 1 (ints .u8 bs') ∧ byteL bs' := by
  have hl := hs.numLen
  obtain ⟨xs, h1, h2⟩ := list_ch (P := fun k v => atI M2 a k = some v ∧ ∃ y, v = .int .u8 y ∧ 0 ≤ y ∧ y ≤ 255) n fun k hk => by
    have hg : bs[k]? = some bs[k] := List.getElem?_eq_getElem (by omega)
    obtain ⟨v', h1, h2⟩ := chg_at h (hs.at_ k _ (ints_get hg))
    refine ⟨v', h1, ?_⟩
    rcases h2 with rfl | ⟨x, y, _, h2, h3, h4⟩ | ⟨x, y, h2, _⟩ | ⟨p, q, r, h2, _⟩
    · exact ⟨_, rfl, hb _ (List.getElem_mem _)⟩
    · exact ⟨y, h2, h3, h4⟩
    · cases h2
    · cases h2
  refine ⟨xs.map fun v => match v with | .int _ y => y | _ => 0, ?_, fun z hz => ?_⟩
  · have e : ints .u8 (xs.map fun v => match v with | .int _ y => y | _ => 0) = xs := by
      simp only [ints, List.map_map]
      apply List.ext_getElem?
      intro k
      rw [List.getElem?_map]
      cases hk : xs[k]? with
      | none => rfl
      | some v =>
        obtain ⟨_, y, rfl, _⟩ := h2 k v hk
        rfl
    rw [e]
    exact ⟨by omega, hs.nil, hs.max, fun j v hj => (h2 j v hj).1⟩
  · obtain ⟨v, hv, rfl⟩ := List.mem_map.1 hz
    obtain ⟨k, hk, rfl⟩ := List.mem_iff_getElem.1 hv
    obtain ⟨_, y, e, h3, h4⟩ := h2 k _ (List.getElem?_eq_getElem hk)
    rw [e]
    exact ⟨h3, h4⟩
theorem chg_row {M M2 : Mem} (h : Chg M M2) : ∀ {es : List En} {xs ys : List Value}, RowR 4 EnC M xs es → ys.length = xs.length → (∀ (k : Nat) (v v' : Value), xs[k]? = some v → ys[k]? = some v' → SameV M2 v v') → ∃ es', RowR 4 EnC M2 ys es'
  | [], xs, ys, hr, hl, _ => by
    rw [show xs = [] from hr] at hl
    exact ⟨[], List.eq_nil_of_length_eq_zero hl⟩
  | e :: es, xs, ys, ⟨c, r, h1, h2, ⟨hok, y, h3, a, n, cp, h4, hs, hn, hc⟩, hr⟩, hl, hv => by
    subst h1; subst h3; subst h4
    rw [List.length_append, h2] at hl
    obtain ⟨y0, y1, y2, y3, zs, rfl⟩ : ∃ y0 y1 y2 y3 zs, ys = y0 :: y1 :: y2 :: y3 :: zs := by
      rcases ys with _ | ⟨y0, _ | ⟨y1, _ | ⟨y2, _ | ⟨y3, zs⟩⟩⟩⟩ <;> first | exact ⟨_, _, _, _, _, rfl⟩ | (simp only [List.length_cons, List.length_nil] at hl; omega)
    · simp only [List.length_cons] at hl
      obtain ⟨es', hes⟩ := chg_row h (es := es) (ys := zs) hr (by omega) fun k v v' h5 h6 => hv (k + 4) v v' (by
        rw [List.getElem?_append_right (by rw [h2]; omega), h2, Nat.add_sub_cancel]; exact h5) (by simpa using h6)
      have v0 := hv 0 _ y0 rfl rfl
      have v1 := hv 1 _ y1 rfl rfl
      have v2 := hv 2 _ y2 rfl rfl
      have v3 := hv 3 _ y3 rfl rfl
      obtain ⟨k, rfl, hk⟩ : ∃ k, y0 = .int .u8 k ∧ 0 ≤ k ∧ k ≤ 255 := by
        rcases v0 with rfl | ⟨x, z, _, e1, e2, e3⟩ | ⟨x, z, e1, _⟩ | ⟨p, q, r, e1, _⟩
        · exact ⟨_, rfl, hok.kind⟩
        · exact ⟨z, e1, e2, e3⟩
        · cases e1
        · cases e1
      obtain ⟨s, rfl, hs1⟩ : ∃ k, y1 = .int .i64 k ∧ i64R k := by
        rcases v1 with rfl | ⟨x, z, e1, _⟩ | ⟨x, z, _, e1, e2⟩ | ⟨p, q, r, e1, _⟩
        · exact ⟨_, rfl, hok.slot⟩
        · cases e1
        · exact ⟨z, e1, e2⟩
        · cases e1
      obtain ⟨m, rfl, hm1⟩ : ∃ k, y2 = .int .i64 k ∧ i64R k := by
        rcases v2 with rfl | ⟨x, z, e1, _⟩ | ⟨x, z, _, e1, e2⟩ | ⟨p, q, r, e1, _⟩
        · exact ⟨_, rfl, hok.n⟩
        · cases e1
        · exact ⟨z, e1, e2⟩
        · cases e1
      obtain ⟨bs, hb1, hb2⟩ : ∃ bs, BySl M2 y3 bs ∧ byteL bs := by
        rcases v3 with rfl | ⟨x, z, e1, _⟩ | ⟨x, z, e1, _⟩ | ⟨p, q, r, _, bs, e1, e2⟩
        · obtain ⟨bs', g1, g2⟩ := chg_bytes h hs hok.bs
          exact ⟨bs', ⟨_, _, _, rfl, g1, hn, hc⟩, g2⟩
        · cases e1
        · cases e1
        · exact ⟨bs, e1, e2⟩
      exact ⟨⟨k, s, m, bs⟩ :: es', _, zs, rfl, rfl, ⟨⟨hk, hs1, hm1, hb2⟩, y3, rfl, hb1⟩, hes⟩
theorem chg_ents {M M2 : Mem} (h : Chg M M2) {a : Option Addr} {n : Nat} {es : List En} (hM : EnM M a n es) : ∃ es', EnM M2 a n es' := by
  obtain ⟨xs, hs, hr⟩ := hM
  obtain ⟨ys, h1, h2⟩ := list_ch (P := fun k v' => atI M2 a k = some v' ∧ ∀ v, xs[k]? = some v → SameV M2 v v') xs.length fun k hk => by
    obtain ⟨v', g1, g2⟩ := chg_at h (hs.at_ k _ (List.getElem?_eq_getElem hk))
    exact ⟨v', g1, fun v hv => by rw [List.getElem?_eq_getElem hk] at hv; cases hv; exact g2⟩
  obtain ⟨es', he⟩ := chg_row h hr h1 fun k v v' hk hk' => (h2 k v' hk').2 v hk
  exact ⟨es', ys, ⟨by rw [h1]; exact hs.len, hs.nil, hs.max, fun j v hj => (h2 j v hj).1⟩, he⟩

/-- A cell of what is owned is written. -/
theorem put_chg {I G G2 : Mem} {a : Option Addr} {k : Nat} {v0 v' : Value} (hap : I.apart G) (hp : PutG G a k [v'] G2) (h0 : atI G a k = some v0) (hs : SameV (both I G2) v0 v') :
    Chg (both I G) (both I G2) ∧ atI (both I G2) a k = some v' ∧ I.apart G2 := by
  obtain ⟨b, off, cur, el, rfl, hb, hsz, rfl⟩ := hp
  have hIb : I b = none := (hap b).resolve_right (by rw [hb]; simp)
  have hset : (cur.toList.take (off + k) ++ [v'] ++ cur.toList.drop (off + k + [v'].length)) = cur.toList.set (off + k) v' := by
    rw [List.set_eq_take_append_cons_drop, if_pos (by simp at hsz ⊢; omega), List.append_assoc]; rfl
  rw [hset] at hs ⊢
  have hlt : off + k < cur.size := by simp at hsz; omega
  have h0' : cur[off + k]? = some v0 := by
    simpa [atI, Addr.add_lit, cellM, hb] using h0
  refine ⟨fun ad v hv => ?_, ?_, fun x => ?_⟩
  · unfold cellM both at hv ⊢
    cases hI : I ad.block with
    | some o =>
      rw [hI] at hv
      exact ⟨v, hv, .inl rfl⟩
    | none =>
      rw [hI] at hv
      simp only at hv ⊢
      by_cases he : ad.block = b
      · rw [he, hb] at hv
        simp only [he, if_true] at hv ⊢
        split at hv
        · cases hv
        · rename_i hsp
          rw [if_neg hsp]
          simp only [List.getElem?_toArray, List.getElem?_set, Array.getElem?_toList, Array.length_toList]
          by_cases hk : off + k = ad.off
          · rw [if_pos hk, if_pos hlt]
            rw [← hk, h0'] at hv
            cases hv
            exact ⟨v', rfl, hs⟩
          · rw [if_neg hk]
            exact ⟨v, hv, .inl rfl⟩
      · rw [if_neg he]
        exact ⟨v, hv, .inl rfl⟩
  · simp [atI, Addr.add_lit, cellM, both, hIb, hlt]
  · by_cases hx : x = b
    · subst hx; exact .inl hIb
    · simp only [if_neg hx]; exact hap x
open Go Go.Proofs Go.SE Go.RowKit
set_option linter.unusedVariables false
set_option maxRecDepth 100000
theorem ct17N (es : List En) (hbl : ∀ e ∈ es, e.bs.length ≤ 1000000) (a : Option Addr) (n c : Nat) (I : Mem) (h : EnM I a n es) (hn : n ≤ 1000000) :
    Ct Tryz.prog (fnv 17) #[.slice a n c] I (fun v I' => ∃ a' c', v = .slice a' n c' ∧ EnM I' a' n es ∧ n ≤ c' ∧ c' ≤ maxLen ∧ NewS 4 I I' a' n ∧ ∀ (i : Nat) (y : Value), i < n → atI I' a' (i * 4 + 3) = some y → NewB I I' y) := by
  have hln : es.length = n := SlR.len (by decide) h
  refine (ct_free (ct17G es hbl a n c I h hn)).mono ?_
  rintro v I' l ⟨I1, G1, rfl, l1, hap, a', c', rfl, hc, hm, h0, h1, hC⟩
  by_cases hn0 : n = 0
  · subst hn0
    have he : es = [] := List.eq_nil_of_length_eq_zero hln
    subst he
    refine ⟨a', c', rfl, ⟨[], ⟨rfl, fun _ => rfl, Nat.zero_le _, fun j v hj => by simp at hj⟩, rfl⟩, hc, hm, fun h => absurd h (by omega), fun i y hi => absurd hi (by omega)⟩
  · obtain ⟨b, off, cur, el, rfl, e2, e3, e4, hrow, hnew⟩ := hC (by omega)
    have hIb : I1 b = none := (hap b).resolve_right (by rw [e3]; simp)
    have hB : both I1 G1 b = some (.cells cur el (0, 0)) := by simp [both, hIb, e3]
    refine ⟨_, c', rfl, ⟨_, ⟨by simp; omega, (fun h => by cases h), by omega, fun j v hj => at_G hB hj⟩, hrow.mono enC_mono (both_le _ _)⟩, hc, hm, fun _ => ⟨b, off, cur, el, rfl, e2, hB, e4⟩, fun i y hi hy => ?_⟩
    refine (hnew i y (by omega) ?_).mono (both_le _ _)
    rw [List.getElem?_take, if_pos (by omega), List.getElem?_drop, Array.getElem?_toList]
    simpa [atI, Addr.add_lit, cellM, hB] using hy
theorem apart_gained {I J : Mem} : I.apart (gained I J Mem.emp) := fun b => by
  cases hb : I b with
  | none => exact .inl rfl
  | some o => exact .inr (by simp [gained, hb, Mem.emp])
theorem wr_up64 {n : Int} {K : Int → Prop} (h : i64R n) (hK : ∀ c, i64R c → c ≠ n → K c) : Wr .i64 (n + 1) K := by
  refine ⟨_, rfl, hK _ (i64_wrap _) ?_⟩
  obtain ⟨h1, h2⟩ := h
  rw [IntKind.wrap_i64]; omega
theorem wr_up8 {n : Int} {K : Int → Prop} (h : 0 ≤ n ∧ n ≤ 255) (hK : ∀ c, 0 ≤ c ∧ c ≤ 255 → c ≠ n → K c) : Wr .u8 (n + 1) K := by
  refine ⟨_, rfl, hK _ ?_ ?_⟩
  · rw [IntKind.wrap_u8]; omega
  · rw [IntKind.wrap_u8]; omega
theorem both_at {I G : Mem} {b off k : Nat} (h : I b = none) : atI (both I G) (some ⟨b, off, none⟩) k = atI G (some ⟨b, off, none⟩) k := by
  simp [atI, Addr.add_lit, cellM, both, h]
def TailC (u G1 : Mem) (q g : Option Addr) (r s i j : Nat) (a : Option Addr) (n c : Nat) : Prop :=
  CtH Tryz.prog (.func (.func 18) #[] #[]) #[.slice q r s, .slice g i j] u G1 fun v1 I1 G2 => ∃ b1, v1 = .bool b1 ∧ Br (!b1) (Ct Tryz.prog (.func (.func 16) #[] #[]) #[.slice a n c] I1 (fun v2 I2 => ∃ a1 n1 c2, v2 = .slice a1 n1 c2 ∧ Ct Tryz.prog (.func (.func 18) #[] #[]) #[.slice g i j, .slice a1 n1 c2] I2 fun v3 I3 => ∃ b2, v3 = .bool b2 ∧ Value.bool b2 = .bool true)) (Value.bool false = .bool true)
theorem tailC {u G1 : Mem} {q g a : Option Addr} {i s j n c : Nat} {l : List Sn} (hE : u.apart G1 → ∃ es', EnM (both u G1) q i es' ∧ es' ≠ madeL l) (hM : EnM u g i (madeL l)) (h : SnM u a n l) (hc : n ≤ c) : TailC u G1 q g i s i j a n c := by
  refine (ct_both (post := fun v _ => v = .bool false) fun hap => by
    obtain ⟨es', h1, h2⟩ := hE hap
    exact (ct18 _ _ _ _ _ _ es' (madeL l) _ h1 (hM.mono (both_le _ _))).mono fun v I l hv => by rw [hv, decide_eq_false h2]).mono ?_
  rintro v I4 G4 l4 ⟨rfl, rfl, _, hv⟩
  refine ⟨_, hv, Br.t rfl ((ct16 l a n c _ h hc).mono fun v I5 l5 ⟨g', i', j', hv, hM', _, _⟩ => ⟨_, _, _, hv, (ct18 _ _ _ _ _ _ _ _ _ (hM.mono l5) hM').mono fun v I6 l6 hv => ⟨_, hv, by rw [decide_eq_true rfl]⟩⟩)⟩
theorem apart_put {I G G1 : Mem} {a : Option Addr} {k : Nat} {vs : List Value} (h : PutG G a k vs G1) (hap : I.apart G1) : I.apart G := fun x => by
  obtain ⟨b, off, cur, el, rfl, hb, hsz, rfl⟩ := h
  rcases hap x with h | h
  · exact .inl h
  · by_cases hx : x = b
    · simp [hx] at h
    · simp only [if_neg hx] at h
      exact .inr h
/-- A cell of an entry of the copy is written: what is read then is other entries. -/
theorem put_row {f G G1 u : Mem} {q : Option Addr} {i T kk : Nat} {es : List En} {e : En} {v0 v' : Value} (hu : f.le u) (hE : EnM (both f G) q i es) (hkk : kk < 4) (hq : PutG G q (T * 4 + kk) [v'] G1) (h0 : atI G q (T * 4 + kk) = some v0) (hs : SameV (both u G1) v0 v') (hT : T < i) (he : es[T]? = some e)
    (hd : ∀ y, EnC (both u G1) (enV e y) e → (enV e y)[kk]? ≠ some v') (hap1 : u.apart G1) : ∃ es', EnM (both u G1) q i es' ∧ es' ≠ es := by
  have hapu := apart_put hq hap1
  obtain ⟨p1, p2, p3⟩ := put_chg hapu hq h0 hs
  obtain ⟨es', hE'⟩ := chg_ents p1 (hE.mono (both_mono hu hapu))
  refine ⟨es', hE', fun hh => ?_⟩
  subst hh
  obtain ⟨e', c, g1, g2, g3, g4⟩ := SlR.at_ (by decide) hE' (j := (T : Int)) (by omega) (by omega)
  rw [Int.toNat_natCast] at g1 g4
  rw [g1] at he
  cases he
  have g3' := g3
  obtain ⟨hk, y, rfl, hy⟩ := g3'
  refine hd y g3 ?_
  cases hkq : (enV e y)[kk]? with
  | none =>
    rw [List.getElem?_eq_none_iff] at hkq
    simp only [enV, List.length_cons, List.length_nil] at hkq
    omega
  | some w =>
    have := g4 kk w hkq
    rw [p2] at this
    exact this.symm

theorem put_same {I G G2 : Mem} {a : Option Addr} {k : Nat} {v0 v' : Value} (hap : I.apart G) (hp : PutG G a k [v'] G2) (h0 : atI G a k = some v0) {a2 : Option Addr} {k2 : Nat} {v : Value} (hv : atI (both I G) a2 k2 = some v) (hne : v ≠ v0) : atI (both I G2) a2 k2 = some v := by
  obtain ⟨b, off, cur, el, rfl, hb, hsz, rfl⟩ := hp
  have hset : (cur.toList.take (off + k) ++ [v'] ++ cur.toList.drop (off + k + [v'].length)) = cur.toList.set (off + k) v' := by
    rw [List.set_eq_take_append_cons_drop, if_pos (by simp at hsz ⊢; omega), List.append_assoc]; rfl
  rw [hset]
  have h0' : cur[off + k]? = some v0 := by
    simpa [atI, Addr.add_lit, cellM, hb] using h0
  cases a2 with
  | none => cases hv
  | some p =>
    simp only [atI, Option.bind_some] at hv ⊢
    unfold cellM both at hv ⊢
    cases hI : I (p.add k2).block with
    | some o =>
      rw [hI] at hv
      exact hv
    | none =>
      rw [hI] at hv
      simp only at hv ⊢
      by_cases he : (p.add k2).block = b
      · rw [he, hb] at hv
        simp only [he, if_true] at hv ⊢
        split at hv
        · cases hv
        · rename_i hsp
          rw [if_neg hsp]
          simp only [List.getElem?_toArray, List.getElem?_set, Array.getElem?_toList]
          by_cases hk : off + k = (p.add k2).off
          · rw [← hk, h0'] at hv
            cases hv
            exact absurd rfl hne
          · rw [if_neg hk]
            exact hv
      · rw [if_neg he]
        exact hv
theorem put_inner {f G G1 : Mem} {q a1 : Option Addr} {i T n2 c2 : Nat} {es : List En} {e : En} {x c : Int} (hE : EnM (both f G) q i es) (hT : T < i) (he : es[T]? = some e) (h7 : atI (both f G) q (T * 4 + 3) = some (.slice a1 n2 c2)) (hq : PutG G a1 0 [.int .u8 c] G1) (h0 : atI G a1 0 = some (.int .u8 x)) (hc : 0 ≤ c ∧ c ≤ 255) (hcx : c ≠ x) (hx : e.bs[0]? = some x) (hap1 : f.apart G1) : ∃ es', EnM (both f G1) q i es' ∧ es' ≠ es := by
  have hap := apart_put hq hap1
  obtain ⟨p1, p2, p3⟩ := put_chg hap hq h0 (.inr (.inl ⟨_, _, rfl, rfl, hc⟩))
  obtain ⟨es', hE'⟩ := chg_ents p1 hE
  refine ⟨es', hE', fun hh => ?_⟩
  subst hh
  obtain ⟨e', cc, g1, g2, ⟨hk, y, rfl, a, n, cp, rfl, hs, _, _⟩, g4⟩ := SlR.at_ (by decide) hE' (j := (T : Int)) (by omega) (by omega)
  rw [Int.toNat_natCast] at g1 g4
  rw [g1] at he
  cases he
  have h3 := g4 3 _ rfl
  rw [put_same hap hq h0 h7 (by simp)] at h3
  cases h3
  have := hs.at_ 0 _ (ints_get hx)
  rw [p2] at this
  cases this
  exact hcx rfl
theorem ct5 (I : Mem) (hG : Globs I) (l : List Sn) (a : Option Addr) (n c : Nat) (h : SnM I a n l) (hc : n ≤ c) (k m : Int) (hk : 0 ≤ k ∧ k ≤ 255) (hm : 0 ≤ m ∧ m ≤ 255) :
    Ct Tryz.prog (fnv 5) #[.slice a n c, .int .u8 k, .int .u8 m] I (fun v _ => v = .bool true) := by
  refine viaR (ct_via (A := { calls := [(15, .g), (18, .g), (35, .g), (45, .g), (47, .g), (55, .g), (64, .g), (73, .g), (79, .g), (58, .st), (67, .st), (76, .st), (41, .st), (49, .st)] }) Tryz.func5 rfl Tryz.call5 rfl rfl) (Ct Tryz.prog (.func (.func 14) #[] #[]) #[] I fun v b => ∃ d, v = .bool d ∧ Br (!d) (Value.bool false = .bool true) (Ct Tryz.prog (.func (.func 16) #[] #[]) #[.slice a n c] b (fun e f => ∃ g i j, e = .slice g i j ∧ CtH Tryz.prog (.func (.func 17) #[] #[]) #[.slice g i j] f Mem.emp fun o p G => ∃ q r s, o = .slice q r s ∧ CtH Tryz.prog (.func (.func 18) #[] #[]) #[.slice q r s, .slice g i j] p G fun t u w => ∃ x, t = .bool x ∧ Br (!x) (Value.bool false = .bool true) (Br ((i : Int) == 0) (Rf (Value.bool true)) (Wr .i64 k (fun y => (r : Int) ≠ 0 ∧ 0 ≤ y.tmod (r : Int) ∧ y.tmod (r : Int) < (r : Int) ∧ q.isSome = true ∧ (4 : Int) ≠ 0 ∧ Br (m.tmod 4 == 0) (q.isSome = true ∧ q.isSome = true ∧ ∃ z, atI w q ((y.tmod (r : Int)).toNat * 4 + 0 + 0) = some (.int .u8 z) ∧ Wr .u8 (z + 1) fun c1 => q.isSome = true ∧ q.isSome = true ∧ ∃ G1, PutG w q ((y.tmod (r : Int)).toNat * 4 + 0) [.int .u8 c1] G1 ∧ CtH Tryz.prog (.func (.func 18) #[] #[]) #[.slice q r s, .slice g i j] u G1 fun v1 I1 G2 => ∃ b1, v1 = .bool b1 ∧ Br (!b1) (Ct Tryz.prog (.func (.func 16) #[] #[]) #[.slice a n c] I1 (fun v2 I2 => ∃ a1 n1 c2, v2 = .slice a1 n1 c2 ∧ Ct Tryz.prog (.func (.func 18) #[] #[]) #[.slice g i j, .slice a1 n1 c2] I2 fun v3 I3 => ∃ b2, v3 = .bool b2 ∧ Value.bool b2 = .bool true)) (Value.bool false = .bool true)) (Br (m.tmod 4 == 1) (q.isSome = true ∧ q.isSome = true ∧ ∃ z, atI w q ((y.tmod (r : Int)).toNat * 4 + 1 + 0) = some (.int .i64 z) ∧ Wr .i64 (z + 1) fun c1 => q.isSome = true ∧ q.isSome = true ∧ ∃ G1, PutG w q ((y.tmod (r : Int)).toNat * 4 + 1) [.int .i64 c1] G1 ∧ CtH Tryz.prog (.func (.func 18) #[] #[]) #[.slice q r s, .slice g i j] u G1 fun v1 I1 G2 => ∃ b1, v1 = .bool b1 ∧ Br (!b1) (Ct Tryz.prog (.func (.func 16) #[] #[]) #[.slice a n c] I1 (fun v2 I2 => ∃ a1 n1 c2, v2 = .slice a1 n1 c2 ∧ Ct Tryz.prog (.func (.func 18) #[] #[]) #[.slice g i j, .slice a1 n1 c2] I2 fun v3 I3 => ∃ b2, v3 = .bool b2 ∧ Value.bool b2 = .bool true)) (Value.bool false = .bool true)) (Br (m.tmod 4 == 2) (q.isSome = true ∧ q.isSome = true ∧ ∃ z, atI w q ((y.tmod (r : Int)).toNat * 4 + 2 + 0) = some (.int .i64 z) ∧ Wr .i64 (z + 1) fun c1 => q.isSome = true ∧ q.isSome = true ∧ ∃ G1, PutG w q ((y.tmod (r : Int)).toNat * 4 + 2) [.int .i64 c1] G1 ∧ CtH Tryz.prog (.func (.func 18) #[] #[]) #[.slice q r s, .slice g i j] u G1 fun v1 I1 G2 => ∃ b1, v1 = .bool b1 ∧ Br (!b1) (Ct Tryz.prog (.func (.func 16) #[] #[]) #[.slice a n c] I1 (fun v2 I2 => ∃ a1 n1 c2, v2 = .slice a1 n1 c2 ∧ Ct Tryz.prog (.func (.func 18) #[] #[]) #[.slice g i j, .slice a1 n1 c2] I2 fun v3 I3 => ∃ b2, v3 = .bool b2 ∧ Value.bool b2 = .bool true)) (Value.bool false = .bool true)) (q.isSome = true ∧ q.isSome = true ∧ ∃ z n1 c1, atI w q ((y.tmod (r : Int)).toNat * 4 + 3 + 0) = some (.slice z n1 c1) ∧ Br ((n1 : Int) == 0) (q.isSome = true ∧ q.isSome = true ∧ ∀ (b1 : Nat) (I1 : Mem), u.le I1 → I1 b1 = some (.cells #[.int .u8 1] 5 (0, 0)) → ∃ G1, PutG w q ((y.tmod (r : Int)).toNat * 4 + 3) [.slice (some ⟨b1, 0, none⟩) 1 1] G1 ∧ CtH Tryz.prog (.func (.func 18) #[] #[]) #[.slice q r s, .slice g i j] I1 G1 fun v1 I2 G2 => ∃ b2, v1 = .bool b2 ∧ Br (!b2) (Ct Tryz.prog (.func (.func 16) #[] #[]) #[.slice a n c] I2 (fun v2 I3 => ∃ a1 n2 c2, v2 = .slice a1 n2 c2 ∧ Ct Tryz.prog (.func (.func 18) #[] #[]) #[.slice g i j, .slice a1 n2 c2] I3 fun v3 I4 => ∃ b3, v3 = .bool b3 ∧ Value.bool b3 = .bool true)) (Value.bool false = .bool true)) (q.isSome = true ∧ q.isSome = true ∧ ∃ a1 n2 c2, atI w q ((y.tmod (r : Int)).toNat * 4 + 3 + 0) = some (.slice a1 n2 c2) ∧ (0 : Int) ≤ 0 ∧ 0 < (n2 : Int) ∧ a1.isSome = true ∧ ∃ n3, atI w a1 0 = some (.int .u8 n3) ∧ Wr .u8 (n3 + 1) fun c3 => (0 : Int) ≤ 0 ∧ 0 < (n2 : Int) ∧ a1.isSome = true ∧ ∃ G1, PutG w a1 0 [.int .u8 c3] G1 ∧ CtH Tryz.prog (.func (.func 18) #[] #[]) #[.slice q r s, .slice g i j] u G1 fun v1 I1 G2 => ∃ b1, v1 = .bool b1 ∧ Br (!b1) (Ct Tryz.prog (.func (.func 16) #[] #[]) #[.slice a n c] I1 (fun v2 I2 => ∃ a2 n4 c4, v2 = .slice a2 n4 c4 ∧ Ct Tryz.prog (.func (.func 18) #[] #[]) #[.slice g i j, .slice a2 n4 c4] I2 fun v3 I3 => ∃ b2, v3 = .bool b2 ∧ Value.bool b2 = .bool true)) (Value.bool false = .bool true))))))))))) (by kernel_rfl) ?_
  simp only [Rf, eq_self, true_and]
  have hsn : ∀ x ∈ l, okSn x := by
    obtain ⟨xs, _, hr⟩ := h
    exact hr.all fun h => h.1
  obtain ⟨hgood, hl30⟩ := madeL_good hsn
  refine (ct14 I hG).mono fun v b lb hv => ⟨_, hv, Br.f rfl ((ct16 l a n c b (h.mono lb) hc).mono fun e f lf ⟨g, i, j, hv, hM, hij, hjm⟩ => ⟨g, i, j, hv, ?_⟩)⟩
  have hil : (madeL l).length = i := SlR.len (by decide) hM
  have hf : SnM f a n l := h.mono (Mem.le_trans lb lf)
  have hbl : ∀ e ∈ madeL l, e.bs.length ≤ 1000000 := fun e he => by have := (clean_len (hgood e he).2).1; omega
  refine (ct_own (ct17N (madeL l) hbl g i j f hM (by omega))).mono ?_
  rintro v I2 G2 _ ⟨rfl, J, lJ, ⟨q, s, rfl, hE, his, hsm, hN, hNB⟩, hGe⟩
  have hEG : EnM (both I2 G2) q i (madeL l) := by rw [hGe]; exact hE.mono (le_gained lJ)
  refine ⟨_, _, _, rfl, (ct_both fun hap => ct18 _ _ _ _ _ _ _ _ _ hEG (hM.mono (both_le _ _))).mono ?_⟩
  rintro v I3 G3 _ ⟨rfl, rfl, _, hv⟩
  refine ⟨_, hv, Br.f (by simp) (Br.mk (fun _ => trivial) (fun h1 => ?_))⟩
  have hi0 : 0 < i := by
    have : (i : Int) ≠ 0 := by simpa using h1
    omega
  have T0 := Int.tmod_nonneg (i : Int) hk.1
  have T1 := Int.tmod_lt_of_pos k (show (0 : Int) < i by omega)
  refine wr_i64 (by omega) (by omega) ⟨by omega, T0, T1, SlR.isSome hEG hi0, by decide, ?_⟩
  obtain ⟨T, hT⟩ : ∃ T, T = (k.tmod (i : Int)).toNat := ⟨_, rfl⟩
  rw [← hT]
  have hTi : T < i := by omega
  obtain ⟨e, a2, n2, c2, g1, g2, g3, g4, g5, g6, g7⟩ := hEG.get (j := (T : Int)) (by omega) (by omega)
  obtain ⟨e', a3, n3, c3, _, _, _, _, _, _, j7⟩ := hE.get (j := (T : Int)) (by omega) (by omega)
  rw [Int.toNat_natCast] at g1 g4 g5 g6 g7 j7
  have hnb := hNB T _ hTi j7
  have hj7 := atI_le (le_gained (G := Mem.emp) lJ) j7
  rw [← hGe, g7] at hj7
  cases hj7
  obtain ⟨bq, oq, cur, el, rfl, hq1, hq2, hq3⟩ := hN hi0
  have hGb : G3 bq = some (.cells cur el (0, 0)) := by rw [hGe]; exact gained_new hq1 hq2
  have g4' := g4
  have g5' := g5
  have g6' := g6
  have g7' := g7
  rw [both_at hq1] at g4' g5' g6' g7'
  have put : ∀ (kk : Nat) (v' : Value), kk < 4 → ∃ G1, PutG G3 (some ⟨bq, oq, none⟩) (T * 4 + kk) [v'] G1 := fun kk v' hk => ⟨_, bq, oq, cur, el, rfl, hGb, by simp; omega, rfl⟩
  refine Br.mk (fun _ => ?_) (fun _ => Br.mk (fun _ => ?_) (fun _ => Br.mk (fun _ => ?_) (fun _ => ?_)))
  · refine ⟨rfl, rfl, _, g4', wr_up8 g2.kind fun c' h0 h1 => ?_⟩
    obtain ⟨G1, hp⟩ := put 0 (.int .u8 c') (by decide)
    exact ⟨rfl, rfl, G1, hp, tailC (put_row (Mem.le_refl _) hEG (by decide) hp g4' (.inr (.inl ⟨_, _, rfl, rfl, h0⟩)) hTi g1 (fun y _ hy => by simp [enV] at hy; exact h1 hy.symm)) hM hf hc⟩
  · refine ⟨rfl, rfl, _, g5', wr_up64 g2.slot fun c' h0 h1 => ?_⟩
    obtain ⟨G1, hp⟩ := put 1 (.int .i64 c') (by decide)
    exact ⟨rfl, rfl, G1, hp, tailC (put_row (Mem.le_refl _) hEG (by decide) hp g5' (.inr (.inr (.inl ⟨_, _, rfl, rfl, h0⟩))) hTi g1 (fun y _ hy => by simp [enV] at hy; exact h1 hy.symm)) hM hf hc⟩
  · refine ⟨rfl, rfl, _, g6', wr_up64 g2.n fun c' h0 h1 => ?_⟩
    obtain ⟨G1, hp⟩ := put 2 (.int .i64 c') (by decide)
    exact ⟨rfl, rfl, G1, hp, tailC (put_row (Mem.le_refl _) hEG (by decide) hp g6' (.inr (.inr (.inl ⟨_, _, rfl, rfl, h0⟩))) hTi g1 (fun y _ hy => by simp [enV] at hy; exact h1 hy.symm)) hM hf hc⟩
  · obtain ⟨p8, m8, c8, e8, hsl, hlm, hmm⟩ := g3
    cases e8
    have hnl := hsl.numLen
    refine ⟨rfl, rfl, a2, n2, c2, g7', Br.mk (fun h2 => ?_) (fun h2 => ?_)⟩
    · have h2 : n2 = 0 := by
        have : (n2 : Int) = 0 := by simpa using h2
        omega
      refine ⟨rfl, rfl, fun b1 I1 l1 hb1 => ?_⟩
      obtain ⟨G1, hp⟩ := put 3 (.slice (some ⟨b1, 0, none⟩) 1 1) (by decide)
      have hBy : BySl (both I1 G1) (.slice (some ⟨b1, 0, none⟩) 1 1) [1] := ⟨_, _, _, rfl, bysl_lit (both_le _ _ _ _ hb1) rfl rfl (by decide), Nat.le_refl _, by simp only [maxLen]; omega⟩
      refine ⟨G1, hp, tailC (put_row l1 hEG (by decide) hp g7' (.inr (.inr (.inr ⟨_, _, _, rfl, [1], hBy, by simp [byteL]⟩))) hTi g1 (fun y hec hy => ?_)) (hM.mono l1) (hf.mono l1) hc⟩
      simp only [enV, List.getElem?_cons_succ, List.getElem?_cons_zero, Option.some.injEq] at hy
      subst hy
      obtain ⟨_, y', h5, a9, n9, c9, h6, h7, _⟩ := hec
      simp only [enV, List.cons.injEq, true_and, and_true] at h5
      subst h5
      cases h6
      have := h7.numLen
      omega
    · have h2 : n2 ≠ 0 := by
        have : (n2 : Int) ≠ 0 := by simpa using h2
        omega
      obtain ⟨x, hx, hat⟩ := hsl.intAt (i := 0) (by omega) (by omega)
      have hxr := g2.bs x (List.mem_of_getElem? hx)
      obtain ⟨b9, o9, cur9, el9, rfl, k1, k2, k3⟩ := (hnb _ _ _ rfl).1 (by omega)
      have hGb9 : G3 b9 = some (.cells cur9 el9 (0, 0)) := by rw [hGe]; exact gained_new k1 k2
      have hat' := hat
      rw [both_at k1] at hat'
      refine ⟨rfl, rfl, _, n2, c2, g7', by decide, by omega, rfl, x, hat', wr_up8 hxr fun c' h0 h1 => ⟨by decide, by omega, rfl, _, ⟨b9, o9, cur9, el9, rfl, hGb9, by simp; omega, rfl⟩, ?_⟩⟩
      exact tailC (put_inner hEG hTi g1 g7 ⟨b9, o9, cur9, el9, rfl, hGb9, by simp; omega, rfl⟩ hat' h0 h1 hx) hM hf hc
theorem ct5Q (I : Mem) (hG : Globs I) (v0 v1 v2 : Value) (h0 : Q28 I v0) (h1 : Q5 I v1) (h2 : Q5 I v2) : Ct Tryz.prog (fnv 5) #[v0, v1, v2] I (fun v _ => v = .bool true) := by
  obtain ⟨a, n, c, l, rfl, hM, hc, _⟩ := h0
  obtain ⟨k, rfl, hk⟩ := h1
  obtain ⟨m, rfl, hm⟩ := h2
  exact ct5 I hG l a n c hM hc k m hk hm
