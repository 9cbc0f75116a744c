/- Part of a proof by the rules of the symbolic walk (see the law's own text): contracts of functions of the program. -/
import Derived.Test.YthfgpdjplknleaaGreatDoorGU
open Go Go.Proofs Go.SE Go.RowKit
set_option linter.unusedVariables false
set_option maxRecDepth 100000
theorem slM_drop {I : Mem} {g : Option Addr} {n m c sz : Nat} {xs : List Value} (h : SlM I g n sz xs) (hm : m ≤ n) (hc : n ≤ c) (hz : 0 < sz) :
    (sladdr g c m sz = none → n - m = 0) ∧ ∀ (j : Nat) (v : Value), (xs.drop (m * sz))[j]? = some v → atI I (sladdr g c m sz) j = some v := by
  unfold sladdr
  split
  · rename_i e
    refine ⟨fun _ => by omega, fun j v hj => ?_⟩
    have hl := h.len
    have := (List.getElem?_eq_some_iff.1 hj).1
    have hn : n = m := by omega
    rw [List.length_drop, hl, hn] at this
    omega
  · refine ⟨fun hg => ?_, fun j v hj => ?_⟩
    · cases g with
      | none => have := h.nil rfl; omega
      | some p => cases hg
    · rw [List.getElem?_drop] at hj
      have := h.at_ _ _ hj
      cases g with
      | none => exact this
      | some p =>
        simp only [atI, Option.map_some, Option.bind_some] at this ⊢
        rw [add_add]; exact this
theorem rowR_drop {α : Type} {k : Nat} {E : Mem → List Value → α → Prop} {I : Mem} : ∀ (n : Nat) {l : List α} {xs : List Value}, RowR k E I xs l → RowR k E I (xs.drop (n * k)) (l.drop n)
  | 0, _, _, h => by simpa using h
  | n + 1, [], _, h => by rw [show _ = [] from h]; simp [RowR]
  | n + 1, _ :: l, _, ⟨c, r, h1, h2, h3, h4⟩ => by
    rw [h1, List.drop_succ_cons, List.drop_append, List.drop_eq_nil_of_le (by rw [h2, Nat.add_mul]; omega), List.nil_append, h2, Nat.add_mul, Nat.one_mul, Nat.add_sub_cancel]
    exact rowR_drop n h4
theorem row_one {I : Mem} : ∀ {l : List En} {xs : List Value}, RowR 4 EnC I xs l → ∀ v ∈ xs, v.oneCell' = true
  | [], _, h, v, hv => by rw [show _ = [] from h] at hv; cases hv
  | _ :: _, _, ⟨c, r, h1, h2, ⟨_, y, h3, a, n, cp, h5, _⟩, h4⟩, v, hv => by
    rw [h1] at hv
    rcases List.mem_append.1 hv with hv | hv
    · rw [h3, h5] at hv
      simp only [enV, List.mem_cons, List.not_mem_nil, or_false] at hv
      rcases hv with rfl | rfl | rfl | rfl <;> rfl
    · exact row_one h4 v hv
/-- An entry that is not right, in memory. -/
def BadI (I : Mem) (p : Option Addr) : Prop := ∃ e a n c, okEn e ∧ cleanE e = false ∧ atI I p 0 = some (.int .u8 e.kind) ∧ atI I p 1 = some (.int .i64 e.slot) ∧ atI I p 2 = some (.int .i64 e.n) ∧ atI I p 3 = some (.slice a n c) ∧ BySl I (.slice a n c) e.bs
theorem bad_mk {I : Mem} {b : Nat} {e : En} {a : Option Addr} {n c : Nat} (h : I b = some (.cells #[.int .u8 e.kind, .int .i64 e.slot, .int .i64 e.n, .slice a n c] 35 (0, 0))) (hk : okEn e) (hc : cleanE e = false) (hy : BySl I (.slice a n c) e.bs) : BadI I (some ⟨b, 0, none⟩) := by
  refine ⟨e, a, n, c, hk, hc, ?_, ?_, ?_, ?_, hy⟩
  all_goals simp [atI, Addr.add_lit, cellM, h]
theorem min_neg (t : Int) : (bif false then imax t (-1) else imin t (-1)) ≤ -1 ∧ (i64R t → i64R (bif false then imax t (-1) else imin t (-1))) := by
  show imin t (-1) ≤ -1 ∧ (i64R t → i64R (imin t (-1)))
  rw [imin]
  unfold i64R
  split <;> constructor <;> omega
theorem max_pos {t c : Int} (hc : 0 ≤ c ∧ c ≤ 4294967296) : c ≤ (bif true then imax t c else imin t c) ∧ (i64R t → i64R (bif true then imax t c else imin t c)) := by
  show c ≤ imax t c ∧ (i64R t → i64R (imax t c))
  rw [imax]
  unfold i64R
  split <;> constructor <;> omega
theorem lastNeg {x : Int} (h : i64R x) (hx : x < 0) : (lastN (formN (IntKind.u64.wrap x).toNat)).1 = x + 18446744073709551616 := by
  have hw : IntKind.u64.wrap x = x + 18446744073709551616 := by
    unfold i64R at h
    rw [w64]; omega
  have h1 : (IntKind.u64.wrap x).toNat < 256 ^ 8 := by
    unfold i64R at h
    rw [hw]; omega
  rw [(lastN_f2 h1).1, hw]
  unfold i64R at h
  omega
def rq6 (x : Int) : Rq := { kind := 6, what := 0, name := ⟨#[]⟩, p3 := 0, p4 := 0, p5 := 0, p6 := 0, p7 := x, p8 := 0, p9 := 0, val := 0, fed := [] }
def rq9 : Rq := { kind := 9, what := 0, name := ⟨#[]⟩, p3 := 0, p4 := 0, p5 := 0, p6 := 0, p7 := 0, p8 := 0, p9 := 0, val := 0, fed := [] }
theorem rq6_ok {x : Int} (h : i64R x) : okRq (rq6 x) := by constructor <;> first | exact h | (simp [rq6, i64R, byteL]; done) | (constructor <;> simp [rq6])
theorem rq9_ok : okRq rq9 := by constructor <;> first | (simp [rq9, i64R, byteL]; done) | (constructor <;> simp [rq9])
theorem rq6_wrong {x : Int} (h : i64R x) (hx : x < 0) : rightR (rq6 x) = false := by
  have hb : takeB (preR (rq6 x) (had0 (rq6 x)) 7) 7 (bytesR (rq6 x) 7) = false := by
    rw [show bytesR (rq6 x) 7 = formN (IntKind.u64.wrap x).toNat from rfl]
    simp only [takeB, lastNeg h hx]
    unfold i64R at h
    rw [if_neg (by decide), if_neg (by decide), if_neg (by decide), decide_eq_false (p := x + 18446744073709551616 ≤ 9223372036854775807) (by omega)]
    simp
  have : runR (rq6 x) (had0 (rq6 x)) [7] = (had0 (rq6 x), false) := by rw [runR, hb]; rfl
  rw [rightR, show tagL (rq6 x).kind (rq6 x).what = some [7] from rfl]
  simp only
  rw [this]
  simp
theorem rq9_right : rightR rq9 = true := by decide +kernel
theorem cleanE_slot {s : Int} {bs : List Int} (h : s < 0) : cleanE ⟨1, s, 0, bs⟩ = false := by
  rw [cleanE, if_pos rfl, withinB, decide_eq_false (p := 0 ≤ s ∧ s ≤ 4294967295) (by omega)]
  rfl
theorem ask6 {x y : Int} (h : i64R x) (hx : x < 0) : askE y (rq6 x) = (zeroEn, 412) := by rw [askE, rq6_wrong h hx]; rfl
theorem ask9 {y : Int} (hy : y < 0) : askE y rq9 = (zeroEn, 410) := by
  rw [askE, rq9_right, cleanE_slot hy]; rfl
open Go Go.Proofs Go.SE Go.RowKit
set_option linter.unusedVariables false
set_option maxRecDepth 100000
theorem wrong_write {es : List En} {A : Nat} {e : En} (hg : Good es) (hA : A ≤ es.length) (hc : cleanE e = false) : writeL (es.take A ++ [e, zeroEn] ++ es.drop A) = ([], (A : Int), 410) := by
  have hl : (es.take A).length = A := by rw [List.length_take]; omega
  have hlt : A < (es.take A ++ [e, zeroEn] ++ es.drop A).length := by simp; omega
  have h1 : (es.take A ++ [e, zeroEn] ++ es.drop A).take A = es.take A := by
    rw [List.append_assoc, List.take_append_of_le_length (by omega), List.take_take, Nat.min_self]
  have h2 : (es.take A ++ [e, zeroEn] ++ es.drop A)[A] = e := by
    simp only [List.append_assoc]
    rw [List.getElem_append_right (by omega)]
    simp [hl]
  have := badAt_some hlt (fun x hx => by rw [h1] at hx; exact (hg x (List.mem_of_mem_take hx)).2) (by rw [h2]; exact hc)
  rw [writeL, this]
theorem empty3 : (strT [] ++ strT [] ++ (⟨#[]⟩ : ByteArray)) = ⟨#[]⟩ := ByteArray.ext (by simp [strT])
theorem size3 : (strT []).size + (strT []).size ≤ 4611686018427387904 ∧ (strT [] ++ strT []).size + (⟨#[]⟩ : ByteArray).size ≤ 4611686018427387904 := by
  rw [ByteArray.size_append]
  exact ⟨by decide, by decide⟩
theorem bad_row {J : Mem} {e : En} {x : Option Addr} {y z : Nat} (hek : okEn e) (hby : BySl J (.slice x y z) e.bs) : RowR 4 EnC J [.int .u8 e.kind, .int .i64 e.slot, .int .i64 e.n, .slice x y z, .int .u8 0, .int .i64 0, .int .i64 0, .slice none 0 0] [e, zeroEn] :=
  ⟨[.int .u8 e.kind, .int .i64 e.slot, .int .i64 e.n, .slice x y z], [.int .u8 0, .int .i64 0, .int .i64 0, .slice none 0 0], rfl, rfl, ⟨hek, _, rfl, hby⟩, ⟨[.int .u8 0, .int .i64 0, .int .i64 0, .slice none 0 0], [], rfl, rfl, ⟨zero_okE, _, rfl, bysl_nil _⟩, rfl⟩⟩
/-- The entries with a wrong one and an empty one put in. -/
def WrongI (es : List En) (A : Nat) (I : Mem) (a : Option Addr) (n : Nat) : Prop := ∃ e, cleanE e = false ∧ EnM I a n (es.take A ++ [e, zeroEn] ++ es.drop A)
set_option maxHeartbeats 4000000 in
theorem ct7 (I : Mem) (hG : Globs I) (l : List Sn) (a : Option Addr) (n c : Nat) (h : SnM I a n l) (hc : n ≤ c) (k m t : Int) (hk : 0 ≤ k ∧ k ≤ 255) (hm : 0 ≤ m ∧ m ≤ 255) (ht : i64R t) :
    Ct Tryz.prog (fnv 7) #[.slice a n c, .int .u8 k, .int .u8 m, .int .i64 t] I (fun v _ => v = .bool true) := by
  obtain ⟨BI, hBI⟩ : ∃ f : Mem → Option Addr → Prop, f = BadI := ⟨_, rfl⟩
  obtain ⟨es, hes⟩ : ∃ q, q = madeL l := ⟨_, rfl⟩
  obtain ⟨WI, hWI⟩ : ∃ f : Mem → Option Addr → Nat → Prop, f = WrongI es (m.tmod ((es.length : Int) + 1)).toNat := ⟨_, rfl⟩
  refine viaR (ct_via (A := { chands := [(5, [10]), (7, [12])], cuts := [(5, ⟨[(2, .keep), (3, .keep), (9, .keep), (10, .sh .ptr)], [], [], fun vals _ I' _ => match vals with | [.pointer p] => BI I' p | _ => False, fun _ _ => 0⟩), (7, ⟨[(3, .keep), (10, .keep), (11, .keep), (12, .sh .sl)], [], [], fun vals _ I' _ => match vals with | [.slice a n c] => WI I' a n | _ => False, fun _ _ => 0⟩)] }) Tryz.func7 rfl Tryz.call7 rfl rfl) (Ct Tryz.prog (.func (.func 14) #[] #[]) #[] I fun v b => ∃ d, v = .bool d ∧ Br (!d) (Value.bool false = .bool true) (Ct Tryz.prog (.func (.func 16) #[] #[]) #[.slice a n c] b (fun e f => ∃ g i j, e = .slice g i j ∧ ((200 : Int) ≠ 0 ∧ Wr .u8 (4 + k.tmod 200) fun o => (0 : Int) ≤ 16385 ∧ (16385 : Int) ≤ 16385 ∧ (16385 : Int) ≤ 281474976710656 ∧ (16385 : Int) ≤ 281474976710656 ∧ ∀ (x : List Value), x.length = 16385 → (∀ (p : Nat) (q : Value), x[p]? = some q → #[Value.int .u8 0][p % 1]? = some q) → (9 : Int) ≠ 0 ∧ 0 ≤ k.tmod 9 ∧ k.tmod 9 < 9 ∧ (0 + (k.tmod 9).toNat * 4) % 4 = 0 ∧ 0 + (k.tmod 9).toNat * 4 + 4 ≤ 36 ∧ ((((((((True ∧ (0 + (k.tmod 9).toNat * 4 = 0 → ∀ (p : Nat) (q : Mem), f.le q → q p = some (.cells #[.int .u8 0, .int .i64 0, .int .i64 0, .slice none 0 0] 35 (0, 0)) → Rf (SV.v (.int .u8 m)) ∧ Rf (SV.v (.int .i64 t)) ∧ Rf (SV.v (.slice g i j)) ∧ BI q (some ⟨p, 0, none⟩))) ∧ (0 + (k.tmod 9).toNat * 4 = 4 → ∀ (p : Nat) (q : Mem), f.le q → q p = some (.cells #[.int .u8 o, .int .i64 0, .int .i64 0, .slice none 0 0] 35 (0, 0)) → Rf (SV.v (.int .u8 m)) ∧ Rf (SV.v (.int .i64 t)) ∧ Rf (SV.v (.slice g i j)) ∧ BI q (some ⟨p, 0, none⟩))) ∧ (0 + (k.tmod 9).toNat * 4 = 8 → ∀ (p : Nat) (q : Mem), f.le q → q p = some (.cells #[.int .u8 2, .int .i64 1, .int .i64 0, .slice none 0 0] 35 (0, 0)) → Rf (SV.v (.int .u8 m)) ∧ Rf (SV.v (.int .i64 t)) ∧ Rf (SV.v (.slice g i j)) ∧ BI q (some ⟨p, 0, none⟩))) ∧ (0 + (k.tmod 9).toNat * 4 = 12 → ∀ (p : Nat) (q : Mem), f.le q → q p = some (.cells #[.int .u8 1] 5 (0, 0)) → ∀ (r : Nat) (s : Mem), q.le s → s r = some (.cells #[.int .u8 2, .int .i64 0, .int .i64 0, .slice (some ⟨p, 0, none⟩) 1 1] 35 (0, 0)) → Rf (SV.v (.int .u8 m)) ∧ Rf (SV.v (.int .i64 t)) ∧ Rf (SV.v (.slice g i j)) ∧ BI s (some ⟨r, 0, none⟩))) ∧ (0 + (k.tmod 9).toNat * 4 = 16 → ∀ (p : Nat) (q : Mem), f.le q → q p = some (.cells #[.int .u8 3, .int .i64 0, .int .i64 (bif false then imax t (-1) else imin t (-1)), .slice none 0 0] 35 (0, 0)) → Rf (SV.v (.int .u8 m)) ∧ Rf (SV.v (.int .i64 t)) ∧ Rf (SV.v (.slice g i j)) ∧ BI q (some ⟨p, 0, none⟩))) ∧ (0 + (k.tmod 9).toNat * 4 = 20 → ∀ (p : Nat) (q : Mem), f.le q → q p = some (.cells #[.int .u8 3, .int .i64 0, .int .i64 (bif true then imax t 4294967296 else imin t 4294967296), .slice none 0 0] 35 (0, 0)) → Rf (SV.v (.int .u8 m)) ∧ Rf (SV.v (.int .i64 t)) ∧ Rf (SV.v (.slice g i j)) ∧ BI q (some ⟨p, 0, none⟩))) ∧ (0 + (k.tmod 9).toNat * 4 = 24 → ∀ (p : Nat) (q : Mem), f.le q → q p = some (.cells #[.int .u8 1, .int .i64 (bif false then imax t (-1) else imin t (-1)), .int .i64 0, .slice none 0 0] 35 (0, 0)) → Rf (SV.v (.int .u8 m)) ∧ Rf (SV.v (.int .i64 t)) ∧ Rf (SV.v (.slice g i j)) ∧ BI q (some ⟨p, 0, none⟩))) ∧ (0 + (k.tmod 9).toNat * 4 = 28 → ∀ (p : Nat) (q : Mem), f.le q → q p = some (.cells #[.int .u8 1, .int .i64 0, .int .i64 (bif true then imax t 1 else imin t 1), .slice none 0 0] 35 (0, 0)) → Rf (SV.v (.int .u8 m)) ∧ Rf (SV.v (.int .i64 t)) ∧ Rf (SV.v (.slice g i j)) ∧ BI q (some ⟨p, 0, none⟩))) ∧ (0 + (k.tmod 9).toNat * 4 = 32 → ∀ (p : Option Addr) (q : Nat) (r : Mem), f.le r → RowM r p q 1 x → ∀ (s : Nat) (u : Mem), r.le u → u s = some (.cells #[.int .u8 1, .int .i64 0, .int .i64 0, .slice p 16385 q] 35 (0, 0)) → Rf (SV.v (.int .u8 m)) ∧ Rf (SV.v (.int .i64 t)) ∧ Rf (SV.v (.slice g i j)) ∧ BI u (some ⟨s, 0, none⟩))) ∧ ∀ (o : Mem), Mem → f.le o → ∀ (p : Option Addr), BI o p → Wr .i64 m fun q => Wr .i64 ((i : Int) + 1) fun r => r ≠ 0 ∧ (0 ≤ q.tmod r ∧ q.tmod r ≤ (j : Int) ∧ (4 : Nat) = 4 ∧ ∃ s, atI o p 0 = some (.int .u8 s) ∧ ∃ u, atI o p 1 = some (.int .i64 u) ∧ ∃ w, atI o p 2 = some (.int .i64 w) ∧ ∃ x y z, atI o p 3 = some (.slice x y z) ∧ 0 ≤ q.tmod r ∧ q.tmod r ≤ (i : Int) ∧ ((∃ y1, y1.length = (q.tmod r).toNat * 4 ∧ (g = none → (q.tmod r).toNat = 0) ∧ (∀ (j1 : Nat) (v1 : Value), y1[j1]? = some v1 → atI o g j1 = some v1) ∧ (∀ (v1 : Value), Membership.mem y1 v1 → v1.oneCell' = true) ∧ (0 : Nat) = 0 ∧ 0 + (q.tmod r).toNat ≤ 9223372036854775807 ∧ (0 + (q.tmod r).toNat) * 48 ≤ 140737488355328 ∧ y1.length = (0 + (q.tmod r).toNat) * 4 ∧ 0 + (q.tmod r).toNat + 2 ≤ 9223372036854775807 ∧ (0 + (q.tmod r).toNat + 2) * 48 ≤ 140737488355328 ∧ ∃ y2, y2.length = (i - (q.tmod r).toNat) * 4 ∧ (sladdr g j (q.tmod r).toNat 4 = none → i - (q.tmod r).toNat = 0) ∧ (∀ (j1 : Nat) (v1 : Value), y2[j1]? = some v1 → atI o (sladdr g j (q.tmod r).toNat 4) j1 = some v1) ∧ (∀ (v1 : Value), Membership.mem y2 v1 → v1.oneCell' = true) ∧ List.length (y1 ++ [.int .u8 s, .int .i64 u, .int .i64 w, .slice x y z, .int .u8 0, .int .i64 0, .int .i64 0, .slice none 0 0]) = (0 + (q.tmod r).toNat + 2) * 4 ∧ 0 + (q.tmod r).toNat + 2 + (i - (q.tmod r).toNat) ≤ 9223372036854775807 ∧ (0 + (q.tmod r).toNat + 2 + (i - (q.tmod r).toNat)) * 48 ≤ 140737488355328 ∧ ∀ (a1 : Option Addr) (c1 : Nat) (I1 : Mem), o.le I1 → RowM I1 a1 c1 4 (y1 ++ [.int .u8 s, .int .i64 u, .int .i64 w, .slice x y z, .int .u8 0, .int .i64 0, .int .i64 0, .slice none 0 0] ++ y2) → Rf (SV.v (.int .i64 t)) ∧ Rf (SV.v (.pointer p)) ∧ Rf (SV.v (.int .i64 (q.tmod r))) ∧ WI I1 a1 (0 + (q.tmod r).toNat + 2 + (i - (q.tmod r).toNat))) ∧ ∃ y1, y1.length = (q.tmod r).toNat * 4 ∧ (g = none → (q.tmod r).toNat = 0) ∧ (∀ (j1 : Nat) (v1 : Value), y1[j1]? = some v1 → atI o g j1 = some v1) ∧ (∀ (v1 : Value), Membership.mem y1 v1 → v1.oneCell' = true) ∧ (0 : Nat) = 0 ∧ 0 + (q.tmod r).toNat ≤ 9223372036854775807 ∧ (0 + (q.tmod r).toNat) * 48 ≤ 140737488355328 ∧ y1.length = (0 + (q.tmod r).toNat) * 4 ∧ 0 + (q.tmod r).toNat + 2 ≤ 9223372036854775807 ∧ (0 + (q.tmod r).toNat + 2) * 48 ≤ 140737488355328 ∧ ∃ y2, y2.length = (i - (q.tmod r).toNat) * 4 ∧ (sladdr g j (q.tmod r).toNat 4 = none → i - (q.tmod r).toNat = 0) ∧ (∀ (j1 : Nat) (v1 : Value), y2[j1]? = some v1 → atI o (sladdr g j (q.tmod r).toNat 4) j1 = some v1) ∧ (∀ (v1 : Value), Membership.mem y2 v1 → v1.oneCell' = true) ∧ List.length (y1 ++ [.int .u8 s, .int .i64 u, .int .i64 w, .slice x y z, .int .u8 0, .int .i64 0, .int .i64 0, .slice none 0 0]) = (0 + (q.tmod r).toNat + 2) * 4 ∧ 0 + (q.tmod r).toNat + 2 + (i - (q.tmod r).toNat) ≤ 9223372036854775807 ∧ (0 + (q.tmod r).toNat + 2 + (i - (q.tmod r).toNat)) * 48 ≤ 140737488355328 ∧ ∀ (a1 : Option Addr) (c1 : Nat) (I1 : Mem), o.le I1 → RowM I1 a1 c1 4 (y1 ++ [.int .u8 s, .int .i64 u, .int .i64 w, .slice x y z, .int .u8 0, .int .i64 0, .int .i64 0, .slice none 0 0] ++ y2) → Rf (SV.v (.int .i64 t)) ∧ Rf (SV.v (.pointer p)) ∧ Rf (SV.v (.int .i64 (q.tmod r))) ∧ WI I1 a1 (0 + (q.tmod r).toNat + 2 + (i - (q.tmod r).toNat))) ∧ ∃ y1, y1.length = (q.tmod r).toNat * 4 ∧ (g = none → (q.tmod r).toNat = 0) ∧ (∀ (j1 : Nat) (v1 : Value), y1[j1]? = some v1 → atI o g j1 = some v1) ∧ (∀ (v1 : Value), Membership.mem y1 v1 → v1.oneCell' = true) ∧ (0 : Nat) = 0 ∧ 0 + (q.tmod r).toNat ≤ 9223372036854775807 ∧ (0 + (q.tmod r).toNat) * 48 ≤ 140737488355328 ∧ y1.length = (0 + (q.tmod r).toNat) * 4 ∧ 0 + (q.tmod r).toNat + 2 ≤ 9223372036854775807 ∧ (0 + (q.tmod r).toNat + 2) * 48 ≤ 140737488355328 ∧ ∃ y2, y2.length = (i - (q.tmod r).toNat) * 4 ∧ (sladdr g j (q.tmod r).toNat 4 = none → i - (q.tmod r).toNat = 0) ∧ (∀ (j1 : Nat) (v1 : Value), y2[j1]? = some v1 → atI o (sladdr g j (q.tmod r).toNat 4) j1 = some v1) ∧ (∀ (v1 : Value), Membership.mem y2 v1 → v1.oneCell' = true) ∧ List.length (y1 ++ [.int .u8 s, .int .i64 u, .int .i64 w, .slice x y z, .int .u8 0, .int .i64 0, .int .i64 0, .slice none 0 0]) = (0 + (q.tmod r).toNat + 2) * 4 ∧ 0 + (q.tmod r).toNat + 2 + (i - (q.tmod r).toNat) ≤ 9223372036854775807 ∧ (0 + (q.tmod r).toNat + 2 + (i - (q.tmod r).toNat)) * 48 ≤ 140737488355328 ∧ ∀ (a1 : Option Addr) (c1 : Nat) (I1 : Mem), o.le I1 → RowM I1 a1 c1 4 (y1 ++ [.int .u8 s, .int .i64 u, .int .i64 w, .slice x y z, .int .u8 0, .int .i64 0, .int .i64 0, .slice none 0 0] ++ y2) → Rf (SV.v (.int .i64 t)) ∧ Rf (SV.v (.pointer p)) ∧ Rf (SV.v (.int .i64 (q.tmod r))) ∧ WI I1 a1 (0 + (q.tmod r).toNat + 2 + (i - (q.tmod r).toNat))) ∧ ∀ (s : Mem), Mem → o.le s → ∀ (u : Option Addr) (w x : Nat), WI s u w → (4 : Nat) = 4 ∧ ∃ y, atI s p 0 = some (.int .u8 y) ∧ ∃ z, atI s p 1 = some (.int .i64 z) ∧ ∃ n1, atI s p 2 = some (.int .i64 n1) ∧ ∃ a1 n2 c1, atI s p 3 = some (.slice a1 n2 c1) ∧ Ct Tryz.prog (.func (.func 22) #[] #[]) #[.agg #[.int .u8 y, .int .i64 z, .int .i64 n1, .slice a1 n2 c1]] s fun v1 I1 => ∃ q1 n3, v1 = .tuple #[.string q1, .int .i64 n3] ∧ Ct Tryz.prog (.func (.func 31) #[] #[]) #[.slice u w x] I1 fun v2 I2 => ∃ q2 n4 n5, v2 = .tuple #[.string q2, .int .i64 n4, .int .i64 n5] ∧ Ct Tryz.prog (.func (.func 21) #[] #[]) #[.agg #[.int .u8 6, .int .u8 0, .string ⟨#[]⟩, .int .i64 0, .int .i64 0, .int .i64 0, .int .i64 0, .int .i64 (bif false then imax t (-1) else imin t (-1)), .int .i64 0, .int .i64 0, .int .i64 0, .slice none 0 0]] I2 fun v3 I3 => ∃ q3 n6, v3 = .tuple #[.string q3, .int .i64 n6] ∧ Ct Tryz.prog (.func (.func 20) #[] #[]) #[.int .i64 (bif false then imax t (-1) else imin t (-1)), .agg #[.int .u8 6, .int .u8 0, .string ⟨#[]⟩, .int .i64 0, .int .i64 0, .int .i64 0, .int .i64 0, .int .i64 (bif false then imax t (-1) else imin t (-1)), .int .i64 0, .int .i64 0, .int .i64 0, .slice none 0 0]] I3 fun v4 I4 => ∃ n7 n8 n9 a2 n10 c2 n11, v4 = .tuple #[.agg #[.int .u8 n7, .int .i64 n8, .int .i64 n9, .slice a2 n10 c2], .int .i64 n11] ∧ Ct Tryz.prog (.func (.func 20) #[] #[]) #[.int .i64 (bif false then imax t (-1) else imin t (-1)), .agg #[.int .u8 9, .int .u8 0, .string ⟨#[]⟩, .int .i64 0, .int .i64 0, .int .i64 0, .int .i64 0, .int .i64 0, .int .i64 0, .int .i64 0, .int .i64 0, .slice none 0 0]] I4 fun v5 I5 => ∃ n12 n13 n14 a3 n15 c3 n16, v5 = .tuple #[.agg #[.int .u8 n12, .int .i64 n13, .int .i64 n14, .slice a3 n15 c3], .int .i64 n16] ∧ (4 : Nat) = 4 ∧ ∃ n17, atI I5 p 0 = some (.int .u8 n17) ∧ ∃ n18, atI I5 p 1 = some (.int .i64 n18) ∧ ∃ n19, atI I5 p 2 = some (.int .i64 n19) ∧ ∃ a4 n20 c4, atI I5 p 3 = some (.slice a4 n20 c4) ∧ Ct Tryz.prog (.func (.func 32) #[] #[]) #[.agg #[.int .u8 n17, .int .i64 n18, .int .i64 n19, .slice a4 n20 c4]] I5 fun v6 I6 => ∃ b1, v6 = .bool b1 ∧ Br (!b1) (q1.size + q2.size ≤ 4611686018427387904 ∧ ByteArray.size (q1 ++ q2) + q3.size ≤ 4611686018427387904 ∧ Br (ByteArray.toList (q1 ++ q2 ++ q3) == (ByteArray.mk #[]).toList) (Br (n3 == 410) (Br (n5 == 410) (Br (n4 == q.tmod r) (Br (n6 == 412) (Br (n11 == 412) (Br (n16 == 410) (Ct Tryz.prog (.func (.func 33) #[] #[]) #[.agg #[.int .u8 n7, .int .i64 n8, .int .i64 n9, .slice a2 n10 c2], .agg #[.int .u8 0, .int .i64 0, .int .i64 0, .slice none 0 0]] I6 (fun v7 I7 => ∃ b2, v7 = .bool b2 ∧ Br b2 (Ct Tryz.prog (.func (.func 33) #[] #[]) #[.agg #[.int .u8 n12, .int .i64 n13, .int .i64 n14, .slice a3 n15 c3], .agg #[.int .u8 0, .int .i64 0, .int .i64 0, .slice none 0 0]] I7 (fun v8 I8 => ∃ b3, v8 = .bool b3 ∧ Value.bool b3 = .bool true)) (Value.bool false = .bool true))) (Value.bool false = .bool true)) (Value.bool false = .bool true)) (Value.bool false = .bool true)) (Value.bool false = .bool true)) (Value.bool false = .bool true)) (Value.bool false = .bool true)) (Value.bool false = .bool true)) (Value.bool false = .bool true)))) (by kernel_rfl) ?_
  simp only [Rf, eq_self, true_and]
  have hsn : ∀ x ∈ l, okSn x := by
    obtain ⟨xs, _, hr⟩ := h
    exact hr.all fun h => h.1
  obtain ⟨hgood, hl30⟩ := madeL_good hsn
  rw [← hes] at hgood hl30
  obtain ⟨M, hM1⟩ : ∃ q, q = (bif false then imax t (-1) else imin t (-1)) := ⟨_, rfl⟩
  obtain ⟨N, hN1⟩ : ∃ q, q = (bif true then imax t 4294967296 else imin t 4294967296) := ⟨_, rfl⟩
  obtain ⟨N1, hN2⟩ : ∃ q, q = (bif true then imax t 1 else imin t 1) := ⟨_, rfl⟩
  have hM2 := min_neg t
  have hN3 := max_pos (t := t) (c := 4294967296) (by decide)
  have hN4 := max_pos (t := t) (c := 1) (by decide)
  rw [← hM1] at hM2 ⊢
  rw [← hN1] at hN3 ⊢
  rw [← hN2] at hN4 ⊢
  obtain ⟨hMn, hMr⟩ := hM2
  obtain ⟨hNn, hNr⟩ := hN3
  obtain ⟨hN1n, hN1r⟩ := hN4
  have hMr := hMr ht
  have hNr := hNr ht
  have hN1r := hN1r ht
  refine (ct14 I hG).mono fun v b lb hv => ⟨_, hv, Br.f rfl ((ct16 l a n c b (h.mono lb) hc).mono fun e f lf ⟨g, i, j, hv, hM, hij, hjm⟩ => ⟨g, i, j, hv, ?_⟩)⟩
  rw [← hes] at hM
  have hil : es.length = i := SlR.len (by decide) hM
  have hGf := hG.mono (Mem.le_trans lb lf)
  have hk2 := Int.tmod_lt_of_pos k (show (0 : Int) < 200 by decide)
  have hk1 := Int.tmod_nonneg 200 hk.1
  have hk4 := Int.tmod_lt_of_pos k (show (0 : Int) < 9 by decide)
  have hk3 := Int.tmod_nonneg 9 hk.1
  refine ⟨⟨by decide, wr_u8 (by omega) (by omega) ⟨by decide, by decide, by decide, by decide, fun xs hxs hx => ⟨by decide, hk3, hk4, by omega, by omega, ?_⟩⟩⟩, ?_⟩
  · rw [hBI]
    refine ⟨⟨⟨⟨⟨⟨⟨⟨?_, ?_⟩, ?_⟩, ?_⟩, ?_⟩, ?_⟩, ?_⟩, ?_⟩, ?_⟩
    · exact fun _ b q _ hq => bad_mk (e := ⟨0, 0, 0, []⟩) hq ⟨by decide, i64R_zero, i64R_zero, byteL_nil⟩ rfl (bysl_nil q)
    · refine fun _ b q _ hq => bad_mk (e := ⟨4 + k.tmod 200, 0, 0, []⟩) hq ⟨⟨by show 0 ≤ 4 + _; omega, by show 4 + _ ≤ 255; omega⟩, i64R_zero, i64R_zero, byteL_nil⟩ ?_ (bysl_nil q)
      rw [cleanE, if_neg (by show ¬ (4 + _ = _); omega), if_neg (by show ¬ (4 + _ = _); omega), if_neg (by show ¬ (4 + _ = _); omega)]
    · exact fun _ b q _ hq => bad_mk (e := ⟨2, 1, 0, []⟩) hq ⟨by decide, ⟨by decide, by decide⟩, i64R_zero, byteL_nil⟩ rfl (bysl_nil q)
    · exact fun _ b q _ hq b2 q2 l2 hq2 => bad_mk (e := ⟨2, 0, 0, [1]⟩) hq2 ⟨by decide, i64R_zero, i64R_zero, by simp [byteL]⟩ rfl ⟨_, _, _, rfl, bysl_lit (l2 _ _ hq) rfl rfl (by decide), Nat.le_refl _, by simp only [maxLen]; omega⟩
    · refine fun _ b q _ hq => bad_mk (e := ⟨3, 0, M, []⟩) hq ⟨by show 0 ≤ (3 : Int) ∧ (3 : Int) ≤ 255; decide, i64R_zero, hMr, byteL_nil⟩ ?_ (bysl_nil q)
      rw [cleanE, if_neg (by show ¬ ((3 : Int) = 1); decide), if_neg (by show ¬ ((3 : Int) = 2); decide), if_pos rfl, withinB, decide_eq_false (p := 0 ≤ M ∧ M ≤ 4294967295) (by omega)]; rfl
    · refine fun _ b q _ hq => bad_mk (e := ⟨3, 0, N, []⟩) hq ⟨by show 0 ≤ (3 : Int) ∧ (3 : Int) ≤ 255; decide, i64R_zero, hNr, byteL_nil⟩ ?_ (bysl_nil q)
      rw [cleanE, if_neg (by show ¬ ((3 : Int) = 1); decide), if_neg (by show ¬ ((3 : Int) = 2); decide), if_pos rfl, withinB, decide_eq_false (p := 0 ≤ N ∧ N ≤ 4294967295) (by omega)]; rfl
    · exact fun _ b q _ hq => bad_mk (e := ⟨1, M, 0, []⟩) hq ⟨by show 0 ≤ (1 : Int) ∧ (1 : Int) ≤ 255; decide, hMr, i64R_zero, byteL_nil⟩ (cleanE_slot (by omega)) (bysl_nil q)
    · refine fun _ b q _ hq => bad_mk (e := ⟨1, 0, N1, []⟩) hq ⟨by show 0 ≤ (1 : Int) ∧ (1 : Int) ≤ 255; decide, i64R_zero, hN1r, byteL_nil⟩ ?_ (bysl_nil q)
      rw [cleanE, if_pos rfl]
      simp only
      rw [decide_eq_false (p := N1 = 0) (by omega)]; simp
    · refine fun _ p cp r lr hr s u lu hu => ?_
      have hxe : xs = ints .u8 (List.replicate 16385 0) := by
        apply List.ext_getElem?
        intro j
        simp only [ints, List.map_replicate, List.getElem?_replicate]
        split
        · rename_i hj
          obtain ⟨v, hv⟩ : ∃ v, xs[j]? = some v := ⟨_, List.getElem?_eq_getElem (by omega)⟩
          have := hx j v hv
          rw [Nat.mod_one] at this
          rw [hv, ← this]; rfl
        · rw [List.getElem?_eq_none (by omega)]
      refine bad_mk (e := ⟨1, 0, 0, List.replicate 16385 0⟩) hu ⟨by show 0 ≤ (1 : Int) ∧ (1 : Int) ≤ 255; decide, i64R_zero, i64R_zero, fun z hz => by rw [List.eq_of_mem_replicate hz]; decide⟩ ?_ ?_
      · rw [cleanE, if_pos rfl]
        simp only [List.length_replicate]
        rw [decide_eq_false (p := 16385 ≤ 16384) (by decide)]; simp
      · have hr' := hr
        obtain ⟨h1, h2, h3, h4⟩ := hr'
        have hsl := (hr.sl (n := 16385) (by decide) (by rw [hxs])).mono lu
        rw [hxe] at hsl h1
        exact ⟨_, _, _, rfl, hsl, by simpa [ints] using h1, h2⟩
  · intro o _ lo p hB
    rw [hBI] at hB
    obtain ⟨e, x, y, z, hek, hec, b0, b1, b2, b3, hby⟩ := hB
    have hMo : EnM o g i es := hM.mono lo
    have hGo := hGf.mono lo
    obtain ⟨xs, hsl, hrow⟩ := hMo
    have t0 := Int.tmod_nonneg ((i : Int) + 1) hm.1
    have t1 := Int.tmod_lt_of_pos m (show (0 : Int) < (i : Int) + 1 by omega)
    refine wr_i64 (by omega) (by omega) (wr_i64 (by omega) (by omega) ?_)
    obtain ⟨A, hA⟩ : ∃ q, q = (m.tmod ((i : Int) + 1)).toNat := ⟨_, rfl⟩
    have hAe : m.tmod ((i : Int) + 1) = (A : Int) := by omega
    rw [hAe]
    simp only [Int.toNat_natCast]
    have hAi : A ≤ i := by omega
    have hxl := hsl.len
    obtain ⟨d1, d2⟩ := slM_drop hsl hAi hij (by decide)
    have hlT : lineT e = [] := by rw [lineT, if_pos hec]
    have hlE : lineE e = 410 := by rw [lineE, hec]; rfl
    rw [hil, ← hA] at hWI
    refine ⟨by omega, ⟨by omega, by omega, _, b0, _, b1, _, b2, _, _, _, b3, by omega, by omega, ?_⟩, ?_⟩
    · repeat' apply And.intro
      all_goals
        refine ⟨xs.take (A * 4), by rw [List.length_take]; omega, fun hg => by have := hsl.nil hg; omega, fun j1 v1 hv1 => ?_, fun v1 hv1 => row_one hrow v1 (List.mem_of_mem_take hv1), by omega, by omega, by rw [List.length_take]; omega, by omega, by omega, xs.drop (A * 4), by rw [List.length_drop]; omega, d1, d2, fun v1 hv1 => row_one hrow v1 (List.mem_of_mem_drop hv1), by simp only [List.length_append, List.length_take, List.length_cons, List.length_nil]; omega, by omega, by omega, fun a2 c2 I2 l2 hr => ?_⟩
        · rw [List.getElem?_take] at hv1
          split at hv1
          · exact hsl.at_ _ _ hv1
          · cases hv1
        · have hes2 := RowR.app (rowR_drop A (hrow.mono enC_mono l2)) (RowR.app (bad_row hek (hby.mono l2)) ((hrow.take A).mono enC_mono l2))
          rw [hWI]
          exact ⟨e, hec, _, hr.sl (by decide) (by simp only [List.length_append, List.length_take, List.length_drop, List.length_cons, List.length_nil]; omega), hes2⟩
    · intro s1 _ ls u w x1 hW
      rw [hWI] at hW
      obtain ⟨e2, he2, hE2⟩ := hW
      have hwl : w ≤ 100000 := by
        have := SlR.len (by decide) hE2
        simp only [List.length_append, List.length_take, List.length_drop, List.length_cons, List.length_nil] at this
        omega
      have hGs := hGo.mono ls
      have hbs := hby.mono ls
      refine ⟨_, atI_le ls b0, _, atI_le ls b1, _, atI_le ls b2, _, _, _, atI_le ls b3, (ct22 e hek _ s1 hGs hbs).mono fun v1 I2 l02 hv => ?_⟩
      rw [hlT, hlE] at hv
      refine ⟨_, _, hv, (ct31 _ u w x1 I2 (hGs.mono l02) (hE2.mono l02) hwl).mono fun v3 I3 l3 hv3 => ?_⟩
      rw [wrong_write hgood (by omega) he2] at hv3
      refine ⟨_, _, _, hv3, (ct21 (rq6 M) (rq6_ok hMr) (Nat.zero_le _) _ I3 (hGs.mono (Mem.le_trans l02 l3)) (bysl_nil I3) (Nat.zero_le _) byteL_nil).mono fun v4 I4 l4 hv4 => ?_⟩
      rw [rq6_wrong hMr (by omega)] at hv4
      simp only [Bool.false_eq_true, if_false] at hv4
      refine ⟨_, _, hv4, (ct20 M hMr (rq6 M) (rq6_ok hMr) (Nat.zero_le _) _ I4 (bysl_nil I4) (Nat.zero_le _)).mono fun v5 I5 l5 ⟨z1, hv5, hz1⟩ => ?_⟩
      rw [ask6 hMr (by omega)] at hv5 hz1
      have hz1' := hz1
      obtain ⟨a6, n6, c6, rfl, _, _, _⟩ := hz1'
      refine ⟨_, _, _, _, _, _, _, hv5, (ct20 M hMr rq9 rq9_ok (by decide) _ I5 (bysl_nil I5) (by decide)).mono fun v6 I6 l6 ⟨z2, hv6, hz2⟩ => ?_⟩
      rw [ask9 (by omega)] at hv6 hz2
      have hz2' := hz2
      obtain ⟨a7, n7, c7, rfl, _, _, _⟩ := hz2'
      have l06 : s1.le I6 := Mem.le_trans l02 (Mem.le_trans l3 (Mem.le_trans l4 (Mem.le_trans l5 l6)))
      have lo6 : o.le I6 := Mem.le_trans ls l06
      refine ⟨_, _, _, _, _, _, _, hv6, _, atI_le lo6 b0, _, atI_le lo6 b1, _, atI_le lo6 b2, _, _, _, atI_le lo6 b3, (ct32 e _ I6 (hbs.mono l06) hek.bs).mono fun v7 I7 l7 hv7 => ⟨_, hv7, Br.t (by rw [hec]; rfl) ⟨size3.1, size3.2, Br.t (by rw [str_eq]; exact decide_eq_true empty3) (Br.t rfl (Br.t rfl (Br.t (by simp) (Br.t rfl (Br.t rfl (Br.t rfl ?_))))))⟩⟩⟩
      refine (ct33 zeroEn zeroEn _ _ I7 (hz1.mono (Mem.le_trans l6 l7)) (bysl_nil I7) byteL_nil byteL_nil).mono fun v8 I8 l8 hv8 => ⟨_, hv8, Br.t (decide_eq_true rfl) ?_⟩
      exact (ct33 zeroEn zeroEn _ _ I8 (hz2.mono (Mem.le_trans l7 l8)) (bysl_nil I8) byteL_nil byteL_nil).mono fun v9 I9 l9 hv9 => ⟨_, hv9, by rw [decide_eq_true rfl]⟩
theorem ct7Q (I : Mem) (hG : Globs I) (v0 v1 v2 v3 : Value) (h0 : Q28 I v0) (h1 : Q5 I v1) (h2 : Q5 I v2) (h3 : Q3 I v3) : Ct Tryz.prog (fnv 7) #[v0, v1, v2, v3] I (fun v _ => v = .bool true) := by
  obtain ⟨a, n, c, l, rfl, hM, hc, _⟩ := h0
  obtain ⟨k, rfl, hk⟩ := h1
  obtain ⟨m, rfl, hm⟩ := h2
  obtain ⟨t, rfl, ht⟩ := h3
  exact ct7 I hG l a n c hM hc k m t hk hm ht
