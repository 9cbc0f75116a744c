/- Part of a proof by the rules of the symbolic walk (see the law's own text): contracts of functions of the program. -/
import Derived.Test.YtnjbojekknpknaaProg
import Derived.Test.YtnjbojekknpknaaSma3
set_option linter.unusedVariables false
set_option linter.unusedSimpArgs false
open Go Go.Proofs Go.SE Go.RowKit
set_option linter.unusedVariables false
set_option maxRecDepth 100000
set_option maxHeartbeats 1000000
theorem sl_subD {I : Mem} {a : Option Addr} {n c f t : Nat} {bs : List Int} {kd : IntKind} (h : SlM I a n 1 (ints kd bs)) (hft : f <= t) (ht : t <= n) (hc : n <= c) : SlM I (sladdr a c f 1) (t - f) 1 (ints kd ((bs.drop f).take (t - f))) := by
 have hl := h.numLen
 refine ⟨by simp [ints]; omega, fun hs => ?_, Nat.le_trans (by omega) h.max, fun j v hj => ?_⟩
 · unfold sladdr at hs
   split at hs
   · omega
   · cases a with
     | none => have := h.nil rfl; omega
     | some ad => cases hs
 · simp only [ints, List.getElem?_map, Option.map_eq_some_iff] at hj
   obtain ⟨z, hj, rfl⟩ := hj;rw [List.getElem?_take] at hj
   split at hj
   · rw [List.getElem?_drop] at hj
     have hat := h.at_ _ _ (ints_get (k := kd) hj);unfold sladdr
     rw [if_neg (by omega)]
     cases a with
     | none => have := h.nil rfl; omega
     | some ad =>
       simp only [Option.map_some, Nat.mul_one];simp only [atI, Option.bind_some] at hat ⊢;rw [add_add];exact hat
   · cases hj
theorem ct32 (xs : List Int) (a : Option Addr) (n c : Nat) (i j : Int) (I G : Mem) (hn : n <= c) (hc : c <= maxLen) (hij : 0 <= i /\ i <= j /\ j <= n) (h : OwnS 1 G a c) (hs : SlM G a n 1 (ints .u8 xs)) :
 CtH Try.prog (fnv 32) #[.slice a n c, .int .i64 i, .int .i64 j] I G (fun v I' G' => ∃ m, v = .slice a m c /\ m <= n /\ SlM G' a m 1 (ints .u8 (xs.take i.toNat ++ xs.drop j.toNat)) /\ OwnS 1 G' a c) := by
 obtain ⟨Q, hQ⟩ : ∃ f : Value -> Mem -> Prop, f = fun v G' => ∃ m, v = .slice a m c /\ m <= n /\ SlM G' a m 1 (ints .u8 (xs.take i.toNat ++ xs.drop j.toNat)) /\ OwnS 1 G' a c := ⟨_, rfl⟩
 rw [show (fun (v : Value) (I' G' : Mem) => ∃ m, v = .slice a m c /\ m <= n /\ SlM G' a m 1 (ints .u8 (xs.take i.toNat ++ xs.drop j.toNat)) /\ OwnS 1 G' a c) = fun v I' G' => Q v G' by rw [hQ]]
 refine viaR (ctG_via (A := { calls := [(26, .st), (31, .st)] }) Try.func32 rfl Try.call32 rfl rfl) (0 <= i /\ i <= j /\ j <= (n : Int) /\ (n : Int) <= (c : Int) /\ Br (i == j) (Q (.slice a n c) G) (0 <= i /\ i <= (c : Int) /\ 0 <= j /\ j <= (n : Int) /\ (1 : Nat) = 1 /\ (0 : Nat) < 1 /\ ∃ y, y.length = (n - j.toNat) * 1 /\ (sladdr a c j.toNat 1 = none -> n - j.toNat = 0) /\ (∀ (b : Nat) (v : Value), y[b]? = some v -> atI I (sladdr a c j.toNat 1) b = some v \/ atI G (sladdr a c j.toNat 1) b = some v) /\ (∀ (v : Value), Membership.mem y v -> v.oneCell' = true) /\ Br (decide ((i.toNat : Int) + ((n - j.toNat : Nat) : Int) <= (c : Int))) (∃ b, (y = [] /\ b = G \/ PutG G a (i.toNat * 1) y b) /\ 0 <= ((i.toNat + (n - j.toNat) : Nat) : Int) /\ ((i.toNat + (n - j.toNat) : Nat) : Int) <= (n : Int) /\ (n : Int) <= (c : Int) /\ (0 : Nat) < 1 /\ (sladdr a c (Int.toNat ((i.toNat + (n - j.toNat) : Nat) : Int)) 1 = none -> n - Int.toNat ((i.toNat + (n - j.toNat) : Nat) : Int) = 0) /\ (∀ (v : Value), Membership.mem [Value.int .u8 0] v -> v.oneCell' = true) /\ ∀ (x : List Value), x.length = (n - Int.toNat ((i.toNat + (n - j.toNat) : Nat) : Int)) * 1 -> (∀ (d : Nat) (v : Value), x[d]? = some v -> #[Value.int .u8 0][d % 1]? = some v) -> ∃ d, (x = [] /\ d = b \/ PutG b (sladdr a c (Int.toNat ((i.toNat + (n - j.toNat) : Nat) : Int)) 1) 0 x d) /\ Q (.slice a (i.toNat + (n - j.toNat)) c) d) (a.isSome = true /\ i.toNat + (n - j.toNat) <= 9223372036854775807 /\ (i.toNat + (n - j.toNat)) * 1 <= 140737488355328 /\ ∃ x, x.length = i.toNat * 1 /\ (∀ (b : Nat) (v : Value), x[b]? = some v -> atI I a b = some v \/ atI G a b = some v) /\ ∀ (b d : Nat) (e : Array Value) (f : Prod Nat Nat) (g : Mem), G b = none -> I b = none -> i.toNat + (n - j.toNat) <= d -> d <= 9223372036854775807 -> (∀ (k : Nat), k < e.size -> ¬(f.1 <= k /\ k < f.2)) -> e.size = d * 1 -> List.take (List.length (x ++ y)) e.toList = x ++ y -> g = (fun k => if k = b then some (.cells e 5 f) else G k) -> 0 <= ((i.toNat + (n - j.toNat) : Nat) : Int) /\ ((i.toNat + (n - j.toNat) : Nat) : Int) <= (n : Int) /\ (n : Int) <= (d : Int) /\ (0 : Nat) < 1 /\ (sladdr (some ⟨b, 0, none⟩) d (Int.toNat ((i.toNat + (n - j.toNat) : Nat) : Int)) 1 = none -> n - Int.toNat ((i.toNat + (n - j.toNat) : Nat) : Int) = 0) /\ (∀ (v : Value), Membership.mem [Value.int .u8 0] v -> v.oneCell' = true) /\ ∀ (k : List Value), k.length = (n - Int.toNat ((i.toNat + (n - j.toNat) : Nat) : Int)) * 1 -> (∀ (l : Nat) (v : Value), k[l]? = some v -> #[Value.int .u8 0][l % 1]? = some v) -> ∃ l, (k = [] /\ l = g \/ PutG g (sladdr (some ⟨b, 0, none⟩) d (Int.toNat ((i.toNat + (n - j.toNat) : Nat) : Int)) 1) 0 k l) /\ Q (.slice (some ⟨b, 0, none⟩) (i.toNat + (n - j.toNat)) d) l))) (by kernel_rfl) ?_
 have hl := hs.len;rw [ints_len] at hl
 refine ⟨hij.1, hij.2.1, hij.2.2, by omega, Br.mk (fun he => ?_) (fun hne => ?_)⟩
 · have he : i = j := by simpa using he
   rw [hQ]; exact ⟨n, rfl, Nat.le_refl _, by rw [he, List.take_append_drop]; exact hs, h⟩
 have hne : i ≠ j := by simpa using hne
 have hsub := sl_subD hs (f := j.toNat) (t := n) (by omega) (by omega) hn
 rw [List.take_of_length_le (by rw [List.length_drop]; omega)] at hsub
 have hyl : (ints .u8 (xs.drop j.toNat)).length = n - j.toNat := by rw [ints_len, List.length_drop]; omega
 have ec : (((i.toNat + (n - j.toNat) : Nat) : Int)).toNat = i.toNat + (n - j.toNat) := by omega
 refine ⟨by omega, by omega, by omega, by omega, rfl, by omega, ints .u8 (xs.drop j.toNat), by rw [hyl, Nat.mul_one], hsub.nil, fun b v hb => .inr (hsub.at_ b v hb), fun v hv => (by unfold ints at hv; obtain ⟨x, _, rfl⟩ := List.mem_map.1 hv; rfl), Br.mk (fun _ => ?_) (fun hno => ?_)⟩
 · obtain ⟨b, hb1, hb2, hb3⟩ : ∃ b, ((ints .u8 (xs.drop j.toNat) = [] /\ b = G) \/ PutG G a (i.toNat * 1) (ints .u8 (xs.drop j.toNat)) b) /\ OwnS 1 b a c /\ SlM b a (i.toNat + (n - j.toNat)) 1 (ints .u8 (xs.take i.toNat ++ xs.drop j.toNat)) := by
    have e0 : (ints .u8 xs).take i.toNat ++ ints .u8 (xs.drop j.toNat) = ints .u8 (xs.take i.toNat ++ xs.drop j.toNat) := by simp [ints, List.map_take]
    by_cases h0 : n - j.toNat = 0
    · have hy : xs.drop j.toNat = [] := by rw [<- List.length_eq_zero_iff, List.length_drop]; omega
      have hp := sl_subD hs (f := 0) (t := i.toNat) (by omega) (by omega) hn
      rw [show sladdr a c 0 1 = a from sladdr_zero a c 1, Nat.sub_zero, List.drop_zero] at hp
      exact ⟨G, .inl ⟨by rw [hy]; rfl, rfl⟩, h, by rw [h0, hy, List.append_nil, Nat.add_zero]; exact hp⟩
    · obtain ⟨b, q1, q2, q3, q4⟩ := own_write (k := i.toNat) (vs := ints .u8 (xs.drop j.toNat)) h hc (by omega) (by omega)
      have := q4 n _ (by omega) hs
      rw [hyl, e0] at this
      exact ⟨b, .inr (by rw [Nat.mul_one]; exact q1), q2, this⟩
   refine ⟨b, hb1, by omega, by omega, by omega, by omega, fun hnil => ?_, fun v hv => ?_, fun x hx hz => ?_⟩
   · rw [ec] at hnil ⊢
     unfold sladdr at hnil
     obtain ⟨b', off, cur, el, fz, h1, _⟩ := h (by omega)
     rw [h1] at hnil
     split at hnil <;> cases hnil
   · rw [List.mem_singleton.1 hv]; rfl
   · rw [ec] at hx ⊢
     obtain ⟨d, q1, q2, q3, _⟩ := own_write (k := i.toNat + (n - j.toNat)) (vs := x) hb2 hc (by omega) (by omega)
     refine ⟨d, .inr (putG_sladdr (by omega) q1), ?_⟩
     rw [hQ]
     exact ⟨_, rfl, by omega, q3 _ _ (Nat.le_refl _) hb3, q2⟩
 · have hno := of_decide_eq_false hno
   omega
set_option maxHeartbeats 1000000
theorem ct31 (xs ys : List Value) (a : Option Addr) (b n c m d : Nat) (i : Int) (cv : Array Value) (I G : Mem) (hn : n <= c) (hc : c <= maxLen) (hi : 0 <= i /\ i <= n) (h : OwnS 1 G a c) (hs : SlM G a n 1 xs) (hb : I b = some (.cells cv 5)) (hv : SlM I (some ⟨b, 0, none⟩) m 1 ys) (hm : 0 < m) (hsm : n + m <= 1000000) (ha : a.isSome = true) (h1 : ∀ v ∈ xs ++ ys, v.oneCell' = true) :
 CtH Try.prog (fnv 31) #[.slice a n c, .int .i64 i, .slice (some ⟨b, 0, none⟩) m d] I G (fun v I' G' => ∃ a' c', v = .slice a' (n + m) c' /\ SlM G' a' (n + m) 1 (xs.take i.toNat ++ ys ++ xs.drop i.toNat) /\ n + m <= c' /\ c' <= maxLen) := by
 obtain ⟨Q, hQ⟩ : ∃ q : Value -> Mem -> Prop, q = fun v G' => ∃ a' c', v = .slice a' (n + m) c' /\ SlM G' a' (n + m) 1 (xs.take i.toNat ++ ys ++ xs.drop i.toNat) /\ n + m <= c' /\ c' <= maxLen := ⟨_, rfl⟩;obtain ⟨w, hw⟩ : ∃ w : Option Addr, w = some ⟨b, 0, none⟩ := ⟨_, rfl⟩
 rw [show (fun (v : Value) (I' G' : Mem) => ∃ a' c', v = .slice a' (n + m) c' /\ SlM G' a' (n + m) 1 (xs.take i.toNat ++ ys ++ xs.drop i.toNat) /\ n + m <= c' /\ c' <= maxLen) = fun v I' G' => Q v G' by rw [hQ], <- hw]
 refine viaR (ctG_via (A := { calls := [(25, .st), (40, .st), (45, .st), (54, .st), (77, .st), (82, .st), (88, .st), (67, .g), (93, .g)] }) Try.func31 rfl Try.call31 rfl rfl) (0 <= i /\ i <= (n : Int) /\ Br ((m : Int) == 0) (Q (.slice a n c) G) (Br (i == (n : Int)) ((1 : Nat) = 1 /\ (0 : Nat) < 1 /\ ∃ y, y.length = m * 1 /\ (w = none -> m = 0) /\ (∀ (j : Nat) (v : Value), y[j]? = some v -> atI I w j = some v \/ atI G w j = some v) /\ (∀ (v : Value), Membership.mem y v -> v.oneCell' = true) /\ Br (decide ((n : Int) + (m : Int) <= (c : Int))) (∃ e, (y = [] /\ e = G \/ PutG G a (n * 1) y e) /\ Q (.slice a (n + m) c) e) (a.isSome = true /\ n + m <= 9223372036854775807 /\ (n + m) * 1 <= 140737488355328 /\ ∃ x, x.length = n * 1 /\ (∀ (j : Nat) (v : Value), x[j]? = some v -> atI I a j = some v \/ atI G a j = some v) /\ ∀ (e f : Nat) (g : Array Value) (j : Prod Nat Nat) (k : Mem), G e = none -> I e = none -> n + m <= f -> f <= 9223372036854775807 -> (∀ (l : Nat), l < g.size -> ¬(j.1 <= l /\ l < j.2)) -> g.size = f * 1 -> List.take (List.length (x ++ y)) g.toList = x ++ y -> k = (fun l => if l = e then some (.cells g 5 j) else G l) -> Q (.slice (some ⟨e, 0, none⟩) (n + m) f) k)) (Wr .i64 ((n : Int) + (m : Int)) (fun e => Br (decide ((c : Int) < e)) (0 <= i /\ i <= (c : Int) /\ Wr .i64 ((n : Int) + (m : Int)) fun f => Wr .i64 (f - i) fun g => (1 : Nat) = 1 /\ (0 : Nat) < 1 /\ 0 < g /\ c < i.toNat + g.toNat /\ a.isSome = true /\ i.toNat + g.toNat <= 9223372036854775807 /\ (i.toNat + g.toNat) * 1 <= 140737488355328 /\ ∃ x, x.length = i.toNat * 1 /\ (∀ (j : Nat) (v : Value), x[j]? = some v -> atI I a j = some v \/ atI G a j = some v) /\ ∀ (j k : Nat) (l : Array Value) (o : Prod Nat Nat) (p : Mem), G j = none -> I j = none -> i.toNat + g.toNat <= k -> k <= 9223372036854775807 -> (∀ (q : Nat), q < l.size -> ¬(o.1 <= q /\ q < o.2)) -> l.size = k * 1 -> List.take x.length l.toList = x -> p = (fun q => if q = j then some (.cells l 5 o) else G q) -> 0 <= i /\ i <= ((i.toNat + g.toNat : Nat) : Int) /\ ∃ q, q.length = m.min (i.toNat + g.toNat - i.toNat) * 1 /\ (∀ (r : Nat) (v : Value), q[r]? = some v -> atI I w r = some v \/ atI p w r = some v) /\ (∀ (v : Value), Membership.mem q v -> v.oneCell' = true) /\ (w = none -> q = []) /\ ∃ r, (q = [] /\ r = p \/ PutG p (sladdr (some ⟨j, 0, none⟩) k i.toNat 1) 0 q r) /\ Wr .i64 (i + (m : Int)) fun s => 0 <= s /\ s <= ((i.toNat + g.toNat : Nat) : Int) /\ 0 <= i /\ i <= (n : Int) /\ ∃ t, t.length = Nat.min (n - i.toNat) (i.toNat + g.toNat - s.toNat) * 1 /\ (∀ (u : Nat) (v : Value), t[u]? = some v -> atI I (sladdr a c i.toNat 1) u = some v \/ atI r (sladdr a c i.toNat 1) u = some v) /\ (∀ (v : Value), Membership.mem t v -> v.oneCell' = true) /\ (sladdr a c i.toNat 1 = none -> t = []) /\ ∃ u, (t = [] /\ u = r \/ PutG r (sladdr (some ⟨j, 0, none⟩) k s.toNat 1) 0 t u) /\ Q (.slice (some ⟨j, 0, none⟩) (i.toNat + g.toNat) k) u) (Wr .i64 ((n : Int) + (m : Int)) (fun f => 0 <= f /\ f <= (c : Int) /\ Wr .i64 (i + (m : Int)) fun g => 0 <= g /\ g <= (f.toNat : Int) /\ CtH Try.prog (fnv 52) #[.slice w m d, .slice (sladdr a c g.toNat 1) (f.toNat - g.toNat) (c - g.toNat)] I G fun v j k => ∃ l, v = .bool l /\ Br (!l) (Wr .i64 (i + (m : Int)) (fun o => 0 <= o /\ o <= (f.toNat : Int) /\ 0 <= i /\ i <= (f.toNat : Int) /\ ∃ p, p.length = Nat.min (f.toNat - i.toNat) (f.toNat - o.toNat) * 1 /\ (∀ (q : Nat) (r : Value), p[q]? = some r -> atI j (sladdr a c i.toNat 1) q = some r \/ atI k (sladdr a c i.toNat 1) q = some r) /\ (∀ (q : Value), Membership.mem p q -> q.oneCell' = true) /\ (sladdr a c i.toNat 1 = none -> p = []) /\ ∃ q, (p = [] /\ q = k \/ PutG k (sladdr a c o.toNat 1) 0 p q) /\ 0 <= i /\ i <= (f.toNat : Int) /\ ∃ r, r.length = m.min (f.toNat - i.toNat) * 1 /\ (∀ (s : Nat) (t : Value), r[s]? = some t -> atI j w s = some t \/ atI q w s = some t) /\ (∀ (s : Value), Membership.mem r s -> s.oneCell' = true) /\ (w = none -> r = []) /\ ∃ s, (r = [] /\ s = q \/ PutG q (sladdr a c i.toNat 1) 0 r s) /\ Q (.slice a f.toNat c) s)) (0 <= (n : Int) /\ (n : Int) <= (f.toNat : Int) /\ ∃ o, o.length = m.min (f.toNat - n) * 1 /\ (∀ (p : Nat) (q : Value), o[p]? = some q -> atI j w p = some q \/ atI k w p = some q) /\ (∀ (p : Value), Membership.mem o p -> p.oneCell' = true) /\ (w = none -> o = []) /\ ∃ p, (o = [] /\ p = k \/ PutG k (sladdr a c n 1) 0 o p) /\ 0 <= i /\ i <= (f.toNat : Int) /\ CtH Try.prog (fnv 53) #[.slice (sladdr a c i.toNat 1) (f.toNat - i.toNat) (c - i.toNat), .int .i64 (m : Int)] j p fun q r s => q = .tuple #[] /\ Q (.slice a f.toNat c) s))))))) (by kernel_rfl) ?_
 rw [<- hw] at hv
 exact insert_cond (w := 1) (by omega) hn hc hi h hs hv hm hsm ha h1 (fun a' c' G' k1 k2 k3 k4 => by rw [hQ]; exact ⟨a', c', rfl, k1, k3, k4⟩) fun a' n' c' hh => by
  rw [hw]
  obtain ⟨ti, hti⟩ := Option.isSome_iff_exists.1 (show (Try.prog.info? 5).isSome = true by kernel_rfl)
  exact ct_over (tR := 4) (hi := hti) Try.func52 (by kernel_rfl) (by kernel_rfl) (by kernel_rfl) (by kernel_rfl) Try.underlying22 (hv := hb) (ha := hh)
def digN (x : Nat) : Nat := if h : x = 0 then 0 else 1 + digN (x / 256)
termination_by x
decreasing_by omega
def sizeN (x : Nat) : Nat := if x <= 246 then 1 else 1 + digN x
theorem digN_le : ∀ {k x : Nat}, x < 256 ^ k -> digN x <= k
 | 0, x, h => by
   have : x = 0 := by simpa using h
   subst this
   unfold digN; simp
 | k + 1, x, h => by
   unfold digN;split
   · omega
   · have : x / 256 < 256 ^ k := by rw [Nat.div_lt_iff_lt_mul (by omega)]; rw [Nat.pow_succ] at h; exact h
     have := digN_le this;omega
theorem digN_pos {x : Nat} (h : 0 < x) : digN x = 1 + digN (x / 256) := by
 rw [digN, dif_neg (by omega)]
theorem digN_zero : digN 0 = 0 := by rw [digN, dif_pos rfl]
theorem ct76 (x : Int) (h : 0 <= x /\ x <= 18446744073709551615) (I : Mem) : Ct Try.prog (fnv 76) #[.int .u64 x] I (fun v _ => v = .int .i64 (sizeN x.toNat)) := by
 refine viaR (ct_via (A := { loops := [(4, ⟨[(0, .sh (.int .u64)), (3, .sh (.int .i64))], [], [], fun vals _ _ _ => match vals with
  | [.int .u64 y, .int .i64 n] => 0 <= y /\ y <= 18446744073709551615 /\ n + digN y.toNat = 1 + digN x.toNat /\ 1 <= n | _ => False, fun vals _ => match vals with | [.int .u64 y, _] => y.toNat | _ => 0⟩)] }) Try.func76 rfl Try.call76 rfl rfl) (Br (decide (x <= 246)) (Value.int .i64 1 = .int .i64 (sizeN x.toNat : Int)) ((0 <= x /\ x <= 18446744073709551615 /\ Rf (1 + (digN x.toNat : Int)) /\ (1 : Int) <= 1) /\ ∀ (a : Mem), Mem -> I.le a -> ∀ (n b : Int), 0 <= n /\ n <= 18446744073709551615 /\ b + (digN n.toNat : Int) = 1 + (digN x.toNat : Int) /\ 1 <= b -> Br (decide (0 < n)) (Wr .i64 (b + 1) (fun c => (0 : Int) <= 8 /\ (0 <= n.fdiv 256 /\ n.fdiv 256 <= 18446744073709551615 /\ c + (digN (n.fdiv 256).toNat : Int) = 1 + (digN x.toNat : Int) /\ 1 <= c) /\ (n.fdiv 256).toNat < n.toNat)) (Value.int .i64 b = .int .i64 (sizeN x.toNat : Int)))) (by kernel_rfl) ?_
 have hd8 : digN x.toNat <= 8 := digN_le (k := 8) (by omega)
 refine Br.mk (fun h1 => ?_) (fun h1 => ⟨⟨h.1, h.2, rfl, by omega⟩, fun I1 _ _ y n ⟨h2, h3, h4, h5⟩ => Br.mk (fun hp => ?_) (fun hp => ?_)⟩)
 · have h1 := of_decide_eq_true h1
   rw [sizeN, if_pos (by omega)]; rfl
 · have hp := of_decide_eq_true hp
   have hf : y.fdiv 256 = y / 256 := Int.fdiv_eq_ediv_of_nonneg _ (by decide)
   have hd := digN_pos (x := y.toNat) (by omega)
   have ht : (y / 256).toNat = y.toNat / 256 := by omega
   rw [hf]
   exact wr_i64 (by omega) (by omega) ⟨by omega, ⟨by omega, by omega, by rw [ht]; omega, by omega⟩, by omega⟩
 · have hp := of_decide_eq_false hp
   have h1 := of_decide_eq_false h1
   obtain rfl : y = 0 := by omega
   rw [show (0 : Int).toNat = 0 from rfl, digN_zero] at h4
   rw [sizeN, if_neg (by omega)]
   congr 1; omega
def be : Nat -> Nat -> List Int
 | 0, _ => []
 | k + 1, x => be k (x / 256) ++ [((x % 256 : Nat) : Int)]
def formN (x : Nat) : List Int := if x <= 246 then [(x : Int)] else ((246 + digN x : Nat) : Int) :: be (digN x) x
theorem be_len : ∀ (k x : Nat), (be k x).length = k
 | 0, _ => rfl
 | k + 1, x => by simp [be, be_len k]
theorem be_top : ∀ (k x : Nat), be (k + 1) x = ((x / 256 ^ k % 256 : Nat) : Int) :: be k x
 | 0, x => by simp [be]
 | k + 1, x => by
   rw [be, be_top k (x / 256), be, List.cons_append]
   congr 3
   rw [Nat.div_div_eq_div_mul, Nat.pow_succ, Nat.mul_comm]
def zs8 (n : Nat) : List Value := List.replicate n (.int .u8 0)
def stA (d K x : Nat) : List Value := zs8 (d - K) ++ ints .u8 (be K x) ++ zs8 (8 - d)
theorem stA_step {d K x : Nat} (hK : K < d) (hd : d <= 8) : splice (stA d K x) (d - 1 - K) [.int .u8 ((x / 256 ^ K % 256 : Nat) : Int)] = stA d (K + 1) x := by
 have h1 : zs8 (d - K) = zs8 (d - 1 - K) ++ [.int .u8 0] := by
  rw [zs8, show d - K = (d - 1 - K) + 1 by omega, List.replicate_succ']; rfl
 have hl : (zs8 (d - 1 - K)).length = d - 1 - K := by simp [zs8]
 unfold stA splice
 rw [h1, be_top, show d - (K + 1) = d - 1 - K by omega]
 simp only [List.append_assoc]
 rw [List.set_append_right _ _ (by rw [hl]; omega), hl, Nat.sub_self]
 simp [ints]
theorem cs61 (xs : List Value) (n : Nat) (x : Int) (h : 0 <= x /\ x <= 18446744073709551615) (hn : n = xs.length) (hl : xs.length <= 100000000) (I : Mem) :
 CtS Try.prog (.v (fnv 61)) [.rsl 0 n, .v (.int .u64 x)] [⟨.row xs 1 5, none⟩] I (fun v H' _ => v = .rsl 0 (n + (formN x.toNat).length) /\ H' = [⟨.row (xs ++ ints .u8 (formN x.toNat)) 1 5, none⟩]) := by
 refine viaR (ctS_via (A := { loops := [(6, ⟨[(0, .keep), (1, .sh (.int .u64)), (5, .keep), (6, .keep), (7, .sh (.int .i64))], [(0, .keep), (1, .vec)], [], fun vals xss _ _ => match vals, xss with
  | [.int .u64 v1, .int .i64 v7], [ys] => ∃ K : Nat, K <= digN x.toNat /\ v7 = (digN x.toNat : Int) - 1 - K /\ v1 = ((x.toNat / 256 ^ K : Nat) : Int) /\ ys = stA (digN x.toNat) K x.toNat | _, _ => False, fun vals _ => match vals with | [_, .int .i64 v7] => (v7 + 1).toNat | _ => 0⟩)] }) Try.func61 rfl Try.call61 [0] rfl) (Ct Try.prog (fnv 76) #[.int .u64 x] I fun v a => ∃ b, v = .int .i64 b /\ Br (b == 1) (Wr .u8 x (fun c => xs.length = n * 1 /\ n + 1 <= 9223372036854775807 /\ (n + 1) * 1 <= 140737488355328 /\ SV.rsl 0 (n + 1) = .rsl 0 (n + (formN x.toNat).length) /\ [Ent.mk (.row (xs ++ [.int .u8 c]) 1 5) none] = [⟨.row (xs ++ List.map (Value.int .u8) (formN x.toNat)) 1 5, none⟩])) (Wr .i64 (b - 2) (fun c => (Rf (Ent.mk (.row xs 1 5) none) /\ Rf (none : Option Nat) /\ Rf (SV.rsl 0 n) /\ Rf (SV.v (.int .i64 b)) /\ Rf (SV.ptr 1 0) /\ ∃ K, K <= digN x.toNat /\ c = (digN x.toNat : Int) - 1 - (K : Int) /\ x = ((x.toNat / 256 ^ K : Nat) : Int) /\ [Value.int .u8 0, .int .u8 0, .int .u8 0, .int .u8 0, .int .u8 0, .int .u8 0, .int .u8 0, .int .u8 0] = stA (digN x.toNat) K x.toNat) /\ ∀ (d : Mem), Mem -> a.le d -> ∀ (e : List Value) (f g : Int), (∃ K, K <= digN x.toNat /\ g = (digN x.toNat : Int) - 1 - (K : Int) /\ f = ((x.toNat / 256 ^ K : Nat) : Int) /\ e = stA (digN x.toNat) K x.toNat) -> Br (decide (0 <= g)) (Wr .u8 f (fun i => 0 <= g /\ g < 8 /\ 0 + g.toNat * 1 + 1 <= e.length /\ (0 : Int) <= 8 /\ Wr .i64 (g - 1) fun j => Rf (Ent.mk (.row xs 1 5) none) /\ Rf (none : Option Nat) /\ Rf (SV.rsl 0 n) /\ Rf (SV.v (.int .i64 b)) /\ Rf (SV.ptr 1 0) /\ (∃ K, K <= digN x.toNat /\ j = (digN x.toNat : Int) - 1 - (K : Int) /\ f.fdiv 256 = ((x.toNat / 256 ^ K : Nat) : Int) /\ splice e (0 + g.toNat * 1) [.int .u8 i] = stA (digN x.toNat) K x.toNat) /\ Int.toNat (j + 1) < Int.toNat (g + 1))) (Wr .i64 (246 + b) (fun i => Wr .i64 (i - 1) fun j => Wr .u8 j fun k => Wr .i64 (b - 1) fun l => 0 <= l /\ l <= 8 /\ xs.length = n * 1 /\ n + 1 <= 9223372036854775807 /\ (n + 1) * 1 <= 140737488355328 /\ 0 + l.toNat * 1 <= e.length /\ (∀ (m : Value), Membership.mem (List.take (l.toNat * 1) e) m -> m.oneCell' = true) /\ List.length (xs ++ [.int .u8 k]) = (n + 1) * 1 /\ n + 1 + l.toNat <= 9223372036854775807 /\ (n + 1 + l.toNat) * 1 <= 140737488355328 /\ SV.rsl 0 (n + 1 + l.toNat) = .rsl 0 (n + (formN x.toNat).length) /\ [Ent.mk (.row (xs ++ [.int .u8 k] ++ List.take (l.toNat * 1) e) 1 5) none] = [⟨.row (xs ++ List.map (Value.int .u8) (formN x.toNat)) 1 5, none⟩]))))) (by kernel_rfl) ?_
 simp only [eq_self, true_and]
 have hX : x.toNat < 256 ^ 8 := by omega
 have hd8 : digN x.toNat <= 8 := digN_le hX;refine (ct76 x h I).mono fun v I1 _ hv => ⟨_, hv, Br.mk (fun h1 => ?_) (fun h1 => ?_)⟩
 · have h1 : (sizeN x.toNat : Int) = 1 := by simpa using h1
   have hle : x.toNat <= 246 := by
    rcases Nat.lt_or_ge 246 x.toNat with hgt | hle
    · rw [sizeN, if_neg (by omega), digN_pos (by omega)] at h1
      omega
    · exact hle
   have hf : formN x.toNat = [x] := by rw [formN, if_pos hle]; congr 1; omega
   rw [hf]
   exact ⟨x, IntWalk.u8_in x ⟨h.1, by omega⟩, by omega, by omega, by omega, rfl, rfl⟩
 · have hgt : 246 < x.toNat := by
    rcases Nat.lt_or_ge 246 x.toNat with hgt | hle
    · exact hgt
    · rw [sizeN, if_pos hle] at h1
      simp at h1
   have hs : sizeN x.toNat = 1 + digN x.toNat := by rw [sizeN, if_neg (by omega)]
   have hd1 : 1 <= digN x.toNat := by rw [digN_pos (by omega)]; omega
   have hf : formN x.toNat = ((246 + digN x.toNat : Nat) : Int) :: be (digN x.toNat) x.toNat := by rw [formN, if_neg (by omega)]
   rw [hs, hf];generalize hdd : digN x.toNat = d at hd8 hd1 ⊢
   refine wr_i64 (by omega) (by omega) ⟨⟨0, by omega, by omega, by simp; omega, ?_⟩, fun I2 G2 _ ys v1 v7 ⟨K, k1, k2, k3, k4⟩ => Br.mk (fun hge => ?_) (fun hlt => ?_)⟩
   · show List.replicate 8 (Value.int .u8 0) = _
     rw [stA, be];simp only [ints, List.map_nil, List.append_nil, zs8, List.replicate_append_replicate]
     congr 1; omega
   · have hge := of_decide_eq_true hge
     have hv7 : v7.toNat = d - 1 - K := by omega
     have hq : x.toNat / 256 ^ K / 256 = x.toNat / 256 ^ (K + 1) := by rw [Nat.div_div_eq_div_mul, Nat.pow_succ]
     have hfd : v1.fdiv 256 = v1 / 256 := Int.fdiv_eq_ediv_of_nonneg _ (by decide)
     refine ⟨((x.toNat / 256 ^ K % 256 : Nat) : Int), by rw [IntKind.wrap_u8, k3]; omega, hge, by omega, ?_, by omega, wr_i64 (by omega) (by omega) ⟨⟨K + 1, by omega, by omega, by rw [hfd, k3, <- hq]; omega, ?_⟩, by omega⟩⟩
     · rw [k4, stA]; simp [zs8, ints_len, be_len]; omega
     · rw [show 0 + v7.toNat * 1 = d - 1 - K by omega, k4]
       exact stA_step (by omega) hd8
   · have hlt := of_decide_eq_false hlt
     obtain rfl : K = d := by omega
     have hys : ys = ints .u8 (be K x.toNat) ++ zs8 (8 - K) := by rw [k4, stA]; simp [zs8]
     have ht : ys.take K = ints .u8 (be K x.toNat) := by rw [hys, List.take_left' (by rw [ints_len, be_len])]
     have hylen : ys.length = 8 := by rw [hys]; simp [zs8, ints_len, be_len]; omega
     refine wr_i64 (by omega) (by omega) (wr_i64 (by omega) (by omega) ⟨((246 + K : Nat) : Int), by rw [IntWalk.u8_in _ ⟨by omega, by omega⟩]; omega, wr_i64 (by omega) (by omega) ?_⟩)
     rw [show ((1 + K : Nat) : Int) - 1 = (K : Int) by omega, Int.toNat_natCast, show K * 1 = K from Nat.mul_one K, ht]
     refine ⟨by omega, by omega, by omega, by omega, by omega, by omega, fun v hv => ?_, by simp; omega, by omega, by omega, ?_, ?_⟩
     · simp only [ints, List.mem_map] at hv
       obtain ⟨z, _, rfl⟩ := hv;rfl
     · congr 1; simp [be_len]; omega
     · simp [ints]
def valN (ds : List Int) : Int := ds.foldl (fun x d => x * 256 + d) 0
theorem val_bd : ∀ (ds : List Int) (x : Int) (k : Nat), (∀ d ∈ ds, 0 <= d /\ d <= 255) -> 0 <= x /\ x < 256 ^ k -> 0 <= ds.foldl (fun x d => x * 256 + d) x /\ ds.foldl (fun x d => x * 256 + d) x < 256 ^ (k + ds.length)
 | [], x, k, _, hx => hx
 | d :: r, x, k, h, hx => by
   have hd := h d (by simp)
   have := val_bd r (x * 256 + d) (k + 1) (fun y hy => h y (by simp [hy])) (by rw [Int.pow_succ]; omega)
   rw [List.foldl_cons, List.length_cons, show k + (r.length + 1) = k + 1 + r.length by omega]
   exact this
theorem valN_bd (ds : List Int) (h : ∀ d ∈ ds, 0 <= d /\ d <= 255) : 0 <= valN ds /\ valN ds < 256 ^ ds.length := by
 have := val_bd ds 0 0 h (by simp)
 simpa [valN] using this
theorem valN_snoc (ds : List Int) (d : Int) : valN (ds ++ [d]) = valN ds * 256 + d := by simp [valN]
theorem take_succ' {α : Type} {l : List α} {j : Nat} {x : α} (h : l[j]? = some x) : l.take (j + 1) = l.take j ++ [x] := by
 rw [List.take_add_one, h]; rfl
theorem pow7 : ∀ l : Nat, l < 8 -> (256 : Int) ^ l <= 72057594037927936 := by decide
theorem or_low {y d : Int} (hy : 0 <= y) (hy2 : y < 72057594037927936) (hd : 0 <= d /\ d <= 255) : bitsV .or .u64 (y * 256) d = y * 256 + d := by
 have h1 : (BitVec.ofInt 64 (y * 256)).toNat = 2 ^ 8 * y.toNat := by rw [BitVec.toNat_ofInt]; omega
 have h2 : (BitVec.ofInt 64 d).toNat = d.toNat := by rw [BitVec.toNat_ofInt]; omega
 show IntKind.u64.wrap ((BitVec.ofInt 64 (y * 256) ||| BitVec.ofInt 64 d).toNat : Int) = _
 rw [BitVec.toNat_or, h1, h2, <- Nat.two_pow_add_eq_or_of_lt (by omega), IntWalk.u64_in _ ⟨by omega, by omega⟩]
 omega
def digs (bs : List Int) (at_ : Int) (b : Int) : List Int := (bs.drop (at_.toNat + 1)).take (b - 246).toNat
def readN (bs : List Int) (at_ : Int) : Int × Int × Int :=
 if at_ < 0 \/ (bs.length : Int) < at_ then (0, 0, 2)
 else match bs[at_.toNat]? with
  | none => (0, 0, 10)
  | some b => if b <= 246 then (b, 1, 0) else if b = 255 then (0, 0, 11) else
    if (bs.length : Int) - at_ - 1 < b - 246 then (0, 0, 10) else
    if (digs bs at_ b)[0]? = some 0 then (0, 0, 11) else
    if valN (digs bs at_ b) <= 246 then (0, 0, 11) else (valN (digs bs at_ b), b - 246 + 1, 0)
def T3 (p : Int × Int × Int) : Value := .tuple #[.int .u64 p.1, .int .i64 p.2.1, .int .i64 p.2.2]
theorem ct79 (bs : List Int) (hbs : ∀ b ∈ bs, 0 <= b /\ b <= 255) (a : Option Addr) (n c : Nat) (at_ : Int) (hat : -1000000 <= at_ /\ at_ <= 1000000000) (I : Mem) (h : SlM I a n 1 (ints .u8 bs)) (hl : n <= 1000000000) :
 Ct Try.prog (fnv 79) #[.slice a n c, .int .i64 at_] I (fun v _ => v = T3 (readN bs at_)) := by
 refine viaR (ct_via (A := { loops := [(15, ⟨[(0, .keep), (1, .keep), (7, .keep), (8, .sh (.int .u64)), (9, .sh (.int .i64)), (56, .keep), (57, .sh (.int .i64))], [], [], fun vals _ _ _ => match vals with | [.int .u64 v8, .int .i64 v9, .int .i64 i] => 0 <= i /\ i <= (bs[at_.toNat]?).getD 0 - 246 /\ v9 = 0 /\ v8 = valN ((digs bs at_ ((bs[at_.toNat]?).getD 0)).take i.toNat) /\ (0 < i -> (digs bs at_ ((bs[at_.toNat]?).getD 0))[0]? ≠ some 0) | _ => False, fun vals _ => match vals with | [_, _, .int .i64 i] => (9 - i).toNat | _ => 0⟩)] }) Try.func79 rfl Try.call79 rfl rfl) (Br (decide (at_ < 0)) (Value.tuple #[.int .u64 0, .int .i64 0, .int .i64 2] = .tuple #[.int .u64 (readN bs at_).1, .int .i64 (readN bs at_).2.1, .int .i64 (readN bs at_).2.2]) (Br (decide ((n : Int) < at_)) (Value.tuple #[.int .u64 0, .int .i64 0, .int .i64 2] = .tuple #[.int .u64 (readN bs at_).1, .int .i64 (readN bs at_).2.1, .int .i64 (readN bs at_).2.2]) (Br (at_ == (n : Int)) (Value.tuple #[.int .u64 0, .int .i64 0, .int .i64 10] = .tuple #[.int .u64 (readN bs at_).1, .int .i64 (readN bs at_).2.1, .int .i64 (readN bs at_).2.2]) (0 <= at_ /\ at_ < (n : Int) /\ a.isSome = true /\ ∃ b, atI I a (at_.toNat * 1 + 0) = some (.int .u8 b) /\ Br (decide (b <= 246)) (0 <= at_ /\ at_ < (n : Int) /\ a.isSome = true /\ ∃ d, atI I a (at_.toNat * 1 + 0) = some (.int .u8 d) /\ Wr .u64 d fun e => Value.tuple #[.int .u64 e, .int .i64 1, .int .i64 0] = .tuple #[.int .u64 (readN bs at_).1, .int .i64 (readN bs at_).2.1, .int .i64 (readN bs at_).2.2]) (0 <= at_ /\ at_ < (n : Int) /\ a.isSome = true /\ ∃ d, atI I a (at_.toNat * 1 + 0) = some (.int .u8 d) /\ Br (d == 255) (Value.tuple #[.int .u64 0, .int .i64 0, .int .i64 11] = .tuple #[.int .u64 (readN bs at_).1, .int .i64 (readN bs at_).2.1, .int .i64 (readN bs at_).2.2]) (0 <= at_ /\ at_ < (n : Int) /\ a.isSome = true /\ ∃ e, atI I a (at_.toNat * 1 + 0) = some (.int .u8 e) /\ Wr .i64 e fun f => Wr .i64 (f - 246) fun g => Wr .i64 ((n : Int) - at_) fun i => Wr .i64 (i - 1) fun j => Br (decide (j < g)) (Value.tuple #[.int .u64 0, .int .i64 0, .int .i64 10] = .tuple #[.int .u64 (readN bs at_).1, .int .i64 (readN bs at_).2.1, .int .i64 (readN bs at_).2.2]) ((Rf (SV.v (.slice a n c)) /\ Rf (SV.v (.int .i64 at_)) /\ Rf (SV.v (.int .i64 g)) /\ Rf (SV.v (.int .i64 g)) /\ (0 : Int) <= 0 /\ 0 <= bs[at_.toNat]?.getD (0 : Int) - 246 /\ (0 : Int) = 0 /\ (0 : Int) = 0 /\ ((0 : Int) < 0 -> (digs bs at_ (bs[at_.toNat]?.getD (0 : Int)))[0]? ≠ some 0)) /\ ∀ (k : Mem), Mem -> I.le k -> ∀ (l m o : Int), 0 <= o /\ o <= bs[at_.toNat]?.getD (0 : Int) - 246 /\ m = 0 /\ l = valN (List.take o.toNat (digs bs at_ (bs[at_.toNat]?.getD (0 : Int)))) /\ (0 < o -> (digs bs at_ (bs[at_.toNat]?.getD (0 : Int)))[0]? ≠ some 0) -> Br (decide (o < g)) (Wr .i64 (at_ + 1) (fun p => Wr .i64 (p + o) fun q => 0 <= q /\ q < (n : Int) /\ a.isSome = true /\ ∃ r, atI k a (q.toNat * 1 + 0) = some (.int .u8 r) /\ Br (o == 0) (Br (r == 0) (Value.tuple #[.int .u64 0, .int .i64 0, .int .i64 11] = .tuple #[.int .u64 (readN bs at_).1, .int .i64 (readN bs at_).2.1, .int .i64 (readN bs at_).2.2]) ((0 : Int) <= 8 /\ Wr .u64 (l * 256) fun s => Wr .u64 r fun t => Wr .i64 (o + 1) fun u => Rf (SV.v (.slice a n c)) /\ Rf (SV.v (.int .i64 at_)) /\ Rf (SV.v (.int .i64 g)) /\ Rf (SV.v (.int .i64 g)) /\ (0 <= u /\ u <= bs[at_.toNat]?.getD (0 : Int) - 246 /\ m = 0 /\ bitsV .or .u64 s t = valN (List.take u.toNat (digs bs at_ (bs[at_.toNat]?.getD (0 : Int)))) /\ (0 < u -> (digs bs at_ (bs[at_.toNat]?.getD (0 : Int)))[0]? ≠ some 0)) /\ Int.toNat (9 - u) < Int.toNat (9 - o))) ((0 : Int) <= 8 /\ Wr .u64 (l * 256) fun s => Wr .u64 r fun t => Wr .i64 (o + 1) fun u => Rf (SV.v (.slice a n c)) /\ Rf (SV.v (.int .i64 at_)) /\ Rf (SV.v (.int .i64 g)) /\ Rf (SV.v (.int .i64 g)) /\ (0 <= u /\ u <= bs[at_.toNat]?.getD (0 : Int) - 246 /\ m = 0 /\ bitsV .or .u64 s t = valN (List.take u.toNat (digs bs at_ (bs[at_.toNat]?.getD (0 : Int)))) /\ (0 < u -> (digs bs at_ (bs[at_.toNat]?.getD (0 : Int)))[0]? ≠ some 0)) /\ Int.toNat (9 - u) < Int.toNat (9 - o)))) (Br (m != 0) (Value.tuple #[.int .u64 0, .int .i64 0, .int .i64 11] = .tuple #[.int .u64 (readN bs at_).1, .int .i64 (readN bs at_).2.1, .int .i64 (readN bs at_).2.2]) (Br (decide (l <= 246)) (Value.tuple #[.int .u64 0, .int .i64 0, .int .i64 11] = .tuple #[.int .u64 (readN bs at_).1, .int .i64 (readN bs at_).2.1, .int .i64 (readN bs at_).2.2]) (Wr .i64 (g + 1) (fun p => Value.tuple #[.int .u64 l, .int .i64 p, .int .i64 0] = .tuple #[.int .u64 (readN bs at_).1, .int .i64 (readN bs at_).2.1, .int .i64 (readN bs at_).2.2]))))))))))) (by kernel_rfl) ?_
 simp only [eq_self, true_and];have hn := h.numLen;refine Br.mk (fun h0 => ?_) (fun h0 => Br.mk (fun h1 => ?_) (fun h1 => Br.mk (fun h2 => ?_) (fun h2 => ?_)))
 · have h0 := of_decide_eq_true h0
   rw [readN, if_pos (.inl h0)]
 · have h1 := of_decide_eq_true h1
   rw [readN, if_pos (.inr (by omega))]
 · have h2 : at_ = n := by simpa using h2
   rw [readN, if_neg (by omega), List.getElem?_eq_none (by omega)]
 have h0 := of_decide_eq_false h0;have h1 := of_decide_eq_false h1
 have h2 : at_ ≠ n := by simpa using h2
 obtain ⟨b, hb, hcell⟩ := h.intAt (i := at_) (by omega) (by omega)
 have hbr := hbs b (List.mem_of_getElem? hb)
 have hrd : readN bs at_ = if b <= 246 then (b, 1, 0) else if b = 255 then (0, 0, 11) else
  if (bs.length : Int) - at_ - 1 < b - 246 then (0, 0, 10) else
  if (digs bs at_ b)[0]? = some 0 then (0, 0, 11) else
  if valN (digs bs at_ b) <= 246 then (0, 0, 11) else (valN (digs bs at_ b), b - 246 + 1, 0) := by
  rw [readN, if_neg (by omega), hb]
 rw [hrd]
 have hsome := h.isSome (by omega)
 refine ⟨by omega, by omega, hsome, b, hcell, Br.mk (fun h3 => ?_) (fun h3 => ?_)⟩
 · have h3 := of_decide_eq_true h3
   refine ⟨by omega, by omega, hsome, b, hcell, b, IntWalk.u64_in b ⟨hbr.1, by omega⟩, ?_⟩
   rw [if_pos h3]
 have h3 := of_decide_eq_false h3;rw [if_neg h3]
 refine ⟨by omega, by omega, hsome, b, hcell, Br.mk (fun h4 => ?_) (fun h4 => ?_)⟩
 · have h4 : b = 255 := by simpa using h4
   rw [if_pos h4]
 have h4 : b ≠ 255 := by simpa using h4
 rw [if_neg h4]
 refine ⟨by omega, by omega, hsome, b, hcell, wr_i64 (by omega) (by omega) (wr_i64 (by omega) (by omega) (wr_i64 (by omega) (by omega) (wr_i64 (by omega) (by omega) (Br.mk (fun h5 => ?_) (fun h5 => ?_)))))⟩
 · have h5 := of_decide_eq_true h5
   rw [if_pos (by omega)]
 have h5 := of_decide_eq_false h5
 rw [if_neg (by omega)]
 simp only [hb, Option.getD_some]
 have hk8 : b - 246 <= 8 := by omega
 have hdl : (digs bs at_ b).length = (b - 246).toNat := by simp only [digs, List.length_take, List.length_drop]; omega
 have hdat : ∀ i : Nat, i < (b - 246).toNat -> (digs bs at_ b)[i]? = bs[at_.toNat + 1 + i]? := fun i hi => by
  rw [digs, List.getElem?_take, if_pos hi, List.getElem?_drop]
 have hdb : ∀ d ∈ digs bs at_ b, 0 <= d /\ d <= 255 := fun d hd => hbs d (List.mem_of_mem_drop (List.mem_of_mem_take hd))
 refine ⟨⟨by omega, by omega, fun h => by omega⟩, fun I1 G1 hI1 x e i ⟨k0, k1, k2, k3, k4⟩ => Br.mk (fun hlt => ?_) (fun hge => ?_)⟩
 · have hlt := of_decide_eq_true hlt
   have hS := h.mono hI1
   obtain ⟨d, hd, hdc⟩ := hS.intAt (i := at_ + 1 + i) (by omega) (by omega)
   have hdr := hbs d (List.mem_of_getElem? hd)
   have hdi : (digs bs at_ b)[i.toNat]? = some d := by rw [hdat _ (by omega), <- hd]; congr 1; omega
   have hxb := valN_bd ((digs bs at_ b).take i.toNat) fun y hy => hdb y (List.mem_of_mem_take hy)
   have hxl : ((digs bs at_ b).take i.toNat).length <= 7 := by rw [List.length_take]; omega
   have hx7 : x < 72057594037927936 := by
    rw [k3];refine Int.lt_of_lt_of_le hxb.2 ?_
    exact pow7 _ (by omega)
   have hx0 : 0 <= x := by rw [k3]; exact hxb.1
   have hstep : bitsV .or .u64 (x * 256) d = valN ((digs bs at_ b).take (i + 1).toNat) := by
    rw [or_low hx0 hx7 hdr, show (i + 1).toNat = i.toNat + 1 by omega, take_succ' hdi, valN_snoc, k3]
   refine wr_i64 (by omega) (by omega) (wr_i64 (by omega) (by omega) ⟨by omega, by omega, hsome, d, hdc, Br.mk (fun h6 => Br.mk (fun h7 => ?_) (fun h7 => ?_)) (fun h6 => ?_)⟩)
   · have h6 : i = 0 := by simpa using h6
     have h7 : d = 0 := by simpa using h7
     rw [if_pos (by rw [<- h7, <- hdi, h6]; rfl)]
   · have h6 : i = 0 := by simpa using h6
     have h7 : d ≠ 0 := by simpa using h7
     refine ⟨by omega, _, IntWalk.u64_in _ ⟨by omega, by omega⟩, _, IntWalk.u64_in _ ⟨hdr.1, by omega⟩, wr_i64 (by omega) (by omega) ⟨⟨by omega, by omega, k2, hstep, fun _ h8 => h7 ?_⟩, by omega⟩⟩
     rw [h6] at hdi
     rw [show (0 : Int).toNat = 0 from rfl, h8] at hdi
     exact (Option.some.inj hdi).symm
   · have h6 : i ≠ 0 := by simpa using h6
     exact ⟨by omega, _, IntWalk.u64_in _ ⟨by omega, by omega⟩, _, IntWalk.u64_in _ ⟨hdr.1, by omega⟩, wr_i64 (by omega) (by omega) ⟨⟨by omega, by omega, k2, hstep, fun _ => k4 (by omega)⟩, by omega⟩⟩
 · have hge := of_decide_eq_false hge
   have hix : x = valN (digs bs at_ b) := by rw [k3, List.take_of_length_le (by rw [hdl]; omega)]
   refine Br.f (by simp [k2]) ?_
   rw [if_neg (k4 (by omega))]
   refine Br.mk (fun h8 => ?_) (fun h8 => wr_i64 (by omega) (by omega) ?_)
   · have h8 := of_decide_eq_true h8
     rw [if_pos (by omega)]
   · have h8 := of_decide_eq_false h8
     rw [if_neg (by omega), hix]
def lastN (bs : List Int) : Int × Int × Int :=
 if (readN bs 0).2.2 ≠ 0 then (0, 0, (readN bs 0).2.2) else if (readN bs 0).2.1 < bs.length then (0, 0, 11) else ((readN bs 0).1, (readN bs 0).2.1, 0)
theorem ct68 (bs : List Int) (hbs : ∀ b ∈ bs, 0 <= b /\ b <= 255) (a : Option Addr) (n c : Nat) (I : Mem) (h : SlM I a n 1 (ints .u8 bs)) (hl : n <= 1000000000) :
 Ct Try.prog (fnv 68) #[.slice a n c] I (fun v _ => v = T3 (lastN bs)) := by
 refine viaR (ct_via (A := {}) Try.func68 rfl Try.call68 rfl rfl) (Ct Try.prog (fnv 79) #[.slice a n c, .int .i64 0] I fun v b => ∃ d e f, v = .tuple #[.int .u64 d, .int .i64 e, .int .i64 f] /\ Br (f != 0) (Value.tuple #[.int .u64 0, .int .i64 0, .int .i64 f] = .tuple #[.int .u64 (lastN bs).1, .int .i64 (lastN bs).2.1, .int .i64 (lastN bs).2.2]) (Br (decide (e < (n : Int))) (Value.tuple #[.int .u64 0, .int .i64 0, .int .i64 11] = .tuple #[.int .u64 (lastN bs).1, .int .i64 (lastN bs).2.1, .int .i64 (lastN bs).2.2]) (Value.tuple #[.int .u64 d, .int .i64 e, .int .i64 0] = .tuple #[.int .u64 (lastN bs).1, .int .i64 (lastN bs).2.1, .int .i64 (lastN bs).2.2]))) (by kernel_rfl) ?_
 have hn := h.numLen
 refine (ct79 bs hbs a n c 0 (by omega) I h hl).mono fun v I1 _ hv => ⟨_, _, _, hv, Br.mk (fun h1 => ?_) (fun h1 => Br.mk (fun h2 => ?_) (fun h2 => ?_))⟩
 · have h1 : (readN bs 0).2.2 ≠ 0 := by simpa using h1
   rw [lastN, if_pos h1]
 · have h1 : ¬((readN bs 0).2.2 ≠ 0) := by simpa using h1
   have h2 := of_decide_eq_true h2
   rw [lastN, if_neg h1, if_pos (by omega)]
 · have h1 : ¬((readN bs 0).2.2 ≠ 0) := by simpa using h1
   have h2 := of_decide_eq_false h2
   rw [lastN, if_neg h1, if_neg (by omega)]
theorem readN_nonneg (bs : List Int) (hbs : ∀ b ∈ bs, 0 <= b /\ b <= 255) (at_ : Int) : 0 <= (readN bs at_).1 := by
 unfold readN;split
 · decide
 · split
   · decide
   · rename_i b hb
     have := hbs b (List.mem_of_getElem? hb);split
     · exact this.1
     · split
       · decide
       · split
         · decide
         · split
           · decide
           · split
             · decide
             · exact (valN_bd _ fun d hd => hbs d (List.mem_of_mem_drop (List.mem_of_mem_take hd))).1
def intN (bs : List Int) (at_ least most : Int) : Int × Int × Int :=
 if (readN bs at_).2.2 ≠ 0 then (0, 0, (readN bs at_).2.2) else if most < 0 \/ most < (readN bs at_).1 \/ (0 < least /\ (readN bs at_).1 < least) then (0, 0, 12) else ((readN bs at_).1, (readN bs at_).2.1, 0)
def T3i (p : Int × Int × Int) : Value := .tuple #[.int .i64 p.1, .int .i64 p.2.1, .int .i64 p.2.2]
theorem ct78 (bs : List Int) (hbs : ∀ b ∈ bs, 0 <= b /\ b <= 255) (a : Option Addr) (n c : Nat) (at_ least most : Int) (hat : -1000000 <= at_ /\ at_ <= 1000000000) (hm : -9223372036854775808 <= most /\ most <= 9223372036854775807) (hle : -9223372036854775808 <= least /\ least <= 9223372036854775807)
 (I : Mem) (h : SlM I a n 1 (ints .u8 bs)) (hl : n <= 1000000000) :
 Ct Try.prog (fnv 78) #[.slice a n c, .int .i64 at_, .int .i64 least, .int .i64 most] I (fun v _ => v = T3i (intN bs at_ least most)) := by
 refine viaR (ct_via (A := {}) Try.func78 rfl Try.call78 rfl rfl) (Ct Try.prog (fnv 79) #[.slice a n c, .int .i64 at_] I fun v b => ∃ d e f, v = .tuple #[.int .u64 d, .int .i64 e, .int .i64 f] /\ Br (f != 0) (Value.tuple #[.int .i64 0, .int .i64 0, .int .i64 f] = .tuple #[.int .i64 (intN bs at_ least most).1, .int .i64 (intN bs at_ least most).2.1, .int .i64 (intN bs at_ least most).2.2]) (Br (decide (most < 0)) (Value.tuple #[.int .i64 0, .int .i64 0, .int .i64 12] = .tuple #[.int .i64 (intN bs at_ least most).1, .int .i64 (intN bs at_ least most).2.1, .int .i64 (intN bs at_ least most).2.2]) (Wr .u64 most (fun g => Br (decide (g < d)) (Value.tuple #[.int .i64 0, .int .i64 0, .int .i64 12] = .tuple #[.int .i64 (intN bs at_ least most).1, .int .i64 (intN bs at_ least most).2.1, .int .i64 (intN bs at_ least most).2.2]) (Br (decide (0 < least)) (Wr .u64 least (fun i => Br (decide (d < i)) (Value.tuple #[.int .i64 0, .int .i64 0, .int .i64 12] = .tuple #[.int .i64 (intN bs at_ least most).1, .int .i64 (intN bs at_ least most).2.1, .int .i64 (intN bs at_ least most).2.2]) (Wr .i64 d (fun j => Value.tuple #[.int .i64 j, .int .i64 e, .int .i64 0] = .tuple #[.int .i64 (intN bs at_ least most).1, .int .i64 (intN bs at_ least most).2.1, .int .i64 (intN bs at_ least most).2.2])))) (Wr .i64 d (fun i => Value.tuple #[.int .i64 i, .int .i64 e, .int .i64 0] = .tuple #[.int .i64 (intN bs at_ least most).1, .int .i64 (intN bs at_ least most).2.1, .int .i64 (intN bs at_ least most).2.2]))))))) (by kernel_rfl) ?_
 have wu : ∀ {n : Int} {K : Int -> Prop}, 0 <= n -> n <= 18446744073709551615 -> K n -> Wr .u64 n K := fun h0 h1 hk => ⟨_, IntWalk.u64_in _ ⟨h0, h1⟩, hk⟩;refine (ct79 bs hbs a n c at_ hat I h hl).mono fun v I1 _ hv => ⟨_, _, _, hv, Br.mk (fun h1 => ?_) (fun h1 => Br.mk (fun h2 => ?_) (fun h2 => ?_))⟩
 · have h1 : (readN bs at_).2.2 ≠ 0 := by simpa using h1
   rw [intN, if_pos h1]
 · have h1 : ¬((readN bs at_).2.2 ≠ 0) := by simpa using h1
   have h2 := of_decide_eq_true h2;rw [intN, if_neg h1, if_pos (.inl h2)]
 have h1 : ¬((readN bs at_).2.2 ≠ 0) := by simpa using h1
 have h2 := of_decide_eq_false h2;have hx := readN_nonneg bs hbs at_
 refine wu (by omega) (by omega) (Br.mk (fun h3 => ?_) (fun h3 => Br.mk (fun h4 => ?_) (fun h4 => ?_)))
 · have h3 := of_decide_eq_true h3
   rw [intN, if_neg h1, if_pos (.inr (.inl h3))]
 · have h3 := of_decide_eq_false h3
   have h4 := of_decide_eq_true h4
   refine wu (by omega) (by omega) (Br.mk (fun h5 => ?_) (fun h5 => ?_))
   · have h5 := of_decide_eq_true h5
     rw [intN, if_neg h1, if_pos (.inr (.inr ⟨h4, h5⟩))]
   · have h5 := of_decide_eq_false h5
     refine wr_i64 (by omega) (by omega) ?_
     rw [intN, if_neg h1, if_neg (by omega)]
 · have h3 := of_decide_eq_false h3
   have h4 := of_decide_eq_false h4
   refine wr_i64 (by omega) (by omega) ?_
   rw [intN, if_neg h1, if_neg (by omega)]
theorem valN_be : ∀ k x : Nat, valN (be k x) = ((x % 256 ^ k : Nat) : Int)
 | 0, x => by simp [be, valN, Nat.mod_one]
 | k + 1, x => by
   rw [be, valN_snoc, valN_be k (x / 256)]
   have : x % 256 ^ (k + 1) = x % 256 + 256 * (x / 256 % 256 ^ k) := by rw [Nat.pow_succ, Nat.mul_comm, Nat.mod_mul]
   omega
theorem val_from : ∀ (ds : List Int) (x : Int), ds.foldl (fun x d => x * 256 + d) x = x * 256 ^ ds.length + valN ds
 | [], x => by simp [valN]
 | d :: r, x => by
   have h1 := val_from r (x * 256 + d);have h2 := val_from r d;rw [List.foldl_cons, h1]
   have : valN (d :: r) = d * 256 ^ r.length + valN r := by
    have : valN (d :: r) = r.foldl (fun x d => x * 256 + d) (0 * 256 + d) := rfl;rw [this, Int.zero_mul, Int.zero_add, h2]
   rw [this, List.length_cons, Int.pow_succ, Int.add_mul, Int.mul_assoc, Int.mul_comm 256];omega
theorem valN_cons (d : Int) (r : List Int) : valN (d :: r) = d * 256 ^ r.length + valN r := by
 have : valN (d :: r) = r.foldl (fun x d => x * 256 + d) (0 * 256 + d) := rfl;rw [this, Int.zero_mul, Int.zero_add, val_from]
theorem be_valN : ∀ (k : Nat) (ds : List Int), ds.length = k -> (∀ d ∈ ds, 0 <= d /\ d <= 255) -> be k (valN ds).toNat = ds
 | 0, ds, h, _ => by
   have : ds = [] := List.eq_nil_of_length_eq_zero h
   subst this; rfl
 | k + 1, ds, h, hd => by
   have hne : ds ≠ [] := by intro e; subst e; simp at h
   have e := List.dropLast_concat_getLast hne
   have hl : ds.dropLast.length = k := by simp; omega
   have hb : ∀ d ∈ ds.dropLast, 0 <= d /\ d <= 255 := fun d hx => hd d (List.dropLast_subset _ hx);have hd' := hd _ (List.getLast_mem hne);have h0 := (valN_bd _ hb).1;have ih := be_valN k ds.dropLast hl hb;generalize ds.getLast hne = d at e hd';generalize ds.dropLast = r at *;subst e;rw [valN_snoc, be]
   have e1 : (valN r * 256 + d).toNat / 256 = (valN r).toNat := by omega
   have e2 : (((valN r * 256 + d).toNat % 256 : Nat) : Int) = d := by omega
   rw [e1, e2, ih]
theorem digN_bd : ∀ {x : Nat}, 0 < x -> 256 ^ (digN x - 1) <= x /\ x < 256 ^ digN x := by
 intro x
 induction x using Nat.strongRecOn with
 | ind x ih =>
   intro h;rw [digN_pos h]
   by_cases h0 : x / 256 = 0
   · rw [h0, digN_zero]; omega
   · have := ih (x / 256) (by omega) (by omega)
     have hp : digN (x / 256) = digN (x / 256) - 1 + 1 := by rw [digN_pos (by omega)]; omega
     generalize digN (x / 256) = k at this hp ⊢
     cases k with
     | zero => omega
     | succ k =>
       simp only [Nat.add_sub_cancel] at this
       rw [show 1 + (k + 1) - 1 = k + 1 by omega, show 1 + (k + 1) = (k + 1) + 1 by omega, Nat.pow_succ 256 (k + 1), Nat.pow_succ 256 k] at *
       omega
theorem digN_eq {k x : Nat} (h1 : 256 ^ k <= x) (h2 : x < 256 ^ (k + 1)) : digN x = k + 1 := by
 have hx : 0 < x := Nat.lt_of_lt_of_le (Nat.pow_pos (by omega)) h1
 have := digN_bd hx
 have a : digN x - 1 < k + 1 := (Nat.pow_lt_pow_iff_right (a := 256) (by omega)).1 (Nat.lt_of_le_of_lt this.1 h2)
 have b : k < digN x := (Nat.pow_lt_pow_iff_right (a := 256) (by omega)).1 (Nat.lt_of_le_of_lt h1 this.2)
 omega
theorem formN_len (x : Nat) : (formN x).length = sizeN x := by
 unfold formN sizeN;split
 · rfl
 · simp [be_len]; omega
theorem formN_bytes {x : Nat} (h : x < 256 ^ 8) : ∀ d ∈ formN x, 0 <= d /\ d <= 255 := by
 have hb : ∀ k x, ∀ d ∈ be k x, 0 <= d /\ d <= 255 := fun k => by
  induction k with
  | zero => intro x d hd; simp [be] at hd
  | succ k ih =>
    intro x d hd;rw [be] at hd
    rcases List.mem_append.1 hd with hd | hd
    · exact ih _ d hd
    · cases List.mem_singleton.1 hd
      omega
 have hd8 : digN x <= 8 := digN_le h;unfold formN;split
 · intro d hd; cases List.mem_singleton.1 hd; omega
 · intro d hd
   rcases List.mem_cons.1 hd with rfl | hd
   · omega
   · exact hb _ _ d hd
theorem readN_form (pre post : List Int) (x : Nat) (h : x < 256 ^ 8) : readN (pre ++ (formN x ++ post)) pre.length = ((x : Int), ((formN x).length : Int), 0) := by
 have hlen : (pre ++ (formN x ++ post)).length = pre.length + ((formN x).length + post.length) := by simp
 have hd8 : digN x <= 8 := digN_le h
 have hat : (pre ++ (formN x ++ post))[pre.length]? = (formN x ++ post)[0]? := by rw [List.getElem?_append_right (by omega), Nat.sub_self]
 unfold readN
 rw [if_neg (by omega), Int.toNat_natCast, hat]
 by_cases hx : x <= 246
 · have : formN x = [(x : Int)] := by rw [formN, if_pos hx]
   rw [this]
   simp only [List.cons_append, List.nil_append, List.getElem?_cons_zero, if_pos (show (x : Int) <= 246 by omega)]
   rfl
 · have hf : formN x = ((246 + digN x : Nat) : Int) :: be (digN x) x := by rw [formN, if_neg hx]
   have hbd := digN_bd (x := x) (by omega)
   have hdp : 1 <= digN x := by rw [digN_pos (by omega)]; omega
   have hl2 := hlen;rw [hf] at hl2;simp only [List.length_cons, be_len] at hl2;rw [hf];simp only [List.cons_append, List.getElem?_cons_zero]
   have hds : digs (pre ++ ((246 + digN x : Nat) : Int) :: (be (digN x) x ++ post)) pre.length ((246 + digN x : Nat) : Int) = be (digN x) x := by
    unfold digs
    rw [Int.toNat_natCast, show (((246 + digN x : Nat) : Int) - 246).toNat = digN x by omega, List.drop_append, List.drop_eq_nil_of_le (by omega), List.nil_append, show pre.length + 1 - pre.length = 1 by omega]
    rw [show (((246 + digN x : Nat) : Int) :: (be (digN x) x ++ post)).drop 1 = be (digN x) x ++ post from rfl, List.take_left' (be_len _ _)]
   rw [hds, if_neg (by omega), if_neg (by omega), if_neg (by simp [be_len]; omega)]
   have hv : valN (be (digN x) x) = (x : Int) := by rw [valN_be, Nat.mod_eq_of_lt hbd.2]
   have h0 : (be (digN x) x)[0]? ≠ some 0 := by
    obtain ⟨k, hk⟩ : ∃ k, digN x = k + 1 := ⟨digN x - 1, by omega⟩
    rw [hk] at hbd ⊢;simp only [Nat.add_sub_cancel] at hbd;rw [be_top, List.getElem?_cons_zero];intro e
    have hp : 0 < 256 ^ k := Nat.pow_pos (by omega)
    have q1 : 1 <= x / 256 ^ k := (Nat.le_div_iff_mul_le hp).2 (by omega)
    have q2 : x / 256 ^ k < 256 := (Nat.div_lt_iff_lt_mul hp).2 (by rw [Nat.mul_comm, <- Nat.pow_succ]; exact hbd.2)
    rw [Nat.mod_eq_of_lt q2] at e
    injection e with e
    omega
   rw [if_neg h0, hv, if_neg (by omega)]
   simp [be_len]; omega
theorem readN_back {bs : List Int} (hbs : ∀ b ∈ bs, 0 <= b /\ b <= 255) {at_ x n : Int} (h : readN bs at_ = (x, n, 0)) :
 0 <= at_ /\ at_ <= bs.length /\ 0 <= x /\ x.toNat < 256 ^ 8 /\ n = (formN x.toNat).length /\ bs.drop at_.toNat = formN x.toNat ++ bs.drop (at_ + n).toNat /\ at_ + n <= bs.length := by
 unfold readN at h
 split at h
 · cases h
 rename_i hr
 have h0 : 0 <= at_ := by omega
 have h1 : at_ <= bs.length := by omega
 split at h
 · cases h
 rename_i b hb;have hb' := hbs b (List.mem_of_getElem? hb);have hlt := (List.getElem?_eq_some_iff.1 hb).1
 have hcons : bs.drop at_.toNat = b :: bs.drop (at_.toNat + 1) := by
  rw [List.drop_eq_getElem_cons hlt, (List.getElem?_eq_some_iff.1 hb).2]
 split at h
 · injection h with e1 e2
   injection e2 with e2 e3
   subst e1; subst e2
   have hf : formN b.toNat = [b] := by rw [formN, if_pos (by omega)]; congr 1; omega
   rw [hf]
   refine ⟨h0, h1, hb'.1, by omega, rfl, ?_, by omega⟩
   rw [hcons, show (at_ + 1).toNat = at_.toNat + 1 by omega]; rfl
 split at h
 · cases h
 split at h
 · cases h
 split at h
 · cases h
 split at h
 · cases h
 rename_i c1 c2 c3 c4 c5
 injection h with e1 e2
 injection e2 with e2 e3
 have hdb : ∀ d ∈ digs bs at_ b, 0 <= d /\ d <= 255 := fun d hd => hbs d (List.mem_of_mem_drop (List.mem_of_mem_take hd))
 have hdl : (digs bs at_ b).length = (b - 246).toNat := by unfold digs; simp; omega
 have hbd := valN_bd _ hdb
 have happ : bs.drop (at_.toNat + 1) = digs bs at_ b ++ bs.drop (at_ + n).toNat := by
  rw [show (at_ + n).toNat = at_.toNat + 1 + (b - 246).toNat by omega, digs, <- List.drop_drop (i := (b - 246).toNat), List.take_append_drop]
 obtain ⟨k, hk⟩ : ∃ k, (b - 246).toNat = k + 1 := ⟨(b - 246).toNat - 1, by omega⟩
 have hk8 : k < 8 := by omega
 rw [hk] at hdl;generalize digs bs at_ b = ds at *;rw [hdl] at hbd
 have hdig : digN x.toNat = k + 1 := by
  cases ds with
  | nil => simp at hdl
  | cons d r =>
    have hd0 := hdb d (by simp)
    have hr : r.length = k := by simpa using hdl
    have : d ≠ 0 := fun e => c4 (by rw [e]; rfl)
    have hv := valN_cons d r
    have hr0 := (valN_bd r fun y hy => hdb y (by simp [hy])).1
    rw [hr] at hv
    have hp : (0 : Int) < 256 ^ k := Int.pow_pos (by omega)
    have : (256 : Int) ^ k <= d * 256 ^ k := by
     have : 1 * (256 : Int) ^ k <= d * 256 ^ k := Int.mul_le_mul_of_nonneg_right (by omega) (by omega)
     omega
    refine digN_eq ?_ ?_
    · have : ((256 ^ k : Nat) : Int) = (256 : Int) ^ k := by simp
      omega
    · have : ((256 ^ (k + 1) : Nat) : Int) = (256 : Int) ^ (k + 1) := by simp
      omega
 have hx8 : x.toNat < 256 ^ 8 := by
  have h8 : 256 ^ (k + 1) <= 256 ^ 8 := Nat.pow_le_pow_right (by omega) (by omega)
  have : ((256 ^ (k + 1) : Nat) : Int) = (256 : Int) ^ (k + 1) := by simp
  omega
 have hf : formN x.toNat = b :: ds := by
  rw [formN, if_neg (by omega), hdig]
  have := be_valN (k + 1) ds hdl hdb;rw [<- e1, this]
  congr 1; omega
 refine ⟨h0, h1, by omega, hx8, by rw [hf]; simp; omega, ?_, by omega⟩
 rw [hf, hcons, happ]; rfl
def okFld (f : Int × List Int) : Prop := (-9223372036854775808 <= f.1 /\ f.1 <= 9223372036854775807) /\ ∀ z ∈ f.2, 0 <= z /\ z <= 255
def FR (I : Mem) : List Value -> List (Int × List Int) -> Prop
 | [], [] => True
 | x :: y :: xs, f :: l => (okFld f /\ x = .int .i64 f.1 /\ BySl I y f.2) /\ FR I xs l
 | _, _ => False
theorem FR.nil {I : Mem} : FR I [] [] := trivial
theorem FR.cons {I : Mem} {x y : Value} {xs : List Value} {f : Int × List Int} {l : List (Int × List Int)} (h : okFld f /\ x = .int .i64 f.1 /\ BySl I y f.2) (h' : FR I xs l) : FR I (x :: y :: xs) (f :: l) := ⟨h, h'⟩
theorem FR.cases {I : Mem} : ∀ {xs : List Value} {l : List (Int × List Int)}, FR I xs l -> (xs = [] /\ l = []) \/ ∃ x y xs' f l', xs = x :: y :: xs' /\ l = f :: l' /\ (okFld f /\ x = .int .i64 f.1 /\ BySl I y f.2) /\ FR I xs' l'
 | [], [], _ => .inl ⟨rfl, rfl⟩
 | [], _ :: _, h => h.elim
 | [_], [], h => h.elim
 | [_], _ :: _, h => h.elim
 | _ :: _ :: _, [], h => h.elim
 | x :: y :: xs, f :: l, h => .inr ⟨x, y, xs, f, l, rfl, rfl, h.1, h.2⟩
theorem FR.mono {I J : Mem} (hle : I.le J) : ∀ {l : List (Int × List Int)} {xs : List Value}, FR I xs l -> FR J xs l := by
 intro l
 induction l with
 | nil =>
   intro xs h
   rcases h.cases with ⟨rfl, _⟩ | ⟨_, _, _, _, _, _, h, _⟩
   · trivial
   · cases h
 | cons f l ih =>
   intro xs h
   rcases h.cases with ⟨_, h⟩ | ⟨x, y, xs', f', l', rfl, h2, h3, h4⟩
   · cases h
   · cases h2
     exact ⟨⟨h3.1, h3.2.1, h3.2.2.mono hle⟩, ih h4⟩
theorem FR.len {I : Mem} : ∀ {l : List (Int × List Int)} {xs : List Value}, FR I xs l -> xs.length = l.length * 2 := by
 intro l
 induction l with
 | nil =>
   intro xs h
   rcases h.cases with ⟨rfl, _⟩ | ⟨_, _, _, _, _, _, h, _⟩
   · rfl
   · cases h
 | cons f l ih =>
   intro xs h
   rcases h.cases with ⟨_, h⟩ | ⟨x, y, xs', f', l', rfl, h2, h3, h4⟩
   · cases h
   · cases h2
     simp [ih h4]; omega
theorem FR.app {I : Mem} {ys : List Value} {m : List (Int × List Int)} (h' : FR I ys m) : ∀ {l : List (Int × List Int)} {xs : List Value}, FR I xs l -> FR I (xs ++ ys) (l ++ m) := by
 intro l
 induction l with
 | nil =>
   intro xs h
   rcases h.cases with ⟨rfl, _⟩ | ⟨_, _, _, _, _, _, h, _⟩
   · exact h'
   · cases h
 | cons f l ih =>
   intro xs h
   rcases h.cases with ⟨_, h⟩ | ⟨x, y, xs', f', l', rfl, h2, h3, h4⟩
   · cases h
   · cases h2
     exact ⟨h3, ih h4⟩
theorem FR.snoc {I : Mem} {xs : List Value} {l : List (Int × List Int)} {x y : Value} {f : Int × List Int} (h : FR I xs l) (h' : okFld f /\ x = .int .i64 f.1 /\ BySl I y f.2) : FR I (xs ++ [x, y]) (l ++ [f]) :=
 FR.app (ys := [x, y]) (m := [f]) (FR.cons h' FR.nil) h
theorem FR.get {I : Mem} : ∀ {l : List (Int × List Int)} {xs : List Value}, FR I xs l -> ∀ {j : Nat} {f : Int × List Int}, l[j]? = some f -> okFld f /\ xs[j * 2 + 0]? = some (.int .i64 f.1) /\ ∃ y, xs[j * 2 + 1]? = some y /\ BySl I y f.2 := by
 intro l
 induction l with
 | nil => intro xs h j f hj; simp at hj
 | cons f l ih =>
   intro xs h j g hj
   rcases h.cases with ⟨_, h⟩ | ⟨x, y, xs', f', l', rfl, h2, h3, h4⟩
   · cases h
   · cases h2
     cases j with
     | zero => simp at hj; subst hj; exact ⟨h3.1, by simp [h3.2.1], y, by simp, h3.2.2⟩
     | succ j =>
       have := ih h4 (j := j) (f := g) (by simpa using hj)
       rw [show (j + 1) * 2 + 0 = (j * 2 + 0) + 2 by omega, show (j + 1) * 2 + 1 = (j * 2 + 1) + 2 by omega]
       simpa using this
theorem FR.ok {I : Mem} {xs : List Value} {l : List (Int × List Int)} (h : FR I xs l) : ∀ f ∈ l, okFld f := fun f hf => by
 obtain ⟨j, hj, rfl⟩ := List.mem_iff_getElem.1 hf;exact (h.get (List.getElem?_eq_getElem hj)).1
theorem FR.take {I : Mem} : ∀ (k : Nat) {l : List (Int × List Int)} {xs : List Value}, FR I xs l -> FR I (xs.take (k * 2)) (l.take k) := by
 intro k
 induction k with
 | zero => intro l xs h; simp [FR]
 | succ k ih =>
   intro l xs h
   rcases h.cases with ⟨rfl, rfl⟩ | ⟨x, y, xs', f', l', rfl, rfl, h3, h4⟩
   · simp [FR]
   · rw [show (k + 1) * 2 = k * 2 + 1 + 1 by omega]
     exact ⟨h3, ih h4⟩
def FldM (I : Mem) (a : Option Addr) (n : Nat) (l : List (Int × List Int)) : Prop := ∃ xs, SlM I a n 2 xs /\ FR I xs l
theorem FldM.mono {I J : Mem} {a : Option Addr} {n : Nat} {l : List (Int × List Int)} (h : FldM I a n l) (hle : I.le J) : FldM J a n l := by
 obtain ⟨xs, h1, h2⟩ := h;exact ⟨xs, h1.mono hle, h2.mono hle⟩
theorem FldM.len {I : Mem} {a : Option Addr} {n : Nat} {l : List (Int × List Int)} (h : FldM I a n l) : l.length = n := by
 obtain ⟨xs, h1, h2⟩ := h;have := h1.len;have := h2.len;omega
theorem FldM.max {I : Mem} {a : Option Addr} {n : Nat} {l : List (Int × List Int)} (h : FldM I a n l) : n <= maxLen := by
 obtain ⟨xs, h1, h2⟩ := h;exact h1.max
theorem FldM.ok {I : Mem} {a : Option Addr} {n : Nat} {l : List (Int × List Int)} (h : FldM I a n l) : ∀ f ∈ l, okFld f := by
 obtain ⟨xs, h1, h2⟩ := h;exact h2.ok
theorem FldM.isSome {I : Mem} {a : Option Addr} {n : Nat} {l : List (Int × List Int)} (h : FldM I a n l) (hn : 0 < n) : a.isSome = true := by
 obtain ⟨xs, h1, h2⟩ := h;exact h1.isSome hn
theorem FldM.nil {I : Mem} {a : Option Addr} {n : Nat} {l : List (Int × List Int)} (h : FldM I a n l) (hn : a = none) : n = 0 := by
 obtain ⟨xs, h1, h2⟩ := h;exact h1.nil hn
theorem fldM_nil (I : Mem) : FldM I none 0 [] := ⟨[], sl_nil I 2, trivial⟩
theorem FldM.at_ {I : Mem} {a : Option Addr} {n : Nat} {l : List (Int × List Int)} (h : FldM I a n l) {i : Int} (h0 : 0 <= i) (h1 : i < n) :
 ∃ f b m c, l[i.toNat]? = some f /\ okFld f /\ atI I a (i.toNat * 2 + 0) = some (.int .i64 f.1) /\ atI I a (i.toNat * 2 + 1) = some (.slice b m c) /\ SlM I b m 1 (ints .u8 f.2) /\ m <= c /\ c <= maxLen := by
 have hl := h.len;obtain ⟨xs, hs, hf⟩ := h
 have hg : l[i.toNat]? = some l[i.toNat] := List.getElem?_eq_getElem (by omega)
 obtain ⟨g1, g2, y, g3, b, m, c, rfl, g4, g5, g6⟩ := hf.get hg;exact ⟨_, b, m, c, hg, g1, hs.at_ _ _ g2, hs.at_ _ _ g3, g4, g5, g6⟩
theorem fldM_row {I : Mem} {a : Option Addr} {cp : Nat} {xs : List Value} {l : List (Int × List Int)} (h : RowM I a cp 2 xs) (hf : FR I xs l) : FldM I a l.length l :=
 ⟨xs, h.sl (by omega) hf.len, hf⟩
def rightStep : Int -> Int -> List (Int × List Int) -> Bool
 | _, _, [] => true
 | last, left, f :: r => if f.1 <= last \/ 200 < f.1 \/ left < f.2.length then false else rightStep f.1 (left - f.2.length) r
def rightF (l : List (Int × List Int)) : Bool := rightStep 0 16384 l && decide ((l.length : Int) <= 64)
theorem drop_cons {α : Type} {l : List α} {j : Nat} {x : α} (h : l[j]? = some x) : l.drop j = x :: l.drop (j + 1) := by
 obtain ⟨hl, rfl⟩ := List.getElem?_eq_some_iff.1 h;exact List.drop_eq_getElem_cons hl
theorem ct60 (l : List (Int × List Int)) (a : Option Addr) (n c : Nat) (I : Mem) (h : FldM I a n l) (hn : n <= 1000000) :
 Ct Try.prog (fnv 60) #[.slice a n c] I (fun v _ => v = .bool (rightF l)) := by
 refine viaR (ct_via (A := { loops := [(3, ⟨[(0, .keep), (3, .sh (.int .i64)), (4, .sh (.int .i64)), (7, .keep), (8, .keep), (9, .sh (.int .i64))], [], [], fun vals _ _ _ => match vals with | [.int .i64 last, .int .i64 left, .int .i64 j] => 0 <= j /\ j <= n /\ 0 <= last /\ last <= 200 /\ 0 <= left /\ left <= 16384 /\ rightStep 0 16384 l = rightStep last left (l.drop j.toNat) | _ => False, fun vals _ => match vals with | [_, _, .int .i64 j] => (n - j).toNat | _ => 0⟩)] }) Try.func60 rfl Try.call60 rfl rfl) ((Rf (SV.v (.slice a n c)) /\ Rf (SV.v (.slice a n c)) /\ Rf (SV.v (.int .i64 (n : Int))) /\ (0 : Int) <= 0 /\ 0 <= (n : Int) /\ (0 : Int) <= 0 /\ (0 : Int) <= 200 /\ (0 : Int) <= 16384 /\ (16384 : Int) <= 16384 /\ Rf (rightStep 0 16384 l)) /\ ∀ (b : Mem), Mem -> I.le b -> ∀ (d e f : Int), 0 <= f /\ f <= (n : Int) /\ 0 <= d /\ d <= 200 /\ 0 <= e /\ e <= 16384 /\ rightStep 0 16384 l = rightStep d e (List.drop f.toNat l) -> Br (decide (f < (n : Int))) (0 <= f /\ f < (n : Int) /\ a.isSome = true /\ (2 : Nat) = 2 /\ ∃ g, atI b a (f.toNat * 2 + 0) = some (.int .i64 g) /\ ∃ i j k, atI b a (f.toNat * 2 + 1) = some (.slice i j k) /\ Br (decide (g <= d)) (Value.bool false = .bool (rightF l)) (Br (decide (200 < g)) (Value.bool false = .bool (rightF l)) (Br (decide (e < (j : Int))) (Value.bool false = .bool (rightF l)) (Wr .i64 (e - (j : Int)) (fun m => Wr .i64 (f + 1) fun o => Rf (SV.v (.slice a n c)) /\ Rf (SV.v (.slice a n c)) /\ Rf (SV.v (.int .i64 (n : Int))) /\ (0 <= o /\ o <= (n : Int) /\ 0 <= g /\ g <= 200 /\ 0 <= m /\ m <= 16384 /\ rightStep 0 16384 l = rightStep g m (List.drop o.toNat l)) /\ Int.toNat ((n : Int) - o) < Int.toNat ((n : Int) - f)))))) (Value.bool (decide ((n : Int) <= 64)) = .bool (rightF l))) (by kernel_rfl) ?_
 simp only [eq_self, true_and, and_true];have hl := h.len
 refine ⟨by omega, fun I1 _ hI last left j ⟨h0, h1, h2, h3, h4, h5, h6⟩ => Br.mk (fun hlt => ?_) (fun hge => ?_)⟩
 · have hlt := of_decide_eq_true hlt
   obtain ⟨f, b, m, c', hf, hok, e1, e2, hs, hm1, hm2⟩ := (h.mono hI).at_ h0 hlt;have hm := hs.numLen;rw [drop_cons hf, rightStep] at h6
   refine ⟨h0, hlt, h.isSome (by omega), _, e1, b, m, c', e2, Br.mk (fun g1 => ?_) (fun g1 => Br.mk (fun g2 => ?_) (fun g2 => Br.mk (fun g3 => ?_) (fun g3 => ?_)))⟩
   · have g1 := of_decide_eq_true g1
     rw [rightF, h6, if_pos (.inl g1)]; rfl
   · have g2 := of_decide_eq_true g2
     rw [rightF, h6, if_pos (.inr (.inl g2))]; rfl
   · have g3 := of_decide_eq_true g3
     rw [rightF, h6, if_pos (.inr (.inr (by omega)))]; rfl
   · have g1 := of_decide_eq_false g1
     have g2 := of_decide_eq_false g2;have g3 := of_decide_eq_false g3
     rw [if_neg (by omega)] at h6
     refine wr_i64 (by omega) (by omega) (wr_i64 (by omega) (by omega) ⟨⟨by omega, by omega, by omega, by omega, by omega, by omega, ?_⟩, by omega⟩)
     rw [h6, show (j + 1).toNat = j.toNat + 1 by omega, hm]
 · have hge := of_decide_eq_false hge
   rw [List.drop_eq_nil_of_le (by omega)] at h6
   rw [rightF, h6, hl]; rfl
def u8s (l : List Int) : List UInt8 := l.map fun z => UInt8.ofNat z.toNat
theorem u8_nat {z : Int} (h : 0 <= z /\ z <= 255) : (((UInt8.ofNat z.toNat).toNat : Nat) : Int) = z := by
 rw [UInt8.toNat_ofNat'];omega
theorem u8s_inj {xs ys : List Int} (hx : byteL xs) (hy : byteL ys) (h : u8s xs = u8s ys) : xs = ys := by
 apply List.ext_getElem?;intro i;have := congrArg (fun l => l[i]?) h;simp only [u8s, List.getElem?_map] at this
 cases hxi : xs[i]? with
 | none =>
   cases hyi : ys[i]? with
   | none => rfl
   | some y => rw [hxi, hyi] at this; cases this
 | some x =>
   cases hyi : ys[i]? with
   | none => rw [hxi, hyi] at this; cases this
   | some y =>
     rw [hxi, hyi] at this;have h1 := u8_nat (hx x (List.mem_of_getElem? hxi));have h2 := u8_nat (hy y (List.mem_of_getElem? hyi));simp only [Option.map_some, Option.some.injEq] at this;rw [this] at h1;rw [<- h1, h2]
theorem u8s_at {xs : List Int} (hb : byteL xs) {I : Mem} {a : Option Addr} {n : Nat} (h : SlM I a n 1 (ints .u8 xs)) : (u8s xs).length = n /\ (a = none -> n = 0) /\ ∀ (j : Nat) (b : UInt8), (u8s xs)[j]? = some b -> atI I a j = some (Value.int IntKind.u8 ↑b.toNat) := by
 refine ⟨by rw [u8s, List.length_map]; exact h.numLen.symm, h.nil, fun j b hj => ?_⟩
 simp only [u8s, List.getElem?_map, Option.map_eq_some_iff] at hj;obtain ⟨x, hx, rfl⟩ := hj;rw [u8_nat (hb x (List.mem_of_getElem? hx))];exact h.at_ j _ (ints_get hx)
theorem ct18 (xs ys : List Int) (hx : byteL xs) (hy : byteL ys) (a b : Option Addr) (n c m d : Nat) (I : Mem) (h : SlM I a n 1 (ints .u8 xs)) (h' : SlM I b m 1 (ints .u8 ys)) :
 Ct Try.prog (fnv 18) #[.slice a n c, .slice b m d] I (fun v _ => v = .bool (decide (xs = ys))) := by
 refine viaR (ct_via (A := { }) Try.func18 rfl Try.call18 rfl rfl) (∃ (q : List UInt8), q.length = n /\ (a = none -> n = 0) /\ (∀ (j : Nat) (e : UInt8), q[j]? = some e -> atI I a j = some (.int .u8 (e.toNat : Int))) /\ ∃ (e : List UInt8), e.length = m /\ (b = none -> m = 0) /\ (∀ (j : Nat) (f : UInt8), e[j]? = some f -> atI I b j = some (.int .u8 (f.toNat : Int))) /\ Value.bool ((ByteArray.mk q.toArray).toList == (ByteArray.mk e.toArray).toList) = .bool (decide (xs = ys))) (by kernel_rfl) ?_
 obtain ⟨h1, h2, h3⟩ := u8s_at hx h;obtain ⟨h4, h5, h6⟩ := u8s_at hy h';refine ⟨_, h1, h2, h3, _, h4, h5, h6, ?_⟩;rw [str_eq]
 congr 1
 refine decide_eq_decide.2 ⟨fun e => u8s_inj hx hy ?_, fun e => by rw [e]⟩
 injection e with e
 exact Array.toList_inj.2 e |> fun e => by simpa using e
theorem one_ints {k : IntKind} {l : List Int} : ∀ v ∈ ints k l, v.oneCell' = true := fun v hv => by
 simp only [ints, List.mem_map] at hv;obtain ⟨z, _, rfl⟩ := hv;rfl
theorem row_bysl {I : Mem} {a : Option Addr} {cp n : Nat} {xs : List Int} (h : RowM I a cp 1 (ints .u8 xs)) (hn : n = xs.length) : BySl I (.slice a n cp) xs := by
 refine ⟨a, n, cp, rfl, h.sl (by omega) (by rw [ints_len]; omega), ?_, ?_⟩
 · have := h.1; rw [ints_len] at this; omega
 · exact h.2.1
theorem ct54 (xs : List Int) (a : Option Addr) (n c : Nat) (I : Mem) (h : SlM I a n 1 (ints .u8 xs)) (hn : n <= 1000000) :
 Ct Try.prog (fnv 54) #[.slice a n c] I (fun v I' => BySl I' v xs) := by
 refine viaR (ct_via (A := { }) Try.func54 rfl Try.call54 rfl rfl) (∃ y, y.length = n * 1 /\ (a = none -> n = 0) /\ (∀ (j : Nat) (v : Value), y[j]? = some v -> atI I a j = some v) /\ (∀ (v : Value), Membership.mem y v -> v.oneCell' = true) /\ n <= 9223372036854775807 /\ n * 1 <= 140737488355328 /\ ∀ (b : Option Addr) (d : Nat) (e : Mem), I.le e -> RowM e b d 1 y -> ∃ f m g, Value.slice b n d = .slice f m g /\ SlM e f m 1 (List.map (Value.int .u8) xs) /\ m <= g /\ g <= 9223372036854775807) (by kernel_rfl) ?_
 exact ⟨ints .u8 xs, h.len, h.nil, h.at_, one_ints, by omega, by omega, fun a' cp I' _ hrow => row_bysl hrow h.numLen⟩
def NewB (I0 I : Mem) (v : Value) : Prop := ∀ a n c, v = .slice a n c -> NewS 1 I0 I a c /\ n <= 1000000
theorem NewB.mono {I0 I J : Mem} {v : Value} (h : NewB I0 I v) (hle : I.le J) : NewB I0 J v := fun a n c hv => ⟨(h a n c hv).1.mono hle, (h a n c hv).2⟩
theorem NewB.anti {I0 J0 I : Mem} {v : Value} (h : NewB I0 I v) (hle : J0.le I0) : NewB J0 I v := fun a n c hv => ⟨(h a n c hv).1.anti hle, (h a n c hv).2⟩
theorem newB_sl {I0 I : Mem} {a : Option Addr} {n c : Nat} (h : NewS 1 I0 I a c) (hn : n <= 1000000) : NewB I0 I (.slice a n c) := fun a' n' c' hv => by
 cases hv;exact ⟨h, hn⟩
theorem newB_int {I0 I : Mem} {k : IntKind} {x : Int} : NewB I0 I (.int k x) := fun a' n' c' hv => by cases hv
theorem ct30N (xs : List Int) (a : Option Addr) (n c : Nat) (I : Mem) (h : SlM I a n 1 (ints .u8 xs)) (hn : n <= 1000000) :
 Ct Try.prog (fnv 30) #[.slice a n c] I (fun v I' => BySl I' v xs /\ NewB I I' v) := by
 refine viaR (ctF_via (A := { }) Try.func30 rfl Try.call30 rfl rfl) (Br a.isNone ((∃ b m d, Value.slice none 0 0 = .slice b m d /\ SlM I b m 1 (List.map (Value.int .u8) xs) /\ m <= d /\ d <= 9223372036854775807) /\ NewB I I (.slice none 0 0)) (∃ y, y.length = n * 1 /\ (a = none -> n = 0) /\ (∀ (j : Nat) (v : Value), y[j]? = some v -> atI I a j = some v) /\ (∀ (v : Value), Membership.mem y v -> v.oneCell' = true) /\ (0 : Nat) = 0 /\ 0 + n <= 9223372036854775807 /\ (0 + n) * 1 <= 140737488355328 /\ ∀ (b : Option Addr) (d : Nat) (e : Mem), I.le e -> RowF I e b d 1 y 5 -> (∃ f m g, Value.slice b (0 + n) d = .slice f m g /\ SlM e f m 1 (List.map (Value.int .u8) xs) /\ m <= g /\ g <= 9223372036854775807) /\ NewB I e (.slice b (0 + n) d))) (by kernel_rfl) ?_
 refine Br.mk (fun h0 => ?_) (fun h0 => ⟨ints .u8 xs, h.len, h.nil, h.at_, one_ints, rfl, by omega, by omega, fun a' cp I' _ hrow => ⟨row_bysl hrow.row (by have := h.numLen; omega), newB_sl hrow.newS (by omega)⟩⟩)
 have h0 : a = none := by simpa using h0
 subst h0;have hn := h.nil rfl;subst hn
 exact ⟨⟨none, 0, 0, rfl, h, by omega, by omega⟩, newB_sl (fun hc => absurd hc (by omega)) hn⟩
theorem sl_take {I : Mem} {a : Option Addr} {n k : Nat} {bs : List Int} {kd : IntKind} (h : SlM I a n 1 (ints kd bs)) (hk : k <= n) : SlM I a k 1 (ints kd (bs.take k)) := by
 have hl := h.numLen
 refine ⟨by simp [ints]; omega, fun ha => by have := h.nil ha; omega, Nat.le_trans hk h.max, fun j v hj => ?_⟩
 simp only [ints, List.getElem?_map, Option.map_eq_some_iff] at hj;obtain ⟨z, hj, rfl⟩ := hj;rw [List.getElem?_take] at hj
 split at hj
 · exact h.at_ j _ (ints_get hj)
 · cases hj
theorem fr_row {I : Mem} {a : Option Addr} {cp : Nat} {xs : List Value} {l : List (Int × List Int)} (h : RowM I a cp 2 xs) (hf : FR I xs l) :
 ∃ a' n' c', Value.slice a (xs.length / 2) cp = .slice a' n' c' /\ FldM I a' n' l /\ n' <= c' /\ c' <= maxLen := by
 have hl := hf.len
 have e : xs.length / 2 = l.length := by omega
 rw [e];refine ⟨a, l.length, cp, rfl, fldM_row h hf, ?_, h.2.1⟩;have := h.1;omega
def writeF (l : List (Int × List Int)) : List Int := l.flatMap fun f => f.1 :: (formN f.2.length ++ f.2)
theorem right_at : ∀ {l : List (Int × List Int)} {last left : Int}, rightStep last left l = true -> ∀ f ∈ l, last < f.1 /\ f.1 <= 200 /\ (f.2.length : Int) <= left
 | [], _, _, _, f, hf => by cases hf
 | g :: r, last, left, h, f, hf => by
   rw [rightStep] at h
   split at h
   · cases h
   · rename_i hc
     rcases List.mem_cons.1 hf with rfl | hf
     · omega
     · have := right_at h f hf
       omega
theorem formN_le (x : Nat) (h : x < 256 ^ 8) : (formN x).length <= 9 /\ 1 <= (formN x).length := by
 rw [formN_len, sizeN];have := digN_le h
 split <;> omega
theorem writeF_cons (f : Int × List Int) (r : List (Int × List Int)) : writeF (f :: r) = f.1 :: (formN f.2.length ++ (f.2 ++ writeF r)) := by simp [writeF]
theorem writeF_app (k l : List (Int × List Int)) : writeF (k ++ l) = writeF k ++ writeF l := by simp [writeF]
theorem right_len : ∀ {l : List (Int × List Int)} {last left : Int}, left <= 16384 -> rightStep last left l = true -> ∀ j, ((writeF (l.take j)).length : Int) <= max left 0 + 10 * l.length
 | [], last, left, _, _, j => by simp [writeF]; omega
 | g :: r, last, left, hl, h, 0 => by simp [writeF]; omega
 | g :: r, last, left, hl, h, j + 1 => by
   rw [rightStep] at h
   split at h
   · cases h
   · rename_i hc
     have ih := right_len (by omega) h j
     have := formN_le g.2.length (by omega)
     rw [List.take_succ_cons, writeF_cons];simp only [List.length_cons, List.length_append];omega
theorem rightF_iff {l : List (Int × List Int)} : rightF l = true ↔ rightStep 0 16384 l = true /\ l.length <= 64 := by
 simp only [rightF, Bool.and_eq_true, decide_eq_true_eq]
 exact ⟨fun h => ⟨h.1, by omega⟩, fun h => ⟨h.1, by omega⟩⟩
theorem ct39 (l : List (Int × List Int)) (a : Option Addr) (n c : Nat) (I : Mem) (h : FldM I a n l) (hn : n <= 1000000) :
 Ct Try.prog (fnv 39) #[.slice a n c] I (fun v I' => ∃ a' n' c', v = .tuple #[.slice a' n' c', .int .i64 (if rightF l then 0 else 20)] /\ SlM I' a' n' 1 (ints .u8 (if rightF l then writeF l else [])) /\ n' <= c' /\ c' <= maxLen) := by
 refine viaR (ct_via (A := { calls := [(26, .lend [0] (.row 0) [.row 1 5])], loops := [(5, ⟨[(4, .row 0), (10, .keep), (11, .keep), (12, .sh (.int .i64))], [(0, .row)], [(4, 1, 5)], fun vals xss I' _ => match vals, xss with | [.int .i64 j], [xs] => 0 <= j /\ j <= n /\ xs = ints .u8 (writeF (l.take j.toNat)) /\ rightF l = true | _, _ => False, fun vals _ => match vals with | [.int .i64 j] => (n - j).toNat | _ => 0⟩)] }) Try.func39 rfl Try.call39 rfl rfl) (Ct Try.prog (fnv 60) #[.slice a n c] I fun v b => ∃ d, v = .bool d /\ Br (!d) (∃ e f g, Value.tuple #[.slice none 0 0, .int .i64 20] = .tuple #[.slice e f g, .int .i64 (if rightF l = true then 0 else 20)] /\ SlM b e f 1 (List.map (Value.int .u8) (if rightF l = true then writeF l else ([] : List Int))) /\ f <= g /\ g <= 9223372036854775807) (((0 : Nat) = 0 /\ Rf (SV.v (.slice a n c)) /\ Rf (SV.v (.int .i64 (n : Int))) /\ (0 : Int) <= 0 /\ 0 <= (n : Int) /\ Rf ([] : List Value) /\ rightF l = true) /\ ∀ (e : Mem), Mem -> b.le e -> ∀ (x : List Value) (f : Int), 0 <= f /\ f <= (n : Int) /\ x = List.map (Value.int .u8) (writeF (List.take f.toNat l)) /\ rightF l = true -> Br (decide (f < (n : Int))) (0 <= f /\ f < (n : Int) /\ a.isSome = true /\ (2 : Nat) = 2 /\ ∃ g, atI e a (f.toNat * 2 + 0) = some (.int .i64 g) /\ ∃ i j k, atI e a (f.toNat * 2 + 1) = some (.slice i j k) /\ Wr .u8 g fun m => Wr .u64 (j : Int) fun o => x.length = x.length * 1 /\ x.length + 1 <= 9223372036854775807 /\ (x.length + 1) * 1 <= 140737488355328 /\ CtS Try.prog (.v (fnv 61)) [.rsl 0 (x.length + 1), .v (.int .u64 o)] [⟨.row (x ++ [.int .u8 m]) 1 5, none⟩] e fun s H p => ∃ q r, s = .rsl 0 q /\ H = [⟨.row r 1 5, none⟩] /\ ∃ y, y.length = j * 1 /\ (i = none -> j = 0) /\ (∀ (t : Nat) (u : Value), y[t]? = some u -> atI p i t = some u) /\ (∀ (t : Value), Membership.mem y t -> t.oneCell' = true) /\ r.length = q * 1 /\ q + j <= 9223372036854775807 /\ (q + j) * 1 <= 140737488355328 /\ Wr .i64 (f + 1) fun t => q + j = List.length (r ++ y) /\ Rf (SV.v (.slice a n c)) /\ Rf (SV.v (.int .i64 (n : Int))) /\ (0 <= t /\ t <= (n : Int) /\ r ++ y = List.map (Value.int .u8) (writeF (List.take t.toNat l)) /\ rightF l = true) /\ Int.toNat ((n : Int) - t) < Int.toNat ((n : Int) - f)) (∀ (g : Option Addr) (i : Nat) (j : Mem), e.le j -> RowM j g i 1 x -> ∃ k m o, Value.tuple #[.slice g x.length i, .int .i64 0] = .tuple #[.slice k m o, .int .i64 (if rightF l = true then 0 else 20)] /\ SlM j k m 1 (List.map (Value.int .u8) (if rightF l = true then writeF l else ([] : List Int))) /\ m <= o /\ o <= 9223372036854775807))) (by kernel_rfl) ?_
 simp only [eq_self, true_and];have hl := h.len;refine (ct60 l a n c I h hn).mono fun v I0 l0 hv => ⟨_, hv, Br.mk (fun hr => ?_) (fun hr => ?_)⟩
 · have hr : rightF l = false := by simpa using hr
   rw [hr]
   exact ⟨none, 0, 0, rfl, sl_nil _ _, by omega, by omega⟩
 have hr : rightF l = true := by simpa using hr
 obtain ⟨hs, hl64⟩ := rightF_iff.1 hr
 refine ⟨⟨by omega, by omega, hr⟩, fun I1 _ l1 xs j ⟨h0, h1, h2, _⟩ => Br.mk (fun hlt => ?_) (fun hge => ?_)⟩
 · have hlt := of_decide_eq_true hlt
   obtain ⟨f, b, m, c', hf, hok, e1, e2, hsl, hm1, hm2⟩ := (h.mono (Mem.le_trans l0 l1)).at_ h0 hlt;have hra := right_at hs f (List.mem_of_getElem? hf);have hm := hsl.numLen
   have hxl : xs.length <= 16384 + 640 := by
    rw [h2, List.length_map]
    have := right_len (by omega) hs j.toNat
    omega
   refine ⟨h0, hlt, h.isSome (by omega), f.1, e1, b, m, c', e2, ⟨f.1, IntWalk.u8_in _ ⟨by omega, by omega⟩, ⟨(m : Int), IntWalk.u64_in _ ⟨by omega, by omega⟩, ?_⟩⟩⟩
   have hfl := formN_le m (by omega)
   refine ⟨by omega, by omega, by omega, (cs61 (xs ++ [Value.int .u8 f.1]) (xs.length + 1) m (by omega) (by simp) (by simp; omega) I1).mono fun v H' I2 l2 ⟨hv, hH⟩ => ?_⟩
   rw [Int.toNat_natCast] at hv hH
   refine ⟨_, _, hv, hH, ints .u8 f.2, hsl.len, hsl.nil, (hsl.mono l2).at_, one_ints, by simp [ints]; omega, by omega, by omega, wr_i64 (by omega) (by omega) ⟨by simp [ints]; omega, ⟨by omega, by omega, ?_, hr⟩, by omega⟩⟩
   rw [show (j + 1).toNat = j.toNat + 1 by omega, take_succ' hf, writeF_app, h2, hm]
   simp [writeF, ints]
 · have hge := of_decide_eq_false hge
   rw [List.take_of_length_le (by omega)] at h2
   intro a' cp I2 l2 hrow;rw [if_pos hr, if_pos hr];refine ⟨a', xs.length, cp, rfl, ?_, ?_, hrow.2.1⟩
   · rw [h2] at hrow ⊢
     exact hrow.sl (by omega) (by simp)
   · have := hrow.1; omega
theorem intN_ok {bs : List Int} (hbs : byteL bs) {at_ x n : Int} (h : intN bs at_ 0 16384 = (x, n, 0)) :
 0 <= at_ /\ 0 <= x /\ x <= 16384 /\ n = (formN x.toNat).length /\ bs.drop at_.toNat = formN x.toNat ++ bs.drop (at_ + n).toNat /\ at_ + n <= bs.length := by
 unfold intN at h
 split at h
 · rename_i hc
   injection h with _ h
   injection h with _ h
   exact absurd h hc
 · rename_i hc
   split at h
   · cases h
   · rename_i hr
     injection h with h1 h
     injection h with h2 _
     have hc : (readN bs at_).2.2 = 0 := by simpa using hc
     have hre : readN bs at_ = (x, n, 0) := by rw [<- h1, <- h2, <- hc]
     obtain ⟨g1, g2, g3, g4, g5, g6, g7⟩ := readN_back hbs hre;rw [hre] at hr
     exact ⟨g1, g3, by simp only at hr; omega, g5, g6, g7⟩
theorem intN_bad {bs : List Int} {at_ : Int} (h : (intN bs at_ 0 16384).2.2 ≠ 0) : (intN bs at_ 0 16384).1 = 0 /\ (intN bs at_ 0 16384).2.1 = 0 := by
 unfold intN at h ⊢;split
 · exact ⟨rfl, rfl⟩
 · split
   · exact ⟨rfl, rfl⟩
   · rename_i h1 h2
     rw [if_neg h1, if_neg h2] at h;exact absurd rfl h
def fstep (bs : List Int) (at_ : Nat) : Option (List Int × Nat) :=
 if (intN bs (at_ + 1) 0 16384).2.2 ≠ 0 \/ (bs.length : Int) - (at_ + 1 + (intN bs (at_ + 1) 0 16384).2.1) < (intN bs (at_ + 1) 0 16384).1 then none
 else some ((bs.drop (at_ + 1 + (intN bs (at_ + 1) 0 16384).2.1).toNat).take (intN bs (at_ + 1) 0 16384).1.toNat, (at_ + 1 + (intN bs (at_ + 1) 0 16384).2.1 + (intN bs (at_ + 1) 0 16384).1).toNat)
def yields (bs : List Int) (at_ : Nat) : List (Nat × (Int × List Int)) :=
 if h : at_ < bs.length then
  match fstep bs at_ with
  | none => [(at_, (0, []))]
  | some p => (at_, ((bs[at_]?).getD 0, p.1)) :: (if hn : at_ < p.2 then yields bs p.2 else [])
 else []
termination_by bs.length - at_
def encF (bs : List Int) (k : Nat) (args : Array Value) (I : Mem) : Prop :=
 ∃ at_ f a n c, (yields bs 0)[k]? = some (at_, f) /\ args = #[.int .i64 (at_ : Nat), .agg #[.int .i64 f.1, .slice a n c]] /\ SlM I a n 1 (ints .u8 f.2) /\ n <= c /\ c <= maxLen
theorem sl_sub {I : Mem} {a : Option Addr} {n c f t : Nat} {bs : List Int} {kd : IntKind} (h : SlM I a n 1 (ints kd bs)) (hft : f <= t) (ht : t <= n) (hc : n <= c) : SlM I (sladdr a c f 1) (t - f) 1 (ints kd ((bs.drop f).take (t - f))) := by
 have hl := h.numLen
 refine ⟨by simp [ints]; omega, fun hs => ?_, Nat.le_trans (by omega) h.max, fun j v hj => ?_⟩
 · unfold sladdr at hs
   split at hs
   · omega
   · cases a with
     | none => have := h.nil rfl; omega
     | some ad => cases hs
 · simp only [ints, List.getElem?_map, Option.map_eq_some_iff] at hj
   obtain ⟨z, hj, rfl⟩ := hj;rw [List.getElem?_take] at hj
   split at hj
   · rw [List.getElem?_drop] at hj
     have hat := h.at_ _ _ (ints_get (k := kd) hj);unfold sladdr
     rw [if_neg (by omega)]
     cases a with
     | none => have := h.nil rfl; omega
     | some ad =>
       simp only [Option.map_some, Nat.mul_one];simp only [atI, Option.bind_some] at hat ⊢;rw [add_add];exact hat
   · cases hj
theorem gives56 (bs : List Int) (hbs : byteL bs) (b : Nat) (a : Option Addr) (n c : Nat) (I : Mem) (hb : I b = some (.cells #[.slice a n c] 22)) (h : SlM I a n 1 (ints .u8 bs)) (hn : n <= 1000000) (hc : n <= c) (hm : c <= maxLen) :
 Gives Try.prog (.func (.func 77) #[] #[.pointer (some ⟨b, 0, none⟩)]) I (yields bs 0).length (encF bs) := by
 refine ⟨fun Y W => ⟨77, _, run_semV_func.trans (Try.call77 _ _)⟩, fun Y J D I0 G0 hI0 hJ0 hJ hD hY => ?_⟩
 refine viaR (ctG_via (A := { loops := [(1, ⟨[(0, .keep), (1, .keep), (3, .sh (.int .i64))], [], [], fun vals _ I' G' => match vals with
  | [.int .i64 j] => 0 <= j /\ j <= n /\ ∃ pre, yields bs 0 = pre ++ yields bs j.toNat /\ J pre.length I' G' | _ => False, fun vals _ => match vals with | [.int .i64 j] => (n - j).toNat | _ => 0⟩)], calls := [(37, .g), (52, .g)] }) Try.func77 rfl Try.call77 rfl rfl) ((Rf (SV.v Y) /\ Rf (SV.v (.pointer (some ⟨b, 0, none⟩))) /\ (0 : Int) <= 0 /\ 0 <= (n : Int) /\ ∃ p, yields bs 0 = p ++ yields bs 0 /\ J p.length I0 G0) /\ ∀ (d G : Mem), Mem.le I0 d -> ∀ (e : Int), 0 <= e /\ e <= (n : Int) /\ (∃ p, yields bs 0 = p ++ yields bs e.toNat /\ J p.length d G) -> ∃ f g i, atI d (some ⟨b, 0, none⟩) 0 = some (.slice f g i) /\ Br (decide (e < (g : Int))) (∃ j k l, atI d (some ⟨b, 0, none⟩) 0 = some (.slice j k l) /\ Wr .i64 (e + 1) fun m => Ct Try.prog (fnv 78) #[.slice j k l, .int .i64 m, .int .i64 0, .int .i64 16384] d fun v o => ∃ p q r, v = .tuple #[.int .i64 p, .int .i64 q, .int .i64 r] /\ Wr .i64 (e + 1) fun s => Wr .i64 (s + q) fun t => Br (r != 0) (CtH Try.prog Y #[.int .i64 e, .agg #[.int .i64 0, .slice none 0 0]] o G (fun u w x => ∃ y, u = .bool y /\ (J (yields bs 0).length w x \/ D w x))) (∃ u w x, atI o (some ⟨b, 0, none⟩) 0 = some (.slice u w x) /\ Wr .i64 ((w : Int) - t) fun y => Br (decide (y < p)) (CtH Try.prog Y #[.int .i64 e, .agg #[.int .i64 0, .slice none 0 0]] o G (fun z I1 G1 => ∃ b1, z = .bool b1 /\ (J (yields bs 0).length I1 G1 \/ D I1 G1))) (∃ z n1 c1, atI o (some ⟨b, 0, none⟩) 0 = some (.slice z n1 c1) /\ 0 <= e /\ e < (n1 : Int) /\ z.isSome = true /\ ∃ n2, atI o z (e.toNat * 1 + 0) = some (.int .u8 n2) /\ Wr .i64 n2 fun c2 => ∃ a1 n3 c3, atI o (some ⟨b, 0, none⟩) 0 = some (.slice a1 n3 c3) /\ Wr .i64 (t + p) fun c4 => 0 <= t /\ t <= c4 /\ c4 <= (c3 : Int) /\ CtH Try.prog Y #[.int .i64 e, .agg #[.int .i64 c2, .slice (sladdr a1 c3 t.toNat 1) (c4.toNat - t.toNat) (c3 - t.toNat)]] o G fun v1 I1 G1 => ∃ b1, v1 = .bool b1 /\ Br (!b1) (J (yields bs 0).length I1 G1 \/ D I1 G1) (Wr .i64 (t + p) (fun c5 => Rf (SV.v Y) /\ Rf (SV.v (.pointer (some ⟨b, 0, none⟩))) /\ (0 <= c5 /\ c5 <= (n : Int) /\ ∃ p1, yields bs 0 = p1 ++ yields bs c5.toNat /\ J p1.length I1 G1) /\ Int.toNat ((n : Int) - c5) < Int.toNat ((n : Int) - e)))))) (J (yields bs 0).length d G \/ D d G)) (by kernel_rfl) ?_
 simp only [eq_self, true_and];have hnl := h.numLen
 refine ⟨⟨by omega, by omega, [], by simp, hJ0⟩, fun I1 G1 l1 j ⟨h0, h1, pre, h2, h3⟩ => ?_⟩
 have hcell : ∀ {I' : Mem}, I1.le I' -> atI I' (some ⟨b, 0, none⟩) 0 = some (.slice a n c) := fun {I'} hle => by
  have := hle _ _ (l1 _ _ (hI0 _ _ hb));simp [atI, cellM, Addr.add, this]
 have hS := h.mono (Mem.le_trans hI0 l1);refine ⟨a, n, c, hcell (Mem.le_refl _), Br.mk (fun hlt => ?_) (fun hge => ?_)⟩
 · have hlt := of_decide_eq_true hlt
   obtain ⟨x, hx, hatx⟩ := hS.intAt h0 hlt;have hxr := hbs x (List.mem_of_getElem? hx)
   have hj : ((j.toNat : Nat) : Int) = j := by omega
   have hy : yields bs j.toNat = match fstep bs j.toNat with
    | none => [(j.toNat, (0, []))]
    | some p => (j.toNat, ((bs[j.toNat]?).getD 0, p.1)) :: (if hn : j.toNat < p.2 then yields bs p.2 else []) := by
    rw [yields, dif_pos (by omega)]
   have fail : ∀ {I' : Mem}, I1.le I' -> fstep bs j.toNat = none -> CtH Try.prog Y #[.int .i64 j, .agg #[.int .i64 0, .slice none 0 0]] I' G1 fun v I' G' => ∃ b, v = Value.bool b /\ (J (yields bs 0).length I' G' \/ D I' G') := fun {I'} hle hf => by
    rw [hf] at hy;rw [hy] at h2
    refine (hY pre.length I' G1 _ (by rw [h2]; simp) (Mem.le_trans l1 hle) (hJ _ _ _ _ h3 hle) ⟨j.toNat, (0, []), none, 0, 0, by rw [h2, List.getElem?_append_right (by omega), Nat.sub_self]; rfl, by rw [hj], sl_nil _ _, by omega, by omega⟩).mono fun v I3 G3 _ hv => ?_
    rcases hv with ⟨hv, hj⟩ | ⟨hv, hd⟩
    · refine ⟨true, hv, .inl ?_⟩
      rw [h2, List.length_append];exact hj
    · exact ⟨false, hv, .inr hd⟩
   refine ⟨a, n, c, hcell (Mem.le_refl _), wr_i64 (by omega) (by omega) ((ct78 bs hbs a n c (j + 1) 0 16384 (by omega) (by omega) (by omega) I1 hS (by omega)).mono fun v I2 l2 hv => ⟨_, _, _, hv, ?_⟩)⟩
   have hfs : fstep bs j.toNat = if (intN bs (j + 1) 0 16384).2.2 ≠ 0 \/ (bs.length : Int) - (j + 1 + (intN bs (j + 1) 0 16384).2.1) < (intN bs (j + 1) 0 16384).1 then none
    else some ((bs.drop (j + 1 + (intN bs (j + 1) 0 16384).2.1).toNat).take (intN bs (j + 1) 0 16384).1.toNat, (j + 1 + (intN bs (j + 1) 0 16384).2.1 + (intN bs (j + 1) 0 16384).1).toNat) := by
    unfold fstep; rw [hj]
   have hbad := intN_bad (bs := bs) (at_ := j + 1)
   clear hv
   generalize hr : intN bs (j + 1) 0 16384 = r at hfs hbad ⊢;obtain ⟨sz, k, e⟩ := r
   simp only at hfs hbad ⊢
   by_cases he : e = 0
   · subst he
     obtain ⟨g1, g2, g3, g4, g5, g6⟩ := intN_ok hbs hr
     have hfl := formN_le sz.toNat (by omega)
     refine wr_i64 (by omega) (by omega) (wr_i64 (by omega) (by omega) (Br.f rfl ⟨a, n, c, hcell l2, wr_i64 (by omega) (by omega) (Br.mk (fun hs => ?_) (fun hs => ?_))⟩))
     · have hs := of_decide_eq_true hs
       exact fail l2 (by rw [hfs, if_pos (.inr (by omega))])
     · have hs := of_decide_eq_false hs
       rw [if_neg (by omega)] at hfs
       rw [hfs] at hy
       simp only at hy
       rw [dif_pos (by omega), hx, Option.getD_some] at hy
       rw [hy] at h2
       refine ⟨a, n, c, hcell l2, h0, hlt, h.isSome (by omega), x, atI_le l2 hatx, wr_i64 (by omega) (by omega) ⟨a, n, c, hcell l2, wr_i64 (by omega) (by omega) ⟨by omega, by omega, by omega, ?_⟩⟩⟩
       have hsub := sl_sub (hS.mono l2) (f := (j + 1 + k).toNat) (t := (j + 1 + k + sz).toNat) (by omega) (by omega) hc
       rw [show (j + 1 + k + sz).toNat - (j + 1 + k).toNat = sz.toNat by omega] at hsub ⊢
       refine (hY pre.length I2 G1 _ (by rw [h2]; simp) (Mem.le_trans l1 l2) (hJ _ _ _ _ h3 l2) ⟨j.toNat, (x, (bs.drop (j + 1 + k).toNat).take sz.toNat), _, _, _, by rw [h2, List.getElem?_append_right (by omega), Nat.sub_self]; rfl, by rw [hj], hsub, by omega, by omega⟩).mono fun v I3 G3 _ hv => ?_
       rcases hv with ⟨hv, hj'⟩ | ⟨hv, hd⟩
       · refine ⟨true, hv, Br.f rfl (wr_i64 (by omega) (by omega) ⟨⟨by omega, by omega, pre ++ [(j.toNat, (x, (bs.drop (j + 1 + k).toNat).take sz.toNat))], by rw [h2]; simp, ?_⟩, by omega⟩)⟩
         rw [List.length_append];exact hj'
       · exact ⟨false, hv, Br.t rfl (.inr hd)⟩
   · obtain ⟨rfl, rfl⟩ := hbad he
     exact wr_i64 (by omega) (by omega) (wr_i64 (by omega) (by omega) (Br.t (by simpa using he) (fail l2 (by rw [hfs, if_pos (.inl he)]))))
 · have hge := of_decide_eq_false hge
   have hy : yields bs j.toNat = [] := by rw [yields, dif_neg (by omega)]
   rw [hy, List.append_nil] at h2;rw [h2];exact .inl h3
theorem ct67 (a : Option Addr) (n c : Nat) (I : Mem) : Ct Try.prog (fnv 67) #[.slice a n c] I (fun v I' => ∃ b, I' b = some (.cells #[.slice a n c] 22) /\ v = .func (.func 77) #[] #[.pointer (some ⟨b, 0, none⟩)]) := by
 refine viaR (ct_via (A := {}) Try.func67 rfl Try.call67 rfl rfl) (∀ (b : Nat) (d : Mem), I.le d -> d b = some (.cells #[.slice a n c] 22 (0, 0)) -> ∃ e, d e = some (.cells #[.slice a n c] 22 (0, 0)) /\ Value.func (.func 77) #[] #[.pointer (some ⟨b, 0, none⟩)] = .func (.func 77) #[] #[.pointer (some ⟨e, 0, none⟩)]) (by kernel_rfl) ?_
 intro b I' hI hb;exact ⟨b, hb, rfl⟩
def goF : List (Nat × (Int × List Int)) -> Int -> Int -> List (Int × List Int) -> Int × List (Int × List Int)
 | [], _, _, out => (-1, out)
 | y :: r, last, left, out => if y.2.1 <= last \/ 200 < y.2.1 \/ left < y.2.2.length \/ 64 <= out.length then ((y.1 : Int), []) else goF r y.2.1 (left - y.2.2.length) (out ++ [y.2])
def readF (bs : List Int) : List (Int × List Int) × Int × Int :=
 if 16768 < bs.length then ([], 0, 3) else if 0 <= (goF (yields bs 0) 0 16384 []).1 then ([], (goF (yields bs 0) 0 16384 []).1, 21) else ((goF (yields bs 0) 0 16384 []).2, 0, 0)
theorem yields_at : ∀ {bs : List Int} {at_ k : Nat} {y : Nat × (Int × List Int)}, (yields bs at_)[k]? = some y -> y.1 < bs.length := by
 intro bs at_
 induction hm : bs.length - at_ using Nat.strongRecOn generalizing at_ with
 | ind m ih =>
   intro k y hk;rw [yields] at hk
   split at hk
   · rename_i hlt
     split at hk
     · cases k with
       | zero => simp at hk; subst hk; exact hlt
       | succ k => simp at hk
     · cases k with
       | zero => simp at hk; subst hk; exact hlt
       | succ k =>
         simp only [List.getElem?_cons_succ] at hk
         split at hk
         · rename_i p _ hn
           exact ih (bs.length - p.2) (by omega) rfl hk
         · simp at hk
   · simp at hk
theorem yields_ok {bs : List Int} (hbs : byteL bs) : ∀ {at_ k : Nat} {y : Nat × (Int × List Int)}, (yields bs at_)[k]? = some y -> okFld y.2 := by
 intro at_
 induction hm : bs.length - at_ using Nat.strongRecOn generalizing at_ with
 | ind m ih =>
   intro k y hk;rw [yields] at hk
   split at hk
   · rename_i hlt
     split at hk
     · cases k with
       | zero => simp at hk; subst hk; exact ⟨by simp only; omega, fun z hz => by cases hz⟩
       | succ k => simp at hk
     · rename_i p hp
       cases k with
       | zero =>
         simp at hk; subst hk
         have hb := hbs _ (List.getElem_mem hlt)
         have he : bs[at_]?.getD 0 = bs[at_] := by rw [List.getElem?_eq_getElem hlt]; rfl
         refine ⟨by simp only [he]; omega, fun z hz => ?_⟩
         unfold fstep at hp
         split at hp
         · cases hp
         · cases hp
           exact hbs z (List.mem_of_mem_drop (List.mem_of_mem_take hz))
       | succ k =>
         simp only [List.getElem?_cons_succ] at hk
         split at hk
         · rename_i hn
           exact ih (bs.length - p.2) (by omega) rfl hk
         · simp at hk
   · simp at hk
def OvL (G : Mem) (a : Option Addr) (n : Nat) : Prop :=
 0 < n -> ∃ (b off : Nat) (cur : Array Value) (el : TypeId) (fz : Nat × Nat), a = some ⟨b, off, none⟩ /\ G b = some (.cells cur el fz) /\ thaw fz cur.size /\ off + n * 2 <= cur.size /\
  ∀ i, i < n -> ∃ a' n' c', cur[off + (i * 2 + 1)]? = some (.slice a' n' c') /\ n' <= c' /\ n' <= 1000000 /\ OwnS 1 G a' c' /\ ∀ b' off' sp, 0 < c' -> a' = some ⟨b', off', sp⟩ -> b' ≠ b
def NewR (I0 I : Mem) (xs : List Value) : Prop := ∀ v ∈ xs, NewB I0 I v
theorem NewR.mono {I0 I J : Mem} {xs : List Value} (h : NewR I0 I xs) (hle : I.le J) : NewR I0 J xs := fun v hv => (h v hv).mono hle
theorem NewR.nil {I0 I : Mem} : NewR I0 I [] := fun v hv => by cases hv
theorem NewR.snoc {I0 I : Mem} {xs : List Value} {k : IntKind} {t : Int} {y : Value} (h : NewR I0 I xs) (hy : NewB I0 I y) : NewR I0 I (xs ++ [.int k t, y]) := fun v hv => by
 simp only [List.mem_append, List.mem_cons, List.not_mem_nil, or_false] at hv
 rcases hv with hv | rfl | rfl
 · exact h v hv
 · exact newB_int
 · exact hy
theorem ovl_row {I0 I I' : Mem} {a : Option Addr} {cp n : Nat} {xs : List Value} {L : List (Int × List Int)} {el : TypeId} (h : RowF I I' a cp 2 xs el) (hl : I0.le I) (hle : I.le I') (hf : FR I xs L) (hn : NewR I0 I xs) (hxn : xs.length = n * 2) (G : Mem) :
 OvL (gained I0 I' G) a n := fun h0 => by
 cases a with
 | none => have := (h.row.2.2.1 rfl).1; subst this; simp at hxn; omega
 | some ad =>
   obtain ⟨h1, h2, h3, cur, fz, h4, hfz, h5⟩ := h.new ad rfl;obtain ⟨b, off, spot⟩ := ad
   simp only at h1 h2 h3 h4
   subst h2;subst h3;have hx1 := h.row.1;have hfl := hf.len
   refine ⟨b, 0, cur, el, fz, rfl, gained_new (Mem.none_of_le hl h1) h4, hfz, by omega, fun i hi => ?_⟩
   have hg : L[i]? = some L[i] := List.getElem?_eq_getElem (by omega)
   obtain ⟨g1, g2, y, g3, b', m, c', rfl, g4, g5, g6⟩ := hf.get hg;have hat := h.row.2.2.2 _ _ g3;simp only [atI, Option.bind_some, Addr.add_lit, cellM, h4, Option.isSome_none, Bool.false_eq_true, if_false] at hat;obtain ⟨hns, hnb⟩ := hn _ (List.mem_of_getElem? g3) _ _ _ rfl;refine ⟨_, _, _, hat, g5, hnb, fun hc => ?_, fun b2 off2 sp hc hb2 => ?_⟩
   · obtain ⟨b3, off3, cur3, el3, fz3, k1, k2, k3, k4⟩ := hns hc
     exact ⟨b3, off3, cur3, el3, fz3, k1, gained_new k2 (hle _ _ k3), k4⟩
   · obtain ⟨b3, off3, cur3, el3, fz3, k1, k2, k3, k4⟩ := hns hc
     rw [k1] at hb2;cases hb2;intro hbb;subst hbb;rw [h1] at k3;cases k3
theorem ovl_nil (G : Mem) (a : Option Addr) : OvL G a 0 := fun h => absurd h (by omega)
theorem ct43N (bs : List Int) (hbs : byteL bs) (a : Option Addr) (n c : Nat) (I : Mem) (h : SlM I a n 1 (ints .u8 bs)) (hn : n <= 1000000) (hc : n <= c) (hm : c <= maxLen) :
 Ct Try.prog (fnv 43) #[.slice a n c] I (fun v I' => ∃ a' n' c', v = .tuple #[.slice a' n' c', .int .i64 (readF bs).2.1, .int .i64 (readF bs).2.2] /\ FldM I' a' n' (readF bs).1 /\ n' <= c' /\ c' <= maxLen /\ ∀ G, OvL (gained I I' G) a' n') := by
 refine viaR (ctF_via (A := { rfs := [(8, { n := (yields bs 0).length, enc := encF bs, ps := [.sh (.int .i64), .agg [.int .i64, .sl]], pre := [(5, 2, 73)], ents := [(0, .cells [.row 4]), (1, .cells [.sh (.int .i64)]), (2, .cells [.sh (.int .i64)]), (3, .cells [.sh (.int .i64)]), (4, .row)], inv := (fun k vals xss I' _ => match vals, xss with | [.int .i64 last, .int .i64 left, .int .i64 wrong], [xs] => wrong = -1 /\ 0 <= last /\ last <= 200 /\ 0 <= left /\ left <= 16384 /\ ∃ L, FR I' xs L /\ NewR I I' xs /\ L.length <= 64 /\ goF (yields bs 0) 0 16384 [] = goF ((yields bs 0).drop k) last left L | _, _ => False), jumps := [(.exit 0, [(3, .cells [.sh (.int .i64)])], fun vals _ _ _ => match vals with | [.int .i64 wrong] => 0 <= wrong /\ goF (yields bs 0) 0 16384 [] = (wrong, []) | _ => False)] })] }) Try.func43 rfl Try.call43 rfl rfl) (let E1 := fun (x : Loop) => .loop ⟨.done, some (.exit 0), x.fn, x.tmps, x.params, x.assign, x.body, x.defers⟩
  Br (decide (16768 < (n : Int))) (∃ b d e, Value.tuple #[.slice none 0 0, .int .i64 0, .int .i64 3] = .tuple #[.slice b d e, .int .i64 (readF bs).2.1, .int .i64 (readF bs).2.2] /\ FldM I b d (readF bs).1 /\ d <= e /\ e <= 9223372036854775807 /\ ∀ (G : Mem), OvL (gained I I G) b d) (Ct Try.prog (fnv 67) #[.slice a n c] I (fun v b => ∃ x, v = x /\ ∀ (d e f g i j : Nat) (r : Loop), Gives Try.prog x b (yields bs 0).length (encF bs) /\ (∀ (k : Nat) (l : Array Value) (m : Mem), encF bs k l m -> psOk [.sh (.int .i64), .agg [.int .i64, .sl]] l.toList = true) /\ (Rf (Ent.mk (.raw (.deferred (some []))) (some i)) /\ Rf (Ent.mk (.raw (.loop ⟨.ready, none, r.fn, r.tmps, r.params, r.assign, r.body, r.defers⟩)) (some j)) /\ Rf (some d) /\ (0 : Nat) = 0 /\ Rf (some e) /\ Rf (some f) /\ Rf (some g) /\ ((d = d /\ e = e /\ f = f /\ g = g /\ i = i /\ j = j /\ True) /\ Rf (Obj.loop ⟨.ready, none, r.fn, r.tmps, r.params, r.assign, r.body, r.defers⟩)) /\ Rf (-1 : Int) /\ (0 : Int) <= 0 /\ (0 : Int) <= 200 /\ (0 : Int) <= 16384 /\ (16384 : Int) <= 16384 /\ ∃ L, FR b [] L /\ NewR I b [] /\ L.length <= 64 /\ goF (yields bs 0) 0 16384 [] = goF (List.drop 0 (yields bs 0)) 0 16384 L) /\ (∀ (k : Nat) (l : Mem), Mem -> k < (yields bs 0).length -> b.le l -> ∀ (m : List Value) (o p q : Int), q = -1 /\ 0 <= o /\ o <= 200 /\ 0 <= p /\ p <= 16384 /\ (∃ L, FR l m L /\ NewR I l m /\ L.length <= 64 /\ goF (yields bs 0) 0 16384 [] = goF (List.drop k (yields bs 0)) o p L) -> ∀ (s : Mem), l.le s -> ∀ (t u : Int) (w : Option Addr) (y z : Nat), encF bs k #[.int .i64 t, .agg #[.int .i64 u, .slice w y z]] s -> Rf (Obj.loop ⟨.ready, none, r.fn, r.tmps, r.params, r.assign, r.body, r.defers⟩) /\ Rf (some j) /\ Br (decide (u <= o)) (Rf (Obj.loop ⟨.busy, none, r.fn, r.tmps, r.params, r.assign, r.body, r.defers⟩) /\ Rf (some j) /\ Rf (Ent.mk (.raw (.deferred (some []))) (some i)) /\ Rf (Ent.mk (.raw (E1 r)) (some j)) /\ Rf (some g) /\ ((g = g /\ i = i /\ j = j /\ True) /\ Rf (E1 r)) /\ 0 <= t /\ goF (yields bs 0) 0 16384 [] = (t, [])) (Br (decide (200 < u)) (Rf (Obj.loop ⟨.busy, none, r.fn, r.tmps, r.params, r.assign, r.body, r.defers⟩) /\ Rf (some j) /\ Rf (Ent.mk (.raw (.deferred (some []))) (some i)) /\ Rf (Ent.mk (.raw (E1 r)) (some j)) /\ Rf (some g) /\ ((g = g /\ i = i /\ j = j /\ True) /\ Rf (E1 r)) /\ 0 <= t /\ goF (yields bs 0) 0 16384 [] = (t, [])) (Br (decide (p < (y : Int))) (Rf (Obj.loop ⟨.busy, none, r.fn, r.tmps, r.params, r.assign, r.body, r.defers⟩) /\ Rf (some j) /\ Rf (Ent.mk (.raw (.deferred (some []))) (some i)) /\ Rf (Ent.mk (.raw (E1 r)) (some j)) /\ Rf (some g) /\ ((g = g /\ i = i /\ j = j /\ True) /\ Rf (E1 r)) /\ 0 <= t /\ goF (yields bs 0) 0 16384 [] = (t, [])) (Br (decide (64 <= ((m.length / 2 : Nat) : Int))) (Rf (Obj.loop ⟨.busy, none, r.fn, r.tmps, r.params, r.assign, r.body, r.defers⟩) /\ Rf (some j) /\ Rf (Ent.mk (.raw (.deferred (some []))) (some i)) /\ Rf (Ent.mk (.raw (E1 r)) (some j)) /\ Rf (some g) /\ ((g = g /\ i = i /\ j = j /\ True) /\ Rf (E1 r)) /\ 0 <= t /\ goF (yields bs 0) 0 16384 [] = (t, [])) (Wr .i64 (p - (y : Int)) (fun c1 => Ct Try.prog (fnv 30) #[.slice w y z] s fun v1 I1 => ∃ a1 n1 c2, v1 = .slice a1 n1 c2 /\ m.length = m.length / 2 * 2 /\ m.length / 2 + 1 <= 9223372036854775807 /\ (m.length / 2 + 1) * 32 <= 140737488355328 /\ Rf (Obj.loop ⟨.busy, none, r.fn, r.tmps, r.params, r.assign, r.body, r.defers⟩) /\ Rf (some j) /\ Rf (Ent.mk (.raw (.deferred (some []))) (some i)) /\ Rf (Ent.mk (.raw (.loop ⟨.ready, none, r.fn, r.tmps, r.params, r.assign, r.body, r.defers⟩)) (some j)) /\ Rf (some d) /\ m.length / 2 + 1 = List.length (m ++ [.int .i64 u, .slice a1 n1 c2]) / 2 /\ Rf (some e) /\ Rf (some f) /\ Rf (some g) /\ ((d = d /\ e = e /\ f = f /\ g = g /\ i = i /\ j = j /\ True) /\ Rf (Obj.loop ⟨.ready, none, r.fn, r.tmps, r.params, r.assign, r.body, r.defers⟩)) /\ q = -1 /\ 0 <= u /\ u <= 200 /\ 0 <= c1 /\ c1 <= 16384 /\ ∃ L, FR I1 (m ++ [.int .i64 u, .slice a1 n1 c2]) L /\ NewR I I1 (m ++ [.int .i64 u, .slice a1 n1 c2]) /\ L.length <= 64 /\ goF (yields bs 0) 0 16384 [] = goF (List.drop (k + 1) (yields bs 0)) u c1 L)))))) /\ (∀ (k : Mem), Mem -> b.le k -> ∀ (l : List Value) (m o p : Int), p = -1 /\ 0 <= m /\ m <= 200 /\ 0 <= o /\ o <= 16384 /\ (∃ L, FR k l L /\ NewR I k l /\ L.length <= 64 /\ goF (yields bs 0) 0 16384 [] = goF (List.drop (yields bs 0).length (yields bs 0)) m o L) -> ∀ (q : Mem), k.le q -> Br (decide (0 <= p)) (∃ s t u, Value.tuple #[.slice none 0 0, .int .i64 p, .int .i64 21] = .tuple #[.slice s t u, .int .i64 (readF bs).2.1, .int .i64 (readF bs).2.2] /\ FldM q s t (readF bs).1 /\ t <= u /\ u <= 9223372036854775807 /\ ∀ (G : Mem), OvL (gained I q G) s t) (∀ (s : Option Addr) (t : Nat) (u : Mem), q.le u -> RowF q u s t 2 l 73 -> ∃ w y z, Value.tuple #[.slice s (l.length / 2) t, .int .i64 0, .int .i64 0] = .tuple #[.slice w y z, .int .i64 (readF bs).2.1, .int .i64 (readF bs).2.2] /\ FldM u w y (readF bs).1 /\ y <= z /\ z <= 9223372036854775807 /\ ∀ (G : Mem), OvL (gained I u G) w y)) /\ ∀ (k : Mem), Mem -> b.le k -> ∀ (l : Int), 0 <= l /\ goF (yields bs 0) 0 16384 [] = (l, []) -> ∀ (m : Mem), k.le m -> Br (decide (0 <= l)) (∃ o p q, Value.tuple #[.slice none 0 0, .int .i64 l, .int .i64 21] = .tuple #[.slice o p q, .int .i64 (readF bs).2.1, .int .i64 (readF bs).2.2] /\ FldM m o p (readF bs).1 /\ p <= q /\ q <= 9223372036854775807 /\ ∀ (G : Mem), OvL (gained I m G) o p) False))) (by kernel_rfl) ?_
 intro E1;simp only [eq_self, true_and];have hnl := h.numLen
 refine Br.mk (fun hlong => ?_) (fun hlong => (ct67 a n c I).mono fun v I1 l1 ⟨b, hb, hv⟩ => ⟨_, rfl, fun _ _ _ _ bd br rc => ⟨?_, ?_, ⟨by omega, by omega, by omega, by omega, [], trivial, NewR.nil, by simp, rfl⟩, ?_, ?_, ?_⟩⟩)
 · have hlong := of_decide_eq_true hlong
   have : readF bs = ([], 0, 3) := by rw [readF, if_pos (by omega)]
   rw [this]
   exact ⟨none, 0, 0, rfl, fldM_nil _, by omega, by omega, fun G => ovl_nil _ _⟩
 · subst hv; exact gives56 bs hbs b a n c I1 hb (h.mono l1) hn hc hm
 · rintro k args I2 ⟨at_, f, a1, n1, c1, _, rfl, _⟩; rfl
 · rintro k I2 G2 hk l2 xs last left wrong ⟨hw, h0, h1, h2, h3, L, h4, hnr, h5, h6⟩ I3 l3 at_ t0 a1 n1 c1 ⟨at', f, a2, n2, c2, hy, hargs, hsl, hnc, hcm⟩
   obtain ⟨t, body⟩ := f;cases hargs;have hok := yields_ok hbs hy;have hat := yields_at hy;have hlen : n1 = body.length := hsl.numLen;have hxl := h4.len;rw [drop_cons hy] at h6
   have bad : (t <= last \/ 200 < t \/ left < body.length \/ 64 <= L.length) -> 0 <= ((at' : Nat) : Int) /\ goF (yields bs 0) 0 16384 [] = (((at' : Nat) : Int), []) := fun hc => by
    rw [goF, if_pos hc] at h6
    exact ⟨by omega, h6⟩
   refine Br.mk (fun e1 => bad (.inl (of_decide_eq_true e1))) (fun e1 => Br.mk (fun e2 => bad (.inr (.inl (of_decide_eq_true e2)))) (fun e2 => Br.mk (fun e3 => bad (.inr (.inr (.inl ?_)))) (fun e3 => Br.mk (fun e4 => bad (.inr (.inr (.inr ?_)))) (fun e4 => ?_))))
   · have := of_decide_eq_true e3; omega
   · have := of_decide_eq_true e4; omega
   · have e1 := of_decide_eq_false e1
     have e2 := of_decide_eq_false e2;have e3 := of_decide_eq_false e3;have e4 := of_decide_eq_false e4
     rw [goF, if_neg (by simp only; omega)] at h6
     simp only at h6
     have hb1 : n1 <= 1000000 := by omega
     have hleft : 0 <= left - n1 /\ left - n1 <= 16384 := by omega
     rw [<- hlen] at h6;have hsn : ∀ {I4 : Mem} {y : Value}, I3.le I4 -> BySl I4 y body -> FR I4 (xs ++ [.int .i64 t, y]) (L ++ [(t, body)]) := fun hle hy => FR.snoc (h4.mono (Mem.le_trans l3 hle)) ⟨hok, rfl, hy⟩;have hns : ∀ {I4 : Mem} {y : Value}, I3.le I4 -> NewB I3 I4 y -> NewR I I4 (xs ++ [.int .i64 t, y]) := fun hle hy => NewR.snoc (hnr.mono (Mem.le_trans l3 hle)) (hy.anti (Mem.le_trans l1 (Mem.le_trans l2 l3)))
     have q1 : xs.length = xs.length / 2 * 2 := by omega
     have q2 : xs.length / 2 + 1 <= 9223372036854775807 := by omega
     have q3 : (xs.length / 2 + 1) * 32 <= 140737488355328 := by omega
     have q4 : ∀ y, xs.length / 2 + 1 = (xs ++ [Value.int IntKind.i64 t, y]).length / 2 := fun y => by simp
     have q5 : (L ++ [(t, body)]).length <= 64 := by simp; omega
     refine wr_i64 (by omega) (by omega) ((ct30N body _ _ _ I3 hsl hb1).mono fun v I4 l4 ⟨hv, hvn⟩ => ?_)
     all_goals
      have hv2 := hv;obtain ⟨b2, m2, c2, rfl, _⟩ := hv
      first
       | exact ⟨_, _, _, rfl, q1, q2, q3, q4 _, hw, by omega, by omega, hleft.1, hleft.2, _, hsn l4 hv2, hns l4 hvn, q5, h6⟩
       | exact ⟨_, _, _, rfl, ⟨q1, q2, q3, q4 _, hw, by omega, by omega, hleft.1, hleft.2, _, hsn l4 hv2, hns l4 hvn, q5, h6⟩, q1, q2, q3, q4 _, hw, by omega, by omega, hleft.1, hleft.2, _, hsn l4 hv2, hns l4 hvn, q5, h6⟩
 · rintro I2 G2 l2 xs last left wrong ⟨hw, h0, h1, h2, h3, L, h4, hnr, h5, h6⟩ I3 l3
   rw [List.drop_length, goF] at h6;have hlong := of_decide_eq_false hlong
   have : readF bs = (L, 0, 0) := by rw [readF, if_neg (by omega), h6]; rfl
   rw [this]
   refine Br.f (by subst hw; rfl) fun a2 cp I4 l4 hrow => ?_
   obtain ⟨a3, n3, c3, e1, e2, e3, e4⟩ := fr_row hrow.row (h4.mono (Mem.le_trans l3 l4));cases e1;have hxl := h4.len
   exact ⟨_, _, _, rfl, e2, e3, e4, fun G => ovl_row hrow (Mem.le_trans l1 (Mem.le_trans l2 l3)) l4 (h4.mono l3) (hnr.mono l3) (by omega) G⟩
 · rintro I2 G2 l2 wrong ⟨hw, h6⟩ I3 l3
   have hlong := of_decide_eq_false hlong
   have : readF bs = ([], wrong, 21) := by rw [readF, if_neg (by omega), h6, if_pos hw]
   rw [this]
   exact Br.t (by simpa using hw) ⟨none, 0, 0, rfl, fldM_nil _, by omega, by omega, fun G => ovl_nil _ _⟩
theorem ct43 (bs : List Int) (hbs : byteL bs) (a : Option Addr) (n c : Nat) (I : Mem) (h : SlM I a n 1 (ints .u8 bs)) (hn : n <= 1000000) (hc : n <= c) (hm : c <= maxLen) :
 Ct Try.prog (fnv 43) #[.slice a n c] I (fun v I' => ∃ a' n' c', v = .tuple #[.slice a' n' c', .int .i64 (readF bs).2.1, .int .i64 (readF bs).2.2] /\ FldM I' a' n' (readF bs).1 /\ n' <= c' /\ c' <= maxLen) :=
 (ct43N bs hbs a n c I h hn hc hm).mono fun _ _ _ ⟨a', n', c', h1, h2, h3, h4, _⟩ => ⟨a', n', c', h1, h2, h3, h4⟩
theorem ct61 (x : Int) (h : 0 <= x /\ x <= 18446744073709551615) (I : Mem) :
 Ct Try.prog (fnv 61) #[.slice none 0 0, .int .u64 x] I (fun v I' => BySl I' v (formN x.toNat)) := by
 refine viaR (ct_via (A := { loops := [(6, ⟨[(0, .keep), (1, .sh (.int .u64)), (5, .keep), (6, .keep), (7, .sh (.int .i64))], [(0, .vec)], [], fun vals xss _ _ => match vals, xss with
  | [.int .u64 v1, .int .i64 v7], [ys] => ∃ K : Nat, K <= digN x.toNat /\ v7 = (digN x.toNat : Int) - 1 - K /\ v1 = ((x.toNat / 256 ^ K : Nat) : Int) /\ ys = stA (digN x.toNat) K x.toNat | _, _ => False, fun vals _ => match vals with | [_, .int .i64 v7] => (v7 + 1).toNat | _ => 0⟩)] }) Try.func61 rfl Try.call61 rfl rfl) (Ct Try.prog (fnv 76) #[.int .u64 x] I fun v a => ∃ n, v = .int .i64 n /\ Br (n == 1) (Wr .u8 x (fun c => (1 : Nat) <= 9223372036854775807 /\ (1 : Nat) <= 140737488355328 /\ ∀ (b : Option Addr) (d : Nat) (e : Mem), a.le e -> RowM e b d 1 [.int .u8 c] -> ∃ f m g, Value.slice b 1 d = .slice f m g /\ SlM e f m 1 (List.map (Value.int .u8) (formN x.toNat)) /\ m <= g /\ g <= 9223372036854775807)) (Wr .i64 (n - 2) (fun c => (Rf (none : Option Nat) /\ Rf (SV.v (.slice none 0 0)) /\ Rf (SV.v (.int .i64 n)) /\ Rf (SV.ptr 0 0) /\ ∃ K, K <= digN x.toNat /\ c = (digN x.toNat : Int) - 1 - (K : Int) /\ x = ((x.toNat / 256 ^ K : Nat) : Int) /\ [Value.int .u8 0, .int .u8 0, .int .u8 0, .int .u8 0, .int .u8 0, .int .u8 0, .int .u8 0, .int .u8 0] = stA (digN x.toNat) K x.toNat) /\ ∀ (b : Mem), Mem -> a.le b -> ∀ (d : List Value) (e f : Int), (∃ K, K <= digN x.toNat /\ f = (digN x.toNat : Int) - 1 - (K : Int) /\ e = ((x.toNat / 256 ^ K : Nat) : Int) /\ d = stA (digN x.toNat) K x.toNat) -> Br (decide (0 <= f)) (Wr .u8 e (fun g => 0 <= f /\ f < 8 /\ 0 + f.toNat * 1 + 1 <= d.length /\ (0 : Int) <= 8 /\ Wr .i64 (f - 1) fun i => Rf (none : Option Nat) /\ Rf (SV.v (.slice none 0 0)) /\ Rf (SV.v (.int .i64 n)) /\ Rf (SV.ptr 0 0) /\ (∃ K, K <= digN x.toNat /\ i = (digN x.toNat : Int) - 1 - (K : Int) /\ e.fdiv 256 = ((x.toNat / 256 ^ K : Nat) : Int) /\ splice d (0 + f.toNat * 1) [.int .u8 g] = stA (digN x.toNat) K x.toNat) /\ Int.toNat (i + 1) < Int.toNat (f + 1))) (Wr .i64 (246 + n) (fun g => Wr .i64 (g - 1) fun i => Wr .u8 i fun j => Wr .i64 (n - 1) fun k => 0 <= k /\ k <= 8 /\ (1 : Nat) <= 9223372036854775807 /\ (1 : Nat) <= 140737488355328 /\ 0 + k.toNat * 1 <= d.length /\ (∀ (l : Value), Membership.mem (List.take (k.toNat * 1) d) l -> l.oneCell' = true) /\ (1 : Nat) = 1 /\ 1 + k.toNat <= 9223372036854775807 /\ (1 + k.toNat) * 1 <= 140737488355328 /\ ∀ (l : Option Addr) (m : Nat) (o : Mem), b.le o -> RowM o l m 1 (.int .u8 j :: List.append ([] : List Value) (List.take (k.toNat * 1) (List.drop 0 d))) -> ∃ p q r, Value.slice l (1 + k.toNat) m = .slice p q r /\ SlM o p q 1 (List.map (Value.int .u8) (formN x.toNat)) /\ q <= r /\ r <= 9223372036854775807))))) (by kernel_rfl) ?_
 simp only [eq_self, true_and]
 have hX : x.toNat < 256 ^ 8 := by omega
 have hd8 : digN x.toNat <= 8 := digN_le hX;refine (ct76 x h I).mono fun v I1 _ hv => ⟨_, hv, Br.mk (fun h1 => ?_) (fun h1 => ?_)⟩
 · have h1 : (sizeN x.toNat : Int) = 1 := by simpa using h1
   have hle : x.toNat <= 246 := by
    rcases Nat.lt_or_ge 246 x.toNat with hgt | hle
    · rw [sizeN, if_neg (by omega), digN_pos (by omega)] at h1
      omega
    · exact hle
   have hf : formN x.toNat = [x] := by rw [formN, if_pos hle]; congr 1; omega
   rw [hf]
   exact ⟨x, IntWalk.u8_in x ⟨h.1, by omega⟩, by omega, by omega, fun a cp I2 _ hrow => row_bysl (xs := [x]) hrow rfl⟩
 · have hgt : 246 < x.toNat := by
    rcases Nat.lt_or_ge 246 x.toNat with hgt | hle
    · exact hgt
    · rw [sizeN, if_pos hle] at h1
      simp at h1
   have hs : sizeN x.toNat = 1 + digN x.toNat := by rw [sizeN, if_neg (by omega)]
   have hd1 : 1 <= digN x.toNat := by rw [digN_pos (by omega)]; omega
   have hf : formN x.toNat = ((246 + digN x.toNat : Nat) : Int) :: be (digN x.toNat) x.toNat := by rw [formN, if_neg (by omega)]
   rw [hs, hf];generalize hdd : digN x.toNat = d at hd8 hd1 ⊢
   refine wr_i64 (by omega) (by omega) ⟨⟨0, by omega, by omega, by simp; omega, ?_⟩, fun I2 G2 _ ys v1 v7 ⟨K, k1, k2, k3, k4⟩ => Br.mk (fun hge => ?_) (fun hlt => ?_)⟩
   · show List.replicate 8 (Value.int .u8 0) = _
     rw [stA, be];simp only [ints, List.map_nil, List.append_nil, zs8, List.replicate_append_replicate]
     congr 1; omega
   · have hge := of_decide_eq_true hge
     have hv7 : v7.toNat = d - 1 - K := by omega
     have hq : x.toNat / 256 ^ K / 256 = x.toNat / 256 ^ (K + 1) := by rw [Nat.div_div_eq_div_mul, Nat.pow_succ]
     have hfd : v1.fdiv 256 = v1 / 256 := Int.fdiv_eq_ediv_of_nonneg _ (by decide)
     refine ⟨((x.toNat / 256 ^ K % 256 : Nat) : Int), by rw [IntKind.wrap_u8, k3]; omega, hge, by omega, ?_, by omega, wr_i64 (by omega) (by omega) ⟨⟨K + 1, by omega, by omega, by rw [hfd, k3, <- hq]; omega, ?_⟩, by omega⟩⟩
     · rw [k4, stA]; simp [zs8, ints_len, be_len]; omega
     · rw [show 0 + v7.toNat * 1 = d - 1 - K by omega, k4]
       exact stA_step (by omega) hd8
   · have hlt := of_decide_eq_false hlt
     obtain rfl : K = d := by omega
     have hys : ys = ints .u8 (be K x.toNat) ++ zs8 (8 - K) := by rw [k4, stA]; simp [zs8]
     have ht : ys.take K = ints .u8 (be K x.toNat) := by rw [hys, List.take_left' (by rw [ints_len, be_len])]
     have hylen : ys.length = 8 := by rw [hys]; simp [zs8, ints_len, be_len]; omega
     refine wr_i64 (by omega) (by omega) (wr_i64 (by omega) (by omega) ⟨((246 + K : Nat) : Int), by rw [IntWalk.u8_in _ ⟨by omega, by omega⟩]; omega, wr_i64 (by omega) (by omega) ?_⟩)
     rw [show ((1 + K : Nat) : Int) - 1 = (K : Int) by omega, Int.toNat_natCast, show K * 1 = K from Nat.mul_one K, ht]
     refine ⟨by omega, by omega, by omega, by omega, by omega, one_ints, by omega, by omega, fun a cp I3 _ hrow => ?_⟩
     have hrow : RowM I3 a cp 1 (ints .u8 (((246 + K : Nat) : Int) :: be K x.toNat)) := by
      change RowM I3 a cp 1 (Value.int .u8 ((246 + K : Nat) : Int) :: ys.take K) at hrow
      rw [ht] at hrow;exact hrow
     exact row_bysl hrow (by simp [be_len]; omega)
theorem ct44 (f : Int × List Int) (hok : okFld f) (b : Option Addr) (m c : Nat) (I : Mem) (h : SlM I b m 1 (ints .u8 f.2)) (hl : m <= 1000000) :
 Ct Try.prog (fnv 44) #[.agg #[.int .i64 f.1, .slice b m c]] I (fun v _ => v = .tuple #[.int .u64 (lastN f.2).1, .int .i64 (lastN f.2).2.2]) := by
 refine viaR (ct_via (A := {}) Try.func44 rfl Try.call44 rfl rfl) (Ct Try.prog (fnv 68) #[.slice b m c] I fun v a => ∃ n d e, v = .tuple #[.int .u64 n, .int .i64 d, .int .i64 e] /\ Value.tuple #[.int .u64 n, .int .i64 e] = .tuple #[.int .u64 (lastN f.2).1, .int .i64 (lastN f.2).2.2]) (by kernel_rfl) ?_
 exact (ct68 f.2 hok.2 _ _ _ I h (by omega)).mono fun v I1 _ hv => ⟨_, _, _, hv, rfl⟩
theorem ct64 (t : Int) (x : Int) (h : 0 <= x /\ x <= 18446744073709551615) (I : Mem) :
 Ct Try.prog (fnv 64) #[.int .i64 t, .int .u64 x] I (fun v I' => ∃ y, v = .agg #[.int .i64 t, y] /\ BySl I' y (formN x.toNat)) := by
 refine viaR (ct_via (A := {}) Try.func64 rfl Try.call64 rfl rfl) (Ct Try.prog (fnv 61) #[.slice none 0 0, .int .u64 x] I fun v a => ∃ b n c, v = .slice b n c /\ ∃ y, Value.agg #[.int .i64 t, .slice b n c] = .agg #[.int .i64 t, y] /\ ∃ d m e, y = .slice d m e /\ SlM a d m 1 (List.map (Value.int .u8) (formN x.toNat)) /\ m <= e /\ e <= 9223372036854775807) (by kernel_rfl) ?_
 refine (ct61 x h I).mono fun v I1 _ hv => ?_;have hv2 := hv;obtain ⟨b, m, c, rfl, _⟩ := hv;exact ⟨_, _, _, rfl, _, rfl, hv2⟩
theorem fstep_form (pre rest : List Int) (f : Int × List Int) (h : f.2.length <= 16384) :
 fstep (pre ++ (f.1 :: (formN f.2.length ++ (f.2 ++ rest)))) pre.length = some (f.2, pre.length + 1 + (formN f.2.length).length + f.2.length) := by
 have e : pre ++ (f.1 :: (formN f.2.length ++ (f.2 ++ rest))) = (pre ++ [f.1]) ++ (formN f.2.length ++ (f.2 ++ rest)) := by simp
 have hr := readN_form (pre ++ [f.1]) (f.2 ++ rest) f.2.length (by omega)
 have hp : ((pre ++ [f.1]).length : Int) = (pre.length : Int) + 1 := by simp
 rw [<- e, hp] at hr
 have hi : intN (pre ++ (f.1 :: (formN f.2.length ++ (f.2 ++ rest)))) ((pre.length : Nat) + 1) 0 16384 = ((f.2.length : Int), ((formN f.2.length).length : Int), 0) := by
  unfold intN
  rw [hr, if_neg (by simp), if_neg (by simp only; omega)]
 have hl : (pre ++ (f.1 :: (formN f.2.length ++ (f.2 ++ rest)))).length = pre.length + 1 + (formN f.2.length).length + f.2.length + rest.length := by simp; omega
 unfold fstep
 rw [hi, if_neg (by simp only [hl]; omega)]
 simp only [Int.toNat_natCast]
 have hd : (pre ++ (f.1 :: (formN f.2.length ++ (f.2 ++ rest)))).drop ((pre.length : Int) + 1 + ((formN f.2.length).length : Int)).toNat = f.2 ++ rest := by
  have e2 : pre ++ (f.1 :: (formN f.2.length ++ (f.2 ++ rest))) = (pre ++ [f.1] ++ formN f.2.length) ++ (f.2 ++ rest) := by simp
  rw [e2, List.drop_left' (by simp; omega)]
 rw [hd, List.take_left' rfl]
 congr 2
theorem yields_form (pre : List Int) (f : Int × List Int) (r : List (Int × List Int)) (h : f.2.length <= 16384) :
 yields (pre ++ writeF (f :: r)) pre.length = (pre.length, f) :: yields ((pre ++ writeF [f]) ++ writeF r) (pre ++ writeF [f]).length := by
 have e : writeF (f :: r) = f.1 :: (formN f.2.length ++ (f.2 ++ writeF r)) := writeF_cons f r
 have e1 : writeF [f] = f.1 :: (formN f.2.length ++ f.2) := by rw [writeF_cons]; simp [writeF]
 have e2 : (pre ++ writeF [f]) ++ writeF r = pre ++ writeF (f :: r) := by rw [e, e1]; simp
 have hn : (pre ++ writeF [f]).length = pre.length + 1 + (formN f.2.length).length + f.2.length := by rw [e1]; simp; omega
 rw [e2, hn]
 rw [yields, dif_pos (by rw [e]; simp)]
 have hfs := fstep_form pre (writeF r) f h;rw [<- e] at hfs;rw [hfs]
 simp only
 rw [dif_pos (by omega)]
 congr 2
 rw [List.getElem?_append_right (by omega), Nat.sub_self, e]; rfl
theorem goF_write : ∀ (r : List (Int × List Int)) (pre : List Int) (last left : Int) (out : List (Int × List Int)), left <= 16384 -> rightStep last left r = true -> out.length + r.length <= 64 ->
 goF (yields (pre ++ writeF r) pre.length) last left out = (-1, out ++ r)
 | [], pre, last, left, out, _, _, _ => by
   rw [yields, dif_neg (by simp [writeF]), goF]; simp
 | f :: r, pre, last, left, out, hl, h, hn => by
   rw [rightStep] at h
   split at h
   · cases h
   · rename_i hc
     rw [yields_form pre f r (by omega), goF, if_neg (by simp only; simp at hn; omega)]
     simp only
     rw [goF_write r (pre ++ writeF [f]) f.1 (left - f.2.length) (out ++ [f]) (by omega) h (by simp at hn ⊢; omega)]
     simp
theorem write_len {l : List (Int × List Int)} (h : rightF l = true) : (writeF l).length <= 16384 + 640 := by
 obtain ⟨h1, h2⟩ := rightF_iff.1 h
 have h3 := right_len (by omega) h1 l.length
 rw [List.take_length] at h3;omega
theorem write_len2 : ∀ {l : List (Int × List Int)} {last left : Int}, left <= 16384 -> 0 <= left -> rightStep last left l = true -> ((writeF l).length : Int) <= left + 6 * l.length
 | [], last, left, _, h0, _ => by simp [writeF]; omega
 | g :: r, last, left, hl, h0, h => by
   rw [rightStep] at h
   split at h
   · cases h
   · rename_i hc
     have ih := write_len2 (by omega) (by omega) h
     have h3 : (formN g.2.length).length <= 3 := by
      rw [formN_len, sizeN]
      have : digN g.2.length <= 2 := digN_le (by omega)
      split <;> omega
     rw [writeF_cons];simp only [List.length_cons, List.length_append];omega
theorem read_write {l : List (Int × List Int)} (h : rightF l = true) : readF (writeF l) = (l, 0, 0) := by
 obtain ⟨h1, h2⟩ := rightF_iff.1 h
 have h3 := write_len2 (by omega) (by omega) h1
 have hg := goF_write l [] 0 16384 [] (by omega) h1 (by simp; omega)
 simp only [List.nil_append, List.length_nil] at hg
 rw [readF, if_neg (by omega), hg]
 rfl
theorem write_bytes {l : List (Int × List Int)} (hr : rightF l = true) (hok : ∀ f ∈ l, okFld f) : byteL (writeF l) := fun z hz => by
 obtain ⟨h1, _⟩ := rightF_iff.1 hr;simp only [writeF, List.mem_flatMap] at hz;obtain ⟨f, hf, hz⟩ := hz;have hra := right_at h1 f hf
 rcases List.mem_cons.1 hz with rfl | hz
 · omega
 · rcases List.mem_append.1 hz with hz | hz
   · exact formN_bytes (by omega) z hz
   · exact (hok f hf).2 z hz
theorem fstep_some {bs : List Int} (hbs : byteL bs) {at_ : Nat} {p : List Int × Nat} (h : fstep bs at_ = some p) :
 at_ < p.2 /\ p.2 <= bs.length /\ p.1.length <= 16384 /\ bs.drop (at_ + 1) = formN p.1.length ++ (p.1 ++ bs.drop p.2) := by
 unfold fstep at h
 split at h
 · cases h
 · rename_i hc
   have he : (intN bs (at_ + 1) 0 16384).2.2 = 0 := by
    rcases Int.instDecidableEq (intN bs (at_ + 1) 0 16384).2.2 0 with hne | he
    · exact absurd (.inl hne) hc
    · exact he
   generalize hr : intN bs (at_ + 1) 0 16384 = r at h hc he;obtain ⟨sz, k, e⟩ := r
   simp only at he hc h
   subst he;obtain ⟨g1, g2, g3, g4, g5, g6⟩ := intN_ok hbs hr
   have hfl := formN_le sz.toNat (by omega)
   have hsz : ¬((bs.length : Int) - (at_ + 1 + k) < sz) := fun hx => hc (.inr hx);cases h
   simp only
   have hlen : ((bs.drop ((at_ : Int) + 1 + k).toNat).take sz.toNat).length = sz.toNat := by simp; omega
   refine ⟨by omega, by omega, by omega, ?_⟩
   rw [hlen]
   have e1 : ((at_ : Int) + 1).toNat = at_ + 1 := by omega
   rw [e1] at g5;rw [g5]
   congr 1
   have e2 : ((at_ : Int) + 1 + k + sz).toNat = ((at_ : Int) + 1 + k).toNat + sz.toNat := by omega
   rw [e2, <- List.drop_drop, List.take_append_drop]
theorem goF_back {bs : List Int} (hbs : byteL bs) : ∀ {at_ : Nat} {last left : Int} {out L : List (Int × List Int)}, 0 <= last -> at_ <= bs.length -> out.length <= 64 -> goF (yields bs at_) last left out = (-1, L) ->
 ∃ r, L = out ++ r /\ rightStep last left r = true /\ bs.drop at_ = writeF r /\ L.length <= 64 := by
 intro at_
 induction hm : bs.length - at_ using Nat.strongRecOn generalizing at_ with
 | ind m ih =>
   intro last left out L h0 hat hout h;rw [yields] at h
   split at h
   · rename_i hlt
     split at h
     · rw [goF, if_pos (.inl h0)] at h
       injection h with h1
       omega
     · rename_i p hp
       obtain ⟨g1, g2, g3, g4⟩ := fstep_some hbs hp;rw [goF] at h
       split at h
       · injection h with h1
         simp only at h1
         omega
       · rename_i hc
         simp only at hc h
         have hb : (bs[at_]?).getD 0 = bs[at_] := by rw [List.getElem?_eq_getElem hlt]; rfl
         rw [hb] at hc h
         obtain ⟨r, r1, r2, r3, r4⟩ := ih (bs.length - p.2) (by omega) rfl (by omega) g2 (by simp; omega) h
         refine ⟨(bs[at_], p.1) :: r, by rw [r1]; simp, ?_, ?_, r4⟩
         · rw [rightStep, if_neg (by simp only; omega)]
           exact r2
         · rw [List.drop_eq_getElem_cons hlt, g4, writeF_cons, r3]
   · rw [goF] at h
     cases h
     refine ⟨[], by simp, rfl, ?_, hout⟩
     rw [List.drop_eq_nil_of_le (by omega)]; rfl
theorem goF_sign : ∀ {ys : List (Nat × (Int × List Int))} {last left : Int} {out : List (Int × List Int)}, (goF ys last left out).1 = -1 \/ (0 <= (goF ys last left out).1 /\ (goF ys last left out).2 = [])
 | [], _, _, _ => .inl rfl
 | y :: r, last, left, out => by
   rw [goF];split
   · exact .inr ⟨by simp, rfl⟩
   · exact goF_sign
theorem read_cases (bs : List Int) (hbs : byteL bs) : ((readF bs).2.2 = 0 /\ (readF bs).2.1 = 0 /\ rightF (readF bs).1 = true /\ writeF (readF bs).1 = bs) \/ ((readF bs).1 = [] /\ ((readF bs).2.2 = 3 /\ 16768 < bs.length \/ (readF bs).2.2 = 21)) := by
 unfold readF;split
 · exact .inr ⟨rfl, .inl ⟨rfl, by assumption⟩⟩
 · split
   · exact .inr ⟨rfl, .inr rfl⟩
   · rename_i h1 h2
     have hs := goF_sign (ys := yields bs 0) (last := 0) (left := 16384) (out := [])
     have hw : (goF (yields bs 0) 0 16384 []).1 = -1 := by omega
     obtain ⟨r, r1, r2, r3, r4⟩ := goF_back hbs (at_ := 0) (last := 0) (left := 16384) (out := []) (L := (goF (yields bs 0) 0 16384 []).2) (by omega) (by omega) (by simp) (by rw [<- hw])
     rw [List.nil_append] at r1;rw [List.drop_zero] at r3
     refine .inl ⟨rfl, rfl, rightF_iff.2 ⟨by rw [r1]; exact r2, r4⟩, by simp only [r1]; exact r3.symm⟩
theorem ct73 (k i : Int) (I : Mem) (hk : 0 <= k /\ k <= 100) (hi : 0 <= i /\ i <= 1000000000000000) :
 Ct Try.prog (fnv 73) #[.int .i64 k, .int .i64 i] I (fun v _ => v = .int .i64 (1000003 * (k + 7) + i)) := by
 refine viaR (ct_via (A := { }) Try.func73 rfl Try.call73 rfl rfl) (Wr .i64 (k + 7) fun c => Wr .i64 (1000003 * c) fun a => Wr .i64 (a + i) fun b => Value.int .i64 b = .int .i64 (1000003 * (k + 7) + i)) (by kernel_rfl) ?_
 exact wr_i64 (by omega) (by omega) (wr_i64 (by omega) (by omega) (wr_i64 (by omega) (by omega) rfl))
def markB (k i : Int) : Int := IntKind.u8.wrap ((IntKind.u64.wrap (IntKind.u64.wrap (1000003 * (k + 7) + i) * 11400714819323198485)).fdiv 72057594037927936)
theorem wrap_u8 (x : Int) : 0 <= IntKind.u8.wrap x /\ IntKind.u8.wrap x <= 255 := by
 have h : IntKind.u8.wrap x = x % 256 := rfl;omega
theorem ct55 (k i : Int) (I : Mem) (hk : 0 <= k /\ k <= 100) (hi : 0 <= i /\ i <= 1000000000000000) :
 Ct Try.prog (fnv 55) #[.int .i64 k, .int .i64 i] I (fun v _ => v = .int .u8 (markB k i)) := by
 refine viaR (ct_via (A := { }) Try.func55 rfl Try.call55 rfl rfl) (Ct Try.prog (fnv 73) #[.int .i64 k, .int .i64 i] I fun v a => ∃ n, v = .int .i64 n /\ Wr .u64 n fun c => Wr .u64 (c * 11400714819323198485) fun b => (0 : Int) <= 56 /\ Wr .u8 (b.fdiv 72057594037927936) fun d => Value.int .u8 d = .int .u8 (markB k i)) (by kernel_rfl) ?_
 exact (ct73 k i I hk hi).mono fun v I1 l1 hv => ⟨_, hv, _, rfl, _, rfl, by decide, _, rfl, rfl⟩
def OverB (G : Mem) (a : Option Addr) (c : Nat) (G' : Mem) : Prop :=
 (c = 0 /\ G' = G) \/ 0 < c /\ ∃ (b off : Nat) (cur cur' : Array Value) (el : TypeId) (fz : Nat × Nat), a = some ⟨b, off, none⟩ /\ G b = some (.cells cur el fz) /\ G' b = some (.cells cur' el fz) /\ cur'.size = cur.size /\ ∀ k, k ≠ b -> G' k = G k
theorem ct37 (a : Option Addr) (n c : Nat) (I G : Mem) (hn : n <= c) (hc : n <= 1000000) (h : OwnS 1 G a c) :
 CtH Try.prog (fnv 37) #[.slice a n c] I G (fun v I' G' => v = .tuple #[] /\ OverB G a c G') := by
 refine viaR (ctG_via (A := { calls := [(22, .st)], loops := [(2, ⟨[(2, .keep), (3, .sh (.int .i64))], [], [], fun vals _ _ G' => match vals with | [.int .i64 j] => 0 <= j /\ j <= n + 12 /\ OverB G a c G' | _ => False, fun vals _ => match vals with | [.int .i64 j] => (n + 12 - j).toNat | _ => 0⟩)] }) Try.func37 rfl Try.call37 rfl rfl) (Wr .i64 ((n : Int) + 12) fun b => 0 <= (bif false then imax (c : Int) b else imin (c : Int) b) /\ (bif false then imax (c : Int) b else imin (c : Int) b) <= (c : Int) /\ (Rf (SV.v (.slice a (bif false then imax (c : Int) b else imin (c : Int) b).toNat c)) /\ (0 : Int) <= 0 /\ 0 <= (n : Int) + 12 /\ OverB G a c G) /\ ∀ (d e : Mem), I.le d -> ∀ (f : Int), 0 <= f /\ f <= (n : Int) + 12 /\ OverB G a c e -> Br (decide (f < ((bif false then imax (c : Int) b else imin (c : Int) b).toNat : Int))) (Ct Try.prog (fnv 55) #[.int .i64 2, .int .i64 f] d (fun v g => ∃ i, v = .int .u8 i /\ 0 <= f /\ f < ((bif false then imax (c : Int) b else imin (c : Int) b).toNat : Int) /\ a.isSome = true /\ ∃ j, PutG e a (f.toNat * 1) [.int .u8 i] j /\ Wr .i64 (f + 1) fun k => Rf (SV.v (.slice a (bif false then imax (c : Int) b else imin (c : Int) b).toNat c)) /\ (0 <= k /\ k <= (n : Int) + 12 /\ OverB G a c j) /\ Int.toNat ((n : Int) + 12 - k) < Int.toNat ((n : Int) + 12 - f))) (Rf (Value.tuple #[]) /\ OverB G a c e)) (by kernel_rfl) ?_
 have hs : 0 <= (bif false then imax (c : Int) (n + 12) else imin (c : Int) (n + 12)) /\ (bif false then imax (c : Int) (n + 12) else imin (c : Int) (n + 12)) <= c /\ (bif false then imax (c : Int) (n + 12) else imin (c : Int) (n + 12)) <= n + 12 := by
  simp only [cond_false, imin]
  split <;> omega
 have o0 : OverB G a c G := by
  by_cases h0 : c = 0
  · exact .inl ⟨h0, rfl⟩
  · obtain ⟨b, off, cur, el, fz, h1, h2, hth, h3⟩ := h (by omega)
    exact .inr ⟨by omega, b, off, cur, cur, el, fz, h1, h2, h2, rfl, fun _ _ => rfl⟩
 refine wr_i64 (by omega) (by omega) ?_
 obtain ⟨m0, m1, m2⟩ := hs;generalize (bif false then imax (c : Int) (n + 12) else imin (c : Int) (n + 12)) = m at m0 m1 m2 ⊢
 refine ⟨m0, m1, ⟨rfl, by omega, by omega, o0⟩, fun I1 G1 l1 j ⟨j0, j1, j2⟩ => Br.mk (fun hlt => ?_) (fun hge => ⟨rfl, j2⟩)⟩
 have hlt := of_decide_eq_true hlt
 refine (ct55 2 j I1 (by omega) ⟨j0, by omega⟩).mono fun v I2 l2 hv => ⟨_, hv, j0, hlt, ?_⟩
 rcases j2 with ⟨c0, _⟩ | ⟨cp, b, off, cur, cur', el, fz, h1, h2, h3, h4, h5⟩
 · omega
 obtain ⟨b', off', cur2, el2, fz2, g1, g2, gth, g3⟩ := h (by omega)
 rw [h1] at g1; cases g1
 rw [h2] at g2; cases g2
 refine ⟨by rw [h1]; rfl, _, ⟨b, off, cur', el, fz, h1, h3, by rw [h4]; exact gth, by simp only [List.length_singleton]; omega, rfl⟩, wr_i64 (by omega) (by omega) ⟨rfl, ⟨by omega, by omega, .inr ⟨by omega, b, off, cur, _, el, fz, h1, h2, if_pos rfl, ?_, fun k hk => by simp only; rw [if_neg hk]; exact h5 k hk⟩⟩, by omega⟩⟩
 simp only [List.size_toArray, List.length_append, List.length_take, List.length_drop, Array.length_toList, List.length_singleton];omega
def marksB (k : Int) (n : Nat) : List Int := (List.range n).map fun (i : Nat) => markB k (i : Int)
theorem marksB_succ (k : Int) (n : Nat) : marksB k (n + 1) = marksB k n ++ [markB k n] := by simp [marksB, List.range_succ]
theorem marksB_at {k : Int} {n i : Nat} (h : i < n) : (marksB k n)[i]? = some (markB k i) := by simp [marksB, h]
theorem ct34 (xs : List Int) (a : Option Addr) (n c : Nat) (I : Mem) (h : SlM I a n 1 (ints .u8 xs)) (hn : n <= 1000000) :
 Ct Try.prog (fnv 34) #[.slice a n c] I (fun v I' => ∃ a' cp, v = .slice a' n cp /\ n + 12 <= cp /\ cp <= maxLen /\ SlM I' a' (n + 12) 1 (ints .u8 (xs ++ marksB 1 12))) := by
 refine viaR (ct_via (A := { loops := [(4, ⟨[(0, .keep), (3, .row 0), (4, .sh (.int .i64))], [(0, .row)], [(3, 1, 5)], fun vals xss _ _ => match vals, xss with | [.int .i64 j], [ys] => 0 <= j /\ j <= 12 /\ ys = ints .u8 (xs ++ marksB 1 j.toNat) | _, _ => False, fun vals _ => match vals with | [.int .i64 j] => (12 - j).toNat | _ => 0⟩)] }) Try.func34 rfl Try.call34 rfl rfl) (Wr .i64 ((n : Int) + 12) fun b => (0 : Int) <= 0 /\ 0 <= b /\ b <= 281474976710656 /\ 1 * b <= 281474976710656 /\ ∃ y, y.length = n * 1 /\ (a = none -> n = 0) /\ (∀ (j : Nat) (v : Value), y[j]? = some v -> atI I a j = some v) /\ (∀ (v : Value), Membership.mem y v -> v.oneCell' = true) /\ (0 : Nat) = 0 /\ 0 + n <= 9223372036854775807 /\ (0 + n) * 1 <= 140737488355328 /\ (Rf (SV.v (.slice a n c)) /\ 0 + n = y.length /\ (0 : Int) <= 0 /\ (0 : Int) <= 12 /\ y = List.map (Value.int .u8) (xs ++ [])) /\ ∀ (d : Mem), Mem -> I.le d -> ∀ (x : List Value) (e : Int), 0 <= e /\ e <= 12 /\ x = List.map (Value.int .u8) (xs ++ marksB 1 e.toNat) -> Br (decide (e < 12)) (Ct Try.prog (fnv 55) #[.int .i64 1, .int .i64 e] d (fun v f => ∃ g, v = .int .u8 g /\ x.length = x.length * 1 /\ x.length + 1 <= 9223372036854775807 /\ (x.length + 1) * 1 <= 140737488355328 /\ Wr .i64 (e + 1) fun i => Rf (SV.v (.slice a n c)) /\ x.length + 1 = List.length (x ++ [.int .u8 g]) /\ (0 <= i /\ i <= 12 /\ x ++ [.int .u8 g] = List.map (Value.int .u8) (xs ++ marksB 1 i.toNat)) /\ Int.toNat (12 - i) < Int.toNat (12 - e))) (0 <= (n : Int) /\ (n : Int) <= (x.length : Int) /\ x.length * 1 <= x.length /\ ∀ (f : Option Addr) (g : Nat) (i : Mem), d.le i -> RowM i f g 1 x -> ∃ j k, Value.slice f n g = .slice j n k /\ n + 12 <= k /\ k <= 9223372036854775807 /\ SlM i j (n + 12) 1 (List.map (Value.int .u8) (xs ++ [190, 92, 250, 152, 55, 213, 115, 17, 175, 78, 236, 138])))) (by kernel_rfl) ?_
 have hnl := h.numLen
 refine wr_i64 (by omega) (by omega) ⟨by omega, by omega, by omega, by omega, ints .u8 xs, h.len, h.nil, h.at_, one_ints, rfl, by omega, by omega, ⟨rfl, by rw [ints_len]; omega, by omega, by omega, by simp [ints]⟩, fun I1 _ l1 zs j ⟨j0, j1, hz⟩ => ?_⟩
 have hzl : zs.length = n + j.toNat := by rw [hz]; simp [marksB]; omega
 refine Br.mk (fun hlt => ?_) (fun hge => ?_)
 · have hlt := of_decide_eq_true hlt
   refine (ct55 1 j I1 (by omega) ⟨j0, by omega⟩).mono fun v I2 l2 hv => ⟨_, hv, by omega, by omega, by omega, wr_i64 (by omega) (by omega) ⟨rfl, by simp, ⟨by omega, by omega, ?_⟩, by omega⟩⟩
   rw [hz, show (j + 1).toNat = j.toNat + 1 by omega, marksB_succ, <- List.append_assoc, show ((j.toNat : Nat) : Int) = j by omega]
   simp
 · have hge := of_decide_eq_false hge
   have hj : j.toNat = 12 := by omega
   have hm : marksB 1 12 = [190, 92, 250, 152, 55, 213, 115, 17, 175, 78, 236, 138] := by decide
   rw [hj, hm] at hz;rw [hj] at hzl
   refine ⟨by omega, by omega, by omega, fun a' cp I2 l2 hrow => ⟨a', cp, rfl, ?_, hrow.2.1, ?_⟩⟩
   · have := hrow.1; omega
   · rw [<- hz]; exact hrow.sl (by omega) (by omega)
theorem ct38 (xs ys : List Int) (a : Option Addr) (n c : Nat) (b : Option Addr) (m d : Nat) (I : Mem) (h : SlM I a (n + 12) 1 (ints .u8 (xs ++ marksB 1 12))) (hx : xs = ys) (hnm : n = m) (hc : n + 12 <= c) (h' : SlM I b m 1 (ints .u8 ys)) (hn : n <= 1000000) :
 Ct Try.prog (fnv 38) #[.slice a n c, .slice b m d] I (fun v I' => v = .bool true) := by
 refine viaR (ct_via (A := { loops := [(5, ⟨[(1, .keep), (5, .keep), (6, .sh (.int .i64))], [], [], fun vals _ _ _ => match vals with | [.int .i64 j] => 0 <= j | _ => False, fun vals _ => match vals with | [.int .i64 j] => (n + 12 - j).toNat | _ => 0⟩)] }) Try.func38 rfl Try.call38 rfl rfl) (Br ((n : Int) != (m : Int)) (Value.bool false = .bool true) (Wr .i64 ((m : Int) + 12) (fun e => 0 <= e /\ e <= (c : Int) /\ (Rf (SV.v (.slice b m d)) /\ Rf (SV.v (.slice a e.toNat c)) /\ (0 : Int) <= 0) /\ ∀ (f : Mem), Mem -> I.le f -> ∀ (g : Int), 0 <= g -> Br (decide (g < (e.toNat : Int))) (Br (decide (g < (m : Int))) (0 <= g /\ g < (e.toNat : Int) /\ a.isSome = true /\ ∃ i, atI f a (g.toNat * 1 + 0) = some (.int .u8 i) /\ 0 <= g /\ g < (m : Int) /\ b.isSome = true /\ ∃ j, atI f b (g.toNat * 1 + 0) = some (.int .u8 j) /\ Br (!(i == j)) (Value.bool false = .bool true) (Br (decide ((m : Int) <= g)) (0 <= g /\ g < (e.toNat : Int) /\ a.isSome = true /\ ∃ k, atI f a (g.toNat * 1 + 0) = some (.int .u8 k) /\ Wr .i64 (g - (m : Int)) fun l => Ct Try.prog (fnv 55) #[.int .i64 1, .int .i64 l] f fun v o => ∃ p, v = .int .u8 p /\ Br (!(k == p)) (Value.bool false = .bool true) (Wr .i64 (g + 1) (fun q => Rf (SV.v (.slice b m d)) /\ Rf (SV.v (.slice a e.toNat c)) /\ 0 <= q /\ Int.toNat ((n : Int) + 12 - q) < Int.toNat ((n : Int) + 12 - g)))) (Wr .i64 (g + 1) (fun k => Rf (SV.v (.slice b m d)) /\ Rf (SV.v (.slice a e.toNat c)) /\ 0 <= k /\ Int.toNat ((n : Int) + 12 - k) < Int.toNat ((n : Int) + 12 - g))))) (Br (decide ((m : Int) <= g)) (0 <= g /\ g < (e.toNat : Int) /\ a.isSome = true /\ ∃ i, atI f a (g.toNat * 1 + 0) = some (.int .u8 i) /\ Wr .i64 (g - (m : Int)) fun j => Ct Try.prog (fnv 55) #[.int .i64 1, .int .i64 j] f fun v k => ∃ l, v = .int .u8 l /\ Br (!(i == l)) (Value.bool false = .bool true) (Wr .i64 (g + 1) (fun o => Rf (SV.v (.slice b m d)) /\ Rf (SV.v (.slice a e.toNat c)) /\ 0 <= o /\ Int.toNat ((n : Int) + 12 - o) < Int.toNat ((n : Int) + 12 - g)))) (Wr .i64 (g + 1) (fun i => Rf (SV.v (.slice b m d)) /\ Rf (SV.v (.slice a e.toNat c)) /\ 0 <= i /\ Int.toNat ((n : Int) + 12 - i) < Int.toNat ((n : Int) + 12 - g))))) (Rf (Value.bool true))))) (by kernel_rfl) ?_
 subst hx;subst hnm;have hnl := h'.numLen
 refine Br.f (by simp) (wr_i64 (by omega) (by omega) ⟨by omega, by omega, ⟨rfl, rfl, by omega⟩, fun I1 _ l1 j j0 => Br.mk (fun hlt => ?_) (fun hge => rfl)⟩)
 have hlt := of_decide_eq_true hlt
 have ha0 : a.isSome = true := h.isSome (by omega)
 have ha : ∀ x, (xs ++ marksB 1 12)[j.toNat]? = some x -> atI I1 a (j.toNat * 1 + 0) = some (Value.int .u8 x) := fun x hx => by
  rw [Nat.mul_one, Nat.add_zero];exact (h.mono l1).at_ _ _ (ints_get hx)
 refine Br.mk (fun h1 => ?_) (fun h1 => ?_)
 · have h1 := of_decide_eq_true h1
   have hg : xs[j.toNat]? = some xs[j.toNat] := List.getElem?_eq_getElem (by omega)
   have hg2 := ha _ (by rw [List.getElem?_append_left (by omega)]; exact hg)
   refine ⟨j0, hlt, ha0, _, hg2, j0, h1, h'.isSome (by omega), xs[j.toNat], ?_, Br.f (by simp) (Br.f (by simpa using h1) (wr_i64 (by omega) (by omega) ⟨rfl, rfl, by omega, by omega⟩))⟩
   rw [Nat.mul_one, Nat.add_zero];exact (h'.mono l1).at_ _ _ (ints_get hg)
 · have h1 := of_decide_eq_false h1
   have hk : j.toNat - n < 12 := by omega
   have hg2 := ha _ (by rw [List.getElem?_append_right (by omega), <- hnl]; exact marksB_at hk)
   refine Br.t (by simp; omega) ⟨j0, hlt, ha0, _, hg2, wr_i64 (by omega) (by omega) ((ct55 1 (j - n) I1 (by omega) ⟨by omega, by omega⟩).mono fun v I2 l2 hv => ⟨_, hv, Br.f ?_ (wr_i64 (by omega) (by omega) ⟨rfl, rfl, by omega, by omega⟩)⟩)⟩
   rw [show ((j.toNat - n : Nat) : Int) = j - n by omega]
   simp
theorem CtS.rowed {P : Program} {fv : SV} {args : List SV} {H : List Ent} {I : Mem} {el : TypeId} {Q : List Value -> Prop} (h : CtS P fv args H I (fun sv H' _ => ∃ zs, zs.length <= maxLen /\ Q zs /\
 ((sv = .xsl 0 0 zs.length zs.length /\ H' = [⟨.cells (zs.map .v) el, none⟩]) \/ (sv = .rsl 0 zs.length /\ H' = [⟨.row zs 1 el, none⟩])))) :
 CtS P fv args H I (fun sv H' _ => ∃ zs, Q zs /\ sv = .rsl 0 zs.length /\ H' = [⟨.row zs 1 el, none⟩]) := fun e hp hO => by
 refine (h e hp hO).mono ?_
 rintro v I' hp' hle ⟨e', sv, H', h1, h2, zs, hm, hq, ⟨rfl, rfl⟩ | ⟨rfl, rfl⟩⟩
 · obtain ⟨g1, cur, g2, g3, g4⟩ := h2.hold 0 _ rfl rfl
   refine ⟨{ e' with cap := fun _ => zs.length }, .rsl 0 zs.length, [⟨.row zs 1 el, none⟩], ?_, ⟨fun id x hx hal => ?_, fun i j x y hx hy _ _ _ _ hij => ?_, fun b hb => ?_, fun id x b hx hb => ?_⟩, zs, hq, rfl, rfl⟩
   · rw [h1]; simp [den, g1]
   · cases id with
     | zero =>
       simp only [List.getElem?_cons_zero, Option.some.injEq] at hx;subst hx
       refine ⟨by omega, ⟨zs.length, by omega⟩, .inr ⟨g1, cur, (0, 0), g2, thaw_zero _, by simpa using g3, hm, by simp at g3; omega, ?_⟩⟩
       apply List.ext_getElem?;intro k;rw [List.getElem?_take];split
       · rename_i hk
         have := g4 k (.v zs[k]) (by simp [hk]) rfl
         simp only [den] at this;rw [Array.getElem?_toList, this, List.getElem?_eq_getElem hk]
       · rw [List.getElem?_eq_none (by omega)]
     | succ id => simp at hx
   · have hi := (List.getElem?_eq_some_iff.1 hx).1
     have hj := (List.getElem?_eq_some_iff.1 hy).1;simp at hi hj;omega
   · obtain ⟨id, x, hx, hal, hn, hbe⟩ := h2.dom b hb
     have hi := (List.getElem?_eq_some_iff.1 hx).1;simp at hi;subst hi;exact ⟨0, _, rfl, rfl, hn, hbe⟩
   · have hi := (List.getElem?_eq_some_iff.1 hx).1
     simp at hi;subst hi;simp at hx;subst hx;cases hb
 · exact ⟨e', _, _, h1, h2, zs, hq, rfl, rfl⟩
theorem pow8 : ∀ l : Nat, l < 8 -> (256 : Int) ^ (l + 1) <= 18446744073709551616 := by decide
theorem cs70 : ∀ (k : Nat) (x : Int), 0 <= x -> x < 256 ^ (k + 1) -> (k = 0 \/ 256 ^ k <= x) -> k <= 7 -> ∀ (I : Mem),
 CtS Try.prog (.v (fnv 70)) [.v (.int .u64 x)] [] I (fun sv H' _ => ∃ zs, zs = ints .u8 (be (k + 1) x.toNat) /\ sv = .rsl 0 zs.length /\ H' = [⟨.row zs 1 5, none⟩]) := by
 intro k
 induction k with
 | zero =>
   intro x h0 h1 h2 hk I;refine CtS.rowed ?_
   refine viaR (ctS_via (A := { calls := [(10, .lend [] (.row 0) [.row 1 5])] }) Try.func70 rfl Try.call70 [0] rfl) (Br (decide (x < 256)) (Wr .u8 x (fun c => ∃ z, z.length <= 9223372036854775807 /\ z = [.int .u8 ((x.toNat % 256 : Nat) : Int)] /\ (SV.xsl 0 0 1 1 = .xsl 0 0 z.length z.length /\ [Ent.mk (.cells [.v (.int .u8 c)] 5) none] = [⟨.cells (List.map SV.v z) 5, none⟩] \/ SV.xsl 0 0 1 1 = .rsl 0 z.length /\ [Ent.mk (.cells [.v (.int .u8 c)] 5) none] = [⟨.row z 1 5, none⟩]))) ((256 : Int) ≠ 0 /\ Wr .u64 (x.tdiv 256) fun c => CtS Try.prog (.v (fnv 70)) [.v (.int .u64 c)] [] I fun s H a => ∃ n b, s = .rsl 0 n /\ H = [⟨.row b 1 5, none⟩] /\ (256 : Int) ≠ 0 /\ Wr .u8 (x.tmod 256) fun d => b.length = n * 1 /\ n + 1 <= 9223372036854775807 /\ (n + 1) * 1 <= 140737488355328 /\ ∃ z, z.length <= 9223372036854775807 /\ z = [.int .u8 ((x.toNat % 256 : Nat) : Int)] /\ (SV.rsl 0 (n + 1) = .xsl 0 0 z.length z.length /\ [Ent.mk (.row (b ++ [.int .u8 d]) 1 5) none] = [⟨.cells (List.map SV.v z) 5, none⟩] \/ SV.rsl 0 (n + 1) = .rsl 0 z.length /\ [Ent.mk (.row (b ++ [.int .u8 d]) 1 5) none] = [⟨.row z 1 5, none⟩]))) (by kernel_rfl) ?_
   have h1 : x < 256 := by simpa using h1
   refine Br.t (by simpa using h1) ⟨_, IntWalk.u8_in x ⟨h0, by omega⟩, [.int .u8 x], by simp, ?_, .inl ⟨rfl, rfl⟩⟩
   rw [show ((x.toNat % 256 : Nat) : Int) = x by omega]
 | succ k ih =>
   intro x h0 h1 h2 hk I;refine CtS.rowed ?_
   refine viaR (ctS_via (A := { calls := [(10, .lend [] (.row 0) [.row 1 5])] }) Try.func70 rfl Try.call70 [0] rfl) (Br (decide (x < 256)) (Wr .u8 x (fun c => ∃ z, z.length <= 9223372036854775807 /\ z = List.map (Value.int .u8) (be (k + 1 + 1) x.toNat) /\ (SV.xsl 0 0 1 1 = .xsl 0 0 z.length z.length /\ [Ent.mk (.cells [.v (.int .u8 c)] 5) none] = [⟨.cells (List.map SV.v z) 5, none⟩] \/ SV.xsl 0 0 1 1 = .rsl 0 z.length /\ [Ent.mk (.cells [.v (.int .u8 c)] 5) none] = [⟨.row z 1 5, none⟩]))) ((256 : Int) ≠ 0 /\ Wr .u64 (x.tdiv 256) fun c => CtS Try.prog (.v (fnv 70)) [.v (.int .u64 c)] [] I fun s H a => ∃ n b, s = .rsl 0 n /\ H = [⟨.row b 1 5, none⟩] /\ (256 : Int) ≠ 0 /\ Wr .u8 (x.tmod 256) fun d => b.length = n * 1 /\ n + 1 <= 9223372036854775807 /\ (n + 1) * 1 <= 140737488355328 /\ ∃ z, z.length <= 9223372036854775807 /\ z = List.map (Value.int .u8) (be (k + 1 + 1) x.toNat) /\ (SV.rsl 0 (n + 1) = .xsl 0 0 z.length z.length /\ [Ent.mk (.row (b ++ [.int .u8 d]) 1 5) none] = [⟨.cells (List.map SV.v z) 5, none⟩] \/ SV.rsl 0 (n + 1) = .rsl 0 z.length /\ [Ent.mk (.row (b ++ [.int .u8 d]) 1 5) none] = [⟨.row z 1 5, none⟩]))) (by kernel_rfl) ?_
   have hge : 256 ^ (k + 1) <= x := h2.elim (fun h => by omega) id
   have hp : (1 : Int) <= 256 ^ k := Int.pow_pos (by omega)
   have hx : 256 <= x := by rw [Int.pow_succ] at hge; omega
   have hx8 : x < 18446744073709551616 := Int.lt_of_lt_of_le h1 (pow8 (k + 1) (by omega))
   have hd : x.tdiv 256 = x / 256 := Int.tdiv_eq_ediv_of_nonneg h0;have hm : x.tmod 256 = x % 256 := Int.tmod_eq_emod_of_nonneg h0;rw [hd, hm]
   refine Br.f (by simpa using hx) ⟨by omega, _, IntWalk.u64_in _ ⟨by omega, by omega⟩, (ih (x / 256) (by omega) (by rw [Int.pow_succ] at h1; omega) (.inr (by rw [Int.pow_succ] at hge; omega)) (by omega) I).mono ?_⟩
   rintro sv H' I' _ ⟨zs, rfl, rfl, rfl⟩
   refine ⟨_, _, rfl, rfl, by omega, _, IntWalk.u8_in _ ⟨by omega, by omega⟩, by omega, by rw [ints_len, be_len]; omega, by rw [ints_len, be_len]; omega, _, ?_, rfl, .inr ⟨?_, ?_⟩⟩
   · simp [be_len]; have : maxLen = 9223372036854775807 := by decide
     omega
   · simp [be_len, ints]
   · have e : x.toNat / 256 = (x / 256).toNat := by omega
     have e2 : ((x.toNat % 256 : Nat) : Int) = x % 256 := by omega
     rw [show be (k + 1 + 1) x.toNat = be (k + 1) (x.toNat / 256) ++ [((x.toNat % 256 : Nat) : Int)] from rfl, e, e2]
     simp [ints]
theorem ct48 (x : Int) (h : 0 <= x /\ x <= 18446744073709551615) (I : Mem) : Ct Try.prog (fnv 48) #[.int .u64 x] I (fun v I' => BySl I' v (formN x.toNat)) := by
 refine viaR (ct_via (A := { calls := [(10, .lend [] (.row 0) [.row 1 5])] }) Try.func48 rfl Try.call48 rfl rfl) (Br (decide (x < 247)) (Wr .u8 x (fun c => ∀ (b : Nat) (a : Mem), I.le a -> a b = some (.cells #[.int .u8 c] 5 (0, 0)) -> ∃ d m e, Value.slice (some ⟨b, 0, none⟩) 1 1 = .slice d m e /\ SlM a d m 1 (List.map (Value.int .u8) (formN x.toNat)) /\ m <= e /\ e <= 9223372036854775807)) (CtS Try.prog (.v (fnv 70)) [.v (.int .u64 x)] [] I (fun s H a => ∃ n b, s = .rsl 0 n /\ H = [⟨.row b 1 5, none⟩] /\ Wr .i64 (246 + (n : Int)) fun c => Wr .u8 c fun d => n * 1 <= b.length /\ (∀ (v : Value), Membership.mem (List.take (n * 1) b) v -> v.oneCell' = true) /\ (1 : Nat) = 1 /\ 1 + n <= 9223372036854775807 /\ (1 + n) * 1 <= 140737488355328 /\ ∀ (e : Option Addr) (f : Nat) (g : Mem), a.le g -> RowM g e f 1 (.int .u8 d :: List.append ([] : List Value) (List.take (n * 1) b)) -> ∃ i m j, Value.slice e (1 + n) f = .slice i m j /\ SlM g i m 1 (List.map (Value.int .u8) (formN x.toNat)) /\ m <= j /\ j <= 9223372036854775807))) (by kernel_rfl) ?_
 refine Br.mk (fun h1 => ?_) (fun h1 => ?_)
 · have h1 := of_decide_eq_true h1
   have hf : formN x.toNat = [x] := by rw [formN, if_pos (by omega)]; congr 1; omega
   refine ⟨_, IntWalk.u8_in x ⟨h.1, by omega⟩, fun b I1 l1 hb => ⟨_, _, _, rfl, ?_, by omega, by decide⟩⟩
   rw [hf]
   exact sl_cells (n := 1) (sz := 1) hb rfl (by decide)
 · have h1 := of_decide_eq_false h1
   have hd8 : digN x.toNat <= 8 := digN_le (k := 8) (by omega)
   have hbd := digN_bd (x := x.toNat) (by omega)
   obtain ⟨k, hk⟩ : ∃ k, digN x.toNat = k + 1 := ⟨digN x.toNat - 1, by rw [digN_pos (by omega)]; omega⟩
   have hf : formN x.toNat = ((246 + (k + 1) : Nat) : Int) :: be (k + 1) x.toNat := by rw [formN, if_neg (by omega), hk]
   rw [hk] at hbd
   have c1 : ((256 ^ (k + 1) : Nat) : Int) = (256 : Int) ^ (k + 1) := by simp
   have c2 : ((256 ^ k : Nat) : Int) = (256 : Int) ^ k := by simp
   refine (cs70 k x h.1 (by omega) (.inr (by simp only [Nat.add_sub_cancel] at hbd; omega)) (by omega) I).mono ?_
   rintro sv H' I' _ ⟨zs, rfl, rfl, rfl⟩;refine ⟨_, _, rfl, rfl, ?_⟩
   have hl : (ints IntKind.u8 (be (k + 1) x.toNat)).length = k + 1 := by rw [ints_len, be_len]
   rw [hl, Nat.mul_one, List.take_of_length_le (by omega)]
   refine wr_i64 (by omega) (by omega) ⟨_, IntWalk.u8_in _ ⟨by omega, by omega⟩, by omega, fun v hv => one_ints v hv, rfl, by omega, by omega, fun a' cp I2 l2 hrow => ?_⟩
   rw [hf]
   exact row_bysl (xs := ((246 + (k + 1) : Nat) : Int) :: be (k + 1) x.toNat) hrow (by simp [be_len]; omega)
theorem ct81 (xs ys : List Int) (a b : Option Addr) (n c m d : Nat) (I : Mem) (h : SlM I a n 1 (ints .u8 xs)) (h' : SlM I b m 1 (ints .u8 ys)) (hn : n <= 1000000000) :
 Ct Try.prog (fnv 81) #[.slice a n c, .slice b m d] I (fun v _ => v = .bool (decide (xs = ys))) := by
 refine viaR (ct_via (A := { loops := [(4, ⟨[(0, .keep), (1, .keep), (5, .sh (.int .i64))], [], [], fun vals _ _ _ => match vals with | [.int .i64 j] => 0 <= j /\ j <= n /\ ∀ k : Nat, (k : Int) < j -> xs[k]? = ys[k]? | _ => False, fun vals _ => match vals with | [.int .i64 j] => (n - j).toNat | _ => 0⟩)] }) Try.func81 rfl Try.call81 rfl rfl) (Br ((n : Int) != (m : Int)) (Value.bool false = .bool (decide (xs = ys))) ((Rf (SV.v (.slice a n c)) /\ Rf (SV.v (.slice b m d)) /\ (0 : Int) <= 0 /\ 0 <= (n : Int) /\ ∀ (k : Nat), (k : Int) < 0 -> xs[k]? = ys[k]?) /\ ∀ (e : Mem), Mem -> I.le e -> ∀ (f : Int), 0 <= f /\ f <= (n : Int) /\ (∀ (k : Nat), (k : Int) < f -> xs[k]? = ys[k]?) -> Br (decide (f < (n : Int))) (0 <= f /\ f < (n : Int) /\ a.isSome = true /\ ∃ g, atI e a (f.toNat * 1 + 0) = some (.int .u8 g) /\ 0 <= f /\ f < (m : Int) /\ b.isSome = true /\ ∃ i, atI e b (f.toNat * 1 + 0) = some (.int .u8 i) /\ Br (g != i) (Value.bool false = .bool (decide (xs = ys))) (Wr .i64 (f + 1) (fun j => Rf (SV.v (.slice a n c)) /\ Rf (SV.v (.slice b m d)) /\ (0 <= j /\ j <= (n : Int) /\ ∀ (k : Nat), (k : Int) < j -> xs[k]? = ys[k]?) /\ Int.toNat ((n : Int) - j) < Int.toNat ((n : Int) - f)))) (Value.bool true = .bool (decide (xs = ys))))) (by kernel_rfl) ?_
 have e1 := h.numLen;have e2 := h'.numLen;refine Br.mk (fun hne => ?_) (fun he => ?_)
 · have hne : n ≠ m := by intro e; subst e; simp at hne
   rw [decide_eq_false (fun e => hne (by rw [e1, e2, e]))]
 have he : n = m := by
  have : (n : Int) = m := by simpa using he
  omega
 refine ⟨⟨rfl, rfl, by omega, by omega, fun k hk => by omega⟩, fun I1 _ l1 j ⟨j0, j1, j2⟩ => Br.mk (fun hlt => ?_) (fun hge => ?_)⟩
 · have hlt := of_decide_eq_true hlt
   obtain ⟨x, hx, hxc⟩ := (h.mono l1).intAt (i := j) j0 hlt
   obtain ⟨y, hy, hyc⟩ := (h'.mono l1).intAt (i := j) j0 (by omega)
   refine ⟨j0, hlt, h.isSome (by omega), x, hxc, j0, by omega, h'.isSome (by omega), y, hyc, Br.mk (fun hne => ?_) (fun hxy => ?_)⟩
   · have hne : x ≠ y := by simpa using hne
     rw [decide_eq_false (fun e => hne (by subst e; rw [hx] at hy; exact Option.some.inj hy))]
   · have hxy : x = y := by simpa using hxy
     subst hxy
     refine wr_i64 (by omega) (by omega) ⟨rfl, rfl, ⟨by omega, by omega, fun k hk => ?_⟩, by omega⟩
     by_cases hkj : (k : Int) < j
     · exact j2 k hkj
     · obtain rfl : k = j.toNat := by omega
       rw [hx, hy]
 · have hge := of_decide_eq_false hge
   have : xs = ys := List.ext_getElem? fun k => by
    by_cases hk : k < n
    · exact j2 k (by omega)
    · rw [List.getElem?_eq_none (by omega), List.getElem?_eq_none (by omega)]
   rw [decide_eq_true this]
theorem ref_end {bs : List Int} (hbs : ∀ b ∈ bs, 0 <= b /\ b <= 255) {at_ x m : Int} (h0 : 0 <= at_) (hx : 0 <= x /\ x <= 18446744073709551615) (hm0 : 0 <= m) (hm : at_ + m <= bs.length) (hacc : readN bs at_ = (0, 0, 11) \/ readN bs at_ = (x, m, 0)) :
 readN bs at_ = if formN x.toNat = (bs.drop at_.toNat).take m.toNat then (x, m, 0) else (0, 0, 11) := by
 split
 · rename_i he
   have hl : (formN x.toNat).length = m.toNat := by rw [he]; simp; omega
   have hb : bs = bs.take at_.toNat ++ (formN x.toNat ++ bs.drop (at_.toNat + m.toNat)) := by
    rw [he, <- List.drop_drop, List.take_append_drop, List.take_append_drop]
   have h1 := readN_form (bs.take at_.toNat) (bs.drop (at_.toNat + m.toNat)) x.toNat (by omega)
   rw [<- hb, List.length_take, show ((min at_.toNat bs.length : Nat) : Int) = at_ by omega, hl] at h1
   rw [h1]
   congr 1
   · omega
   · congr 1; omega
 · rename_i hne
   rcases hacc with h | h
   · exact h
   · exfalso
     obtain ⟨_, _, _, _, g1, g2, g3⟩ := readN_back hbs h;refine hne ?_
     rw [g2, List.take_left' (by omega)]
theorem ct74 (bs : List Int) (hbs : ∀ b ∈ bs, 0 <= b /\ b <= 255) (a : Option Addr) (n c : Nat) (at_ : Int) (hat : -1000000 <= at_ /\ at_ <= 1000000000) (I : Mem) (h : SlM I a n 1 (ints .u8 bs)) (hl : n <= 1000000000) (hc : n <= c) :
 Ct Try.prog (fnv 74) #[.slice a n c, .int .i64 at_] I (fun v _ => v = T3 (readN bs at_)) := by
 refine viaR (ct_via (A := { loops := [(14, ⟨[(0, .keep), (1, .keep), (7, .keep), (8, .sh (.int .u64)), (9, .sh (.int .i64))], [], [], fun vals _ _ _ => match vals with | [.int .u64 v8, .int .i64 i] => 1 <= i /\ i <= (bs[at_.toNat]?).getD 0 - 245 /\ v8 = valN ((digs bs at_ ((bs[at_.toNat]?).getD 0)).take (i.toNat - 1)) | _ => False, fun vals _ => match vals with | [_, .int .i64 i] => (20 - i).toNat | _ => 0⟩)] }) Try.func74 rfl Try.call74 rfl rfl) (Br (decide (at_ < 0)) (Value.tuple #[.int .u64 0, .int .i64 0, .int .i64 2] = .tuple #[.int .u64 (readN bs at_).1, .int .i64 (readN bs at_).2.1, .int .i64 (readN bs at_).2.2]) (Br (decide ((n : Int) < at_)) (Value.tuple #[.int .u64 0, .int .i64 0, .int .i64 2] = .tuple #[.int .u64 (readN bs at_).1, .int .i64 (readN bs at_).2.1, .int .i64 (readN bs at_).2.2]) (Br (at_ == (n : Int)) (Value.tuple #[.int .u64 0, .int .i64 0, .int .i64 10] = .tuple #[.int .u64 (readN bs at_).1, .int .i64 (readN bs at_).2.1, .int .i64 (readN bs at_).2.2]) (0 <= at_ /\ at_ < (n : Int) /\ a.isSome = true /\ ∃ b, atI I a (at_.toNat * 1 + 0) = some (.int .u8 b) /\ Br (decide (246 < b)) (0 <= at_ /\ at_ < (n : Int) /\ a.isSome = true /\ ∃ d, atI I a (at_.toNat * 1 + 0) = some (.int .u8 d) /\ Br (decide (d < 255)) (0 <= at_ /\ at_ < (n : Int) /\ a.isSome = true /\ ∃ e, atI I a (at_.toNat * 1 + 0) = some (.int .u8 e) /\ Wr .i64 e fun f => Wr .i64 (f - 245) fun g => Wr .i64 ((n : Int) - at_) fun i => Br (decide (i < g)) (Value.tuple #[.int .u64 0, .int .i64 0, .int .i64 10] = .tuple #[.int .u64 (readN bs at_).1, .int .i64 (readN bs at_).2.1, .int .i64 (readN bs at_).2.2]) (0 <= at_ /\ at_ < (n : Int) /\ a.isSome = true /\ ∃ j, atI I a (at_.toNat * 1 + 0) = some (.int .u8 j) /\ Wr .u64 j fun k => Br (decide (1 < g)) ((Rf (SV.v (.slice a n c)) /\ Rf (SV.v (.int .i64 at_)) /\ Rf (SV.v (.int .i64 g)) /\ (1 : Int) <= 1 /\ 1 <= bs[at_.toNat]?.getD (0 : Int) - 245 /\ (0 : Int) = 0) /\ ∀ (l : Mem), Mem -> I.le l -> ∀ (m o : Int), 1 <= o /\ o <= bs[at_.toNat]?.getD (0 : Int) - 245 /\ m = valN (List.take (o.toNat - 1) (digs bs at_ (bs[at_.toNat]?.getD (0 : Int)))) -> Br (decide (o < g)) (Wr .u64 (256 * m) (fun p => Wr .i64 (at_ + o) fun q => 0 <= q /\ q < (n : Int) /\ a.isSome = true /\ ∃ r, atI l a (q.toNat * 1 + 0) = some (.int .u8 r) /\ Wr .u64 r fun s => Wr .u64 (p + s) fun t => Wr .i64 (o + 1) fun u => Rf (SV.v (.slice a n c)) /\ Rf (SV.v (.int .i64 at_)) /\ Rf (SV.v (.int .i64 g)) /\ (1 <= u /\ u <= bs[at_.toNat]?.getD (0 : Int) - 245 /\ t = valN (List.take (u.toNat - 1) (digs bs at_ (bs[at_.toNat]?.getD (0 : Int))))) /\ Int.toNat (20 - u) < Int.toNat (20 - o))) (Wr .i64 (at_ + g) (fun p => 0 <= at_ /\ at_ <= p /\ p <= (c : Int) /\ Ct Try.prog (fnv 48) #[.int .u64 m] l fun v q => ∃ r s t, v = .slice r s t /\ Ct Try.prog (fnv 81) #[.slice r s t, .slice (sladdr a c at_.toNat 1) (p.toNat - at_.toNat) (c - at_.toNat)] q fun u w => ∃ x, u = .bool x /\ Br (!x) (Value.tuple #[.int .u64 0, .int .i64 0, .int .i64 11] = .tuple #[.int .u64 (readN bs at_).1, .int .i64 (readN bs at_).2.1, .int .i64 (readN bs at_).2.2]) (Value.tuple #[.int .u64 m, .int .i64 g, .int .i64 0] = .tuple #[.int .u64 (readN bs at_).1, .int .i64 (readN bs at_).2.1, .int .i64 (readN bs at_).2.2])))) (Wr .i64 (at_ + g) (fun l => 0 <= at_ /\ at_ <= l /\ l <= (c : Int) /\ Ct Try.prog (fnv 48) #[.int .u64 k] I fun v m => ∃ o p q, v = .slice o p q /\ Ct Try.prog (fnv 81) #[.slice o p q, .slice (sladdr a c at_.toNat 1) (l.toNat - at_.toNat) (c - at_.toNat)] m fun r s => ∃ t, r = .bool t /\ Br (!t) (Value.tuple #[.int .u64 0, .int .i64 0, .int .i64 11] = .tuple #[.int .u64 (readN bs at_).1, .int .i64 (readN bs at_).2.1, .int .i64 (readN bs at_).2.2]) (Value.tuple #[.int .u64 k, .int .i64 g, .int .i64 0] = .tuple #[.int .u64 (readN bs at_).1, .int .i64 (readN bs at_).2.1, .int .i64 (readN bs at_).2.2]))))) (Wr .i64 ((n : Int) - at_) (fun e => Br (decide (e < 1)) (Value.tuple #[.int .u64 0, .int .i64 0, .int .i64 10] = .tuple #[.int .u64 (readN bs at_).1, .int .i64 (readN bs at_).2.1, .int .i64 (readN bs at_).2.2]) (0 <= at_ /\ at_ < (n : Int) /\ a.isSome = true /\ ∃ f, atI I a (at_.toNat * 1 + 0) = some (.int .u8 f) /\ Wr .u64 f fun g => Wr .i64 (at_ + 1) fun i => 0 <= at_ /\ at_ <= i /\ i <= (c : Int) /\ Ct Try.prog (fnv 48) #[.int .u64 g] I fun v j => ∃ k l m, v = .slice k l m /\ Ct Try.prog (fnv 81) #[.slice k l m, .slice (sladdr a c at_.toNat 1) (i.toNat - at_.toNat) (c - at_.toNat)] j fun o p => ∃ q, o = .bool q /\ Br (!q) (Value.tuple #[.int .u64 0, .int .i64 0, .int .i64 11] = .tuple #[.int .u64 (readN bs at_).1, .int .i64 (readN bs at_).2.1, .int .i64 (readN bs at_).2.2]) (Value.tuple #[.int .u64 g, .int .i64 1, .int .i64 0] = .tuple #[.int .u64 (readN bs at_).1, .int .i64 (readN bs at_).2.1, .int .i64 (readN bs at_).2.2]))))) (Wr .i64 ((n : Int) - at_) (fun d => Br (decide (d < 1)) (Value.tuple #[.int .u64 0, .int .i64 0, .int .i64 10] = .tuple #[.int .u64 (readN bs at_).1, .int .i64 (readN bs at_).2.1, .int .i64 (readN bs at_).2.2]) (0 <= at_ /\ at_ < (n : Int) /\ a.isSome = true /\ ∃ e, atI I a (at_.toNat * 1 + 0) = some (.int .u8 e) /\ Wr .u64 e fun f => Wr .i64 (at_ + 1) fun g => 0 <= at_ /\ at_ <= g /\ g <= (c : Int) /\ Ct Try.prog (fnv 48) #[.int .u64 f] I fun v i => ∃ j k l, v = .slice j k l /\ Ct Try.prog (fnv 81) #[.slice j k l, .slice (sladdr a c at_.toNat 1) (g.toNat - at_.toNat) (c - at_.toNat)] i fun m o => ∃ p, m = .bool p /\ Br (!p) (Value.tuple #[.int .u64 0, .int .i64 0, .int .i64 11] = .tuple #[.int .u64 (readN bs at_).1, .int .i64 (readN bs at_).2.1, .int .i64 (readN bs at_).2.2]) (Value.tuple #[.int .u64 f, .int .i64 1, .int .i64 0] = .tuple #[.int .u64 (readN bs at_).1, .int .i64 (readN bs at_).2.1, .int .i64 (readN bs at_).2.2])))))))) (by kernel_rfl) ?_
 have hn := h.numLen
 have fin : ∀ (I1 : Mem) (x m : Int), I.le I1 -> 0 <= at_ -> (0 <= x /\ x <= 18446744073709551615) -> 0 <= m -> at_ + m <= bs.length -> (readN bs at_ = (0, 0, 11) \/ readN bs at_ = (x, m, 0)) ->
  Ct Try.prog (Value.func (Fn.func 48) #[] #[]) #[Value.int IntKind.u64 x] I1 fun v I' => ∃ a_3 n c_6, v = Value.slice a_3 n c_6 /\ Ct Try.prog (Value.func (Fn.func 81) #[] #[]) #[Value.slice a_3 n c_6, Value.slice (sladdr a c at_.toNat 1) ((at_ + m).toNat - at_.toNat) (c - at_.toNat)] I' fun v I' => ∃ b, v = Value.bool b /\ Br (!b) (Value.tuple #[Value.int IntKind.u64 0, Value.int IntKind.i64 0, Value.int IntKind.i64 11] = Value.tuple #[Value.int IntKind.u64 (readN bs at_).fst, Value.int IntKind.i64 (readN bs at_).snd.fst, Value.int IntKind.i64 (readN bs at_).snd.snd]) (Value.tuple #[Value.int IntKind.u64 x, Value.int IntKind.i64 m, Value.int IntKind.i64 0] = Value.tuple #[Value.int IntKind.u64 (readN bs at_).fst, Value.int IntKind.i64 (readN bs at_).snd.fst, Value.int IntKind.i64 (readN bs at_).snd.snd]) := by
  intro I1 x m l1 a0 hx m0 hm hacc;refine (ct48 x hx I1).mono fun v I2 l2 ⟨a3, n3, c3, hv, hs, hc3, hm3⟩ => ⟨a3, n3, c3, hv, ?_⟩
  have hsub := sl_sub (f := at_.toNat) (t := (at_ + m).toNat) ((h.mono l1).mono l2) (by omega) (by omega) hc
  have hf8 := formN_le x.toNat (by omega)
  have hn3 := hs.numLen
  refine (ct81 _ _ _ _ _ _ _ _ I2 hs hsub (by omega)).mono fun v I3 l3 hv => ⟨_, hv, ?_⟩
  rw [show (at_ + m).toNat - at_.toNat = m.toNat by omega, ref_end hbs a0 hx m0 hm hacc]
  by_cases he : formN x.toNat = (bs.drop at_.toNat).take m.toNat
  · rw [decide_eq_true he, if_pos he]; exact Br.f rfl rfl
  · rw [decide_eq_false he, if_neg he]; exact Br.t rfl rfl
 refine Br.mk (fun h0 => ?_) (fun h0 => Br.mk (fun h1 => ?_) (fun h1 => Br.mk (fun h2 => ?_) (fun h2 => ?_)))
 · have h0 := of_decide_eq_true h0
   rw [readN, if_pos (.inl h0)]
 · have h1 := of_decide_eq_true h1
   rw [readN, if_pos (.inr (by omega))]
 · have h2 : at_ = n := by simpa using h2
   rw [readN, if_neg (by omega), List.getElem?_eq_none (by omega)]
 have h0 := of_decide_eq_false h0;have h1 := of_decide_eq_false h1
 have h2 : at_ ≠ n := by simpa using h2
 obtain ⟨b, hb, hcell⟩ := h.intAt (i := at_) (by omega) (by omega)
 have hbr := hbs b (List.mem_of_getElem? hb)
 have hrd : readN bs at_ = if b <= 246 then (b, 1, 0) else if b = 255 then (0, 0, 11) else
  if (bs.length : Int) - at_ - 1 < b - 246 then (0, 0, 10) else
  if (digs bs at_ b)[0]? = some 0 then (0, 0, 11) else
  if valN (digs bs at_ b) <= 246 then (0, 0, 11) else (valN (digs bs at_ b), b - 246 + 1, 0) := by
  rw [readN, if_neg (by omega), hb]
 have hsome := h.isSome (by omega)
 have one : (b <= 246 \/ b = 255) -> readN bs at_ = (0, 0, 11) \/ readN bs at_ = (b, 1, 0) := fun hc => by
  rw [hrd]
  rcases hc with hc | hc
  · rw [if_pos hc]; exact .inr rfl
  · rw [if_neg (by omega), if_pos hc]; exact .inl rfl
 simp only [hb, Option.getD_some]
 refine ⟨by omega, by omega, hsome, b, hcell, Br.mk (fun h3 => ?_) (fun h3 => ?_)⟩
 · have h3 := of_decide_eq_true h3
   refine ⟨by omega, by omega, hsome, b, hcell, Br.mk (fun h4 => ?_) (fun h4 => ?_)⟩
   · have h4 := of_decide_eq_true h4
     rw [if_neg (by omega), if_neg (by omega)] at hrd
     refine ⟨by omega, by omega, hsome, b, hcell, wr_i64 (by omega) (by omega) (wr_i64 (by omega) (by omega) (wr_i64 (by omega) (by omega) (Br.mk (fun h5 => ?_) (fun h5 => ?_))))⟩
     · have h5 := of_decide_eq_true h5
       rw [hrd, if_pos (by omega)]
     have h5 := of_decide_eq_false h5
     rw [if_neg (by omega)] at hrd
     have hdl : (digs bs at_ b).length = (b - 246).toNat := by simp only [digs, List.length_take, List.length_drop]; omega
     have hdat : ∀ i : Nat, i < (b - 246).toNat -> (digs bs at_ b)[i]? = bs[at_.toNat + 1 + i]? := fun i hi => by
      rw [digs, List.getElem?_take, if_pos hi, List.getElem?_drop]
     have hdb : ∀ d ∈ digs bs at_ b, 0 <= d /\ d <= 255 := fun d hd => hbs d (List.mem_of_mem_drop (List.mem_of_mem_take hd))
     refine ⟨by omega, by omega, hsome, b, hcell, b, IntWalk.u64_in b ⟨hbr.1, by omega⟩, Br.t (by simp; omega) ⟨⟨trivial, trivial, trivial, by omega, by omega, trivial⟩, fun I1 G1 l1 x i ⟨k0, k1, k2⟩ => Br.mk (fun hlt => ?_) (fun hge => ?_)⟩⟩
     · have hlt := of_decide_eq_true hlt
       have hxb := valN_bd ((digs bs at_ b).take (i.toNat - 1)) fun y hy => hdb y (List.mem_of_mem_take hy)
       have hxl : ((digs bs at_ b).take (i.toNat - 1)).length <= 7 := by rw [List.length_take]; omega
       have hx7 : x < 72057594037927936 := by
        rw [k2];refine Int.lt_of_lt_of_le hxb.2 ?_
        exact pow7 _ (by omega)
       have hx0 : 0 <= x := by rw [k2]; exact hxb.1
       obtain ⟨d, hd, hdc⟩ := (h.mono l1).intAt (i := at_ + i) (by omega) (by omega)
       have hdr := hbs d (List.mem_of_getElem? hd)
       have hdi : (digs bs at_ b)[i.toNat - 1]? = some d := by rw [hdat _ (by omega), <- hd]; congr 1; omega
       refine ⟨_, IntWalk.u64_in _ ⟨by omega, by omega⟩, wr_i64 (by omega) (by omega) ⟨by omega, by omega, hsome, d, hdc, _, IntWalk.u64_in _ ⟨hdr.1, by omega⟩, _, IntWalk.u64_in _ ⟨by omega, by omega⟩, wr_i64 (by omega) (by omega) ⟨trivial, trivial, trivial, ⟨by omega, by omega, ?_⟩, by omega⟩⟩⟩
       rw [show (i + 1).toNat - 1 = i.toNat - 1 + 1 by omega, take_succ' hdi, valN_snoc, <- k2]
       omega
     · have hge := of_decide_eq_false hge
       have hix : x = valN (digs bs at_ b) := by rw [k2, List.take_of_length_le (by rw [hdl]; omega)]
       have hxb := valN_bd (digs bs at_ b) hdb
       have hp8 : (256 : Int) ^ (digs bs at_ b).length <= 18446744073709551616 := by
        rw [hdl]
        obtain ⟨k, hk⟩ : ∃ k, (b - 246).toNat = k + 1 := ⟨(b - 246).toNat - 1, by omega⟩
        rw [hk]
        exact pow8 k (by omega)
       refine wr_i64 (by omega) (by omega) ⟨by omega, by omega, by omega, fin I1 x (b - 245) l1 (by omega) ⟨by omega, by omega⟩ (by omega) (by omega) ?_⟩
       rw [hrd, hix];split
       · exact .inl rfl
       · split
         · exact .inl rfl
         · right; congr 2; omega
   · have h4 := of_decide_eq_false h4
     refine wr_i64 (by omega) (by omega) (Br.f (by simp; omega) ⟨by omega, by omega, hsome, b, hcell, b, IntWalk.u64_in b ⟨hbr.1, by omega⟩, wr_i64 (by omega) (by omega) ⟨by omega, by omega, by omega, fin I b 1 (Mem.le_refl _) (by omega) ⟨hbr.1, by omega⟩ (by omega) (by omega) (one (.inr (by omega)))⟩⟩)
 · have h3 := of_decide_eq_false h3
   refine wr_i64 (by omega) (by omega) (Br.f (by simp; omega) ⟨by omega, by omega, hsome, b, hcell, b, IntWalk.u64_in b ⟨hbr.1, by omega⟩, wr_i64 (by omega) (by omega) ⟨by omega, by omega, by omega, fin I b 1 (Mem.le_refl _) (by omega) ⟨hbr.1, by omega⟩ (by omega) (by omega) (one (.inl (by omega)))⟩⟩)
def chainT : Int -> List (Int × List Int) -> Bool
 | _, [] => true
 | last, f :: r => decide (last < f.1) && (decide (f.1 <= 200) && chainT f.1 r)
def sumL : List (Int × List Int) -> Int
 | [] => 0
 | f :: r => f.2.length + sumL r
theorem sumL_nonneg : ∀ l, 0 <= sumL l
 | [] => by simp [sumL]
 | f :: r => by have := sumL_nonneg r; rw [sumL]; omega
theorem sumL_app : ∀ k l, sumL (k ++ l) = sumL k + sumL l
 | [], l => by simp [sumL]
 | f :: r, l => by rw [List.cons_append, sumL, sumL, sumL_app r l]; omega
theorem step_split : ∀ (l : List (Int × List Int)) (last left : Int), 0 <= left -> rightStep last left l = (chainT last l && decide (sumL l <= left))
 | [], last, left, h => by simp [rightStep, chainT, sumL, h]
 | f :: r, last, left, h => by
   have hs := sumL_nonneg r;rw [rightStep, chainT, sumL];split
   · rename_i hc
     by_cases h1 : last < f.1
     · by_cases h2 : f.1 <= 200
       · rw [decide_eq_false (p := (f.2.length : Int) + sumL r <= left) (by omega)]; simp
       · simp [h2]
     · simp [h1]
   · rename_i hc
     rw [step_split r _ _ (by omega), decide_eq_true (p := last < f.1) (by omega), decide_eq_true (p := f.1 <= 200) (by omega)]
     simp only [Bool.true_and]
     congr 1
     exact decide_eq_decide.2 (by omega)
theorem right_split (l : List (Int × List Int)) : rightF l = (decide (l.length <= 64) && (chainT 0 l && decide (sumL l <= 16384))) := by
 rw [Bool.eq_iff_iff, rightF_iff, step_split _ _ _ (by omega)]
 simp only [Bool.and_eq_true, decide_eq_true_eq];exact ⟨fun h => ⟨h.2, h.1⟩, fun h => ⟨h.2, h.1⟩⟩
theorem sumL_take {l : List (Int × List Int)} {B : Int} (h : ∀ f ∈ l, (f.2.length : Int) <= B) : ∀ j, 0 <= B -> sumL (l.take j) <= B * j := by
 intro j hB
 induction j generalizing l with
 | zero => simp [sumL]
 | succ j ih =>
   cases l with
   | nil => simp only [List.take_nil, sumL]; exact Int.mul_nonneg hB (by omega)
   | cons f r =>
     have h1 := h f (by simp)
     have h2 := ih (l := r) fun g hg => h g (by simp [hg])
     rw [List.take_succ_cons, sumL]
     have : B * ((j + 1 : Nat) : Int) = B * j + B := by rw [Int.natCast_add, Int.mul_add]; simp
     omega
theorem ct71 (l : List (Int × List Int)) (a : Option Addr) (n c : Nat) (I : Mem) (h : FldM I a n l) (hb : ∀ f ∈ l, f.2.length <= 1000000) :
 Ct Try.prog (fnv 71) #[.slice a n c] I (fun v _ => v = .bool (rightF l)) := by
 refine viaR (ct_via (A := { loops := [(5, ⟨[(0, .keep), (3, .sh (.int .i64)), (4, .sh (.int .i64))], [], [], fun vals _ _ _ => match vals with | [.int .i64 sum, .int .i64 j] => 0 <= j /\ j <= n /\ sum = sumL (l.take j.toNat) /\ ∃ last, (j = 0 -> last = 0) /\ (0 < j -> ∃ bs, l[j.toNat - 1]? = some (last, bs)) /\ 0 <= last /\ chainT 0 l = chainT last (l.drop j.toNat) | _ => False, fun vals _ => match vals with | [_, .int .i64 j] => (n - j).toNat | _ => 0⟩)] }) Try.func71 rfl Try.call71 rfl rfl) (Br (decide (64 < (n : Int))) (Value.bool false = .bool (rightF l)) ((Rf (SV.v (.slice a n c)) /\ (0 : Int) <= 0 /\ 0 <= (n : Int) /\ (0 : Int) = 0 /\ ∃ b, ((0 : Int) = 0 -> b = 0) /\ ((0 : Int) < 0 -> ∃ d, l[0]? = some (b, d)) /\ 0 <= b /\ chainT 0 l = chainT b l) /\ ∀ (b : Mem), Mem -> I.le b -> ∀ (d e : Int), 0 <= e /\ e <= (n : Int) /\ d = sumL (List.take e.toNat l) /\ (∃ f, (e = 0 -> f = 0) /\ (0 < e -> ∃ g, l[e.toNat - 1]? = some (f, g)) /\ 0 <= f /\ chainT 0 l = chainT f (List.drop e.toNat l)) -> Br (decide (e < (n : Int))) (0 <= e /\ e < (n : Int) /\ a.isSome = true /\ a.isSome = true /\ ∃ f g i, atI b a (e.toNat * 2 + 1 + 0) = some (.slice f g i) /\ Wr .i64 (d + (g : Int)) fun j => 0 <= e /\ e < (n : Int) /\ a.isSome = true /\ a.isSome = true /\ ∃ k, atI b a (e.toNat * 2 + 0 + 0) = some (.int .i64 k) /\ Br (decide (k < 1)) (Value.bool false = .bool (rightF l)) (0 <= e /\ e < (n : Int) /\ a.isSome = true /\ a.isSome = true /\ ∃ m, atI b a (e.toNat * 2 + 0 + 0) = some (.int .i64 m) /\ Br (decide (200 < m)) (Value.bool false = .bool (rightF l)) (Br (decide (0 < e)) (0 <= e /\ e < (n : Int) /\ a.isSome = true /\ a.isSome = true /\ ∃ o, atI b a (e.toNat * 2 + 0 + 0) = some (.int .i64 o) /\ Wr .i64 (e - 1) fun p => 0 <= p /\ p < (n : Int) /\ a.isSome = true /\ a.isSome = true /\ ∃ q, atI b a (p.toNat * 2 + 0 + 0) = some (.int .i64 q) /\ Br (decide (o <= q)) (Value.bool false = .bool (rightF l)) (Wr .i64 (e + 1) (fun r => Rf (SV.v (.slice a n c)) /\ (0 <= r /\ r <= (n : Int) /\ j = sumL (List.take r.toNat l) /\ ∃ s, (r = 0 -> s = 0) /\ (0 < r -> ∃ t, l[r.toNat - 1]? = some (s, t)) /\ 0 <= s /\ chainT 0 l = chainT s (List.drop r.toNat l)) /\ Int.toNat ((n : Int) - r) < Int.toNat ((n : Int) - e)))) (Wr .i64 (e + 1) (fun o => Rf (SV.v (.slice a n c)) /\ (0 <= o /\ o <= (n : Int) /\ j = sumL (List.take o.toNat l) /\ ∃ p, (o = 0 -> p = 0) /\ (0 < o -> ∃ q, l[o.toNat - 1]? = some (p, q)) /\ 0 <= p /\ chainT 0 l = chainT p (List.drop o.toNat l)) /\ Int.toNat ((n : Int) - o) < Int.toNat ((n : Int) - e)))))) (Value.bool (decide (d <= 16384)) = .bool (rightF l)))) (by kernel_rfl) ?_
 have hl := h.len;have hmx := h.max;refine Br.mk (fun h64 => ?_) (fun h64 => ?_)
 · have h64 := of_decide_eq_true h64
   rw [right_split, decide_eq_false (by omega)]; rfl
 have h64 := of_decide_eq_false h64
 refine ⟨⟨rfl, by omega, by omega, rfl, 0, fun _ => rfl, fun h => by omega, by omega, rfl⟩, fun I1 _ l1 sum j ⟨j0, j1, js, last, q1, q2, q3, q4⟩ => ?_⟩
 have hsb := sumL_take (l := l) (B := 1000000) (fun f hf => by have := hb f hf; omega) j.toNat (by omega)
 have hs0 := sumL_nonneg (l.take j.toNat);refine Br.mk (fun hlt => ?_) (fun hge => ?_)
 · have hlt := of_decide_eq_true hlt
   have hsome := h.isSome (by omega)
   obtain ⟨f, b', m', c', hf, hok, e1, e2, hfs, hm1, hm2⟩ := (h.mono l1).at_ j0 hlt;have hfl := hfs.numLen;have hfb := hb f (List.mem_of_getElem? hf);rw [drop_cons hf, chainT] at q4
   have hj1 : (j + 1).toNat = j.toNat + 1 := by omega
   have hsum : sum + m' = sumL (l.take (j + 1).toNat) := by
    rw [hj1, take_succ' hf, sumL_app, js]
    simp only [sumL]; omega
   have bad : chainT 0 l = false -> Value.bool false = Value.bool (rightF l) := fun hc => by rw [right_split, hc]; simp
   have next : last < f.1 -> f.1 <= 200 -> Wr IntKind.i64 (j + 1) fun c_4 => SV.v (Value.slice a n c) = SV.v (Value.slice a n c) /\ (0 <= c_4 /\ c_4 <= ↑n /\ sum + m' = sumL (List.take c_4.toNat l) /\ ∃ last, (c_4 = 0 -> last = 0) /\ (0 < c_4 -> ∃ bs, l[c_4.toNat - 1]? = some (last, bs)) /\ 0 <= last /\ chainT 0 l = chainT last (List.drop c_4.toNat l)) /\ (↑n - c_4).toNat < (↑n - j).toNat := fun g1 g2 => by
    refine wr_i64 (by omega) (by omega) ⟨rfl, ⟨by omega, by omega, hsum, f.1, fun h => by omega, fun _ => ⟨f.2, ?_⟩, by omega, ?_⟩, by omega⟩
    · rw [hj1, Nat.add_sub_cancel]; exact hf
    · rw [q4, hj1]; simp [g1, g2]
   refine ⟨j0, hlt, hsome, hsome, b', m', c', e2, wr_i64 (by omega) (by omega) ⟨j0, hlt, hsome, hsome, f.1, e1, Br.mk (fun g1 => bad ?_) (fun g1 => ⟨j0, hlt, hsome, hsome, f.1, e1, Br.mk (fun g2 => bad ?_) (fun g2 => Br.mk (fun g3 => ?_) (fun g3 => ?_))⟩)⟩⟩
   · have g1 := of_decide_eq_true g1
     rw [q4, decide_eq_false (by omega)]; rfl
   · have g2 := of_decide_eq_true g2
     rw [q4, decide_eq_false (p := f.1 <= 200) (by omega)]; simp
   · have g1 := of_decide_eq_false g1
     have g2 := of_decide_eq_false g2;have g3 := of_decide_eq_true g3
     obtain ⟨p, b2, m2, c2, hp, _, e3, _⟩ := (h.mono l1).at_ (i := j - 1) (by omega) (by omega)
     obtain ⟨bs, hq⟩ := q2 g3
     rw [show (j - 1).toNat = j.toNat - 1 by omega, hq] at hp
     cases hp
     refine ⟨j0, hlt, hsome, hsome, f.1, e1, wr_i64 (by omega) (by omega) ⟨by omega, by omega, hsome, hsome, last, e3, Br.mk (fun g4 => bad ?_) (fun g4 => next ?_ (by omega))⟩⟩
     · have g4 := of_decide_eq_true g4
       rw [q4, decide_eq_false (by omega)]; rfl
     · have g4 := of_decide_eq_false g4; omega
   · have g1 := of_decide_eq_false g1
     have g2 := of_decide_eq_false g2;have g3 := of_decide_eq_false g3
     have := q1 (by omega)
     exact next (by omega) (by omega)
 · have hge := of_decide_eq_false hge
   have hj : j.toNat = l.length := by omega
   rw [hj, List.drop_length, chainT] at q4;rw [hj, List.take_length] at js
   rw [right_split, q4, decide_eq_true (p := l.length <= 64) (by omega), js]
   rfl
theorem dup2 {Q : Prop} (h : Q) : Q /\ Q := ⟨h, h⟩
theorem ct75 (xs : List Int) (a : Option Addr) (n c : Nat) (I : Mem) (h : SlM I a n 1 (ints .u8 xs)) (hn : n <= 1000000) :
 Ct Try.prog (fnv 75) #[.slice a n c] I (fun v I' => BySl I' v xs) := by
 refine viaR (ct_via (A := { }) Try.func75 rfl Try.call75 rfl rfl) (∃ y, y.length = n * 1 /\ (a = none -> n = 0) /\ (∀ (j : Nat) (v : Value), y[j]? = some v -> atI I a j = some v) /\ (∀ (v : Value), Membership.mem y v -> v.oneCell' = true) /\ (0 : Nat) = 0 /\ 0 + n <= 9223372036854775807 /\ (0 + n) * 1 <= 140737488355328 /\ ∀ (b : Option Addr) (d : Nat) (e : Mem), I.le e -> RowM e b d 1 y -> ∃ f m g, Value.slice b (0 + n) d = .slice f m g /\ SlM e f m 1 (List.map (Value.int .u8) xs) /\ m <= g /\ g <= 9223372036854775807) (by kernel_rfl) ?_
 exact ⟨ints .u8 xs, h.len, h.nil, h.at_, one_ints, rfl, by omega, by omega, fun a' cp I' _ hrow => row_bysl hrow (by have := h.numLen; omega)⟩
def lastT : Int -> List (Int × List Int) -> Int
 | a, [] => a
 | _, f :: r => lastT f.1 r
theorem chainT_snoc (f : Int × List Int) : ∀ (L : List (Int × List Int)) (a : Int), chainT a (L ++ [f]) = (chainT a L && (decide (lastT a L < f.1) && decide (f.1 <= 200)))
 | [], a => by simp only [List.nil_append, chainT, lastT, Bool.and_true, Bool.true_and]; rfl
 | g :: r, a => by
   rw [List.cons_append, chainT, chainT, lastT, chainT_snoc f r g.1];simp [Bool.and_assoc]
theorem lastT_snoc (f : Int × List Int) : ∀ (L : List (Int × List Int)) (a : Int), lastT a (L ++ [f]) = f.1
 | [], a => rfl
 | g :: r, a => lastT_snoc f r g.1
theorem lastT_nonneg : ∀ (L : List (Int × List Int)) (a : Int), 0 <= a -> chainT a L = true -> a <= lastT a L
 | [], a, h, _ => Int.le_refl _
 | g :: r, a, h, hc => by
   simp only [chainT, Bool.and_eq_true, decide_eq_true_eq] at hc
   have := lastT_nonneg r g.1 (by omega) hc.2.2
   rw [lastT]; omega
theorem right_snoc {L : List (Int × List Int)} (h : rightF L = true) (f : Int × List Int) :
 rightF (L ++ [f]) = !decide (f.1 <= lastT 0 L \/ 200 < f.1 \/ 16384 - sumL L < f.2.length \/ 64 <= L.length) := by
 rw [right_split] at h ⊢;simp only [Bool.and_eq_true, decide_eq_true_eq] at h
 have hs : sumL (L ++ [f]) = sumL L + f.2.length := by rw [sumL_app]; simp [sumL]
 rw [chainT_snoc, h.2.1, Bool.true_and, List.length_append, List.length_singleton, hs];rw [Bool.eq_iff_iff];simp only [Bool.and_eq_true, decide_eq_true_eq, Bool.not_eq_true', decide_eq_false_iff_not];omega
theorem goF_bad {bs : List Int} {k : Nat} {last left : Int} {L : List (Int × List Int)} (hk : k < bs.length) (h : fstep bs k = none) (h0 : 0 <= last) : goF (yields bs k) last left L = ((k : Int), []) := by
 rw [yields, dif_pos hk, h];simp only [goF];rw [if_pos (.inl h0)]
theorem goF_step {bs : List Int} {k nx : Nat} {body : List Int} {last left : Int} {L : List (Int × List Int)} {b : Int} (hk : k < bs.length) (h : fstep bs k = some (body, nx)) (hb : bs[k]? = some b) (hn : k < nx) :
 goF (yields bs k) last left L = if b <= last \/ 200 < b \/ left < body.length \/ 64 <= L.length then ((k : Int), []) else goF (yields bs nx) b (left - body.length) (L ++ [(b, body)]) := by
 rw [yields, dif_pos hk, h];simp only [dif_pos hn, hb, Option.getD_some];rw [goF]
theorem readN_m {bs : List Int} (hbs : ∀ b ∈ bs, 0 <= b /\ b <= 255) (at_ : Int) : 0 <= (readN bs at_).2.1 /\ (readN bs at_).2.1 <= 9 := by
 unfold readN;split
 · simp
 · split
   · simp
   · rename_i b hb
     have := hbs b (List.mem_of_getElem? hb);split
     · simp
     · split
       · simp
       · split
         · simp
         · split
           · simp
           · split
             · simp
             · simp only; omega
theorem ct56 (bs : List Int) (hbs : byteL bs) (a : Option Addr) (n c : Nat) (I : Mem) (h : SlM I a n 1 (ints .u8 bs)) (hn : n <= 1000000) (hc : n <= c) (hm : c <= maxLen) :
 Ct Try.prog (fnv 56) #[.slice a n c] I (fun v I' => ∃ a' n' c', v = .tuple #[.slice a' n' c', .int .i64 (readF bs).2.1, .int .i64 (readF bs).2.2] /\ FldM I' a' n' (readF bs).1 /\ n' <= c' /\ c' <= maxLen) := by
 refine viaR (ct_via (A := { calls := [(68, .ro)], loops := [(5, ⟨[(0, .keep), (5, .row 0), (6, .sh (.int .i64)), (7, .sh (.int .i64))], [(0, .row)], [(5, 2, 93)], fun vals xss I' _ => match vals, xss with | [.int .i64 at_, .int .i64 sum], [xs] => 0 <= at_ /\ ∃ L, FR I' xs L /\ rightF L = true /\ sum = sumL L /\ goF (yields bs 0) 0 16384 [] = goF (yields bs at_.toNat) (lastT 0 L) (16384 - sumL L) L | _, _ => False, fun vals _ => match vals with | [.int .i64 at_, _] => (n - at_).toNat | _ => 0⟩)] }) Try.func56 rfl Try.call56 rfl rfl) (Br (decide (16768 < (n : Int))) (∃ b d e, Value.tuple #[.slice none 0 0, .int .i64 0, .int .i64 3] = .tuple #[.slice b d e, .int .i64 (readF bs).2.1, .int .i64 (readF bs).2.2] /\ FldM I b d (readF bs).1 /\ d <= e /\ e <= 9223372036854775807) ((Rf (SV.v (.slice a n c)) /\ (0 : Nat) = 0 /\ (0 : Int) <= 0 /\ ∃ L, FR I [] L /\ rightF L = true /\ 0 = sumL L /\ goF (yields bs 0) 0 16384 [] = goF (yields bs 0) (lastT 0 L) (16384 - sumL L) L) /\ ∀ (b : Mem), Mem -> I.le b -> ∀ (x : List Value) (d e : Int), 0 <= d /\ (∃ L, FR b x L /\ rightF L = true /\ e = sumL L /\ goF (yields bs 0) 0 16384 [] = goF (yields bs d.toNat) (lastT 0 L) (16384 - sumL L) L) -> Br (decide (d < (n : Int))) (Wr .i64 (d + 1) (fun f => Ct Try.prog (fnv 74) #[.slice a n c, .int .i64 f] b fun v g => ∃ i j k, v = .tuple #[.int .u64 i, .int .i64 j, .int .i64 k] /\ Wr .i64 (d + 1) fun l => Wr .i64 (l + j) fun m => Br (k != 0) (∃ o p q, Value.tuple #[.slice none 0 0, .int .i64 d, .int .i64 21] = .tuple #[.slice o p q, .int .i64 (readF bs).2.1, .int .i64 (readF bs).2.2] /\ FldM g o p (readF bs).1 /\ p <= q /\ q <= 9223372036854775807) (Wr .i64 ((n : Int) - m) (fun o => Wr .u64 o fun p => Br (decide (p < i)) (∃ q r s, Value.tuple #[.slice none 0 0, .int .i64 d, .int .i64 21] = .tuple #[.slice q r s, .int .i64 (readF bs).2.1, .int .i64 (readF bs).2.2] /\ FldM g q r (readF bs).1 /\ r <= s /\ s <= 9223372036854775807) (0 <= d /\ d < (n : Int) /\ a.isSome = true /\ ∃ q, atI g a (d.toNat * 1 + 0) = some (.int .u8 q) /\ Wr .i64 q fun r => Wr .i64 i fun s => Wr .i64 (m + s) fun t => 0 <= m /\ m <= t /\ t <= (c : Int) /\ Ct Try.prog (fnv 75) #[.slice (sladdr a c m.toNat 1) (t.toNat - m.toNat) (c - m.toNat)] g (fun u w => ∃ y z c1, u = .slice y z c1 /\ Wr .i64 (e + (z : Int)) fun c2 => x.length = x.length / 2 * 2 /\ x.length / 2 + 1 <= 9223372036854775807 /\ (x.length / 2 + 1) * 32 <= 140737488355328 /\ ∀ (a1 : Option Addr) (c3 : Nat) (I1 : Mem), w.le I1 -> RowM I1 a1 c3 2 (x ++ [.int .i64 r, .slice y z c1]) -> Ct Try.prog (fnv 71) #[.slice a1 (x.length / 2 + 1) c3] I1 fun v1 x1 => ∃ b1, v1 = .bool b1 /\ Br (!b1) (∃ a2 n1 c4, Value.tuple #[.slice none 0 0, .int .i64 d, .int .i64 21] = .tuple #[.slice a2 n1 c4, .int .i64 (readF bs).2.1, .int .i64 (readF bs).2.2] /\ FldM w a2 n1 (readF bs).1 /\ n1 <= c4 /\ c4 <= 9223372036854775807) (Br (decide (16384 < c2)) (∃ a2 n1 c4, Value.tuple #[.slice none 0 0, .int .i64 d, .int .i64 21] = .tuple #[.slice a2 n1 c4, .int .i64 (readF bs).2.1, .int .i64 (readF bs).2.2] /\ FldM w a2 n1 (readF bs).1 /\ n1 <= c4 /\ c4 <= 9223372036854775807) (Wr .i64 i (fun c4 => Wr .i64 (m + c4) fun c5 => Rf (SV.v (.slice a n c)) /\ x.length / 2 + 1 = List.length (x ++ [.int .i64 r, .slice y z c1]) / 2 /\ (0 <= c5 /\ ∃ L, FR w (x ++ [.int .i64 r, .slice y z c1]) L /\ rightF L = true /\ c2 = sumL L /\ goF (yields bs 0) 0 16384 [] = goF (yields bs c5.toNat) (lastT 0 L) (16384 - sumL L) L) /\ Int.toNat ((n : Int) - c5) < Int.toNat ((n : Int) - d))))) /\ Ct Try.prog (fnv 75) #[.slice (sladdr a c m.toNat 1) (t.toNat - m.toNat) (c - m.toNat)] g fun u w => ∃ y z c1, u = .slice y z c1 /\ Wr .i64 (e + (z : Int)) fun c2 => x.length = x.length / 2 * 2 /\ x.length / 2 + 1 <= 9223372036854775807 /\ (x.length / 2 + 1) * 32 <= 140737488355328 /\ ∀ (a1 : Option Addr) (c3 : Nat) (I1 : Mem), w.le I1 -> RowM I1 a1 c3 2 (x ++ [.int .i64 r, .slice y z c1]) -> Ct Try.prog (fnv 71) #[.slice a1 (x.length / 2 + 1) c3] I1 fun v1 x1 => ∃ b1, v1 = .bool b1 /\ Br (!b1) (∃ a2 n1 c4, Value.tuple #[.slice none 0 0, .int .i64 d, .int .i64 21] = .tuple #[.slice a2 n1 c4, .int .i64 (readF bs).2.1, .int .i64 (readF bs).2.2] /\ FldM w a2 n1 (readF bs).1 /\ n1 <= c4 /\ c4 <= 9223372036854775807) (Br (decide (16384 < c2)) (∃ a2 n1 c4, Value.tuple #[.slice none 0 0, .int .i64 d, .int .i64 21] = .tuple #[.slice a2 n1 c4, .int .i64 (readF bs).2.1, .int .i64 (readF bs).2.2] /\ FldM w a2 n1 (readF bs).1 /\ n1 <= c4 /\ c4 <= 9223372036854775807) (Wr .i64 i (fun c4 => Wr .i64 (m + c4) fun c5 => Rf (SV.v (.slice a n c)) /\ x.length / 2 + 1 = List.length (x ++ [.int .i64 r, .slice y z c1]) / 2 /\ (0 <= c5 /\ ∃ L, FR w (x ++ [.int .i64 r, .slice y z c1]) L /\ rightF L = true /\ c2 = sumL L /\ goF (yields bs 0) 0 16384 [] = goF (yields bs c5.toNat) (lastT 0 L) (16384 - sumL L) L) /\ Int.toNat ((n : Int) - c5) < Int.toNat ((n : Int) - d))))))))) (∀ (f : Option Addr) (g : Nat) (i : Mem), b.le i -> RowM i f g 2 x -> ∃ j k l, Value.tuple #[.slice f (x.length / 2) g, .int .i64 0, .int .i64 0] = .tuple #[.slice j k l, .int .i64 (readF bs).2.1, .int .i64 (readF bs).2.2] /\ FldM i j k (readF bs).1 /\ k <= l /\ l <= 9223372036854775807))) (by kernel_rfl) ?_
 simp only [eq_self, true_and];have hnl := h.numLen;refine Br.mk (fun hlong => ?_) (fun hlong => ?_)
 · have hlong := of_decide_eq_true hlong
   have : readF bs = ([], 0, 3) := by rw [readF, if_pos (by omega)]
   rw [this]
   exact ⟨none, 0, 0, rfl, fldM_nil _, by omega, by omega⟩
 have hlong := of_decide_eq_false hlong
 have hrd0 : readF bs = if 0 <= (goF (yields bs 0) 0 16384 []).1 then ([], (goF (yields bs 0) 0 16384 []).1, 21) else ((goF (yields bs 0) 0 16384 []).2, 0, 0) := by rw [readF, if_neg (by omega)]
 refine ⟨⟨by omega, [], trivial, rfl, rfl, rfl⟩, fun I1 _ l1 xs at_ sum ⟨a0, L, hL, hR, hs, hg⟩ => ?_⟩
 obtain ⟨k, rfl⟩ : ∃ k : Nat, at_ = k := ⟨at_.toNat, by omega⟩
 rw [Int.toNat_natCast] at hg ⊢;have hRs := hR;rw [right_split] at hRs;simp only [Bool.and_eq_true, decide_eq_true_eq] at hRs;obtain ⟨r1, r2, r3⟩ := hRs
 have hl0 := lastT_nonneg L 0 (by omega) r2
 have hs0 := sumL_nonneg L;have hxl := hL.len;refine Br.mk (fun hlt => ?_) (fun hge => ?_)
 · have hlt := of_decide_eq_true hlt
   have hkl : k < bs.length := by omega
   have fail : goF (yields bs k) (lastT 0 L) (16384 - sumL L) L = ((k : Int), []) -> ∀ J, ∃ a' n' c', Value.tuple #[Value.slice none 0 0, Value.int IntKind.i64 k, Value.int IntKind.i64 21] = Value.tuple #[Value.slice a' n' c', Value.int IntKind.i64 (readF bs).snd.fst, Value.int IntKind.i64 (readF bs).snd.snd] /\ FldM J a' n' (readF bs).fst /\ n' <= c' /\ c' <= 9223372036854775807 := by
    intro hf J;rw [hf] at hg
    have : readF bs = ([], (k : Int), 21) := by rw [hrd0, hg, if_pos (by simp only; omega)]
    rw [this]
    exact ⟨none, 0, 0, rfl, fldM_nil _, by omega, by omega⟩
   refine wr_i64 (by omega) (by omega) ((ct74 bs hbs a n c (k + 1) (by omega) I1 (h.mono l1) (by omega) hc).mono fun v I2 l2 hv => ?_)
   have hm9 := readN_m hbs (k + 1)
   rcases hre : readN bs (k + 1) with ⟨x, m, er⟩
   rw [hre] at hv hm9
   simp only at hm9
   refine ⟨x, m, er, hv, wr_i64 (by omega) (by omega) (wr_i64 (by omega) (by omega) (Br.mk (fun he => ?_) (fun he => ?_)))⟩
   · have he : er ≠ 0 := by simpa using he
     refine fail (goF_bad hkl ?_ hl0) _
     have hin : (intN bs (k + 1) 0 16384).2.2 ≠ 0 := by
      unfold intN;rw [hre, if_pos he];exact he
     rw [fstep, if_pos (.inl hin)]
   have he : er = 0 := by simpa using he
   subst he;obtain ⟨g0, g1, g2, g3, g4, g5, g6⟩ := readN_back hbs hre
   refine wr_i64 (by omega) (by omega) ⟨_, IntWalk.u64_in _ ⟨by omega, by omega⟩, Br.mk (fun hlx => ?_) (fun hlx => ?_)⟩
   · have hlx := of_decide_eq_true hlx
     refine fail (goF_bad hkl ?_ hl0) _
     by_cases hx : 16384 < x
     · have hin : (intN bs (k + 1) 0 16384).2.2 ≠ 0 := by
        unfold intN
        rw [hre, if_neg (by simp), if_pos (by simp only; omega)]
        simp
       rw [fstep, if_pos (.inl hin)]
     · have hin : intN bs (k + 1) 0 16384 = (x, m, 0) := by rw [intN, hre, if_neg (by simp), if_neg (by simp only; omega)]
       rw [fstep, hin, if_pos (.inr (by simp only; omega))]
   have hlx := of_decide_eq_false hlx
   obtain ⟨b, hb, hcell⟩ := (h.mono (Mem.le_trans l1 l2)).intAt (i := (k : Int)) (by omega) hlt
   rw [Int.toNat_natCast] at hb hcell;have hbr := hbs b (List.mem_of_getElem? hb)
   refine ⟨by omega, hlt, h.isSome (by omega), b, hcell, wr_i64 (by omega) (by omega) (wr_i64 (by omega) (by omega) (wr_i64 (by omega) (by omega) ⟨by omega, by omega, by omega, dup2 ?_⟩))⟩
   have hsub := sl_sub (f := ((k : Int) + 1 + m).toNat) (t := ((k : Int) + 1 + m + x).toNat) ((h.mono l1).mono l2) (by omega) (by omega) hc
   have hbl : ((bs.drop ((k : Int) + 1 + m).toNat).take (((k : Int) + 1 + m + x).toNat - ((k : Int) + 1 + m).toNat)).length = x.toNat := by simp only [List.length_take, List.length_drop]; omega
   have hbb : byteL ((bs.drop ((k : Int) + 1 + m).toNat).take (((k : Int) + 1 + m + x).toNat - ((k : Int) + 1 + m).toNat)) := fun z hz => hbs z (List.mem_of_mem_drop (List.mem_of_mem_take hz))
   have hst : ¬ 16384 < x -> fstep bs k = some ((bs.drop ((k : Int) + 1 + m).toNat).take (((k : Int) + 1 + m + x).toNat - ((k : Int) + 1 + m).toNat), ((k : Int) + 1 + m + x).toNat) := fun hx => by
    have hin : intN bs (k + 1) 0 16384 = (x, m, 0) := by rw [intN, hre, if_neg (by simp), if_neg (by simp only; omega)]
    rw [fstep, hin, if_neg (by simp only; omega)]
    simp only
    congr 3
    omega
   generalize (bs.drop ((k : Int) + 1 + m).toNat).take (((k : Int) + 1 + m + x).toNat - ((k : Int) + 1 + m).toNat) = body at hsub hbl hbb hst
   refine (ct75 body _ _ _ I2 hsub (by omega)).mono fun v I3 l3 hv => ?_
   have hv2 := hv;obtain ⟨b2, m2, c2, rfl, hv3, _⟩ := hv;have hm2 := hv3.numLen
   have hL2 : FR I3 (xs ++ [.int .i64 b, .slice b2 m2 c2]) (L ++ [(b, body)]) := FR.snoc (hL.mono (Mem.le_trans l2 l3)) ⟨⟨by simp only; omega, hbb⟩, rfl, hv2⟩
   refine ⟨b2, m2, c2, rfl, wr_i64 (by omega) (by omega) ⟨by omega, by omega, by omega, fun a4 cp I4 l4 hrow => ?_⟩⟩
   have hf4 := fldM_row hrow (hL2.mono l4)
   have hbnd : ∀ f ∈ L ++ [(b, body)], f.2.length <= 1000000 := fun f hf => by
    rcases List.mem_append.1 hf with hf | hf
    · have := right_at (rightF_iff.1 hR).1 f hf
      omega
    · cases List.mem_singleton.1 hf
      simp only
      omega
   have hll : (L ++ [(b, body)]).length = xs.length / 2 + 1 := by simp; omega
   rw [hll] at hf4;refine (ct71 (L ++ [(b, body)]) _ _ _ I4 hf4 hbnd).mono fun v I5 l5 hv => ⟨_, hv, ?_⟩;rw [right_snoc hR]
   by_cases hx : 16384 < x
   · refine Br.t ?_ (fail (goF_bad hkl ?_ hl0) _)
     · rw [decide_eq_true (by simp only; omega)]; rfl
     · have hin : (intN bs (k + 1) 0 16384).2.2 ≠ 0 := by
        unfold intN
        rw [hre, if_neg (by simp), if_pos (by simp only; omega)]
        simp
       rw [fstep, if_pos (.inl hin)]
   have hstep := goF_step (last := lastT 0 L) (left := 16384 - sumL L) (L := L) hkl (hst hx) hb (by omega)
   refine Br.mk (fun hbad => ?_) (fun hgood => ?_)
   · have hbad : b <= lastT 0 L \/ 200 < b \/ 16384 - sumL L < body.length \/ 64 <= L.length := by simpa using hbad
     rw [if_pos hbad] at hstep;exact fail hstep _
   · have hgood : ¬ (b <= lastT 0 L \/ 200 < b \/ 16384 - sumL L < body.length \/ 64 <= L.length) := by simpa using hgood
     rw [if_neg hgood] at hstep
     refine Br.f (by simp; omega) (wr_i64 (by omega) (by omega) (wr_i64 (by omega) (by omega) ⟨by simp, ⟨by omega, L ++ [(b, body)], hL2, ?_, ?_, ?_⟩, by omega⟩))
     · rw [right_snoc hR, decide_eq_false hgood]; rfl
     · rw [sumL_app]; simp only [sumL]; omega
     · rw [hg, hstep, lastT_snoc, sumL_app]
       simp only [sumL]
       congr 1
       omega
 · have hge := of_decide_eq_false hge
   intro a4 cp I4 l4 hrow
   have hy : yields bs k = [] := by rw [yields, dif_neg (by omega)]
   rw [hy, goF] at hg
   have : readF bs = (L, 0, 0) := by rw [hrd0, hg]; rfl
   rw [this];obtain ⟨a3, n3, c3, e1, e2⟩ := fr_row hrow (hL.mono l4);cases e1;exact ⟨_, _, _, rfl, e2⟩
theorem readN_bad (bs : List Int) (at_ : Int) : (readN bs at_).2.2 ≠ 0 -> (readN bs at_).1 = 0 /\ (readN bs at_).2.1 = 0 := by
 unfold readN;split
 · simp
 · split
   · simp
   · split
     · simp
     · split
       · simp
       · split
         · simp
         · split
           · simp
           · split <;> simp
theorem ct57 (bs : List Int) (hbs : ∀ b ∈ bs, 0 <= b /\ b <= 255) (a : Option Addr) (n c : Nat) (I : Mem) (h : SlM I a n 1 (ints .u8 bs)) (hl : n <= 1000000000) (hc : n <= c) :
 Ct Try.prog (fnv 57) #[.slice a n c] I (fun v _ => v = T3 (lastN bs)) := by
 refine viaR (ct_via (A := {}) Try.func57 rfl Try.call57 rfl rfl) (Ct Try.prog (fnv 74) #[.slice a n c, .int .i64 0] I fun v b => ∃ d e f, v = .tuple #[.int .u64 d, .int .i64 e, .int .i64 f] /\ Br (f == 0) (Br (e != (n : Int)) (Value.tuple #[.int .u64 0, .int .i64 0, .int .i64 11] = .tuple #[.int .u64 (lastN bs).1, .int .i64 (lastN bs).2.1, .int .i64 (lastN bs).2.2]) (Value.tuple #[.int .u64 d, .int .i64 e, .int .i64 f] = .tuple #[.int .u64 (lastN bs).1, .int .i64 (lastN bs).2.1, .int .i64 (lastN bs).2.2])) (Value.tuple #[.int .u64 d, .int .i64 e, .int .i64 f] = .tuple #[.int .u64 (lastN bs).1, .int .i64 (lastN bs).2.1, .int .i64 (lastN bs).2.2])) (by kernel_rfl) ?_
 refine (ct74 bs hbs a n c 0 (by omega) I h hl hc).mono fun v I1 l1 hv => ?_
 have hnl := h.numLen;have hbad := readN_bad bs 0
 rcases hr : readN bs 0 with ⟨x, m, e⟩
 rw [hr] at hv hbad;refine ⟨_, _, _, hv, ?_⟩;unfold lastN;rw [hr];refine Br.mk (fun he => ?_) (fun he => ?_)
 · have he : e = 0 := by simpa using he
   subst he;obtain ⟨g0, g1, g2, g3, g4, g5, g6⟩ := readN_back hbs hr;refine Br.mk (fun hm => ?_) (fun hm => ?_)
   · have hm : m ≠ n := by simpa using hm
     rw [if_neg (by simp), if_pos (by simp only; omega)]
   · have hm : m = n := by simpa using hm
     rw [if_neg (by simp), if_neg (by simp only; omega)]
 · have he : e ≠ 0 := by simpa using he
   obtain ⟨h1, h2⟩ := hbad he
   simp only at h1 h2
   rw [if_pos he, h1, h2]
theorem ct51 (l : List (Int × List Int)) (hb : ∀ f ∈ l, f.2.length <= 1000000) (a : Option Addr) (n c : Nat) (I : Mem) (h : FldM I a n l) (hn : n <= 1000000) :
 Ct Try.prog (fnv 51) #[.slice a n c] I (fun v I' => ∃ a' n' c', v = .tuple #[.slice a' n' c', .int .i64 (if rightF l then 0 else 20)] /\ SlM I' a' n' 1 (ints .u8 (if rightF l then writeF l else [])) /\ n' <= c' /\ c' <= maxLen) := by
 refine viaR (ct_via (A := { loops := [(5, ⟨[(0, .keep), (4, .row 0), (5, .sh (.int .i64))], [(0, .row)], [(4, 1, 5)], fun vals xss I' _ => match vals, xss with | [.int .i64 j], [xs] => 0 <= j /\ j <= n /\ xs = ints .u8 (writeF (l.take j.toNat)) /\ rightF l = true | _, _ => False, fun vals _ => match vals with | [.int .i64 j] => (n - j).toNat | _ => 0⟩)] }) Try.func51 rfl Try.call51 rfl rfl) (Ct Try.prog (fnv 71) #[.slice a n c] I fun v b => ∃ d, v = .bool d /\ Br (!d) (∃ e f g, Value.tuple #[.slice none 0 0, .int .i64 20] = .tuple #[.slice e f g, .int .i64 (if rightF l = true then 0 else 20)] /\ SlM b e f 1 (List.map (Value.int .u8) (if rightF l = true then writeF l else ([] : List Int))) /\ f <= g /\ g <= 9223372036854775807) ((Rf (SV.v (.slice a n c)) /\ (0 : Nat) = 0 /\ (0 : Int) <= 0 /\ 0 <= (n : Int) /\ Rf ([] : List Value) /\ rightF l = true) /\ ∀ (e : Mem), Mem -> b.le e -> ∀ (x : List Value) (f : Int), 0 <= f /\ f <= (n : Int) /\ x = List.map (Value.int .u8) (writeF (List.take f.toNat l)) /\ rightF l = true -> Br (decide (f < (n : Int))) (0 <= f /\ f < (n : Int) /\ a.isSome = true /\ a.isSome = true /\ ∃ g, atI e a (f.toNat * 2 + 0 + 0) = some (.int .i64 g) /\ Wr .u8 g fun i => x.length = x.length * 1 /\ x.length + 1 <= 9223372036854775807 /\ (x.length + 1) * 1 <= 140737488355328 /\ 0 <= f /\ f < (n : Int) /\ a.isSome = true /\ a.isSome = true /\ ∃ j k m, atI e a (f.toNat * 2 + 1 + 0) = some (.slice j k m) /\ Wr .u64 (k : Int) fun o => Ct Try.prog (fnv 48) #[.int .u64 o] e fun p q => ∃ r s t, p = .slice r s t /\ ∃ y, y.length = s * 1 /\ (r = none -> s = 0) /\ (∀ (u : Nat) (w : Value), y[u]? = some w -> atI q r u = some w) /\ (∀ (u : Value), Membership.mem y u -> u.oneCell' = true) /\ List.length (x ++ [.int .u8 i]) = (x.length + 1) * 1 /\ x.length + 1 + s <= 9223372036854775807 /\ (x.length + 1 + s) * 1 <= 140737488355328 /\ 0 <= f /\ f < (n : Int) /\ a.isSome = true /\ a.isSome = true /\ ∃ u w z, atI q a (f.toNat * 2 + 1 + 0) = some (.slice u w z) /\ ∃ y1, y1.length = w * 1 /\ (u = none -> w = 0) /\ (∀ (j1 : Nat) (v1 : Value), y1[j1]? = some v1 -> atI q u j1 = some v1) /\ (∀ (v1 : Value), Membership.mem y1 v1 -> v1.oneCell' = true) /\ List.length (x ++ [.int .u8 i] ++ y) = (x.length + 1 + s) * 1 /\ x.length + 1 + s + w <= 9223372036854775807 /\ (x.length + 1 + s + w) * 1 <= 140737488355328 /\ Wr .i64 (f + 1) fun c1 => Rf (SV.v (.slice a n c)) /\ x.length + 1 + s + w = List.length (x ++ [.int .u8 i] ++ y ++ y1) /\ (0 <= c1 /\ c1 <= (n : Int) /\ x ++ [.int .u8 i] ++ y ++ y1 = List.map (Value.int .u8) (writeF (List.take c1.toNat l)) /\ rightF l = true) /\ Int.toNat ((n : Int) - c1) < Int.toNat ((n : Int) - f)) (∀ (g : Option Addr) (i : Nat) (j : Mem), e.le j -> RowM j g i 1 x -> ∃ k m o, Value.tuple #[.slice g x.length i, .int .i64 0] = .tuple #[.slice k m o, .int .i64 (if rightF l = true then 0 else 20)] /\ SlM j k m 1 (List.map (Value.int .u8) (if rightF l = true then writeF l else ([] : List Int))) /\ m <= o /\ o <= 9223372036854775807))) (by kernel_rfl) ?_
 have hl := h.len;refine (ct71 l a n c I h hb).mono fun v I0 l0 hv => ⟨_, hv, Br.mk (fun hr => ?_) (fun hr => ?_)⟩
 · have hr : rightF l = false := by simpa using hr
   rw [hr]
   exact ⟨none, 0, 0, rfl, sl_nil _ _, by omega, by omega⟩
 have hr : rightF l = true := by simpa using hr
 obtain ⟨hs, hl64⟩ := rightF_iff.1 hr
 refine ⟨⟨rfl, rfl, by omega, by omega, rfl, hr⟩, fun I1 _ l1 xs j ⟨h0, h1, h2, _⟩ => Br.mk (fun hlt => ?_) (fun hge => ?_)⟩
 · have hlt := of_decide_eq_true hlt
   obtain ⟨f, b, m, c', hf, hok, e1, e2, hfs, hm1, hm2⟩ := (h.mono (Mem.le_trans l0 l1)).at_ h0 hlt;have hm := hfs.numLen;have hfr := right_at hs f (List.mem_of_getElem? hf)
   have hsome := h.isSome (by omega)
   have hwl := right_len (by omega) hs j.toNat
   have hxl : xs.length = (writeF (l.take j.toNat)).length := by rw [h2]; exact ints_len
   refine ⟨h0, hlt, hsome, hsome, f.1, e1, _, IntWalk.u8_in f.1 ⟨by omega, by omega⟩, by omega, by omega, by omega, h0, hlt, hsome, hsome, b, m, c', e2, _, IntWalk.u64_in _ ⟨by omega, by omega⟩, ?_⟩
   refine (ct48 (m : Int) ⟨by omega, by omega⟩ I1).mono fun v I2 l2 ⟨b2, m2, c2, hv, hs2, hm3, hm4⟩ => ⟨b2, m2, c2, hv, ?_⟩
   rw [Int.toNat_natCast] at hs2;have hm2 := hs2.numLen
   have hf9 := formN_le m (by omega)
   obtain ⟨f2, b', m', c2', hf', _, _, e2', hfs', _⟩ := (h.mono (Mem.le_trans l0 (Mem.le_trans l1 l2))).at_ h0 hlt;rw [hf] at hf'
   cases hf'
   refine ⟨_, hs2.len, hs2.nil, hs2.at_, one_ints, by simp, by omega, by omega, h0, hlt, hsome, hsome, b', m', c2', e2', _, hfs'.len, hfs'.nil, hfs'.at_, one_ints, ?_, ?_, ?_, wr_i64 (by omega) (by omega) ⟨rfl, ?_, ⟨by omega, by omega, ?_, hr⟩, by omega⟩⟩
   · simp [ints_len]; omega
   · have := hfs'.numLen; omega
   · have := hfs'.numLen; omega
   · have := hfs'.numLen
     simp [ints_len]; omega
   · rw [h2, show (j + 1).toNat = j.toNat + 1 by omega, take_succ' hf, writeF_app, show writeF [f] = f.1 :: (formN f.2.length ++ f.2) by simp [writeF], <- hm]
     simp [ints]
 · have hge := of_decide_eq_false hge
   intro a4 cp I4 l4 hrow
   rw [List.take_of_length_le (by omega)] at h2
   have hxl : xs.length = (writeF l).length := by rw [h2]; exact ints_len
   refine ⟨a4, xs.length, cp, ?_, ?_, ?_, hrow.2.1⟩
   · rw [hr]; rfl
   · rw [if_pos hr, <- h2]; exact hrow.sl (by omega) (by omega)
   · have := hrow.1; omega
theorem lastN_form (x : Nat) (h : x < 256 ^ 8) : lastN (formN x) = ((x : Int), ((formN x).length : Int), 0) := by
 have hr := readN_form [] [] x h;simp only [List.nil_append, List.append_nil, List.length_nil] at hr;have hr : readN (formN x) 0 = ((x : Int), ((formN x).length : Int), 0) := hr;unfold lastN
 rw [hr, if_neg (by simp), if_neg (by simp)]
theorem readN_err (bs : List Int) (h : (readN bs 0).2.2 ≠ 0) : (readN bs 0).2.2 = 10 \/ (readN bs 0).2.2 = 11 := by
 unfold readN at h ⊢
 rw [if_neg (by omega)] at h ⊢
 split
 · exact .inl rfl
 · rename_i b hb
   rw [hb] at h
   simp only at h
   split
   · rename_i h1; rw [if_pos h1] at h; exact absurd rfl h
   · rename_i h1
     rw [if_neg h1] at h;split
     · exact .inr rfl
     · rename_i h2
       rw [if_neg h2] at h;split
       · exact .inl rfl
       · rename_i h3
         rw [if_neg h3] at h;split
         · exact .inr rfl
         · rename_i h4
           rw [if_neg h4] at h;split
           · exact .inr rfl
           · rename_i h5
             rw [if_neg h5] at h;exact absurd rfl h
theorem lastN_cases (bs : List Int) (hbs : byteL bs) : ((lastN bs).2.2 = 0 /\ 0 <= (lastN bs).1 /\ (lastN bs).1.toNat < 256 ^ 8 /\ formN (lastN bs).1.toNat = bs) \/ ((lastN bs).1 = 0 /\ ((lastN bs).2.2 = 10 \/ (lastN bs).2.2 = 11)) := by
 unfold lastN;split
 · rename_i h
   exact .inr ⟨rfl, readN_err bs h⟩
 · rename_i h
   split
   · exact .inr ⟨rfl, .inr rfl⟩
   · rename_i h2
     have h : (readN bs 0).2.2 = 0 := by simpa using h
     obtain ⟨g1, g2, g3, g4, g5, g6, g7⟩ := readN_back hbs (at_ := 0) (x := (readN bs 0).1) (n := (readN bs 0).2.1) (Prod.ext rfl (Prod.ext rfl h));refine .inl ⟨rfl, g3, g4, ?_⟩;have e1 : bs.drop (0 : Int).toNat = bs := rfl
     rw [e1, List.drop_eq_nil_of_le (by omega), List.append_nil] at g6
     exact g6.symm
theorem ct45 (b : Nat) (I : Mem) :
 Ct Try.prog (fnv 45) #[.pointer (some ⟨b, 0, none⟩)] I (fun v _ => v = .agg #[.pointer none, .pointer none, .pointer none, .pointer (some ⟨b, 3, none⟩), .pointer (some ⟨b, 4, none⟩), .pointer (some ⟨b, 5, none⟩), .pointer (some ⟨b, 6, none⟩), .pointer (some ⟨b, 7, none⟩), .pointer (some ⟨b, 8, none⟩), .pointer (some ⟨b, 9, none⟩), .pointer none, .pointer none]) := by
 refine viaR (ct_via (A := { }) Try.func45 rfl Try.call45 rfl rfl) (true = true /\ true = true /\ true = true /\ true = true /\ true = true /\ true = true /\ true = true /\ true = true /\ true = true /\ true = true /\ true = true /\ true = true /\ true = true /\ true = true /\ Rf (Value.agg #[.pointer none, .pointer none, .pointer none, .pointer (some ⟨b, 3, none⟩), .pointer (some ⟨b, 4, none⟩), .pointer (some ⟨b, 5, none⟩), .pointer (some ⟨b, 6, none⟩), .pointer (some ⟨b, 7, none⟩), .pointer (some ⟨b, 8, none⟩), .pointer (some ⟨b, 9, none⟩), .pointer none, .pointer none])) (by kernel_rfl) ?_
 simp only [and_self]
theorem cs45 (b : Nat) (x0 x1 x2 x3 x4 x5 x6 x7 x8 x9 x10 x11 : Value) (I : Mem) :
 CtS Try.prog (.v (fnv 45)) [.ptr 0 0] [⟨.cells [.v x0, .v x1, .v x2, .v x3, .v x4, .v x5, .v x6, .v x7, .v x8, .v x9, .v x10, .v x11] 29, some b⟩] I (fun v H' _ => v = .agg [.v (.pointer none), .v (.pointer none), .v (.pointer none), .ptr 0 3, .ptr 0 4, .ptr 0 5, .ptr 0 6, .ptr 0 7, .ptr 0 8, .ptr 0 9, .v (.pointer none), .v (.pointer none)] /\ H' = [⟨.cells [.v x0, .v x1, .v x2, .v x3, .v x4, .v x5, .v x6, .v x7, .v x8, .v x9, .v x10, .v x11] 29, some b⟩]) := by
 refine viaR (ctS_via (A := { }) Try.func45 rfl Try.call45 [0] rfl) (Rf (SV.agg [.v (.pointer none), .v (.pointer none), .v (.pointer none), .ptr 0 3, .ptr 0 4, .ptr 0 5, .ptr 0 6, .ptr 0 7, .ptr 0 8, .ptr 0 9, .v (.pointer none), .v (.pointer none)]) /\ Rf [Ent.mk (.cells [.v x0, .v x1, .v x2, .v x3, .v x4, .v x5, .v x6, .v x7, .v x8, .v x9, .v x10, .v x11] 29) (some b)]) (by kernel_rfl) ?_
 exact ⟨rfl, rfl⟩
def foldZ (x : Int) : Int := if 0 <= x then 2 * x else -2 * x - 1
def unfoldZ (y : Int) : Int := if y % 2 = 0 then y / 2 else -(y / 2) - 1
theorem w64 (x : Int) : IntKind.u64.wrap x = x % 18446744073709551616 := rfl
theorem nat64 (x : Int) : (BitVec.ofInt 64 x).toNat = (x % 18446744073709551616).toNat := by
 rw [BitVec.toNat_ofInt]; rfl
theorem xor_u0 {c : Int} (h : 0 <= c /\ c < 18446744073709551616) : bitsV .xor .u64 c 0 = c := by
 show IntKind.u64.wrap (((BitVec.ofInt 64 c ^^^ BitVec.ofInt 64 0).toNat : Nat) : Int) = c
 have h0 : BitVec.ofInt 64 0 = 0#64 := rfl;rw [h0, BitVec.xor_zero, nat64, w64];omega
theorem ones : BitVec.ofInt 64 18446744073709551615 = BitVec.allOnes 64 := by decide
theorem ones' : BitVec.ofInt 64 (-1) = BitVec.allOnes 64 := by decide
theorem xor_u1 {c : Int} (h : 0 <= c /\ c < 18446744073709551616) : bitsV .xor .u64 c 18446744073709551615 = 18446744073709551615 - c := by
 show IntKind.u64.wrap (((BitVec.ofInt 64 c ^^^ BitVec.ofInt 64 18446744073709551615).toNat : Nat) : Int) = _
 rw [ones, BitVec.xor_allOnes, BitVec.toNat_not, nat64, w64];omega
theorem i64_big {x : Int} (h : 9223372036854775808 <= x /\ x < 18446744073709551616) : IntKind.i64.wrap x = x - 18446744073709551616 := by
 rw [IntKind.wrap_i64]
 skip
 omega
theorem xor_i0 {c : Int} (h : 0 <= c /\ c <= 9223372036854775807) : bitsV .xor .i64 c 0 = c := by
 show IntKind.i64.wrap (((BitVec.ofInt 64 c ^^^ BitVec.ofInt 64 0).toNat : Nat) : Int) = c
 have h0 : BitVec.ofInt 64 0 = 0#64 := rfl
 rw [h0, BitVec.xor_zero, nat64, IntWalk.i64_in _ ⟨by omega, by omega⟩]
 omega
theorem xor_i1 {c : Int} (h : 0 <= c /\ c <= 9223372036854775807) : bitsV .xor .i64 c (-1) = -c - 1 := by
 show IntKind.i64.wrap (((BitVec.ofInt 64 c ^^^ BitVec.ofInt 64 (-1)).toNat : Nat) : Int) = _
 rw [ones', BitVec.xor_allOnes, BitVec.toNat_not, nat64, i64_big (by omega)]
 omega
theorem and_1 {y : Int} (h : 0 <= y /\ y < 18446744073709551616) : bitsV .and .u64 y 1 = y % 2 := by
 show IntKind.u64.wrap (((BitVec.ofInt 64 y &&& BitVec.ofInt 64 1).toNat : Nat) : Int) = _
 rw [BitVec.toNat_and, nat64, nat64, w64]
 have : (1 % 18446744073709551616 : Int).toNat = 1 := by decide
 rw [this, Nat.and_one_is_mod];omega
theorem ct65 (x : Int) (hx : -9223372036854775808 <= x /\ x <= 9223372036854775807) (I : Mem) : Ct Try.prog (fnv 65) #[.int .i64 x] I (fun v _ => v = .int .u64 (foldZ x)) := by
 refine viaR (ct_via (A := { }) Try.func65 rfl Try.call65 rfl rfl) (Wr .u64 x fun c => (0 : Int) <= 1 /\ Wr .u64 (c * 2) fun a => (0 : Int) <= 63 /\ Wr .u64 (x.fdiv 9223372036854775808) fun b => Value.int .u64 (bitsV .xor .u64 a b) = .int .u64 (foldZ x)) (by kernel_rfl) ?_
 have h1 : (x.fdiv 9223372036854775808 : Int) = if 0 <= x then 0 else -1 := by
  rw [Int.fdiv_eq_ediv_of_nonneg _ (by decide)]
  split <;> omega
 refine ⟨_, rfl, by omega, _, rfl, by omega, _, rfl, ?_⟩
 rw [w64, w64, w64, h1, foldZ]
 congr 1
 split
 · rw [show (0 : Int) % 18446744073709551616 = 0 by decide, xor_u0 (by omega)]; omega
 · rw [show (-1 : Int) % 18446744073709551616 = 18446744073709551615 by decide, xor_u1 (by omega)]; omega
theorem ct66 (y : Int) (hy : 0 <= y /\ y <= 18446744073709551615) (I : Mem) : Ct Try.prog (fnv 66) #[.int .u64 y] I (fun v _ => v = .int .i64 (unfoldZ y)) := by
 refine viaR (ct_via (A := { }) Try.func66 rfl Try.call66 rfl rfl) ((0 : Int) <= 1 /\ Wr .i64 (y.fdiv 2) fun c => Wr .i64 (bitsV .and .u64 y 1) fun a => Wr .i64 (0 - a) fun b => Value.int .i64 (bitsV .xor .i64 c b) = .int .i64 (unfoldZ y)) (by kernel_rfl) ?_
 rw [and_1 (by omega), Int.fdiv_eq_ediv_of_nonneg _ (by decide)]
 refine ⟨by omega, wr_i64 (by omega) (by omega) (wr_i64 (by omega) (by omega) (wr_i64 (by omega) (by omega) ?_))⟩
 rw [unfoldZ]
 congr 1
 rcases (by omega : y % 2 = 0 \/ y % 2 = 1) with h | h
 · rw [h, if_pos rfl, Int.sub_zero, xor_i0 (by omega)]
 · rw [h, if_neg (by decide), show (0 : Int) - 1 = -1 by decide, xor_i1 (by omega)]
theorem ct49 (x : Int) (hx : -9223372036854775808 <= x /\ x <= 9223372036854775807) (I : Mem) : Ct Try.prog (fnv 49) #[.int .i64 x] I (fun v _ => v = .int .u64 (foldZ x)) := by
 refine viaR (ct_via (A := { }) Try.func49 rfl Try.call49 rfl rfl) (Br (decide (0 <= x)) (Wr .u64 x (fun c => Wr .u64 (2 * c) fun a => Value.int .u64 a = .int .u64 (foldZ x))) (Wr .i64 (x + 1) (fun c => Wr .i64 (0 - c) fun a => Wr .u64 a fun b => Wr .u64 (2 * b) fun d => Wr .u64 (d + 1) fun e => Value.int .u64 e = .int .u64 (foldZ x)))) (by kernel_rfl) ?_
 refine Br.mk (fun h => ?_) (fun h => ?_)
 · have h := of_decide_eq_true h
   refine ⟨_, rfl, _, rfl, ?_⟩;rw [w64, w64, foldZ, if_pos h]
   congr 1; omega
 · have h := of_decide_eq_false h
   refine wr_i64 (by omega) (by omega) (wr_i64 (by omega) (by omega) ⟨_, rfl, _, rfl, _, rfl, ?_⟩)
   rw [w64, w64, w64, foldZ, if_neg h]
   congr 1; omega
theorem ct58 (y : Int) (hy : 0 <= y /\ y <= 18446744073709551615) (I : Mem) : Ct Try.prog (fnv 58) #[.int .u64 y] I (fun v _ => v = .int .i64 (unfoldZ y)) := by
 refine viaR (ct_via (A := { }) Try.func58 rfl Try.call58 rfl rfl) ((2 : Int) ≠ 0 /\ Br (y.tmod 2 == 0) ((2 : Int) ≠ 0 /\ Wr .u64 (y.tdiv 2) fun c => Wr .i64 c fun a => Value.int .i64 a = .int .i64 (unfoldZ y)) ((2 : Int) ≠ 0 /\ Wr .u64 (y.tdiv 2) fun c => Wr .i64 c fun a => Wr .i64 (0 - a) fun b => Wr .i64 (b - 1) fun d => Value.int .i64 d = .int .i64 (unfoldZ y))) (by kernel_rfl) ?_
 have ht : y.tmod 2 = y % 2 := Int.tmod_eq_emod_of_nonneg hy.1;have hd : y.tdiv 2 = y / 2 := Int.tdiv_eq_ediv_of_nonneg hy.1;rw [ht, hd]
 refine ⟨by omega, Br.mk (fun h => ⟨by omega, _, rfl, ?_⟩) (fun h => ⟨by omega, _, rfl, ?_⟩)⟩
 · have h : y % 2 = 0 := by simpa using h
   rw [w64]
   refine wr_i64 (by omega) (by omega) ?_
   rw [unfoldZ, if_pos h]
   congr 1; omega
 · have h : ¬ y % 2 = 0 := by simpa using h
   rw [w64]
   refine wr_i64 (by omega) (by omega) (wr_i64 (by omega) (by omega) (wr_i64 (by omega) (by omega) ?_))
   rw [unfoldZ, if_neg h]
   congr 1; omega
structure Rq where
 kind : Int
 what : Int
 name : ByteArray
 p3 : Int
 p4 : Int
 p5 : Int
 p6 : Int
 p7 : Int
 p8 : Int
 p9 : Int
 val : Int
 fed : List Int
def rqV (r : Rq) (y : Value) : List Value := [.int .u8 r.kind, .int .u8 r.what, .string r.name, .int .i64 r.p3, .int .i64 r.p4, .int .i64 r.p5, .int .i64 r.p6, .int .i64 r.p7, .int .i64 r.p8, .int .i64 r.p9, .int .i64 r.val, y]
def rqS (r : Rq) (y : Value) : List SV := [.v (.int .u8 r.kind), .v (.int .u8 r.what), .v (.string r.name), .v (.int .i64 r.p3), .v (.int .i64 r.p4), .v (.int .i64 r.p5), .v (.int .i64 r.p6), .v (.int .i64 r.p7), .v (.int .i64 r.p8), .v (.int .i64 r.p9), .v (.int .i64 r.val), .v y]
def i64R (x : Int) : Prop := -9223372036854775808 <= x /\ x <= 9223372036854775807
structure okRq (r : Rq) : Prop where
 kind : 0 <= r.kind /\ r.kind <= 255
 what : 0 <= r.what /\ r.what <= 255
 p3 : i64R r.p3
 p4 : i64R r.p4
 p5 : i64R r.p5
 p6 : i64R r.p6
 p7 : i64R r.p7
 p8 : i64R r.p8
 p9 : i64R r.p9
 val : i64R r.val
 fed : byteL r.fed
def strB (bs : List Int) : ByteArray := ⟨(u8s bs).toArray⟩
def takeR (r : Rq) (t : Int) (bs : List Int) : Rq :=
 if t = 1 then r else if t = 2 then { r with name := strB bs } else if t = 3 then { r with p3 := IntKind.i64.wrap (lastN bs).1 } else if t = 4 then { r with p4 := IntKind.i64.wrap (lastN bs).1 } else if t = 5 then { r with p5 := IntKind.i64.wrap (lastN bs).1 }
 else if t = 6 then { r with p6 := IntKind.i64.wrap (lastN bs).1 } else if t = 7 then { r with p7 := IntKind.i64.wrap (lastN bs).1 } else if t = 8 then { r with p8 := IntKind.i64.wrap (lastN bs).1 } else if t = 9 then { r with p9 := IntKind.i64.wrap (lastN bs).1 }
 else if t = 10 then { r with val := unfoldZ (lastN bs).1 } else { r with fed := bs }
def takeB (r : Rq) (t : Int) (bs : List Int) : Bool :=
 if t = 2 \/ t = 11 then true else if t = 1 then decide ((lastN bs).2.2 = 0) && decide ((lastN bs).1 = r.what) else if t = 10 then decide ((lastN bs).2.2 = 0) else decide ((lastN bs).2.2 = 0) && decide ((lastN bs).1 <= 9223372036854775807)
theorem last_range {bs : List Int} (hbs : byteL bs) : 0 <= (lastN bs).1 /\ (lastN bs).1 <= 18446744073709551615 := by
 rcases lastN_cases bs hbs with ⟨_, h1, h2, _⟩ | ⟨h1, _⟩ <;> omega
theorem cs42_3 (k : Nat) (r : Rq) (hr : okRq r) (y : Value) (bs : List Int) (hbs : byteL bs) (b : Option Addr) (m c : Nat) (I : Mem) (h : SlM I b m 1 (ints .u8 bs)) (hm : m <= 1000000) :
 CtS Try.prog (.v (fnv 42)) [.ptr 0 0, .v (.agg #[.int .i64 3, .slice b m c])] [⟨.cells (rqS r y) 29, some k⟩] I (fun v H' I' => ∃ y', v = .v (.bool (takeB r 3 bs)) /\ H' = [⟨.cells (rqS (takeR r 3 bs) y') 29, some k⟩] /\ (BySl I' y r.fed -> BySl I' y' (takeR r 3 bs).fed) /\ ∀ I0 : Mem, I0.le I -> NewB I0 I' y -> NewB I0 I' y') := by
 refine viaR (ctS_via (A := { calls := [(53, .lend [0] (.agg [.sh .ptr, .sh .ptr, .sh .ptr, .ptr 0 3, .ptr 0 4, .ptr 0 5, .ptr 0 6, .ptr 0 7, .ptr 0 8, .ptr 0 9, .sh .ptr, .sh .ptr]) [.same])] }) Try.func42 rfl Try.call42 [0] rfl) (let E1 := [SV.v (.int .i64 r.p4), .v (.int .i64 r.p5), .v (.int .i64 r.p6), .v (.int .i64 r.p7), .v (.int .i64 r.p8), .v (.int .i64 r.p9), .v (.int .i64 r.val), .v y]
  Ct Try.prog (fnv 44) #[.agg #[.int .i64 3, .slice b m c]] I fun v a => ∃ n d, v = .tuple #[.int .u64 n, .int .i64 d] /\ Wr .i64 n fun e => CtS Try.prog (.v (fnv 45)) [.ptr 0 0] [⟨.cells (.v (.int .u8 r.kind) :: .v (.int .u8 r.what) :: .v (.string r.name) :: .v (.int .i64 r.p3) :: E1) 29, some k⟩] a fun s H f => ∃ g i j l o, s = .agg [.v (.pointer g), .v (.pointer i), .v (.pointer j), .ptr 0 3, .ptr 0 4, .ptr 0 5, .ptr 0 6, .ptr 0 7, .ptr 0 8, .ptr 0 9, .v (.pointer l), .v (.pointer o)] /\ H = [⟨.cells (.v (.int .u8 r.kind) :: .v (.int .u8 r.what) :: .v (.string r.name) :: .v (.int .i64 r.p3) :: E1) 29, some k⟩] /\ (0 : Int) <= 3 /\ (3 : Int) < 12 /\ Br (d == 0) (∃ p, SV.v (.bool (decide (n <= 9223372036854775807))) = .v (.bool (takeB r 3 bs)) /\ [Ent.mk (.cells (.v (.int .u8 r.kind) :: .v (.int .u8 r.what) :: .v (.string r.name) :: .v (.int .i64 e) :: E1) 29) (some k)] = [⟨.cells [.v (.int .u8 r.kind), .v (.int .u8 r.what), .v (.string r.name), .v (.int .i64 (IntKind.wrap .i64 (lastN bs).1)), .v (.int .i64 r.p4), .v (.int .i64 r.p5), .v (.int .i64 r.p6), .v (.int .i64 r.p7), .v (.int .i64 r.p8), .v (.int .i64 r.p9), .v (.int .i64 r.val), .v p] 29, some k⟩] /\ ((∃ q t u, y = .slice q t u /\ SlM f q t 1 (List.map (Value.int .u8) r.fed) /\ t <= u /\ u <= 9223372036854775807) -> ∃ q t u, p = .slice q t u /\ SlM f q t 1 (List.map (Value.int .u8) r.fed) /\ t <= u /\ u <= 9223372036854775807) /\ ∀ (q : Mem), q.le I -> NewB q f y -> NewB q f p) (∃ p, SV.v (.bool false) = .v (.bool (takeB r 3 bs)) /\ [Ent.mk (.cells (.v (.int .u8 r.kind) :: .v (.int .u8 r.what) :: .v (.string r.name) :: .v (.int .i64 e) :: E1) 29) (some k)] = [⟨.cells [.v (.int .u8 r.kind), .v (.int .u8 r.what), .v (.string r.name), .v (.int .i64 (IntKind.wrap .i64 (lastN bs).1)), .v (.int .i64 r.p4), .v (.int .i64 r.p5), .v (.int .i64 r.p6), .v (.int .i64 r.p7), .v (.int .i64 r.p8), .v (.int .i64 r.p9), .v (.int .i64 r.val), .v p] 29, some k⟩] /\ ((∃ q t u, y = .slice q t u /\ SlM f q t 1 (List.map (Value.int .u8) r.fed) /\ t <= u /\ u <= 9223372036854775807) -> ∃ q t u, p = .slice q t u /\ SlM f q t 1 (List.map (Value.int .u8) r.fed) /\ t <= u /\ u <= 9223372036854775807) /\ ∀ (q : Mem), q.le I -> NewB q f y -> NewB q f p)) (by kernel_rfl) ?_
 intro E1
 have hok : okFld (3, bs) := ⟨by simp, hbs⟩
 have hlr := last_range hbs;refine (ct44 (3, bs) hok b m c I h hm).mono fun v I1 l1 hv => ⟨_, _, hv, ?_⟩;refine ⟨_, rfl, ?_⟩
 refine (cs45 k _ _ _ _ _ _ _ _ _ _ _ _ I1).mono fun sv H' I2 l2 ⟨hv, hH⟩ => ⟨none, none, none, none, none, hv, hH, by omega, by omega, Br.mk (fun he => ⟨y, ?_, rfl, id, fun _ _ => id⟩) (fun he => ⟨y, ?_, rfl, id, fun _ _ => id⟩)⟩
 · have he : (lastN bs).2.2 = 0 := by simpa using he
   simp [takeB, he]
 · have he : ¬ (lastN bs).2.2 = 0 := by simpa using he
   simp [takeB, he]
theorem cs42_4 (k : Nat) (r : Rq) (hr : okRq r) (y : Value) (bs : List Int) (hbs : byteL bs) (b : Option Addr) (m c : Nat) (I : Mem) (h : SlM I b m 1 (ints .u8 bs)) (hm : m <= 1000000) :
 CtS Try.prog (.v (fnv 42)) [.ptr 0 0, .v (.agg #[.int .i64 4, .slice b m c])] [⟨.cells (rqS r y) 29, some k⟩] I (fun v H' I' => ∃ y', v = .v (.bool (takeB r 4 bs)) /\ H' = [⟨.cells (rqS (takeR r 4 bs) y') 29, some k⟩] /\ (BySl I' y r.fed -> BySl I' y' (takeR r 4 bs).fed) /\ ∀ I0 : Mem, I0.le I -> NewB I0 I' y -> NewB I0 I' y') := by
 refine viaR (ctS_via (A := { calls := [(53, .lend [0] (.agg [.sh .ptr, .sh .ptr, .sh .ptr, .ptr 0 3, .ptr 0 4, .ptr 0 5, .ptr 0 6, .ptr 0 7, .ptr 0 8, .ptr 0 9, .sh .ptr, .sh .ptr]) [.same])] }) Try.func42 rfl Try.call42 [0] rfl) (let E1 := [SV.v (.int .i64 r.p5), .v (.int .i64 r.p6), .v (.int .i64 r.p7), .v (.int .i64 r.p8), .v (.int .i64 r.p9), .v (.int .i64 r.val), .v y]
  Ct Try.prog (fnv 44) #[.agg #[.int .i64 4, .slice b m c]] I fun v a => ∃ n d, v = .tuple #[.int .u64 n, .int .i64 d] /\ Wr .i64 n fun e => CtS Try.prog (.v (fnv 45)) [.ptr 0 0] [⟨.cells (.v (.int .u8 r.kind) :: .v (.int .u8 r.what) :: .v (.string r.name) :: .v (.int .i64 r.p3) :: .v (.int .i64 r.p4) :: E1) 29, some k⟩] a fun s H f => ∃ g i j l o, s = .agg [.v (.pointer g), .v (.pointer i), .v (.pointer j), .ptr 0 3, .ptr 0 4, .ptr 0 5, .ptr 0 6, .ptr 0 7, .ptr 0 8, .ptr 0 9, .v (.pointer l), .v (.pointer o)] /\ H = [⟨.cells (.v (.int .u8 r.kind) :: .v (.int .u8 r.what) :: .v (.string r.name) :: .v (.int .i64 r.p3) :: .v (.int .i64 r.p4) :: E1) 29, some k⟩] /\ (0 : Int) <= 4 /\ (4 : Int) < 12 /\ Br (d == 0) (∃ p, SV.v (.bool (decide (n <= 9223372036854775807))) = .v (.bool (takeB r 4 bs)) /\ [Ent.mk (.cells (.v (.int .u8 r.kind) :: .v (.int .u8 r.what) :: .v (.string r.name) :: .v (.int .i64 r.p3) :: .v (.int .i64 e) :: E1) 29) (some k)] = [⟨.cells [.v (.int .u8 r.kind), .v (.int .u8 r.what), .v (.string r.name), .v (.int .i64 r.p3), .v (.int .i64 (IntKind.wrap .i64 (lastN bs).1)), .v (.int .i64 r.p5), .v (.int .i64 r.p6), .v (.int .i64 r.p7), .v (.int .i64 r.p8), .v (.int .i64 r.p9), .v (.int .i64 r.val), .v p] 29, some k⟩] /\ ((∃ q t u, y = .slice q t u /\ SlM f q t 1 (List.map (Value.int .u8) r.fed) /\ t <= u /\ u <= 9223372036854775807) -> ∃ q t u, p = .slice q t u /\ SlM f q t 1 (List.map (Value.int .u8) r.fed) /\ t <= u /\ u <= 9223372036854775807) /\ ∀ (q : Mem), q.le I -> NewB q f y -> NewB q f p) (∃ p, SV.v (.bool false) = .v (.bool (takeB r 4 bs)) /\ [Ent.mk (.cells (.v (.int .u8 r.kind) :: .v (.int .u8 r.what) :: .v (.string r.name) :: .v (.int .i64 r.p3) :: .v (.int .i64 e) :: E1) 29) (some k)] = [⟨.cells [.v (.int .u8 r.kind), .v (.int .u8 r.what), .v (.string r.name), .v (.int .i64 r.p3), .v (.int .i64 (IntKind.wrap .i64 (lastN bs).1)), .v (.int .i64 r.p5), .v (.int .i64 r.p6), .v (.int .i64 r.p7), .v (.int .i64 r.p8), .v (.int .i64 r.p9), .v (.int .i64 r.val), .v p] 29, some k⟩] /\ ((∃ q t u, y = .slice q t u /\ SlM f q t 1 (List.map (Value.int .u8) r.fed) /\ t <= u /\ u <= 9223372036854775807) -> ∃ q t u, p = .slice q t u /\ SlM f q t 1 (List.map (Value.int .u8) r.fed) /\ t <= u /\ u <= 9223372036854775807) /\ ∀ (q : Mem), q.le I -> NewB q f y -> NewB q f p)) (by kernel_rfl) ?_
 intro E1
 have hok : okFld (4, bs) := ⟨by simp, hbs⟩
 have hlr := last_range hbs;refine (ct44 (4, bs) hok b m c I h hm).mono fun v I1 l1 hv => ⟨_, _, hv, ?_⟩;refine ⟨_, rfl, ?_⟩
 refine (cs45 k _ _ _ _ _ _ _ _ _ _ _ _ I1).mono fun sv H' I2 l2 ⟨hv, hH⟩ => ⟨none, none, none, none, none, hv, hH, by omega, by omega, Br.mk (fun he => ⟨y, ?_, rfl, id, fun _ _ => id⟩) (fun he => ⟨y, ?_, rfl, id, fun _ _ => id⟩)⟩
 · have he : (lastN bs).2.2 = 0 := by simpa using he
   simp [takeB, he]
 · have he : ¬ (lastN bs).2.2 = 0 := by simpa using he
   simp [takeB, he]
theorem cs42_5 (k : Nat) (r : Rq) (hr : okRq r) (y : Value) (bs : List Int) (hbs : byteL bs) (b : Option Addr) (m c : Nat) (I : Mem) (h : SlM I b m 1 (ints .u8 bs)) (hm : m <= 1000000) :
 CtS Try.prog (.v (fnv 42)) [.ptr 0 0, .v (.agg #[.int .i64 5, .slice b m c])] [⟨.cells (rqS r y) 29, some k⟩] I (fun v H' I' => ∃ y', v = .v (.bool (takeB r 5 bs)) /\ H' = [⟨.cells (rqS (takeR r 5 bs) y') 29, some k⟩] /\ (BySl I' y r.fed -> BySl I' y' (takeR r 5 bs).fed) /\ ∀ I0 : Mem, I0.le I -> NewB I0 I' y -> NewB I0 I' y') := by
 refine viaR (ctS_via (A := { calls := [(53, .lend [0] (.agg [.sh .ptr, .sh .ptr, .sh .ptr, .ptr 0 3, .ptr 0 4, .ptr 0 5, .ptr 0 6, .ptr 0 7, .ptr 0 8, .ptr 0 9, .sh .ptr, .sh .ptr]) [.same])] }) Try.func42 rfl Try.call42 [0] rfl) (let E1 := [SV.v (.int .i64 r.p6), .v (.int .i64 r.p7), .v (.int .i64 r.p8), .v (.int .i64 r.p9), .v (.int .i64 r.val), .v y]
  Ct Try.prog (fnv 44) #[.agg #[.int .i64 5, .slice b m c]] I fun v a => ∃ n d, v = .tuple #[.int .u64 n, .int .i64 d] /\ Wr .i64 n fun e => CtS Try.prog (.v (fnv 45)) [.ptr 0 0] [⟨.cells (.v (.int .u8 r.kind) :: .v (.int .u8 r.what) :: .v (.string r.name) :: .v (.int .i64 r.p3) :: .v (.int .i64 r.p4) :: .v (.int .i64 r.p5) :: E1) 29, some k⟩] a fun s H f => ∃ g i j l o, s = .agg [.v (.pointer g), .v (.pointer i), .v (.pointer j), .ptr 0 3, .ptr 0 4, .ptr 0 5, .ptr 0 6, .ptr 0 7, .ptr 0 8, .ptr 0 9, .v (.pointer l), .v (.pointer o)] /\ H = [⟨.cells (.v (.int .u8 r.kind) :: .v (.int .u8 r.what) :: .v (.string r.name) :: .v (.int .i64 r.p3) :: .v (.int .i64 r.p4) :: .v (.int .i64 r.p5) :: E1) 29, some k⟩] /\ (0 : Int) <= 5 /\ (5 : Int) < 12 /\ Br (d == 0) (∃ p, SV.v (.bool (decide (n <= 9223372036854775807))) = .v (.bool (takeB r 5 bs)) /\ [Ent.mk (.cells (.v (.int .u8 r.kind) :: .v (.int .u8 r.what) :: .v (.string r.name) :: .v (.int .i64 r.p3) :: .v (.int .i64 r.p4) :: .v (.int .i64 e) :: E1) 29) (some k)] = [⟨.cells [.v (.int .u8 r.kind), .v (.int .u8 r.what), .v (.string r.name), .v (.int .i64 r.p3), .v (.int .i64 r.p4), .v (.int .i64 (IntKind.wrap .i64 (lastN bs).1)), .v (.int .i64 r.p6), .v (.int .i64 r.p7), .v (.int .i64 r.p8), .v (.int .i64 r.p9), .v (.int .i64 r.val), .v p] 29, some k⟩] /\ ((∃ q t u, y = .slice q t u /\ SlM f q t 1 (List.map (Value.int .u8) r.fed) /\ t <= u /\ u <= 9223372036854775807) -> ∃ q t u, p = .slice q t u /\ SlM f q t 1 (List.map (Value.int .u8) r.fed) /\ t <= u /\ u <= 9223372036854775807) /\ ∀ (q : Mem), q.le I -> NewB q f y -> NewB q f p) (∃ p, SV.v (.bool false) = .v (.bool (takeB r 5 bs)) /\ [Ent.mk (.cells (.v (.int .u8 r.kind) :: .v (.int .u8 r.what) :: .v (.string r.name) :: .v (.int .i64 r.p3) :: .v (.int .i64 r.p4) :: .v (.int .i64 e) :: E1) 29) (some k)] = [⟨.cells [.v (.int .u8 r.kind), .v (.int .u8 r.what), .v (.string r.name), .v (.int .i64 r.p3), .v (.int .i64 r.p4), .v (.int .i64 (IntKind.wrap .i64 (lastN bs).1)), .v (.int .i64 r.p6), .v (.int .i64 r.p7), .v (.int .i64 r.p8), .v (.int .i64 r.p9), .v (.int .i64 r.val), .v p] 29, some k⟩] /\ ((∃ q t u, y = .slice q t u /\ SlM f q t 1 (List.map (Value.int .u8) r.fed) /\ t <= u /\ u <= 9223372036854775807) -> ∃ q t u, p = .slice q t u /\ SlM f q t 1 (List.map (Value.int .u8) r.fed) /\ t <= u /\ u <= 9223372036854775807) /\ ∀ (q : Mem), q.le I -> NewB q f y -> NewB q f p)) (by kernel_rfl) ?_
 intro E1
 have hok : okFld (5, bs) := ⟨by simp, hbs⟩
 have hlr := last_range hbs;refine (ct44 (5, bs) hok b m c I h hm).mono fun v I1 l1 hv => ⟨_, _, hv, ?_⟩;refine ⟨_, rfl, ?_⟩
 refine (cs45 k _ _ _ _ _ _ _ _ _ _ _ _ I1).mono fun sv H' I2 l2 ⟨hv, hH⟩ => ⟨none, none, none, none, none, hv, hH, by omega, by omega, Br.mk (fun he => ⟨y, ?_, rfl, id, fun _ _ => id⟩) (fun he => ⟨y, ?_, rfl, id, fun _ _ => id⟩)⟩
 · have he : (lastN bs).2.2 = 0 := by simpa using he
   simp [takeB, he]
 · have he : ¬ (lastN bs).2.2 = 0 := by simpa using he
   simp [takeB, he]
theorem cs42_6 (k : Nat) (r : Rq) (hr : okRq r) (y : Value) (bs : List Int) (hbs : byteL bs) (b : Option Addr) (m c : Nat) (I : Mem) (h : SlM I b m 1 (ints .u8 bs)) (hm : m <= 1000000) :
 CtS Try.prog (.v (fnv 42)) [.ptr 0 0, .v (.agg #[.int .i64 6, .slice b m c])] [⟨.cells (rqS r y) 29, some k⟩] I (fun v H' I' => ∃ y', v = .v (.bool (takeB r 6 bs)) /\ H' = [⟨.cells (rqS (takeR r 6 bs) y') 29, some k⟩] /\ (BySl I' y r.fed -> BySl I' y' (takeR r 6 bs).fed) /\ ∀ I0 : Mem, I0.le I -> NewB I0 I' y -> NewB I0 I' y') := by
 refine viaR (ctS_via (A := { calls := [(53, .lend [0] (.agg [.sh .ptr, .sh .ptr, .sh .ptr, .ptr 0 3, .ptr 0 4, .ptr 0 5, .ptr 0 6, .ptr 0 7, .ptr 0 8, .ptr 0 9, .sh .ptr, .sh .ptr]) [.same])] }) Try.func42 rfl Try.call42 [0] rfl) (Ct Try.prog (fnv 44) #[.agg #[.int .i64 6, .slice b m c]] I fun v a => ∃ n d, v = .tuple #[.int .u64 n, .int .i64 d] /\ Wr .i64 n fun e => CtS Try.prog (.v (fnv 45)) [.ptr 0 0] [⟨.cells [.v (.int .u8 r.kind), .v (.int .u8 r.what), .v (.string r.name), .v (.int .i64 r.p3), .v (.int .i64 r.p4), .v (.int .i64 r.p5), .v (.int .i64 r.p6), .v (.int .i64 r.p7), .v (.int .i64 r.p8), .v (.int .i64 r.p9), .v (.int .i64 r.val), .v y] 29, some k⟩] a fun s H f => ∃ g i j l o, s = .agg [.v (.pointer g), .v (.pointer i), .v (.pointer j), .ptr 0 3, .ptr 0 4, .ptr 0 5, .ptr 0 6, .ptr 0 7, .ptr 0 8, .ptr 0 9, .v (.pointer l), .v (.pointer o)] /\ H = [⟨.cells [.v (.int .u8 r.kind), .v (.int .u8 r.what), .v (.string r.name), .v (.int .i64 r.p3), .v (.int .i64 r.p4), .v (.int .i64 r.p5), .v (.int .i64 r.p6), .v (.int .i64 r.p7), .v (.int .i64 r.p8), .v (.int .i64 r.p9), .v (.int .i64 r.val), .v y] 29, some k⟩] /\ (0 : Int) <= 6 /\ (6 : Int) < 12 /\ Br (d == 0) (∃ p, SV.v (.bool (decide (n <= 9223372036854775807))) = .v (.bool (takeB r 6 bs)) /\ [Ent.mk (.cells [.v (.int .u8 r.kind), .v (.int .u8 r.what), .v (.string r.name), .v (.int .i64 r.p3), .v (.int .i64 r.p4), .v (.int .i64 r.p5), .v (.int .i64 e), .v (.int .i64 r.p7), .v (.int .i64 r.p8), .v (.int .i64 r.p9), .v (.int .i64 r.val), .v y] 29) (some k)] = [⟨.cells [.v (.int .u8 r.kind), .v (.int .u8 r.what), .v (.string r.name), .v (.int .i64 r.p3), .v (.int .i64 r.p4), .v (.int .i64 r.p5), .v (.int .i64 (IntKind.wrap .i64 (lastN bs).1)), .v (.int .i64 r.p7), .v (.int .i64 r.p8), .v (.int .i64 r.p9), .v (.int .i64 r.val), .v p] 29, some k⟩] /\ ((∃ q t u, y = .slice q t u /\ SlM f q t 1 (List.map (Value.int .u8) r.fed) /\ t <= u /\ u <= 9223372036854775807) -> ∃ q t u, p = .slice q t u /\ SlM f q t 1 (List.map (Value.int .u8) r.fed) /\ t <= u /\ u <= 9223372036854775807) /\ ∀ (q : Mem), q.le I -> NewB q f y -> NewB q f p) (∃ p, SV.v (.bool false) = .v (.bool (takeB r 6 bs)) /\ [Ent.mk (.cells [.v (.int .u8 r.kind), .v (.int .u8 r.what), .v (.string r.name), .v (.int .i64 r.p3), .v (.int .i64 r.p4), .v (.int .i64 r.p5), .v (.int .i64 e), .v (.int .i64 r.p7), .v (.int .i64 r.p8), .v (.int .i64 r.p9), .v (.int .i64 r.val), .v y] 29) (some k)] = [⟨.cells [.v (.int .u8 r.kind), .v (.int .u8 r.what), .v (.string r.name), .v (.int .i64 r.p3), .v (.int .i64 r.p4), .v (.int .i64 r.p5), .v (.int .i64 (IntKind.wrap .i64 (lastN bs).1)), .v (.int .i64 r.p7), .v (.int .i64 r.p8), .v (.int .i64 r.p9), .v (.int .i64 r.val), .v p] 29, some k⟩] /\ ((∃ q t u, y = .slice q t u /\ SlM f q t 1 (List.map (Value.int .u8) r.fed) /\ t <= u /\ u <= 9223372036854775807) -> ∃ q t u, p = .slice q t u /\ SlM f q t 1 (List.map (Value.int .u8) r.fed) /\ t <= u /\ u <= 9223372036854775807) /\ ∀ (q : Mem), q.le I -> NewB q f y -> NewB q f p)) (by kernel_rfl) ?_
 have hok : okFld (6, bs) := ⟨by simp, hbs⟩
 have hlr := last_range hbs;refine (ct44 (6, bs) hok b m c I h hm).mono fun v I1 l1 hv => ⟨_, _, hv, ?_⟩;refine ⟨_, rfl, ?_⟩
 refine (cs45 k _ _ _ _ _ _ _ _ _ _ _ _ I1).mono fun sv H' I2 l2 ⟨hv, hH⟩ => ⟨none, none, none, none, none, hv, hH, by omega, by omega, Br.mk (fun he => ⟨y, ?_, rfl, id, fun _ _ => id⟩) (fun he => ⟨y, ?_, rfl, id, fun _ _ => id⟩)⟩
 · have he : (lastN bs).2.2 = 0 := by simpa using he
   simp [takeB, he]
 · have he : ¬ (lastN bs).2.2 = 0 := by simpa using he
   simp [takeB, he]
theorem cs42_7 (k : Nat) (r : Rq) (hr : okRq r) (y : Value) (bs : List Int) (hbs : byteL bs) (b : Option Addr) (m c : Nat) (I : Mem) (h : SlM I b m 1 (ints .u8 bs)) (hm : m <= 1000000) :
 CtS Try.prog (.v (fnv 42)) [.ptr 0 0, .v (.agg #[.int .i64 7, .slice b m c])] [⟨.cells (rqS r y) 29, some k⟩] I (fun v H' I' => ∃ y', v = .v (.bool (takeB r 7 bs)) /\ H' = [⟨.cells (rqS (takeR r 7 bs) y') 29, some k⟩] /\ (BySl I' y r.fed -> BySl I' y' (takeR r 7 bs).fed) /\ ∀ I0 : Mem, I0.le I -> NewB I0 I' y -> NewB I0 I' y') := by
 refine viaR (ctS_via (A := { calls := [(53, .lend [0] (.agg [.sh .ptr, .sh .ptr, .sh .ptr, .ptr 0 3, .ptr 0 4, .ptr 0 5, .ptr 0 6, .ptr 0 7, .ptr 0 8, .ptr 0 9, .sh .ptr, .sh .ptr]) [.same])] }) Try.func42 rfl Try.call42 [0] rfl) (Ct Try.prog (fnv 44) #[.agg #[.int .i64 7, .slice b m c]] I fun v a => ∃ n d, v = .tuple #[.int .u64 n, .int .i64 d] /\ Wr .i64 n fun e => CtS Try.prog (.v (fnv 45)) [.ptr 0 0] [⟨.cells [.v (.int .u8 r.kind), .v (.int .u8 r.what), .v (.string r.name), .v (.int .i64 r.p3), .v (.int .i64 r.p4), .v (.int .i64 r.p5), .v (.int .i64 r.p6), .v (.int .i64 r.p7), .v (.int .i64 r.p8), .v (.int .i64 r.p9), .v (.int .i64 r.val), .v y] 29, some k⟩] a fun s H f => ∃ g i j l o, s = .agg [.v (.pointer g), .v (.pointer i), .v (.pointer j), .ptr 0 3, .ptr 0 4, .ptr 0 5, .ptr 0 6, .ptr 0 7, .ptr 0 8, .ptr 0 9, .v (.pointer l), .v (.pointer o)] /\ H = [⟨.cells [.v (.int .u8 r.kind), .v (.int .u8 r.what), .v (.string r.name), .v (.int .i64 r.p3), .v (.int .i64 r.p4), .v (.int .i64 r.p5), .v (.int .i64 r.p6), .v (.int .i64 r.p7), .v (.int .i64 r.p8), .v (.int .i64 r.p9), .v (.int .i64 r.val), .v y] 29, some k⟩] /\ (0 : Int) <= 7 /\ (7 : Int) < 12 /\ Br (d == 0) (∃ p, SV.v (.bool (decide (n <= 9223372036854775807))) = .v (.bool (takeB r 7 bs)) /\ [Ent.mk (.cells [.v (.int .u8 r.kind), .v (.int .u8 r.what), .v (.string r.name), .v (.int .i64 r.p3), .v (.int .i64 r.p4), .v (.int .i64 r.p5), .v (.int .i64 r.p6), .v (.int .i64 e), .v (.int .i64 r.p8), .v (.int .i64 r.p9), .v (.int .i64 r.val), .v y] 29) (some k)] = [⟨.cells [.v (.int .u8 r.kind), .v (.int .u8 r.what), .v (.string r.name), .v (.int .i64 r.p3), .v (.int .i64 r.p4), .v (.int .i64 r.p5), .v (.int .i64 r.p6), .v (.int .i64 (IntKind.wrap .i64 (lastN bs).1)), .v (.int .i64 r.p8), .v (.int .i64 r.p9), .v (.int .i64 r.val), .v p] 29, some k⟩] /\ ((∃ q t u, y = .slice q t u /\ SlM f q t 1 (List.map (Value.int .u8) r.fed) /\ t <= u /\ u <= 9223372036854775807) -> ∃ q t u, p = .slice q t u /\ SlM f q t 1 (List.map (Value.int .u8) r.fed) /\ t <= u /\ u <= 9223372036854775807) /\ ∀ (q : Mem), q.le I -> NewB q f y -> NewB q f p) (∃ p, SV.v (.bool false) = .v (.bool (takeB r 7 bs)) /\ [Ent.mk (.cells [.v (.int .u8 r.kind), .v (.int .u8 r.what), .v (.string r.name), .v (.int .i64 r.p3), .v (.int .i64 r.p4), .v (.int .i64 r.p5), .v (.int .i64 r.p6), .v (.int .i64 e), .v (.int .i64 r.p8), .v (.int .i64 r.p9), .v (.int .i64 r.val), .v y] 29) (some k)] = [⟨.cells [.v (.int .u8 r.kind), .v (.int .u8 r.what), .v (.string r.name), .v (.int .i64 r.p3), .v (.int .i64 r.p4), .v (.int .i64 r.p5), .v (.int .i64 r.p6), .v (.int .i64 (IntKind.wrap .i64 (lastN bs).1)), .v (.int .i64 r.p8), .v (.int .i64 r.p9), .v (.int .i64 r.val), .v p] 29, some k⟩] /\ ((∃ q t u, y = .slice q t u /\ SlM f q t 1 (List.map (Value.int .u8) r.fed) /\ t <= u /\ u <= 9223372036854775807) -> ∃ q t u, p = .slice q t u /\ SlM f q t 1 (List.map (Value.int .u8) r.fed) /\ t <= u /\ u <= 9223372036854775807) /\ ∀ (q : Mem), q.le I -> NewB q f y -> NewB q f p)) (by kernel_rfl) ?_
 have hok : okFld (7, bs) := ⟨by simp, hbs⟩
 have hlr := last_range hbs;refine (ct44 (7, bs) hok b m c I h hm).mono fun v I1 l1 hv => ⟨_, _, hv, ?_⟩;refine ⟨_, rfl, ?_⟩
 refine (cs45 k _ _ _ _ _ _ _ _ _ _ _ _ I1).mono fun sv H' I2 l2 ⟨hv, hH⟩ => ⟨none, none, none, none, none, hv, hH, by omega, by omega, Br.mk (fun he => ⟨y, ?_, rfl, id, fun _ _ => id⟩) (fun he => ⟨y, ?_, rfl, id, fun _ _ => id⟩)⟩
 · have he : (lastN bs).2.2 = 0 := by simpa using he
   simp [takeB, he]
 · have he : ¬ (lastN bs).2.2 = 0 := by simpa using he
   simp [takeB, he]
theorem cs42_8 (k : Nat) (r : Rq) (hr : okRq r) (y : Value) (bs : List Int) (hbs : byteL bs) (b : Option Addr) (m c : Nat) (I : Mem) (h : SlM I b m 1 (ints .u8 bs)) (hm : m <= 1000000) :
 CtS Try.prog (.v (fnv 42)) [.ptr 0 0, .v (.agg #[.int .i64 8, .slice b m c])] [⟨.cells (rqS r y) 29, some k⟩] I (fun v H' I' => ∃ y', v = .v (.bool (takeB r 8 bs)) /\ H' = [⟨.cells (rqS (takeR r 8 bs) y') 29, some k⟩] /\ (BySl I' y r.fed -> BySl I' y' (takeR r 8 bs).fed) /\ ∀ I0 : Mem, I0.le I -> NewB I0 I' y -> NewB I0 I' y') := by
 refine viaR (ctS_via (A := { calls := [(53, .lend [0] (.agg [.sh .ptr, .sh .ptr, .sh .ptr, .ptr 0 3, .ptr 0 4, .ptr 0 5, .ptr 0 6, .ptr 0 7, .ptr 0 8, .ptr 0 9, .sh .ptr, .sh .ptr]) [.same])] }) Try.func42 rfl Try.call42 [0] rfl) (Ct Try.prog (fnv 44) #[.agg #[.int .i64 8, .slice b m c]] I fun v a => ∃ n d, v = .tuple #[.int .u64 n, .int .i64 d] /\ Wr .i64 n fun e => CtS Try.prog (.v (fnv 45)) [.ptr 0 0] [⟨.cells [.v (.int .u8 r.kind), .v (.int .u8 r.what), .v (.string r.name), .v (.int .i64 r.p3), .v (.int .i64 r.p4), .v (.int .i64 r.p5), .v (.int .i64 r.p6), .v (.int .i64 r.p7), .v (.int .i64 r.p8), .v (.int .i64 r.p9), .v (.int .i64 r.val), .v y] 29, some k⟩] a fun s H f => ∃ g i j l o, s = .agg [.v (.pointer g), .v (.pointer i), .v (.pointer j), .ptr 0 3, .ptr 0 4, .ptr 0 5, .ptr 0 6, .ptr 0 7, .ptr 0 8, .ptr 0 9, .v (.pointer l), .v (.pointer o)] /\ H = [⟨.cells [.v (.int .u8 r.kind), .v (.int .u8 r.what), .v (.string r.name), .v (.int .i64 r.p3), .v (.int .i64 r.p4), .v (.int .i64 r.p5), .v (.int .i64 r.p6), .v (.int .i64 r.p7), .v (.int .i64 r.p8), .v (.int .i64 r.p9), .v (.int .i64 r.val), .v y] 29, some k⟩] /\ (0 : Int) <= 8 /\ (8 : Int) < 12 /\ Br (d == 0) (∃ p, SV.v (.bool (decide (n <= 9223372036854775807))) = .v (.bool (takeB r 8 bs)) /\ [Ent.mk (.cells [.v (.int .u8 r.kind), .v (.int .u8 r.what), .v (.string r.name), .v (.int .i64 r.p3), .v (.int .i64 r.p4), .v (.int .i64 r.p5), .v (.int .i64 r.p6), .v (.int .i64 r.p7), .v (.int .i64 e), .v (.int .i64 r.p9), .v (.int .i64 r.val), .v y] 29) (some k)] = [⟨.cells [.v (.int .u8 r.kind), .v (.int .u8 r.what), .v (.string r.name), .v (.int .i64 r.p3), .v (.int .i64 r.p4), .v (.int .i64 r.p5), .v (.int .i64 r.p6), .v (.int .i64 r.p7), .v (.int .i64 (IntKind.wrap .i64 (lastN bs).1)), .v (.int .i64 r.p9), .v (.int .i64 r.val), .v p] 29, some k⟩] /\ ((∃ q t u, y = .slice q t u /\ SlM f q t 1 (List.map (Value.int .u8) r.fed) /\ t <= u /\ u <= 9223372036854775807) -> ∃ q t u, p = .slice q t u /\ SlM f q t 1 (List.map (Value.int .u8) r.fed) /\ t <= u /\ u <= 9223372036854775807) /\ ∀ (q : Mem), q.le I -> NewB q f y -> NewB q f p) (∃ p, SV.v (.bool false) = .v (.bool (takeB r 8 bs)) /\ [Ent.mk (.cells [.v (.int .u8 r.kind), .v (.int .u8 r.what), .v (.string r.name), .v (.int .i64 r.p3), .v (.int .i64 r.p4), .v (.int .i64 r.p5), .v (.int .i64 r.p6), .v (.int .i64 r.p7), .v (.int .i64 e), .v (.int .i64 r.p9), .v (.int .i64 r.val), .v y] 29) (some k)] = [⟨.cells [.v (.int .u8 r.kind), .v (.int .u8 r.what), .v (.string r.name), .v (.int .i64 r.p3), .v (.int .i64 r.p4), .v (.int .i64 r.p5), .v (.int .i64 r.p6), .v (.int .i64 r.p7), .v (.int .i64 (IntKind.wrap .i64 (lastN bs).1)), .v (.int .i64 r.p9), .v (.int .i64 r.val), .v p] 29, some k⟩] /\ ((∃ q t u, y = .slice q t u /\ SlM f q t 1 (List.map (Value.int .u8) r.fed) /\ t <= u /\ u <= 9223372036854775807) -> ∃ q t u, p = .slice q t u /\ SlM f q t 1 (List.map (Value.int .u8) r.fed) /\ t <= u /\ u <= 9223372036854775807) /\ ∀ (q : Mem), q.le I -> NewB q f y -> NewB q f p)) (by kernel_rfl) ?_
 have hok : okFld (8, bs) := ⟨by simp, hbs⟩
 have hlr := last_range hbs;refine (ct44 (8, bs) hok b m c I h hm).mono fun v I1 l1 hv => ⟨_, _, hv, ?_⟩;refine ⟨_, rfl, ?_⟩
 refine (cs45 k _ _ _ _ _ _ _ _ _ _ _ _ I1).mono fun sv H' I2 l2 ⟨hv, hH⟩ => ⟨none, none, none, none, none, hv, hH, by omega, by omega, Br.mk (fun he => ⟨y, ?_, rfl, id, fun _ _ => id⟩) (fun he => ⟨y, ?_, rfl, id, fun _ _ => id⟩)⟩
 · have he : (lastN bs).2.2 = 0 := by simpa using he
   simp [takeB, he]
 · have he : ¬ (lastN bs).2.2 = 0 := by simpa using he
   simp [takeB, he]
theorem cs42_9 (k : Nat) (r : Rq) (hr : okRq r) (y : Value) (bs : List Int) (hbs : byteL bs) (b : Option Addr) (m c : Nat) (I : Mem) (h : SlM I b m 1 (ints .u8 bs)) (hm : m <= 1000000) :
 CtS Try.prog (.v (fnv 42)) [.ptr 0 0, .v (.agg #[.int .i64 9, .slice b m c])] [⟨.cells (rqS r y) 29, some k⟩] I (fun v H' I' => ∃ y', v = .v (.bool (takeB r 9 bs)) /\ H' = [⟨.cells (rqS (takeR r 9 bs) y') 29, some k⟩] /\ (BySl I' y r.fed -> BySl I' y' (takeR r 9 bs).fed) /\ ∀ I0 : Mem, I0.le I -> NewB I0 I' y -> NewB I0 I' y') := by
 refine viaR (ctS_via (A := { calls := [(53, .lend [0] (.agg [.sh .ptr, .sh .ptr, .sh .ptr, .ptr 0 3, .ptr 0 4, .ptr 0 5, .ptr 0 6, .ptr 0 7, .ptr 0 8, .ptr 0 9, .sh .ptr, .sh .ptr]) [.same])] }) Try.func42 rfl Try.call42 [0] rfl) (Ct Try.prog (fnv 44) #[.agg #[.int .i64 9, .slice b m c]] I fun v a => ∃ n d, v = .tuple #[.int .u64 n, .int .i64 d] /\ Wr .i64 n fun e => CtS Try.prog (.v (fnv 45)) [.ptr 0 0] [⟨.cells [.v (.int .u8 r.kind), .v (.int .u8 r.what), .v (.string r.name), .v (.int .i64 r.p3), .v (.int .i64 r.p4), .v (.int .i64 r.p5), .v (.int .i64 r.p6), .v (.int .i64 r.p7), .v (.int .i64 r.p8), .v (.int .i64 r.p9), .v (.int .i64 r.val), .v y] 29, some k⟩] a fun s H f => ∃ g i j l o, s = .agg [.v (.pointer g), .v (.pointer i), .v (.pointer j), .ptr 0 3, .ptr 0 4, .ptr 0 5, .ptr 0 6, .ptr 0 7, .ptr 0 8, .ptr 0 9, .v (.pointer l), .v (.pointer o)] /\ H = [⟨.cells [.v (.int .u8 r.kind), .v (.int .u8 r.what), .v (.string r.name), .v (.int .i64 r.p3), .v (.int .i64 r.p4), .v (.int .i64 r.p5), .v (.int .i64 r.p6), .v (.int .i64 r.p7), .v (.int .i64 r.p8), .v (.int .i64 r.p9), .v (.int .i64 r.val), .v y] 29, some k⟩] /\ (0 : Int) <= 9 /\ (9 : Int) < 12 /\ Br (d == 0) (∃ p, SV.v (.bool (decide (n <= 9223372036854775807))) = .v (.bool (takeB r 9 bs)) /\ [Ent.mk (.cells [.v (.int .u8 r.kind), .v (.int .u8 r.what), .v (.string r.name), .v (.int .i64 r.p3), .v (.int .i64 r.p4), .v (.int .i64 r.p5), .v (.int .i64 r.p6), .v (.int .i64 r.p7), .v (.int .i64 r.p8), .v (.int .i64 e), .v (.int .i64 r.val), .v y] 29) (some k)] = [⟨.cells [.v (.int .u8 r.kind), .v (.int .u8 r.what), .v (.string r.name), .v (.int .i64 r.p3), .v (.int .i64 r.p4), .v (.int .i64 r.p5), .v (.int .i64 r.p6), .v (.int .i64 r.p7), .v (.int .i64 r.p8), .v (.int .i64 (IntKind.wrap .i64 (lastN bs).1)), .v (.int .i64 r.val), .v p] 29, some k⟩] /\ ((∃ q t u, y = .slice q t u /\ SlM f q t 1 (List.map (Value.int .u8) r.fed) /\ t <= u /\ u <= 9223372036854775807) -> ∃ q t u, p = .slice q t u /\ SlM f q t 1 (List.map (Value.int .u8) r.fed) /\ t <= u /\ u <= 9223372036854775807) /\ ∀ (q : Mem), q.le I -> NewB q f y -> NewB q f p) (∃ p, SV.v (.bool false) = .v (.bool (takeB r 9 bs)) /\ [Ent.mk (.cells [.v (.int .u8 r.kind), .v (.int .u8 r.what), .v (.string r.name), .v (.int .i64 r.p3), .v (.int .i64 r.p4), .v (.int .i64 r.p5), .v (.int .i64 r.p6), .v (.int .i64 r.p7), .v (.int .i64 r.p8), .v (.int .i64 e), .v (.int .i64 r.val), .v y] 29) (some k)] = [⟨.cells [.v (.int .u8 r.kind), .v (.int .u8 r.what), .v (.string r.name), .v (.int .i64 r.p3), .v (.int .i64 r.p4), .v (.int .i64 r.p5), .v (.int .i64 r.p6), .v (.int .i64 r.p7), .v (.int .i64 r.p8), .v (.int .i64 (IntKind.wrap .i64 (lastN bs).1)), .v (.int .i64 r.val), .v p] 29, some k⟩] /\ ((∃ q t u, y = .slice q t u /\ SlM f q t 1 (List.map (Value.int .u8) r.fed) /\ t <= u /\ u <= 9223372036854775807) -> ∃ q t u, p = .slice q t u /\ SlM f q t 1 (List.map (Value.int .u8) r.fed) /\ t <= u /\ u <= 9223372036854775807) /\ ∀ (q : Mem), q.le I -> NewB q f y -> NewB q f p)) (by kernel_rfl) ?_
 have hok : okFld (9, bs) := ⟨by simp, hbs⟩
 have hlr := last_range hbs;refine (ct44 (9, bs) hok b m c I h hm).mono fun v I1 l1 hv => ⟨_, _, hv, ?_⟩;refine ⟨_, rfl, ?_⟩
 refine (cs45 k _ _ _ _ _ _ _ _ _ _ _ _ I1).mono fun sv H' I2 l2 ⟨hv, hH⟩ => ⟨none, none, none, none, none, hv, hH, by omega, by omega, Br.mk (fun he => ⟨y, ?_, rfl, id, fun _ _ => id⟩) (fun he => ⟨y, ?_, rfl, id, fun _ _ => id⟩)⟩
 · have he : (lastN bs).2.2 = 0 := by simpa using he
   simp [takeB, he]
 · have he : ¬ (lastN bs).2.2 = 0 := by simpa using he
   simp [takeB, he]
theorem cs42_1 (k : Nat) (r : Rq) (hr : okRq r) (y : Value) (bs : List Int) (hbs : byteL bs) (b : Option Addr) (m c : Nat) (I : Mem) (h : SlM I b m 1 (ints .u8 bs)) (hm : m <= 1000000) :
 CtS Try.prog (.v (fnv 42)) [.ptr 0 0, .v (.agg #[.int .i64 1, .slice b m c])] [⟨.cells (rqS r y) 29, some k⟩] I (fun v H' I' => ∃ y', v = .v (.bool (takeB r 1 bs)) /\ H' = [⟨.cells (rqS (takeR r 1 bs) y') 29, some k⟩] /\ (BySl I' y r.fed -> BySl I' y' (takeR r 1 bs).fed) /\ ∀ I0 : Mem, I0.le I -> NewB I0 I' y -> NewB I0 I' y') := by
 refine viaR (ctS_via (A := {  }) Try.func42 rfl Try.call42 [0] rfl) (Ct Try.prog (fnv 44) #[.agg #[.int .i64 1, .slice b m c]] I fun v a => ∃ n d, v = .tuple #[.int .u64 n, .int .i64 d] /\ Br (d == 0) (Wr .u64 r.what (fun e => ∃ f, SV.v (.bool (n == e)) = .v (.bool (takeB r 1 bs)) /\ [Ent.mk (.cells [.v (.int .u8 r.kind), .v (.int .u8 r.what), .v (.string r.name), .v (.int .i64 r.p3), .v (.int .i64 r.p4), .v (.int .i64 r.p5), .v (.int .i64 r.p6), .v (.int .i64 r.p7), .v (.int .i64 r.p8), .v (.int .i64 r.p9), .v (.int .i64 r.val), .v y] 29) (some k)] = [⟨.cells [.v (.int .u8 r.kind), .v (.int .u8 r.what), .v (.string (takeR r 1 bs).name), .v (.int .i64 r.p3), .v (.int .i64 r.p4), .v (.int .i64 r.p5), .v (.int .i64 r.p6), .v (.int .i64 r.p7), .v (.int .i64 r.p8), .v (.int .i64 r.p9), .v (.int .i64 r.val), .v f] 29, some k⟩] /\ ((∃ g i j, y = .slice g i j /\ SlM a g i 1 (List.map (Value.int .u8) r.fed) /\ i <= j /\ j <= 9223372036854775807) -> ∃ g i j, f = .slice g i j /\ SlM a g i 1 (List.map (Value.int .u8) r.fed) /\ i <= j /\ j <= 9223372036854775807) /\ ∀ (g : Mem), g.le I -> NewB g a y -> NewB g a f)) (∃ e, SV.v (.bool false) = .v (.bool (takeB r 1 bs)) /\ [Ent.mk (.cells [.v (.int .u8 r.kind), .v (.int .u8 r.what), .v (.string r.name), .v (.int .i64 r.p3), .v (.int .i64 r.p4), .v (.int .i64 r.p5), .v (.int .i64 r.p6), .v (.int .i64 r.p7), .v (.int .i64 r.p8), .v (.int .i64 r.p9), .v (.int .i64 r.val), .v y] 29) (some k)] = [⟨.cells [.v (.int .u8 r.kind), .v (.int .u8 r.what), .v (.string (takeR r 1 bs).name), .v (.int .i64 r.p3), .v (.int .i64 r.p4), .v (.int .i64 r.p5), .v (.int .i64 r.p6), .v (.int .i64 r.p7), .v (.int .i64 r.p8), .v (.int .i64 r.p9), .v (.int .i64 r.val), .v e] 29, some k⟩] /\ ((∃ f g i, y = .slice f g i /\ SlM a f g 1 (List.map (Value.int .u8) r.fed) /\ g <= i /\ i <= 9223372036854775807) -> ∃ f g i, e = .slice f g i /\ SlM a f g 1 (List.map (Value.int .u8) r.fed) /\ g <= i /\ i <= 9223372036854775807) /\ ∀ (f : Mem), f.le I -> NewB f a y -> NewB f a e)) (by kernel_rfl) ?_
 have hok : okFld (1, bs) := ⟨by simp, hbs⟩
 have hlr := last_range hbs;refine (ct44 (1, bs) hok b m c I h hm).mono fun v I1 l1 hv => ⟨_, _, hv, ?_⟩
 refine Br.mk (fun he => ⟨_, IntWalk.u64_in _ ⟨hr.what.1, by have := hr.what.2; omega⟩, y, ?_, rfl, id, fun _ _ => id⟩) (fun he => ⟨y, ?_, rfl, id, fun _ _ => id⟩)
 · have he : (lastN bs).2.2 = 0 := by simpa using he
   simp [takeB, he];rfl
 · have he : ¬ (lastN bs).2.2 = 0 := by simpa using he
   simp [takeB, he]
theorem cs42_2 (k : Nat) (r : Rq) (hr : okRq r) (y : Value) (bs : List Int) (hbs : byteL bs) (b : Option Addr) (m c : Nat) (I : Mem) (h : SlM I b m 1 (ints .u8 bs)) (hm : m <= 1000000) :
 CtS Try.prog (.v (fnv 42)) [.ptr 0 0, .v (.agg #[.int .i64 2, .slice b m c])] [⟨.cells (rqS r y) 29, some k⟩] I (fun v H' I' => ∃ y', v = .v (.bool (takeB r 2 bs)) /\ H' = [⟨.cells (rqS (takeR r 2 bs) y') 29, some k⟩] /\ (BySl I' y r.fed -> BySl I' y' (takeR r 2 bs).fed) /\ ∀ I0 : Mem, I0.le I -> NewB I0 I' y -> NewB I0 I' y') := by
 refine viaR (ctS_via (A := {  }) Try.func42 rfl Try.call42 [0] rfl) (Ct Try.prog (fnv 44) #[.agg #[.int .i64 2, .slice b m c]] I fun (v : Value) (a : Mem) => ∃ (n d : Int), v = .tuple #[.int .u64 n, .int .i64 d] /\ ∃ (q : List UInt8), q.length = m /\ (b = none -> m = 0) /\ (∀ (j : Nat) (e : UInt8), q[j]? = some e -> atI a b j = some (.int .u8 (e.toNat : Int))) /\ ∃ (e : Value), Rf (SV.v (.bool true)) /\ [Ent.mk (.cells [.v (.int .u8 r.kind), .v (.int .u8 r.what), .v (.string ⟨q.toArray⟩), .v (.int .i64 r.p3), .v (.int .i64 r.p4), .v (.int .i64 r.p5), .v (.int .i64 r.p6), .v (.int .i64 r.p7), .v (.int .i64 r.p8), .v (.int .i64 r.p9), .v (.int .i64 r.val), .v y] 29) (some k)] = [⟨.cells [.v (.int .u8 r.kind), .v (.int .u8 r.what), .v (.string (strB bs)), .v (.int .i64 r.p3), .v (.int .i64 r.p4), .v (.int .i64 r.p5), .v (.int .i64 r.p6), .v (.int .i64 r.p7), .v (.int .i64 r.p8), .v (.int .i64 r.p9), .v (.int .i64 r.val), .v e] 29, some k⟩] /\ ((∃ (f : Option Addr) (g i : Nat), y = .slice f g i /\ SlM a f g 1 (List.map (Value.int .u8) r.fed) /\ g <= i /\ i <= 9223372036854775807) -> ∃ (f : Option Addr) (g i : Nat), e = .slice f g i /\ SlM a f g 1 (List.map (Value.int .u8) r.fed) /\ g <= i /\ i <= 9223372036854775807) /\ ∀ (f : Mem), f.le I -> NewB f a y -> NewB f a e) (by kernel_rfl) ?_
 have hok : okFld (2, bs) := ⟨by simp, hbs⟩
 have hlr := last_range hbs;refine (ct44 (2, bs) hok b m c I h hm).mono fun v I1 l1 hv => ⟨_, _, hv, ?_⟩;obtain ⟨h1, h2, h3⟩ := u8s_at hbs (h.mono l1);exact ⟨_, h1, h2, h3, y, rfl, rfl, id, fun _ _ => id⟩
theorem cs42_10 (k : Nat) (r : Rq) (hr : okRq r) (y : Value) (bs : List Int) (hbs : byteL bs) (b : Option Addr) (m c : Nat) (I : Mem) (h : SlM I b m 1 (ints .u8 bs)) (hm : m <= 1000000) :
 CtS Try.prog (.v (fnv 42)) [.ptr 0 0, .v (.agg #[.int .i64 10, .slice b m c])] [⟨.cells (rqS r y) 29, some k⟩] I (fun v H' I' => ∃ y', v = .v (.bool (takeB r 10 bs)) /\ H' = [⟨.cells (rqS (takeR r 10 bs) y') 29, some k⟩] /\ (BySl I' y r.fed -> BySl I' y' (takeR r 10 bs).fed) /\ ∀ I0 : Mem, I0.le I -> NewB I0 I' y -> NewB I0 I' y') := by
 refine viaR (ctS_via (A := {  }) Try.func42 rfl Try.call42 [0] rfl) (Ct Try.prog (fnv 44) #[.agg #[.int .i64 10, .slice b m c]] I fun v a => ∃ n d, v = .tuple #[.int .u64 n, .int .i64 d] /\ Ct Try.prog (fnv 66) #[.int .u64 n] a fun e f => ∃ g, e = .int .i64 g /\ ∃ i, SV.v (.bool (d == 0)) = .v (.bool (takeB r 10 bs)) /\ [Ent.mk (.cells [.v (.int .u8 r.kind), .v (.int .u8 r.what), .v (.string r.name), .v (.int .i64 r.p3), .v (.int .i64 r.p4), .v (.int .i64 r.p5), .v (.int .i64 r.p6), .v (.int .i64 r.p7), .v (.int .i64 r.p8), .v (.int .i64 r.p9), .v (.int .i64 g), .v y] 29) (some k)] = [⟨.cells [.v (.int .u8 r.kind), .v (.int .u8 r.what), .v (.string r.name), .v (.int .i64 r.p3), .v (.int .i64 r.p4), .v (.int .i64 r.p5), .v (.int .i64 r.p6), .v (.int .i64 r.p7), .v (.int .i64 r.p8), .v (.int .i64 r.p9), .v (.int .i64 (unfoldZ (lastN bs).1)), .v i] 29, some k⟩] /\ ((∃ j l o, y = .slice j l o /\ SlM f j l 1 (List.map (Value.int .u8) r.fed) /\ l <= o /\ o <= 9223372036854775807) -> ∃ j l o, i = .slice j l o /\ SlM f j l 1 (List.map (Value.int .u8) r.fed) /\ l <= o /\ o <= 9223372036854775807) /\ ∀ (j : Mem), j.le I -> NewB j f y -> NewB j f i) (by kernel_rfl) ?_
 have hok : okFld (10, bs) := ⟨by simp, hbs⟩
 have hlr := last_range hbs;refine (ct44 (10, bs) hok b m c I h hm).mono fun v I1 l1 hv => ⟨_, _, hv, ?_⟩;refine (ct66 _ hlr I1).mono fun v I2 l2 hv => ⟨_, hv, y, ?_, rfl, id, fun _ _ => id⟩;simp [takeB];rfl
theorem cs42_11 (k : Nat) (r : Rq) (hr : okRq r) (y : Value) (bs : List Int) (hbs : byteL bs) (b : Option Addr) (m c : Nat) (I : Mem) (h : SlM I b m 1 (ints .u8 bs)) (hm : m <= 1000000) :
 CtS Try.prog (.v (fnv 42)) [.ptr 0 0, .v (.agg #[.int .i64 11, .slice b m c])] [⟨.cells (rqS r y) 29, some k⟩] I (fun v H' I' => ∃ y', v = .v (.bool (takeB r 11 bs)) /\ H' = [⟨.cells (rqS (takeR r 11 bs) y') 29, some k⟩] /\ (BySl I' y r.fed -> BySl I' y' (takeR r 11 bs).fed) /\ ∀ I0 : Mem, I0.le I -> NewB I0 I' y -> NewB I0 I' y') := by
 refine viaR (ctS_via (A := {  }) Try.func42 rfl Try.call42 [0] rfl) (Ct Try.prog (fnv 44) #[.agg #[.int .i64 11, .slice b m c]] I fun v a => ∃ n d, v = .tuple #[.int .u64 n, .int .i64 d] /\ Ct Try.prog (fnv 30) #[.slice b m c] a fun e f => ∃ g i j, e = .slice g i j /\ ∃ l, Rf (SV.v (.bool true)) /\ [Ent.mk (.cells [.v (.int .u8 r.kind), .v (.int .u8 r.what), .v (.string r.name), .v (.int .i64 r.p3), .v (.int .i64 r.p4), .v (.int .i64 r.p5), .v (.int .i64 r.p6), .v (.int .i64 r.p7), .v (.int .i64 r.p8), .v (.int .i64 r.p9), .v (.int .i64 r.val), .v (.slice g i j)] 29) (some k)] = [⟨.cells [.v (.int .u8 r.kind), .v (.int .u8 r.what), .v (.string r.name), .v (.int .i64 r.p3), .v (.int .i64 r.p4), .v (.int .i64 r.p5), .v (.int .i64 r.p6), .v (.int .i64 r.p7), .v (.int .i64 r.p8), .v (.int .i64 r.p9), .v (.int .i64 r.val), .v l] 29, some k⟩] /\ ((∃ o p q, y = .slice o p q /\ SlM f o p 1 (List.map (Value.int .u8) r.fed) /\ p <= q /\ q <= 9223372036854775807) -> ∃ o p q, l = .slice o p q /\ SlM f o p 1 (List.map (Value.int .u8) bs) /\ p <= q /\ q <= 9223372036854775807) /\ ∀ (o : Mem), o.le I -> NewB o f y -> NewB o f l) (by kernel_rfl) ?_
 have hok : okFld (11, bs) := ⟨by simp, hbs⟩
 have hlr := last_range hbs;refine (ct44 (11, bs) hok b m c I h hm).mono fun v I1 l1 hv => ⟨_, _, hv, ?_⟩;refine (ct30N bs b m c I1 (h.mono l1) hm).mono fun v I2 l2 ⟨hv, hnb⟩ => ?_;have hv2 := hv;obtain ⟨a, n, c, rfl, _⟩ := hv;exact ⟨_, _, _, rfl, _, rfl, rfl, fun _ => hv2, fun I0 h0 _ => hnb.anti (Mem.le_trans h0 l1)⟩
theorem cs42 (t : Int) (ht : 1 <= t /\ t <= 11) (k : Nat) (r : Rq) (hr : okRq r) (y : Value) (bs : List Int) (hbs : byteL bs) (b : Option Addr) (m c : Nat) (I : Mem) (h : SlM I b m 1 (ints .u8 bs)) (hm : m <= 1000000) :
 CtS Try.prog (.v (fnv 42)) [.ptr 0 0, .v (.agg #[.int .i64 t, .slice b m c])] [⟨.cells (rqS r y) 29, some k⟩] I (fun v H' I' => ∃ y', v = .v (.bool (takeB r t bs)) /\ H' = [⟨.cells (rqS (takeR r t bs) y') 29, some k⟩] /\ (BySl I' y r.fed -> BySl I' y' (takeR r t bs).fed) /\ ∀ I0 : Mem, I0.le I -> NewB I0 I' y -> NewB I0 I' y') := by
 rcases (by omega : t = 1 \/ t = 2 \/ t = 3 \/ t = 4 \/ t = 5 \/ t = 6 \/ t = 7 \/ t = 8 \/ t = 9 \/ t = 10 \/ t = 11) with rfl | rfl | rfl | rfl | rfl | rfl | rfl | rfl | rfl | rfl | rfl
 · exact cs42_1 k r hr y bs hbs b m c I h hm
 · exact cs42_2 k r hr y bs hbs b m c I h hm
 · exact cs42_3 k r hr y bs hbs b m c I h hm
 · exact cs42_4 k r hr y bs hbs b m c I h hm
 · exact cs42_5 k r hr y bs hbs b m c I h hm
 · exact cs42_6 k r hr y bs hbs b m c I h hm
 · exact cs42_7 k r hr y bs hbs b m c I h hm
 · exact cs42_8 k r hr y bs hbs b m c I h hm
 · exact cs42_9 k r hr y bs hbs b m c I h hm
 · exact cs42_10 k r hr y bs hbs b m c I h hm
 · exact cs42_11 k r hr y bs hbs b m c I h hm
def askL (w : Int) : Option (List Int) := if w = 1 then some [] else if w = 2 then some [4] else if w = 5 then some [4] else if w = 3 then some [7, 8, 9] else if w = 4 then some [2] else none
def tagL (k w : Int) : Option (List Int) :=
 if k = 1 then some [11] else if k = 2 then some [2, 3] else if k = 3 then some [4, 5, 6] else if k = 4 then some [4] else if k = 5 then some [4, 7, 10] else if k = 6 then some [7]
 else if k = 7 then (askL w).map (1 :: ·) else if k = 8 then some [8, 9] else if k = 9 then some [] else none
def tagP (I I' : Mem) (v : Value) (o : Option (List Int)) : Prop := ∃ (a : Option Addr) (n c : Nat), v = .tuple #[.slice a n c, .bool o.isSome] /\ SlM I' a n 1 (ints .i64 (o.getD [])) /\ n <= c /\ c <= maxLen /\ NewS 1 I I' a c
theorem tagP_cells {I I' : Mem} {b n : Nat} {cs : Array Value} {el : TypeId} {l : List Int} {o : Option (List Int)} (h0 : I b = none) (h : I' b = some (.cells cs el)) (hc : cs = (ints .i64 l).toArray) (hn : n = l.length) (hm : n <= 100) (ho : o = some l) :
 tagP I I' (.tuple #[.slice (some ⟨b, 0, none⟩) n n, .bool true]) o := by
 subst hc; subst ho
 have hs := sl_cells (n := n) (sz := 1) h (by simp [ints]; omega) (by simp only [maxLen]; omega)
 exact ⟨_, _, _, rfl, by simpa using hs, Nat.le_refl _, by simp only [maxLen]; omega, fun _ => ⟨b, 0, _, _, (0, 0), rfl, h0, h, thaw_zero _, by simp [ints]; omega⟩⟩
theorem tagP_nil {I I' : Mem} {t : Bool} {o : Option (List Int)} (ho : o.isSome = t) (hl : o.getD [] = []) : tagP I I' (.tuple #[.slice none 0 0, .bool t]) o := by
 subst ho
 refine ⟨none, 0, 0, rfl, ?_, Nat.le_refl _, Nat.zero_le _, fun h => absurd h (by omega)⟩
 rw [hl];exact sl_nil _ _
theorem eqv {w c : Int} (h : (w == c) = true) : w = c := by simpa using h
theorem nev {w c : Int} (h : (w == c) = false) : w ≠ c := by simpa using h
theorem ct47 (w : Int) (I : Mem) : Ct Try.prog (fnv 47) #[.int .u8 w] I (fun v I' => tagP I I' v (askL w)) := by
 refine viaR (ctF_via (A := { }) Try.func47 rfl Try.call47 rfl rfl) (Br (w == 1) (tagP I I (.tuple #[.slice none 0 0, .bool true]) (askL w)) (Br (w == 2) (Br (w == 2) (∀ (b : Nat) (a : Mem), I.le a -> I b = none -> a b = some (.cells #[.int .i64 4] 3 (0, 0)) -> tagP I a (.tuple #[.slice (some ⟨b, 0, none⟩) 1 1, .bool true]) (askL w)) (Br (w == 3) (∀ (b : Nat) (a : Mem), I.le a -> I b = none -> a b = some (.cells #[.int .i64 7, .int .i64 8, .int .i64 9] 3 (0, 0)) -> tagP I a (.tuple #[.slice (some ⟨b, 0, none⟩) 3 3, .bool true]) (askL w)) (Br (w == 4) (∀ (b : Nat) (a : Mem), I.le a -> I b = none -> a b = some (.cells #[.int .i64 2] 3 (0, 0)) -> tagP I a (.tuple #[.slice (some ⟨b, 0, none⟩) 1 1, .bool true]) (askL w)) (tagP I I (.tuple #[.slice none 0 0, .bool false]) (askL w))))) (Br (w == 5) (∀ (b : Nat) (a : Mem), I.le a -> I b = none -> a b = some (.cells #[.int .i64 4] 3 (0, 0)) -> tagP I a (.tuple #[.slice (some ⟨b, 0, none⟩) 1 1, .bool true]) (askL w)) (Br (w == 3) (∀ (b : Nat) (a : Mem), I.le a -> I b = none -> a b = some (.cells #[.int .i64 7, .int .i64 8, .int .i64 9] 3 (0, 0)) -> tagP I a (.tuple #[.slice (some ⟨b, 0, none⟩) 3 3, .bool true]) (askL w)) (Br (w == 4) (∀ (b : Nat) (a : Mem), I.le a -> I b = none -> a b = some (.cells #[.int .i64 2] 3 (0, 0)) -> tagP I a (.tuple #[.slice (some ⟨b, 0, none⟩) 1 1, .bool true]) (askL w)) (tagP I I (.tuple #[.slice none 0 0, .bool false]) (askL w))))))) (by kernel_rfl) ?_
 refine Br.mk (fun h => ?_) (fun h1 => Br.mk (fun h => Br.mk (fun _ b I1 l1 h0 hb => ?_) (fun h2 => absurd h (by rw [h2]; decide))) (fun h2 => Br.mk (fun h b I1 l1 h0 hb => ?_) (fun h5 => Br.mk (fun h b I1 l1 h0 hb => ?_) (fun h3 => Br.mk (fun h b I1 l1 h0 hb => ?_) (fun h4 => ?_)))))
 · obtain rfl := eqv h
   exact tagP_nil rfl rfl
 · obtain rfl := eqv h
   exact tagP_cells (l := [4]) h0 hb rfl rfl (by omega) rfl
 · obtain rfl := eqv h
   exact tagP_cells (l := [4]) h0 hb rfl rfl (by omega) rfl
 · obtain rfl := eqv h
   exact tagP_cells (l := [7, 8, 9]) h0 hb rfl rfl (by omega) rfl
 · obtain rfl := eqv h
   exact tagP_cells (l := [2]) h0 hb rfl rfl (by omega) rfl
 · have : askL w = none := by rw [askL, if_neg (nev h1), if_neg (nev h2), if_neg (nev h5), if_neg (nev h3), if_neg (nev h4)]
   exact tagP_nil (by rw [this]; rfl) (by rw [this]; rfl)
theorem ct21 (k w : Int) (I : Mem) : Ct Try.prog (fnv 21) #[.int .u8 k, .int .u8 w] I (fun v I' => tagP I I' v (tagL k w)) := by
 refine viaR (ctF_via (A := { }) Try.func21 rfl Try.call21 rfl rfl) (Br (k == 1) (∀ (b : Nat) (a : Mem), I.le a -> I b = none -> a b = some (.cells #[.int .i64 11] 3 (0, 0)) -> tagP I a (.tuple #[.slice (some ⟨b, 0, none⟩) 1 1, .bool true]) (tagL k w)) (Br (k == 2) (∀ (b : Nat) (a : Mem), I.le a -> I b = none -> a b = some (.cells #[.int .i64 2, .int .i64 3] 3 (0, 0)) -> tagP I a (.tuple #[.slice (some ⟨b, 0, none⟩) 2 2, .bool true]) (tagL k w)) (Br (k == 3) (∀ (b : Nat) (a : Mem), I.le a -> I b = none -> a b = some (.cells #[.int .i64 4, .int .i64 5, .int .i64 6] 3 (0, 0)) -> tagP I a (.tuple #[.slice (some ⟨b, 0, none⟩) 3 3, .bool true]) (tagL k w)) (Br (k == 4) (∀ (b : Nat) (a : Mem), I.le a -> I b = none -> a b = some (.cells #[.int .i64 4] 3 (0, 0)) -> tagP I a (.tuple #[.slice (some ⟨b, 0, none⟩) 1 1, .bool true]) (tagL k w)) (Br (k == 5) (∀ (b : Nat) (a : Mem), I.le a -> I b = none -> a b = some (.cells #[.int .i64 4, .int .i64 7, .int .i64 10] 3 (0, 0)) -> tagP I a (.tuple #[.slice (some ⟨b, 0, none⟩) 3 3, .bool true]) (tagL k w)) (Br (k == 6) (∀ (b : Nat) (a : Mem), I.le a -> I b = none -> a b = some (.cells #[.int .i64 7] 3 (0, 0)) -> tagP I a (.tuple #[.slice (some ⟨b, 0, none⟩) 1 1, .bool true]) (tagL k w)) (Br (k == 7) (Ct Try.prog (fnv 47) #[.int .u8 w] I (fun v a => ∃ b n c d, v = .tuple #[.slice b n c, .bool d] /\ Br (!d) (tagP I a (.tuple #[.slice none 0 0, .bool false]) (tagL k w)) (∃ y, y.length = n * 1 /\ (b = none -> n = 0) /\ (∀ (j : Nat) (e : Value), y[j]? = some e -> atI a b j = some e) /\ (∀ (e : Value), Membership.mem y e -> e.oneCell' = true) /\ (1 : Nat) = 1 /\ 1 + n <= 9223372036854775807 /\ (1 + n) * 8 <= 140737488355328 /\ ∀ (e : Option Addr) (f : Nat) (g : Mem), a.le g -> RowF a g e f 1 (.int .i64 1 :: y) 3 -> tagP I g (.tuple #[.slice e (1 + n) f, .bool true]) (tagL k w)))) (Br (k == 8) (∀ (b : Nat) (a : Mem), I.le a -> I b = none -> a b = some (.cells #[.int .i64 8, .int .i64 9] 3 (0, 0)) -> tagP I a (.tuple #[.slice (some ⟨b, 0, none⟩) 2 2, .bool true]) (tagL k w)) (Br (k == 9) (tagP I I (.tuple #[.slice none 0 0, .bool true]) (tagL k w)) (tagP I I (.tuple #[.slice none 0 0, .bool false]) (tagL k w))))))))))) (by kernel_rfl) ?_
 refine Br.mk (fun h b I1 l1 h0 hb => ?_) (fun h1 => Br.mk (fun h b I1 l1 h0 hb => ?_) (fun h2 => Br.mk (fun h b I1 l1 h0 hb => ?_) (fun h3 => Br.mk (fun h b I1 l1 h0 hb => ?_) (fun h4 => Br.mk (fun h b I1 l1 h0 hb => ?_) (fun h5 => Br.mk (fun h b I1 l1 h0 hb => ?_) (fun h6 => Br.mk (fun h => ?_) (fun h7 => Br.mk (fun h b I1 l1 h0 hb => ?_) (fun h8 => Br.mk (fun h => ?_) (fun h9 => ?_)))))))))
 · obtain rfl := eqv h
   exact tagP_cells h0 hb rfl rfl (by omega) rfl
 · obtain rfl := eqv h
   exact tagP_cells h0 hb rfl rfl (by omega) rfl
 · obtain rfl := eqv h
   exact tagP_cells h0 hb rfl rfl (by omega) rfl
 · obtain rfl := eqv h
   exact tagP_cells h0 hb rfl rfl (by omega) rfl
 · obtain rfl := eqv h
   exact tagP_cells h0 hb rfl rfl (by omega) rfl
 · obtain rfl := eqv h
   exact tagP_cells h0 hb rfl rfl (by omega) rfl
 · obtain rfl := eqv h
   have ht : tagL 7 w = (askL w).map (1 :: ·) := rfl;refine (ct47 w I).mono fun v I1 l1 ⟨a, n, c, hv, hs, hn, hc, hnw⟩ => ⟨_, _, _, _, hv, Br.mk (fun hb => ?_) (fun hb => ?_)⟩
   · have hb : askL w = none := by simpa using hb
     exact tagP_nil (by rw [ht, hb]; rfl) (by rw [ht, hb]; rfl)
   · cases hq : askL w with
     | none => rw [hq] at hb; cases hb
     | some l =>
       rw [hq, Option.getD_some] at hs;have hl := hs.numLen
       have hlen : l.length <= 3 := by
        unfold askL at hq
        repeat' split at hq
        all_goals first | cases hq; decide | cases hq
       refine ⟨_, hs.len, hs.nil, hs.at_, one_ints, rfl, by omega, by omega, fun a2 cp I2 l2 hrow => ?_⟩
       have hr := hrow.row;have h1 := hr.1;have : ints .i64 (1 :: l) = Value.int .i64 1 :: ints .i64 l := rfl;rw [<- this] at hr h1;rw [ints_len] at h1;have hl1 : (1 :: l).length = l.length + 1 := rfl
       refine ⟨a2, _, cp, by rw [ht, hq]; rfl, ?_, by omega, hr.2.1, hrow.newS.anti l1⟩
       rw [ht, hq]
       exact hr.sl (by omega) (by rw [ints_len]; omega)
 · obtain rfl := eqv h
   exact tagP_cells h0 hb rfl rfl (by omega) rfl
 · obtain rfl := eqv h
   exact tagP_nil rfl rfl
 · have : tagL k w = none := by rw [tagL, if_neg (nev h1), if_neg (nev h2), if_neg (nev h3), if_neg (nev h4), if_neg (nev h5), if_neg (nev h6), if_neg (nev h7), if_neg (nev h8), if_neg (nev h9)]
   exact tagP_nil (by rw [this]; rfl) (by rw [this]; rfl)
