/- Part of a proof by the rules of the symbolic walk (see the law's own text): contracts of functions of the program. -/
import Derived.Test.YthfgpdjplknleaaGreatDoorPar5
set_option linter.unusedVariables false
set_option linter.unusedSimpArgs false
open Go Go.Proofs Go.SE Go.RowKit
set_option linter.unusedVariables false
set_option maxRecDepth 100000
theorem splitC_hit (c : UInt8) : ∀ (p r : Tx), c ∉ p -> splitC c (p ++ c :: r) = p :: splitC c r
 | [], r, _ => by simp [splitC]
 | b :: p, r, h => by
  have hb : b ≠ c := fun e => h (by simp [e])
  rw [List.cons_append, splitC, if_neg hb, splitC_hit c p r fun hp => h (List.mem_cons_of_mem _ hp)]
theorem splitC_one (c : UInt8) : ∀ (p : Tx), c ∉ p -> splitC c p = [p]
 | [], _ => rfl
 | b :: p, h => by
  have hb : b ≠ c := fun e => h (by simp [e])
  rw [splitC, if_neg hb, splitC_one c p fun hp => h (List.mem_cons_of_mem _ hp)]
theorem tx_extract (s : ByteArray) (i j : Nat) : tx (s.extract i j) = ((tx s).take j).drop i := by
 simp [tx, ByteArray.data_extract, List.extract_eq_take_drop, List.drop_take]
set_option maxHeartbeats 1000000 in
theorem ct85 (s : ByteArray) (hs : s.size <= 1000000) (I : Mem) :
 Ct Tryz.prog (fnv 85) #[.string s] I (fun v I' => ∃ l, WsL I' v l /\ l.map tx = splitC 32 (tx s)) := by
 obtain ⟨Q, hQ⟩ : ∃ f : Mem -> Value -> Prop, f = fun I' v => ∃ l, WsL I' v l /\ l.map tx = splitC 32 (tx s) := ⟨_, rfl⟩
 suffices h : Ct Tryz.prog (fnv 85) #[.string s] I (fun v I' => Q I' v) from h.mono fun v I' l hv => by rw [hQ] at hv; exact hv
 obtain ⟨WI, hWI⟩ : ∃ f : Int -> Int -> List Value -> Prop, f = fun (k j : Int) xs => 0 <= k /\ k <= j /\ j <= s.size + 1 /\ (xs.length : Int) <= j /\ ∃ L, xs = strs L /\ ((j <= s.size /\ (32 : UInt8) ∉ ((tx s).take j.toNat).drop k.toNat /\ splitC 32 (tx s) = L.map tx ++ splitC 32 ((tx s).drop k.toNat)) \/ (j = s.size + 1 /\ splitC 32 (tx s) = L.map tx)) := ⟨_, rfl⟩
 refine viaR (ct_via (A := { loops := [(4, ⟨[(0, .keep), (3, .row 0), (4, .sh (.int .i64)), (5, .sh (.int .i64))], [(0, .row)], [(3, 1, 9)], fun vals xss _ _ => match vals, xss with | [.int .i64 k, .int .i64 j], [xs] => WI k j xs | _, _ => False, fun vals _ => match vals with | [_, .int .i64 j] => (s.size + 2 - j).toNat | _ => 0⟩)] }) Tryz.func85 rfl Tryz.call85 rfl rfl) ((Rf (SV.v (.string s)) /\ (0 : Nat) = 0 /\ WI 0 0 []) /\ ∀ (a : Mem), Mem -> I.le a -> ∀ (x : List Value) (n b : Int), WI n b x -> Br (decide (b <= (s.size : Int))) (Br (b == (s.size : Int)) (0 <= n /\ n <= b /\ b <= (s.size : Int) /\ x.length = x.length * 1 /\ x.length + 1 <= 9223372036854775807 /\ (x.length + 1) * 16 <= 140737488355328 /\ Wr .i64 (b + 1) fun c => Wr .i64 (b + 1) fun d => Rf (SV.v (.string s)) /\ x.length + 1 = List.length (x ++ [.string (s.extract n.toNat b.toNat)]) /\ WI c d (x ++ [.string (s.extract n.toNat b.toNat)]) /\ Int.toNat ((s.size : Int) + 2 - d) < Int.toNat ((s.size : Int) + 2 - b)) (∃ c, s.data.toList[b.toNat]? = some c /\ 0 <= b /\ Br ((c.toNat : Int) == 32) (0 <= n /\ n <= b /\ b <= (s.size : Int) /\ x.length = x.length * 1 /\ x.length + 1 <= 9223372036854775807 /\ (x.length + 1) * 16 <= 140737488355328 /\ Wr .i64 (b + 1) fun d => Wr .i64 (b + 1) fun e => Rf (SV.v (.string s)) /\ x.length + 1 = List.length (x ++ [.string (s.extract n.toNat b.toNat)]) /\ WI d e (x ++ [.string (s.extract n.toNat b.toNat)]) /\ Int.toNat ((s.size : Int) + 2 - e) < Int.toNat ((s.size : Int) + 2 - b)) (Wr .i64 (b + 1) (fun d => Rf (SV.v (.string s)) /\ Rf x.length /\ WI n d x /\ Int.toNat ((s.size : Int) + 2 - d) < Int.toNat ((s.size : Int) + 2 - b))))) (∀ (c : Option Addr) (d : Nat) (e : Mem), a.le e -> RowM e c d 1 x -> Q e (.slice c x.length d))) (by kernel_rfl) ?_
 simp only [Rf, eq_self, true_and];have hsl : (tx s).length = s.size := Array.length_toList
 refine ⟨by rw [hWI]; exact ⟨by omega, by omega, by omega, by simp, [], rfl, .inl ⟨by omega, by simp, rfl⟩⟩, fun J _ lJ xs k j hj => Br.mk (fun hlt => ?_) (fun hge c d e le hr => ?_)⟩
 · have hlt := of_decide_eq_true hlt
   rw [hWI] at hj;obtain ⟨h0, h1, h2, h3, L, rfl, hc⟩ := hj
   rcases hc with ⟨_, hno, hsp⟩ | ⟨h4, _⟩
   · have hdt : ((tx s).take j.toNat).drop k.toNat ++ (tx s).drop j.toNat = (tx s).drop k.toNat := by
      rw [<- List.drop_append_of_le_length (by rw [List.length_take]; omega), List.take_append_drop]
     refine Br.mk (fun h4 => ?_) (fun h4 => ?_)
     · have h4 : j = (s.size : Int) := by simpa using h4
       refine ⟨by omega, by omega, by omega, by omega, by omega, by omega, wr_i64 (by omega) (by omega) (wr_i64 (by omega) (by omega) ⟨by simp, ?_, by omega⟩)⟩
       rw [hWI]
       refine ⟨by omega, by omega, by omega, by simp only [List.length_append, List.length_cons, List.length_nil]; omega, L ++ [s.extract k.toNat j.toNat], by simp [strs], .inr ⟨by omega, ?_⟩⟩
       have hd : (tx s).drop j.toNat = [] := List.drop_eq_nil_of_le (by omega)
       rw [hd, List.append_nil] at hdt;rw [hsp, <- hdt, splitC_one _ _ hno, List.map_append, List.map_cons, List.map_nil, tx_extract]
     · have h4 : j ≠ (s.size : Int) := by simpa using h4
       obtain ⟨x, hx⟩ : ∃ x, (tx s)[j.toNat]? = some x := ⟨_, List.getElem?_eq_getElem (by omega)⟩
       have hcons : (tx s).drop j.toNat = x :: (tx s).drop (j + 1).toNat := by
        rw [List.drop_eq_getElem_cons (by omega), show j.toNat + 1 = (j + 1).toNat by omega]
        rw [List.getElem?_eq_getElem (by omega)] at hx
        rw [Option.some.inj hx]
       refine ⟨x, hx, by omega, Br.mk (fun h5 => ?_) (fun h5 => ?_)⟩
       · have h5 : x = 32 := by
          have : (x.toNat : Int) = 32 := by simpa using h5
          exact UInt8.toNat_inj.1 (by show x.toNat = 32; omega)
         subst h5
         refine ⟨by omega, by omega, by omega, by omega, by omega, by omega, wr_i64 (by omega) (by omega) (wr_i64 (by omega) (by omega) ⟨by simp, ?_, by omega⟩)⟩
         rw [hWI]
         refine ⟨by omega, by omega, by omega, by simp only [List.length_append, List.length_cons, List.length_nil]; omega, L ++ [s.extract k.toNat j.toNat], by simp [strs], .inl ⟨by omega, by rw [List.drop_take]; simp, ?_⟩⟩
         rw [hsp, <- hdt, hcons, splitC_hit _ _ _ hno, List.map_append, List.map_cons, List.map_nil, tx_extract, List.append_assoc]; rfl
       · have h5 : x ≠ 32 := fun e => by subst e; simp at h5
         refine wr_i64 (by omega) (by omega) ⟨?_, by omega⟩
         rw [hWI]
         refine ⟨h0, by omega, by omega, by omega, L, rfl, .inl ⟨by omega, ?_, hsp⟩⟩
         rw [show (j + 1).toNat = j.toNat + 1 by omega, List.take_add_one, hx, List.drop_append_of_le_length (by rw [List.length_take]; omega)]
         intro hm
         rcases List.mem_append.1 hm with hm | hm
         · exact hno hm
         · simp at hm; exact h5 hm.symm
   · omega
 · have hge := of_decide_eq_false hge
   rw [hWI] at hj;obtain ⟨h0, h1, h2, h3, L, rfl, hc⟩ := hj
   rcases hc with ⟨h4, _⟩ | ⟨_, hsp⟩
   · omega
   · rw [hQ]
     have h1 := hr.1
     exact ⟨L, ⟨c, _, d, rfl, hr.sl (by omega) (by simp), by omega, hr.2.1⟩, hsp.symm⟩
theorem i64W {x : Int} (h : i64R x) : IntKind.i64.wrap x = x := IntWalk.i64_in x h
theorem wrap_rng (x : Int) : i64R (IntKind.i64.wrap x) := by
 rw [IntKind.wrap_i64, i64R]; omega
def stepV (acc c : Int) : Int := if 48 <= c /\ c <= 57 then IntKind.i64.wrap (IntKind.i64.wrap (10 * acc) - (c - 48)) else acc
def valI (s : List Int) : Int := if s.head? = some 45 then (s.take 20).foldl stepV 0 else IntKind.i64.wrap (0 - (s.take 20).foldl stepV 0)
theorem stepV_rng {acc c : Int} (h : i64R acc) : i64R (stepV acc c) := by
 unfold stepV;split
 · exact wrap_rng _
 · exact h
theorem foldV_rng : ∀ (l : List Int) {acc : Int}, i64R acc -> i64R (l.foldl stepV acc)
 | [], _, h => h
 | c :: l, _, h => foldV_rng l (stepV_rng h)
theorem valI_rng (s : List Int) : i64R (valI s) := by
 unfold valI;split
 · exact foldV_rng _ ⟨by decide, by decide⟩
 · exact wrap_rng _
theorem foldV_dec : ∀ (u : Nat), u <= 9223372036854775808 -> (intT (Lib.decDigits u)).foldl stepV 0 = -(u : Int) := by
 intro u
 induction u using Nat.strongRecOn with
 | _ u ih =>
  intro hu
  have step : ∀ (a : Nat) (d : Nat), d < 10 -> a * 10 + d <= 9223372036854775808 -> stepV (-(a : Int)) ((UInt8.ofNat (48 + d)).toNat : Int) = -((a * 10 + d : Nat) : Int) := by
   intro a d hd ha
   have e : (UInt8.ofNat (48 + d)).toNat = 48 + d := by rw [UInt8.toNat_ofNat']; omega
   rw [e, stepV, if_pos (by omega), i64W (x := 10 * -(a : Int)) ⟨by omega, by omega⟩, i64W ⟨by omega, by omega⟩]
   omega
  rw [Lib.decDigits]
  by_cases h : u < 10
  · rw [dif_pos h]
    have := step 0 u h (by omega)
    simp only [intT, List.map_cons, List.map_nil, List.foldl_cons, List.foldl_nil]
    rw [show (0 : Int) = -((0 : Nat) : Int) by omega, this]; omega
  · rw [dif_neg h, intT, List.map_append, List.foldl_append]
    have h1 := ih (u / 10) (by omega) (by omega)
    rw [intT] at h1;rw [h1];simp only [List.map_cons, List.map_nil, List.foldl_cons, List.foldl_nil]
    rw [step (u / 10) (u % 10) (by omega) (by omega)]
    omega
theorem nDigits_lt : ∀ (k u : Nat), 1 <= k -> u < 10 ^ k -> Lib.nDigits u <= k
 | 0, _, h, _ => absurd h (by decide)
 | k + 1, u, _, h => by
  by_cases hu : u < 10
  · rw [Lib.nDigits_small hu]; omega
  · rw [Lib.nDigits_big hu]
    have hk : 1 <= k := by
     rcases Nat.eq_zero_or_pos k with rfl | hk
     · exact absurd (by simpa using h) hu
     · exact hk
    rw [Nat.pow_succ] at h
    have := nDigits_lt k (u / 10) hk (by omega)
    omega
theorem nDigits_le {u : Nat} (h : u <= 9223372036854775808) : Lib.nDigits u <= 19 := nDigits_lt 19 u (by decide) (by
 have : (10 : Nat) ^ 19 = 10000000000000000000 := by decide
 omega)
theorem valI_itoa {n : Int} (h : i64R n) : valI (intT (Lib.itoa n)) = n := by
 obtain ⟨h1, h2⟩ := h;unfold Lib.itoa;split
 · rename_i hn
   have hl := nDigits_le (u := n.natAbs) (by omega)
   rw [<- Lib.decDigits_length] at hl
   rw [valI, if_pos (by rfl)]
   rw [List.take_of_length_le (by simp only [intT, List.map_cons, List.length_cons, List.length_map]; omega), intT, List.map_cons, List.foldl_cons]
   rw [show stepV 0 ((45 : UInt8).toNat : Int) = 0 by decide]
   have := foldV_dec n.natAbs (by omega)
   rw [intT] at this
   rw [this]; omega
 · have hl := nDigits_le (u := n.toNat) (by omega)
   rw [<- Lib.decDigits_length] at hl;rw [valI, if_neg ?_]
   · rw [List.take_of_length_le (by simp only [intT, List.length_map]; omega), foldV_dec _ (by omega), i64W ⟨by omega, by omega⟩]
     omega
   · intro hh
     obtain ⟨hne, hd⟩ := dec_digits n.toNat
     cases hq : Lib.decDigits n.toNat with
     | nil => exact hne hq
     | cons c r =>
      rw [hq] at hh hd
      have := hd c (by simp)
      simp only [intT, List.map_cons, List.head?_cons, Option.some.injEq] at hh;omega
theorem nib_hex {n : Nat} (h : n < 16) : nibI ((hexC n).toNat : Int) = n := by
 rw [hexC_nat h, nibI];split
 · rw [if_pos (by omega)]; omega
 · rw [if_neg (by omega), if_pos (by omega)]; omega
theorem pair_hex : ∀ {bs : List Int}, byteL bs -> pairI (intT (bs.flatMap hex2)) = bs
 | [], _ => rfl
 | b :: r, h => by
  have hb := h b (by simp)
  have ih := pair_hex (bs := r) fun z hz => h z (List.mem_cons_of_mem _ hz);rw [List.flatMap_cons, hex2]
  show pairI (((hexC (b.toNat / 16)).toNat : Int) :: ((hexC (b.toNat % 16)).toNat : Int) :: intT (r.flatMap hex2)) = _
  rw [pairI, nib_hex (by omega), nib_hex (by omega), ih]
  congr 1
  omega
def unI (s : ByteArray) : List Int := pairI ((strL s).drop 1)
theorem unI_word {bs : List Int} (h : byteL bs) : unI (strT (wordT bs)) = bs := by
 rw [unI, strL_tx, tx_strT, wordT, intT, List.map_cons, List.drop_succ_cons, List.drop_zero];exact pair_hex h
theorem nib_byte (x y : Int) : 0 <= 16 * nibI x + nibI y /\ 16 * nibI x + nibI y <= 255 := by
 have := nibI_rng x;have := nibI_rng y;omega
theorem pairI_bytes : ∀ (l : List Int), byteL (pairI l) /\ (pairI l).length <= l.length
 | [] => ⟨byteL_nil, Nat.le_refl _⟩
 | [_] => ⟨byteL_nil, Nat.zero_le _⟩
 | x :: y :: r => by
  obtain ⟨h1, h2⟩ := pairI_bytes r
  refine ⟨fun z hz => ?_, by rw [pairI]; simp only [List.length_cons]; omega⟩
  rw [pairI] at hz
  rcases List.mem_cons.1 hz with rfl | hz
  · exact nib_byte x y
  · exact h1 z hz
theorem unI_ok (s : ByteArray) : byteL (unI s) /\ (unI s).length <= s.size := by
 obtain ⟨h1, h2⟩ := pairI_bytes ((strL s).drop 1);refine ⟨h1, Nat.le_trans h2 ?_⟩
 rw [List.length_drop, strL_len]; omega
def firstI (s : ByteArray) : Option Int := (strL s).head?
def stepQ (r : Rq) (t : Int) (s : ByteArray) : Rq :=
 if t = 1 then r
 else if t = 2 then (if firstI s = some 37 then { r with name := strB (unI s) } else { r with name := s })
 else if t = 10 then { r with val := valI (strL s) }
 else if t = 11 then { r with fed := unI s }
 else setN r t (valI (strL s))
def runQ : List Int -> List ByteArray -> Rq -> Rq
 | t :: ts, s :: ss, r => runQ ts ss (stepQ r t s)
 | _, _, r => r
def qKind (ws : List ByteArray) : Int := idxL kindsN (ws.headD ⟨#[]⟩)
def qWhat (ws : List ByteArray) : Int := if qKind ws = 7 /\ 1 < ws.length then idxL asksN ((ws[1]?).getD ⟨#[]⟩) else 0
def q0 (ws : List ByteArray) : Rq := { zeroRq with kind := qKind ws, what := qWhat ws }
def askOK (ws : List ByteArray) : Bool := (tagL (qKind ws) (qWhat ws)).isSome && decide (((tagL (qKind ws) (qWhat ws)).getD []).length = ws.length - 1)
def askQW (ws : List ByteArray) : Rq × Bool :=
 if askOK ws then (runQ ((tagL (qKind ws) (qWhat ws)).getD []) (ws.drop 1) (q0 ws), true) else (q0 ws, false)
theorem idx_rng {l : List ByteArray} (h : l.length <= 100) (s : ByteArray) : 0 <= idxL l s /\ idxL l s <= 255 := by
 unfold idxL;split
 · rename_i i hi
   have := (List.findIdx?_eq_some_iff_getElem.1 hi).1;rw [List.length_drop] at this;omega
 · omega
theorem stepQ_ok {r : Rq} (h : smRq r) (t : Int) {s : ByteArray} (hs : s.size <= 1000000) : smRq (stepQ r t s) := by
 obtain ⟨⟨k1, k2, k3, k4, k5, k6, k7, k8, k9, k10, k11⟩, h2, h3⟩ := h;obtain ⟨u1, u2⟩ := unI_ok s;have hq := valI_rng (strL s);unfold stepQ;split
 · exact ⟨⟨k1, k2, k3, k4, k5, k6, k7, k8, k9, k10, k11⟩, h2, h3⟩
 · split
   · split
     · refine ⟨⟨k1, k2, k3, k4, k5, k6, k7, k8, k9, k10, k11⟩, ?_, h3⟩
       show (strB (unI s)).size <= _
       rw [strB_len]; omega
     · exact ⟨⟨k1, k2, k3, k4, k5, k6, k7, k8, k9, k10, k11⟩, hs, h3⟩
   · split
     · exact ⟨⟨k1, k2, k3, k4, k5, k6, k7, k8, k9, hq, k11⟩, h2, h3⟩
     · split
       · exact ⟨⟨k1, k2, k3, k4, k5, k6, k7, k8, k9, k10, u1⟩, h2, by show (unI s).length <= _; omega⟩
       · unfold setN
         repeat' split
         · exact ⟨⟨k1, k2, hq, k4, k5, k6, k7, k8, k9, k10, k11⟩, h2, h3⟩
         · exact ⟨⟨k1, k2, k3, hq, k5, k6, k7, k8, k9, k10, k11⟩, h2, h3⟩
         · exact ⟨⟨k1, k2, k3, k4, hq, k6, k7, k8, k9, k10, k11⟩, h2, h3⟩
         · exact ⟨⟨k1, k2, k3, k4, k5, hq, k7, k8, k9, k10, k11⟩, h2, h3⟩
         · exact ⟨⟨k1, k2, k3, k4, k5, k6, hq, k8, k9, k10, k11⟩, h2, h3⟩
         · exact ⟨⟨k1, k2, k3, k4, k5, k6, k7, hq, k9, k10, k11⟩, h2, h3⟩
         · exact ⟨⟨k1, k2, k3, k4, k5, k6, k7, k8, hq, k10, k11⟩, h2, h3⟩
theorem runQ_ok : ∀ (ts : List Int) (ss : List ByteArray) {r : Rq}, smRq r -> (∀ s ∈ ss, s.size <= 1000000) -> smRq (runQ ts ss r)
 | [], _, r, h, _ => by simp only [runQ]; exact h
 | _ :: _, [], r, h, _ => by simp only [runQ]; exact h
 | t :: ts, s :: ss, r, h, hs => runQ_ok ts ss (stepQ_ok h t (hs s (by simp))) fun x hx => hs x (by simp [hx])
theorem q0_ok (ws : List ByteArray) : smRq (q0 ws) := by
 refine ⟨⟨?_, ?_, ?_, ?_, ?_, ?_, ?_, ?_, ?_, ?_, byteL_nil⟩, Nat.zero_le _, Nat.zero_le _⟩
 · exact idx_rng (by decide) _
 · show 0 <= qWhat ws /\ qWhat ws <= 255
   unfold qWhat;split
   · exact idx_rng (by decide) _
   · omega
 all_goals exact i64R_zero
theorem askQ_ok {ws : List ByteArray} (hws : ∀ w ∈ ws, w.size <= 1000000) : smRq (askQW ws).1 := by
 unfold askQW;split
 · exact runQ_ok _ _ (q0_ok ws) fun s hs => hws s (List.mem_of_mem_drop hs)
 · exact q0_ok ws
theorem name_first {s : List Int} (h : nameB s = true) : s.head? ≠ some 37 := by
 intro hh
 cases s with
 | nil => cases hh
 | cons c r =>
  simp only [List.head?_cons, Option.some.injEq] at hh;subst hh;rw [nameB] at h;simp at h
theorem stepQ_word {r h : Rq} (hr : okRq r) (hf : byteL r.fed) {t : Int} (ht : 2 <= t /\ t <= 11) : stepQ h t (strT (fieldT r t)) = copyT r h t := by
 have num : ∀ {n : Int}, i64R n -> valI (strL (strT (Lib.itoa n))) = n := fun hn => by rw [strL_tx, tx_strT, valI_itoa hn]
 rcases (by omega : t = 2 \/ t = 3 \/ t = 4 \/ t = 5 \/ t = 6 \/ t = 7 \/ t = 8 \/ t = 9 \/ t = 10 \/ t = 11) with rfl | rfl | rfl | rfl | rfl | rfl | rfl | rfl | rfl | rfl
 · have e : fieldT r 2 = if nameB (strL r.name) then tx r.name else wordT (strL r.name) := rfl
   rw [e]
   cases hn : nameB (strL r.name) with
   | true =>
    simp only [if_true, strT_tx]
    show (if firstI r.name = some 37 then _ else _) = _
    rw [if_neg (show ¬ firstI r.name = some 37 from name_first hn)]; rfl
   | false =>
    simp only [Bool.false_eq_true, if_false]
    show (if firstI (strT (wordT (strL r.name))) = some 37 then ({ h with name := strB (unI (strT (wordT (strL r.name)))) } : Rq) else { h with name := strT (wordT (strL r.name)) }) = _
    rw [if_pos (by rw [firstI, strL_tx, tx_strT]; rfl), unI_word (strL_bytes _), strB_strLS]; rfl
 · show setN h 3 (valI (strL (strT (Lib.itoa r.p3)))) = _
   rw [num hr.p3]; rfl
 · show setN h 4 (valI (strL (strT (Lib.itoa r.p4)))) = _
   rw [num hr.p4]; rfl
 · show setN h 5 (valI (strL (strT (Lib.itoa r.p5)))) = _
   rw [num hr.p5]; rfl
 · show setN h 6 (valI (strL (strT (Lib.itoa r.p6)))) = _
   rw [num hr.p6]; rfl
 · show setN h 7 (valI (strL (strT (Lib.itoa r.p7)))) = _
   rw [num hr.p7]; rfl
 · show setN h 8 (valI (strL (strT (Lib.itoa r.p8)))) = _
   rw [num hr.p8]; rfl
 · show setN h 9 (valI (strL (strT (Lib.itoa r.p9)))) = _
   rw [num hr.p9]; rfl
 · show ({ h with val := valI (strL (strT (Lib.itoa r.val))) } : Rq) = _
   rw [num hr.val]; rfl
 · show ({ h with fed := unI (strT (wordT r.fed)) } : Rq) = _
   rw [unI_word hf]; rfl
theorem runQ_words {r : Rq} (hr : okRq r) (hf : byteL r.fed) : ∀ (ts : List Int) (h : Rq), (∀ t ∈ ts, 2 <= t /\ t <= 11) -> runQ ts (ts.map fun t => strT (fieldT r t)) h = ts.foldl (copyT r) h
 | [], h, _ => rfl
 | t :: ts, h, ht => by
  rw [List.map_cons, runQ, stepQ_word hr hf (ht t (by simp)), runQ_words hr hf ts _ fun s hs => ht s (by simp [hs])]
  rfl
theorem idx_kind : ∀ {k : Int}, 0 <= k -> k <= 9 -> idxL kindsN (nameS k) = k := by
 have : ∀ k : Fin 10, idxL kindsN (nameS k.val) = k.val := by decide +kernel
 intro k h0 h1
 have := this ⟨k.toNat, by omega⟩
 simp only at this
 rw [Int.toNat_of_nonneg h0] at this;exact this
theorem idx_ask : ∀ {k : Int}, 0 <= k -> k <= 5 -> idxL asksN (askS k) = k := by
 have : ∀ k : Fin 6, idxL asksN (askS k.val) = k.val := by decide +kernel
 intro k h0 h1
 have := this ⟨k.toNat, by omega⟩
 simp only at this
 rw [Int.toNat_of_nonneg h0] at this;exact this
theorem askQ_words {r : Rq} (hr : okRq r) (hf : byteL r.fed) (h : rightR r = true) : askQW (wordsL r) = (r, true) := by
 rw [right_eq hr, rightS] at h
 cases ht : tagL r.kind r.what with
 | none => rw [ht] at h; cases h
 | some l =>
  rw [ht] at h;simp only [Bool.and_eq_true] at h;have hs := same_eq h.2.2.2
  have hw : wordsL r = nameS r.kind :: l.map fun t => strT (fieldT r t) := by rw [wordsL, tagsR, ht]; rfl
  rcases tag_shape ht with ⟨h7, hw5, q, rfl, hq⟩ | ⟨h7, hk, hl⟩
  · have hK : qKind (wordsL r) = 7 := by
     rw [qKind, hw, h7]; exact idx_kind (k := 7) (by decide) (by decide)
    have hQ : qWhat (wordsL r) = r.what := by
     rw [qWhat, if_pos ⟨hK, by rw [hw]; simp⟩, hw]
     simp only [List.map_cons, List.getElem?_cons_succ, List.getElem?_cons_zero, Option.getD_some]
     rw [show fieldT r 1 = tx (askS r.what) from rfl, strT_tx]
     exact idx_ask (by omega) (by omega)
    have ht' : tagL (qKind (wordsL r)) (qWhat (wordsL r)) = some (1 :: q) := by rw [hK, hQ, <- h7, ht]
    have hok : askOK (wordsL r) = true := by rw [askOK, ht', hw]; simp
    have h0 : q0 (wordsL r) = copyT r (had0 r) 1 := by rw [q0, hK, hQ, <- h7]; rfl
    rw [askQW, hok, ht', if_pos rfl, h0, hw];simp only [Option.getD_some, List.drop_succ_cons, List.drop_zero, List.map_cons, runQ]
    rw [show ∀ s, stepQ (copyT r (had0 r) 1) 1 s = copyT r (had0 r) 1 from fun s => rfl, runQ_words hr hf q _ hq]
    rw [List.foldl_cons] at hs;rw [hs]
  · have hK : qKind (wordsL r) = r.kind := by
     rw [qKind, hw]; exact idx_kind (by omega) (by omega)
    have hQ : qWhat (wordsL r) = 0 := by rw [qWhat, if_neg (by rw [hK]; exact fun hh => h7 hh.1)]
    have hwz : r.what = 0 := by
     have key : ∀ (l : List Int) (h : Rq), (∀ t ∈ l, 2 <= t /\ t <= 11) -> (l.foldl (copyT r) h).what = h.what := by
      intro l
      induction l with
      | nil => intro h _; rfl
      | cons t l ih =>
       intro h hl
       rw [List.foldl_cons, ih _ fun s hs => hl s (by simp [hs])]
       have := hl t (by simp)
       unfold copyT
       rw [if_neg (by omega)]
       repeat' split
       all_goals rfl
     have := key l (had0 r) hl;rw [hs] at this;exact this
    have ht' : tagL (qKind (wordsL r)) (qWhat (wordsL r)) = some l := by rw [hK, hQ, <- hwz, ht]
    have hok : askOK (wordsL r) = true := by rw [askOK, ht', hw]; simp
    rw [askQW, hok, ht', if_pos rfl, hw];simp only [Option.getD_some, List.drop_succ_cons, List.drop_zero]
    rw [runQ_words hr hf l _ hl, <- hw, show q0 (wordsL r) = had0 r by rw [q0, hK, hQ]; rfl, hs]
theorem wr_i32 {n : Int} {K : Int -> Prop} (h0 : -2147483648 <= n) (h1 : n <= 2147483647) (h : K n) : Wr .i32 n K := ⟨n, IntWalk.i32_in _ ⟨h0, h1⟩, h⟩
theorem dec_step {k : Int} (h0 : k <= 0) (t : Tx) : (0 < (-k.tdiv 10) /\ Lib.decDigits (-k).toNat ++ t = Lib.decDigits (-k.tdiv 10).toNat ++ (UInt8.ofNat (48 - k.tmod 10).toNat :: t)) \/ (k.tdiv 10 = 0 /\ Lib.decDigits (-k).toNat ++ t = UInt8.ofNat (48 - k.tmod 10).toNat :: t) := by
 obtain ⟨u, rfl⟩ : ∃ u : Nat, k = -(u : Int) := ⟨(-k).toNat, by omega⟩
 have e1 : (-(u : Int)).tdiv 10 = -((u / 10 : Nat) : Int) := by
  rw [Int.neg_tdiv, Int.tdiv_eq_ediv_of_nonneg (by omega)]; omega
 have e2 : (-(u : Int)).tmod 10 = -((u % 10 : Nat) : Int) := by
  rw [Int.neg_tmod, Int.tmod_eq_emod_of_nonneg (by omega)]; omega
 rw [e1, e2, Lib.decDigits]
 have e3 : (-(-(u : Int))).toNat = u := by omega
 have e4 : (48 - -((u % 10 : Nat) : Int)).toNat = 48 + u % 10 := by omega
 have e5 : (-(-((u / 10 : Nat) : Int))).toNat = u / 10 := by omega
 rw [e4, e5]
 by_cases h : u < 10
 · refine .inr ⟨by omega, ?_⟩
   rw [dif_pos (by omega), e3, Nat.mod_eq_of_lt h]; rfl
 · refine .inl ⟨by omega, ?_⟩
   rw [dif_neg (by omega), e3, List.append_assoc]; rfl
theorem tx_one (b : UInt8) (s : ByteArray) : tx ((⟨#[b]⟩ : ByteArray) ++ s) = b :: tx s := by simp [tx]
theorem tx_nil_iff (s : ByteArray) : tx s = [] ↔ s = ⟨#[]⟩ := by
 constructor
 · intro h
   have : strT (tx s) = strT [] := by rw [h]
   rw [strT_tx] at this;exact this
 · rintro rfl; rfl
set_option maxHeartbeats 1000000 in
theorem ct97 (n : Int) (hn : i64R n) (I : Mem) : Ct Tryz.prog (fnv 97) #[.int .i64 n] I (fun v _ => v = .string (strT (Lib.itoa n))) := by
 obtain ⟨D, hD⟩ : ∃ D : ByteArray, D = strT (Lib.itoa n) := ⟨_, rfl⟩;rw [<- hD];obtain ⟨WI, hWI⟩ : ∃ f : Int -> ByteArray -> Prop, f = fun k s => -9223372036854775808 <= k /\ k <= 0 /\ ((k = 0 /\ tx s = Lib.decDigits n.natAbs) \/ ((tx s = [] \/ k < 0) /\ Lib.decDigits n.natAbs = Lib.decDigits (-k).toNat ++ tx s)) := ⟨_, rfl⟩
 obtain ⟨M, hM⟩ : ∃ f : Int -> ByteArray -> Nat, f = fun k s => 2 * (-k).toNat + (if tx s = [] then 1 else 0) := ⟨_, rfl⟩
 refine viaR (ct_via (A := { loops := [(4, ⟨[(0, .sh (.int .i64)), (3, .sh .str)], [], [], fun vals _ _ _ => match vals with | [.int .i64 k, .string s] => WI k s | _ => False, fun vals _ => match vals with | [.int .i64 k, .string s] => M k s | _ => 0⟩), (9, ⟨[(0, .sh (.int .i64)), (4, .sh .str)], [], [], fun vals _ _ _ => match vals with | [.int .i64 k, .string s] => WI k s | _ => False, fun vals _ => match vals with | [.int .i64 k, .string s] => M k s | _ => 0⟩)] }) Tryz.func97 rfl Tryz.call97 rfl rfl) (Br (decide (0 <= n)) (Wr .i64 (0 - n) (fun c => WI c ⟨#[]⟩ /\ ∀ (a : Mem), Mem -> I.le a -> ∀ (b : Int) (q : ByteArray), WI b q -> Br (q.toList == (ByteArray.mk #[]).toList) ((10 : Int) ≠ 0 /\ Wr .i64 (48 - b.tmod 10) fun d => Wr .i32 d fun e => ∃ f, (f.toNat : Int) = e /\ e < 128 /\ 1 + q.size <= 4611686018427387904 /\ (10 : Int) ≠ 0 /\ Wr .i64 (b.tdiv 10) fun g => WI g (⟨#[f]⟩ ++ q) /\ M g (⟨#[f]⟩ ++ q) < M b q) (Br (decide (b < 0)) ((10 : Int) ≠ 0 /\ Wr .i64 (48 - b.tmod 10) fun d => Wr .i32 d fun e => ∃ f, (f.toNat : Int) = e /\ e < 128 /\ 1 + q.size <= 4611686018427387904 /\ (10 : Int) ≠ 0 /\ Wr .i64 (b.tdiv 10) fun g => WI g (⟨#[f]⟩ ++ q) /\ M g (⟨#[f]⟩ ++ q) < M b q) (Value.string q = .string D)))) (WI n ⟨#[]⟩ /\ ∀ (a : Mem), Mem -> I.le a -> ∀ (b : Int) (q : ByteArray), WI b q -> Br (decide (b < 0)) ((10 : Int) ≠ 0 /\ Wr .i64 (48 - b.tmod 10) fun c => Wr .i32 c fun d => ∃ e, (e.toNat : Int) = d /\ d < 128 /\ 1 + q.size <= 4611686018427387904 /\ (10 : Int) ≠ 0 /\ Wr .i64 (b.tdiv 10) fun f => WI f (⟨#[e]⟩ ++ q) /\ M f (⟨#[e]⟩ ++ q) < M b q) (1 + q.size <= 4611686018427387904 /\ Value.string (⟨#[45]⟩ ++ q) = .string D))) (by kernel_rfl) ?_
 have hrem : ∀ {k : Int}, -9223372036854775808 <= k -> k <= 0 -> k.tmod 10 <= 0 /\ -9 <= k.tmod 10 /\ k <= k.tdiv 10 /\ k.tdiv 10 <= 0 /\ (k < 0 -> k < k.tdiv 10) := fun {k} h0 h1 => by
  obtain ⟨u, rfl⟩ : ∃ u : Nat, k = -(u : Int) := ⟨(-k).toNat, by omega⟩
  rw [Int.neg_tdiv, Int.tdiv_eq_ediv_of_nonneg (by omega), Int.neg_tmod, Int.tmod_eq_emod_of_nonneg (by omega)]
  omega
 have hdl : (Lib.decDigits n.natAbs).length <= 19 := by
  rw [Lib.decDigits_length]
  exact nDigits_le (by have := hn.1; have := hn.2; omega)
 have hts : ∀ s : ByteArray, (tx s).length = s.size := fun s => Array.length_toList
 have go : ∀ (k : Int) (s : ByteArray), WI k s -> (tx s = [] \/ k < 0) -> (10 : Int) ≠ 0 /\ Wr IntKind.i64 (48 - k.tmod 10) fun d => Wr IntKind.i32 d fun e => ∃ f : UInt8, ↑f.toNat = e /\ e < 128 /\ 1 + s.size <= 4611686018427387904 /\ (10 : Int) ≠ 0 /\ Wr IntKind.i64 (k.tdiv 10) fun g => WI g ({ data := #[f] } ++ s) /\ M g ({ data := #[f] } ++ s) < M k s := by
  intro k s h hc;rw [hWI] at h;obtain ⟨h0, h1, h2⟩ := h;obtain ⟨r1, r2, r3, r4, r5⟩ := hrem h0 h1
  rcases h2 with ⟨hk, he⟩ | ⟨_, he⟩
  · rcases hc with hc | hc
    · rw [hc] at he
      exact absurd he.symm (dec_digits _).1
    · omega
  · have hsz : s.size <= 19 := by
     have := congrArg List.length he;rw [List.length_append, hts] at this;omega
    refine ⟨by decide, wr_i64 (by omega) (by omega) (wr_i32 (by omega) (by omega) ⟨UInt8.ofNat (48 - k.tmod 10).toNat, by rw [UInt8.toNat_ofNat']; omega, by omega, by omega, by decide, wr_i64 (by omega) (by omega) ⟨?_, ?_⟩⟩)⟩
    · rw [hWI]
      refine ⟨by omega, r4, ?_⟩
      rw [tx_one, he]
      rcases dec_step h1 (tx s) with ⟨d1, d2⟩ | ⟨d1, d2⟩
      · exact .inr ⟨.inr (by omega), d2⟩
      · exact .inl ⟨d1, d2.symm⟩
    · rw [hM]
      simp only [tx_one]
      rw [if_neg (by simp)]
      split
      · omega
      · rename_i hne
        have := r5 (hc.resolve_left hne);omega
 refine Br.mk (fun h => ?_) (fun h => ?_)
 · have h := of_decide_eq_true h
   refine wr_i64 (by have := hn.2; omega) (by omega) ⟨?_, fun _ _ _ k s hs => Br.mk (fun h1 => ?_) (fun h1 => Br.mk (fun h2 => ?_) (fun h2 => ?_))⟩
   · rw [hWI]
     refine ⟨by have := hn.2; omega, by omega, .inr ⟨.inl rfl, ?_⟩⟩
     rw [show (-(0 - n)).toNat = n.natAbs by omega]
     exact (List.append_nil _).symm
   · rw [str_eq] at h1
     exact go k s hs (.inl ((tx_nil_iff s).2 (of_decide_eq_true h1)))
   · exact go k s hs (.inr (of_decide_eq_true h2))
   · rw [str_eq] at h1
     have h1 := of_decide_eq_false h1;have h2 := of_decide_eq_false h2;rw [hWI] at hs
     obtain ⟨_, _, ⟨_, he⟩ | ⟨hc | hc, _⟩⟩ := hs
     · rw [hD, Lib.itoa, if_neg (by omega), show n.toNat = n.natAbs by omega, <- he, strT_tx]
     · exact absurd ((tx_nil_iff s).1 hc) h1
     · exact absurd hc h2
 · have h := of_decide_eq_false h
   refine ⟨?_, fun _ _ _ k s hs => Br.mk (fun h2 => ?_) (fun h2 => ?_)⟩
   · rw [hWI]
     refine ⟨hn.1, by omega, .inr ⟨.inl rfl, ?_⟩⟩
     rw [show (-n).toNat = n.natAbs by omega]
     exact (List.append_nil _).symm
   · exact go k s hs (.inr (of_decide_eq_true h2))
   · have h2 := of_decide_eq_false h2
     rw [hWI] at hs;obtain ⟨_, hk0, hs⟩ := hs
     have he : tx s = Lib.decDigits n.natAbs := by
      rcases hs with ⟨_, he⟩ | ⟨hc | hc, he⟩
      · exact he
      · rw [hc, List.append_nil, show k = 0 by omega] at he
        exfalso
        have h9 : (Lib.decDigits n.natAbs) = [48] := by rw [he, show ((-(0 : Int)).toNat) = 0 by decide, Lib.decDigits, dif_pos (by decide)]; rfl
        have h8 := parse_dec n.natAbs (by have := hn.1; omega)
        rw [h9, show ((48 : UInt8) :: []) = Lib.decDigits 0 from by rw [Lib.decDigits, dif_pos (by decide)]; rfl, parse_dec 0 (by decide)] at h8
        simp only [Lib.NumEnd.ok.injEq] at h8;omega
      · omega
     have hsz : s.size <= 19 := by rw [<- hts, he]; exact hdl
     refine ⟨by omega, ?_⟩
     rw [hD, Lib.itoa, if_pos (by omega), <- he]
     refine congrArg Value.string ?_;apply ByteArray.ext;simp [strT, tx]
theorem ct98 (r : Rq) (y : Value) (t : Int) (ht : 3 <= t /\ t <= 9) (I : Mem) :
 Ct Tryz.prog (fnv 98) #[.agg (rqV r y).toArray, .int .i64 t] I (fun v _ => v = .int .i64 (numR r t)) := by
 refine viaR (ct_via (A := { calls := [(23, .sym)] }) Tryz.func98 rfl Tryz.call98 rfl rfl) (Wr .i64 (t - 3) fun c => 0 <= c /\ c < 7 /\ ∃ n, [Value.int .i64 r.p3, .int .i64 r.p4, .int .i64 r.p5, .int .i64 r.p6, .int .i64 r.p7, .int .i64 r.p8, .int .i64 r.p9][0 + c.toNat * 1 + 0]? = some (.int .i64 n) /\ Value.int .i64 n = .int .i64 (numR r t)) (by kernel_rfl) ?_
 rcases (by omega : t = 3 \/ t = 4 \/ t = 5 \/ t = 6 \/ t = 7 \/ t = 8 \/ t = 9) with rfl | rfl | rfl | rfl | rfl | rfl | rfl
 all_goals exact wr_i64 (by omega) (by omega) ⟨by omega, by omega, _, rfl, rfl⟩
theorem str_first {s : ByteArray} {c : UInt8} (h : s.data.toList[0]? = some c) : firstI s = some (c.toNat : Int) := by
 rw [firstI, strL, <- List.head?_eq_getElem?] at *
 rw [List.head?_map, h]; rfl
theorem ct86 (s : ByteArray) (hs : s.size <= 1000000) (I : Mem) : Ct Tryz.prog (fnv 86) #[.string s] I (fun v _ => v = .int .i64 (valI (strL s))) := by
 obtain ⟨D, hD⟩ : ∃ D : Int, D = valI (strL s) := ⟨_, rfl⟩;rw [<- hD];obtain ⟨WI, hWI⟩ : ∃ f : Int -> Int -> Prop, f = fun (acc j : Int) => 0 <= j /\ j <= s.size /\ j <= 20 /\ i64R acc /\ acc = ((strL s).take j.toNat).foldl stepV 0 := ⟨_, rfl⟩;obtain ⟨MI, hMI⟩ : ∃ f : Bool -> Prop, f = fun b => (b = true ↔ (strL s).head? = some 45) := ⟨_, rfl⟩
 refine viaR (ct_via (A := { cuts := [(2, ⟨[(0, .keep), (3, .sh .bool)], [], [], fun vals _ _ _ => match vals with | [.bool b] => MI b | _ => False, fun _ _ => 0⟩)], loops := [(4, ⟨[(0, .keep), (3, .keep), (4, .sh (.int .i64)), (5, .sh (.int .i64))], [], [], fun vals _ _ _ => match vals with | [.int .i64 acc, .int .i64 j] => WI acc j | _ => False, fun vals _ => match vals with | [_, .int .i64 j] => (20 - j).toNat | _ => 0⟩)] }) Tryz.func86 rfl Tryz.call86 rfl rfl) (Br (decide (0 < (s.size : Int))) (∃ c, s.data.toList[0]? = some c /\ (0 : Int) <= 0 /\ Rf (SV.v (.string s)) /\ MI ((c.toNat : Int) == 45)) (Rf (SV.v (.string s)) /\ MI false) /\ ∀ (a : Mem), Mem -> I.le a -> ∀ (b : Bool), MI b -> (Rf (SV.v (.string s)) /\ Rf (SV.v (.bool b)) /\ WI 0 0) /\ ∀ (c : Mem), Mem -> a.le c -> ∀ (n d : Int), WI n d -> Br (decide (d < (s.size : Int))) (Br (decide (d < 20)) (∃ e, s.data.toList[d.toNat]? = some e /\ 0 <= d /\ Br (decide (48 <= (e.toNat : Int))) (∃ f, s.data.toList[d.toNat]? = some f /\ 0 <= d /\ Br (decide ((f.toNat : Int) <= 57)) (Wr .i64 (10 * n) (fun g => ∃ h, s.data.toList[d.toNat]? = some h /\ 0 <= d /\ Wr .i64 (h.toNat : Int) fun i => Wr .i64 (i - 48) fun j => Wr .i64 (g - j) fun k => Wr .i64 (d + 1) fun l => Rf (SV.v (.string s)) /\ Rf (SV.v (.bool b)) /\ WI k l /\ Int.toNat (20 - l) < Int.toNat (20 - d))) (Wr .i64 (d + 1) (fun g => Rf (SV.v (.string s)) /\ Rf (SV.v (.bool b)) /\ WI n g /\ Int.toNat (20 - g) < Int.toNat (20 - d)))) (Wr .i64 (d + 1) (fun f => Rf (SV.v (.string s)) /\ Rf (SV.v (.bool b)) /\ WI n f /\ Int.toNat (20 - f) < Int.toNat (20 - d)))) (Br b (Value.int .i64 n = .int .i64 D) (Wr .i64 (0 - n) (fun e => Value.int .i64 e = .int .i64 D)))) (Br b (Value.int .i64 n = .int .i64 D) (Wr .i64 (0 - n) (fun e => Value.int .i64 e = .int .i64 D)))) (by kernel_rfl) ?_
 have hsl := strL_len s;have hsd : s.data.toList.length = s.size := Array.length_toList;simp only [Rf, true_and];refine ⟨Br.mk (fun h => ?_) (fun h => ?_), fun I1 _ l1 b hb => ?_⟩
 · have h := of_decide_eq_true h
   obtain ⟨c, hc⟩ : ∃ c, s.data.toList[0]? = some c := ⟨_, List.getElem?_eq_getElem (by omega)⟩
   refine ⟨c, hc, by omega, ?_⟩
   have hf := str_first hc;rw [firstI] at hf;rw [hMI];simp only [hf, beq_iff_eq, Option.some.injEq]
 · have h := of_decide_eq_false h
   rw [hMI]
   have : strL s = [] := List.length_eq_zero_iff.1 (by omega)
   simp [this]
 rw [hMI] at hb
 refine ⟨by rw [hWI]; exact ⟨by omega, by omega, by omega, ⟨by decide, by decide⟩, rfl⟩, fun I2 _ l2 n j hj => ?_⟩
 rw [hWI] at hj;obtain ⟨h0, h1, h2, h3, h4⟩ := hj
 have leave : (s.size <= j \/ 20 <= j) -> Br b (Value.int IntKind.i64 n = Value.int IntKind.i64 D) (Wr IntKind.i64 (0 - n) fun e => Value.int IntKind.i64 e = Value.int IntKind.i64 D) := fun hh => by
  have ht : (strL s).take j.toNat = (strL s).take 20 := by
   rcases hh with hh | hh
   · rw [List.take_of_length_le (by omega), List.take_of_length_le (by omega)]
   · rw [show j.toNat = 20 by omega]
  rw [ht] at h4;refine Br.mk (fun hb1 => ?_) (fun hb1 => ⟨_, rfl, ?_⟩)
  · rw [hD, valI, if_pos (hb.1 hb1), h4]
  · rw [hD, valI, if_neg (fun h5 => by rw [hb.2 h5] at hb1; cases hb1), h4]
 refine Br.mk (fun hlt => Br.mk (fun hlt2 => ?_) (fun hge => leave (.inr (by have := of_decide_eq_false hge; omega)))) (fun hge => leave (.inl (by have := of_decide_eq_false hge; omega)))
 have hlt := of_decide_eq_true hlt;have hlt2 := of_decide_eq_true hlt2
 obtain ⟨c, hc⟩ : ∃ c, s.data.toList[j.toNat]? = some c := ⟨_, List.getElem?_eq_getElem (by omega)⟩
 have hc255 : c.toNat < 256 := c.toNat_lt;have hget : (strL s)[j.toNat]? = some (c.toNat : Int) := strL_get hc
 have htk : ((strL s).take (j + 1).toNat).foldl stepV 0 = stepV n c.toNat := by
  rw [show (j + 1).toNat = j.toNat + 1 by omega, List.take_add_one, hget, Option.toList_some, List.foldl_append, <- h4]; rfl
 have skip : ¬ (48 <= (c.toNat : Int) /\ (c.toNat : Int) <= 57) -> Wr IntKind.i64 (j + 1) fun g => WI n g /\ (20 - g).toNat < (20 - j).toNat := fun hn => by
  refine wr_i64 (by omega) (by omega) ⟨?_, by omega⟩
  rw [hWI]
  refine ⟨by omega, by omega, by omega, h3, ?_⟩
  rw [htk, stepV, if_neg hn]
 refine ⟨c, hc, h0, Br.mk (fun h5 => ⟨c, hc, h0, Br.mk (fun h6 => ?_) (fun h6 => skip (fun hh => of_decide_eq_false h6 hh.2))⟩) (fun h5 => skip (fun hh => of_decide_eq_false h5 hh.1))⟩;have h5 := of_decide_eq_true h5;have h6 := of_decide_eq_true h6
 refine ⟨_, rfl, c, hc, h0, wr_i64 (by omega) (by omega) (wr_i64 (by omega) (by omega) ⟨_, rfl, wr_i64 (by omega) (by omega) ⟨?_, by omega⟩⟩)⟩
 rw [hWI]
 refine ⟨by omega, by omega, by omega, wrap_rng _, ?_⟩
 rw [htk, stepV, if_pos ⟨h5, h6⟩]
def nameF (t : Tx) (b : Int) : Bool := nameEnd (nameGo (intT t) b)
theorem nameF_cons (c : UInt8) (t : Tx) (b : Int) : nameF (c :: t) b = (nameStep b c.toNat && nameF t c.toNat) := by
 show nameEnd (if nameStep b (c.toNat : Int) then nameGo (intT t) (c.toNat : Int) else none) = _
 cases nameStep b (c.toNat : Int) <;> rfl
theorem name_split : ∀ (t : Tx) (b : Int), nameF t b = match splitC 46 t with | x :: xs => nameF x b && xs.all (fun y => nameF y 46) | [] => false
 | [], b => by simp [splitC]
 | c :: r, b => by
  have ih := name_split r;rw [nameF_cons, splitC]
  by_cases hc : c = 46
  · subst hc
    rw [if_pos rfl]
    have h1 : nameStep b ((46 : UInt8).toNat : Int) = nameF [] b := by
     show (if (97 <= (46 : Int) /\ (46 : Int) <= 122) \/ (48 <= (46 : Int) /\ (46 : Int) <= 57) then true else if (46 : Int) = 45 then decide (b ≠ 46) else if (46 : Int) = 46 then decide (b ≠ 46) && decide (b ≠ 45) else false) = (decide (b ≠ 46) && decide (b ≠ 45))
     simp
    have h2 := ih 46;rw [h1]
    show (nameF [] b && nameF r 46) = (nameF [] b && (splitC 46 r).all fun y => nameF y 46)
    rw [h2]
    cases hs : splitC 46 r with
    | nil => exact absurd hs (splitC_ne 46 r)
    | cons x xs => rfl
  · rw [if_neg hc, ih]
    cases hs : splitC 46 r with
    | nil => exact absurd hs (splitC_ne 46 r)
    | cons x xs =>
     simp only
     rw [nameF_cons, Bool.and_assoc]
def okC (c : Int) : Prop := (97 <= c /\ c <= 122) \/ (48 <= c /\ c <= 57) \/ c = 45
theorem part_iff : ∀ (t : Tx) (b : Int), (46 : UInt8) ∉ t -> (nameF t b = true ↔ (t = [] -> b ≠ 46 /\ b ≠ 45) /\ (∀ c ∈ t, okC c.toNat) /\ (t.head? = some 45 -> b ≠ 46) /\ t.getLast? ≠ some 45)
 | [], b, _ => by
  show ((decide (b ≠ 46) && decide (b ≠ 45)) = true) ↔ _
  simp
 | c :: r, b, h => by
  have hc : c ≠ 46 := fun e => h (by simp [e])
  have hc' : (c.toNat : Int) ≠ 46 := fun e => hc (UInt8.toNat_inj.1 (by show c.toNat = 46; omega))
  have ih := part_iff r (c.toNat : Int) fun hr => h (List.mem_cons_of_mem _ hr);rw [nameF_cons, Bool.and_eq_true, ih]
  have h45 : c = 45 ↔ (c.toNat : Int) = 45 := ⟨fun e => by subst e; rfl, fun e => UInt8.toNat_inj.1 (by show c.toNat = 45; omega)⟩
  have hst : nameStep b c.toNat = true ↔ okC c.toNat /\ ((c.toNat : Int) = 45 -> b ≠ 46) := by
   unfold nameStep okC
   by_cases h1 : (97 <= (c.toNat : Int) /\ (c.toNat : Int) <= 122) \/ (48 <= (c.toNat : Int) /\ (c.toNat : Int) <= 57)
   · rw [if_pos h1]
     simp only [true_iff]
     exact ⟨by omega, by omega⟩
   · rw [if_neg h1]
     by_cases h2 : (c.toNat : Int) = 45
     · rw [if_pos h2, decide_eq_true_eq]; simp only [h2]; simp
     · rw [if_neg h2, if_neg hc']
       simp only [Bool.false_eq_true, false_iff];omega
  rw [hst]
  cases r with
  | nil =>
   simp only [List.mem_cons, List.not_mem_nil, or_false, forall_eq, List.head?_cons, List.head?_nil, List.getLast?_singleton, List.getLast?_nil, Option.some.injEq, false_implies, implies_true, true_and, forall_const, reduceCtorEq, not_false_eq_true, ne_eq, and_true, h45];constructor
   · rintro ⟨⟨h1, h2⟩, h3⟩; exact ⟨h1, h2, h3.2⟩
   · rintro ⟨h1, h2, h3⟩; exact ⟨⟨h1, h2⟩, hc', h3⟩
  | cons d r =>
   simp only [List.mem_cons, List.head?_cons, Option.some.injEq, List.getLast?_cons_cons, h45, reduceCtorEq, false_implies, true_and, ne_eq];constructor
   · rintro ⟨⟨h1, h2⟩, h3, h4, h5⟩
     refine ⟨fun x hx => ?_, h2, h5⟩
     rcases hx with rfl | hx
     · exact h1
     · exact h3 x hx
   · rintro ⟨h1, h2, h3⟩
     exact ⟨⟨h1 c (.inl rfl), h2⟩, fun x hx => h1 x (.inr hx), fun _ => hc', h3⟩
set_option maxHeartbeats 1000000 in
theorem ct126 (s : ByteArray) (hs : s.size <= 1000000) (I : Mem) :
 Ct Tryz.prog (fnv 126) #[.string s] I (fun v I' => ∃ l, WsL I' v l /\ l.map tx = splitC 46 (tx s)) := by
 obtain ⟨Q, hQ⟩ : ∃ f : Mem -> Value -> Prop, f = fun I' v => ∃ l, WsL I' v l /\ l.map tx = splitC 46 (tx s) := ⟨_, rfl⟩
 suffices h : Ct Tryz.prog (fnv 126) #[.string s] I (fun v I' => Q I' v) from h.mono fun v I' l hv => by rw [hQ] at hv; exact hv
 obtain ⟨WI, hWI⟩ : ∃ f : Int -> Int -> List Value -> Prop, f = fun (k j : Int) xs => 0 <= k /\ k <= j /\ j <= s.size + 1 /\ (xs.length : Int) <= j /\ ∃ L, xs = strs L /\ ((j <= s.size /\ (46 : UInt8) ∉ ((tx s).take j.toNat).drop k.toNat /\ splitC 46 (tx s) = L.map tx ++ splitC 46 ((tx s).drop k.toNat)) \/ (j = s.size + 1 /\ splitC 46 (tx s) = L.map tx)) := ⟨_, rfl⟩
 refine viaR (ct_via (A := { loops := [(4, ⟨[(0, .keep), (3, .row 0), (4, .sh (.int .i64)), (5, .sh (.int .i64))], [(0, .row)], [(3, 1, 9)], fun vals xss _ _ => match vals, xss with | [.int .i64 k, .int .i64 j], [xs] => WI k j xs | _, _ => False, fun vals _ => match vals with | [_, .int .i64 j] => (s.size + 2 - j).toNat | _ => 0⟩)] }) Tryz.func126 rfl Tryz.call126 rfl rfl) ((Rf (SV.v (.string s)) /\ (0 : Nat) = 0 /\ WI 0 0 []) /\ ∀ (a : Mem), Mem -> I.le a -> ∀ (x : List Value) (n b : Int), WI n b x -> Br (decide (b <= (s.size : Int))) (Br (b == (s.size : Int)) (0 <= n /\ n <= b /\ b <= (s.size : Int) /\ x.length = x.length * 1 /\ x.length + 1 <= 9223372036854775807 /\ (x.length + 1) * 16 <= 140737488355328 /\ Wr .i64 (b + 1) fun c => Wr .i64 (b + 1) fun d => Rf (SV.v (.string s)) /\ x.length + 1 = List.length (x ++ [.string (s.extract n.toNat b.toNat)]) /\ WI c d (x ++ [.string (s.extract n.toNat b.toNat)]) /\ Int.toNat ((s.size : Int) + 2 - d) < Int.toNat ((s.size : Int) + 2 - b)) (∃ c, s.data.toList[b.toNat]? = some c /\ 0 <= b /\ Br ((c.toNat : Int) == 46) (0 <= n /\ n <= b /\ b <= (s.size : Int) /\ x.length = x.length * 1 /\ x.length + 1 <= 9223372036854775807 /\ (x.length + 1) * 16 <= 140737488355328 /\ Wr .i64 (b + 1) fun d => Wr .i64 (b + 1) fun e => Rf (SV.v (.string s)) /\ x.length + 1 = List.length (x ++ [.string (s.extract n.toNat b.toNat)]) /\ WI d e (x ++ [.string (s.extract n.toNat b.toNat)]) /\ Int.toNat ((s.size : Int) + 2 - e) < Int.toNat ((s.size : Int) + 2 - b)) (Wr .i64 (b + 1) (fun d => Rf (SV.v (.string s)) /\ Rf x.length /\ WI n d x /\ Int.toNat ((s.size : Int) + 2 - d) < Int.toNat ((s.size : Int) + 2 - b))))) (∀ (c : Option Addr) (d : Nat) (e : Mem), a.le e -> RowM e c d 1 x -> Q e (.slice c x.length d))) (by kernel_rfl) ?_
 simp only [Rf, eq_self, true_and];have hsl : (tx s).length = s.size := Array.length_toList
 refine ⟨by rw [hWI]; exact ⟨by omega, by omega, by omega, by simp, [], rfl, .inl ⟨by omega, by simp, rfl⟩⟩, fun J _ lJ xs k j hj => Br.mk (fun hlt => ?_) (fun hge c d e le hr => ?_)⟩
 · have hlt := of_decide_eq_true hlt
   rw [hWI] at hj;obtain ⟨h0, h1, h2, h3, L, rfl, hc⟩ := hj
   rcases hc with ⟨_, hno, hsp⟩ | ⟨h4, _⟩
   · have hdt : ((tx s).take j.toNat).drop k.toNat ++ (tx s).drop j.toNat = (tx s).drop k.toNat := by
      rw [<- List.drop_append_of_le_length (by rw [List.length_take]; omega), List.take_append_drop]
     refine Br.mk (fun h4 => ?_) (fun h4 => ?_)
     · have h4 : j = (s.size : Int) := by simpa using h4
       refine ⟨by omega, by omega, by omega, by omega, by omega, by omega, wr_i64 (by omega) (by omega) (wr_i64 (by omega) (by omega) ⟨by simp, ?_, by omega⟩)⟩
       rw [hWI]
       refine ⟨by omega, by omega, by omega, by simp only [List.length_append, List.length_cons, List.length_nil]; omega, L ++ [s.extract k.toNat j.toNat], by simp [strs], .inr ⟨by omega, ?_⟩⟩
       have hd : (tx s).drop j.toNat = [] := List.drop_eq_nil_of_le (by omega)
       rw [hd, List.append_nil] at hdt;rw [hsp, <- hdt, splitC_one _ _ hno, List.map_append, List.map_cons, List.map_nil, tx_extract]
     · have h4 : j ≠ (s.size : Int) := by simpa using h4
       obtain ⟨x, hx⟩ : ∃ x, (tx s)[j.toNat]? = some x := ⟨_, List.getElem?_eq_getElem (by omega)⟩
       have hcons : (tx s).drop j.toNat = x :: (tx s).drop (j + 1).toNat := by
        rw [List.drop_eq_getElem_cons (by omega), show j.toNat + 1 = (j + 1).toNat by omega]
        rw [List.getElem?_eq_getElem (by omega)] at hx
        rw [Option.some.inj hx]
       refine ⟨x, hx, by omega, Br.mk (fun h5 => ?_) (fun h5 => ?_)⟩
       · have h5 : x = 46 := by
          have : (x.toNat : Int) = 46 := by simpa using h5
          exact UInt8.toNat_inj.1 (by show x.toNat = 46; omega)
         subst h5
         refine ⟨by omega, by omega, by omega, by omega, by omega, by omega, wr_i64 (by omega) (by omega) (wr_i64 (by omega) (by omega) ⟨by simp, ?_, by omega⟩)⟩
         rw [hWI]
         refine ⟨by omega, by omega, by omega, by simp only [List.length_append, List.length_cons, List.length_nil]; omega, L ++ [s.extract k.toNat j.toNat], by simp [strs], .inl ⟨by omega, by rw [List.drop_take]; simp, ?_⟩⟩
         rw [hsp, <- hdt, hcons, splitC_hit _ _ _ hno, List.map_append, List.map_cons, List.map_nil, tx_extract, List.append_assoc]; rfl
       · have h5 : x ≠ 46 := fun e => by subst e; simp at h5
         refine wr_i64 (by omega) (by omega) ⟨?_, by omega⟩
         rw [hWI]
         refine ⟨h0, by omega, by omega, by omega, L, rfl, .inl ⟨by omega, ?_, hsp⟩⟩
         rw [show (j + 1).toNat = j.toNat + 1 by omega, List.take_add_one, hx, List.drop_append_of_le_length (by rw [List.length_take]; omega)]
         intro hm
         rcases List.mem_append.1 hm with hm | hm
         · exact hno hm
         · simp at hm; exact h5 hm.symm
   · omega
 · have hge := of_decide_eq_false hge
   rw [hWI] at hj;obtain ⟨h0, h1, h2, h3, L, rfl, hc⟩ := hj
   rcases hc with ⟨h4, _⟩ | ⟨_, hsp⟩
   · omega
   · rw [hQ]
     have h1 := hr.1
     exact ⟨L, ⟨c, _, d, rfl, hr.sl (by omega) (by simp), by omega, hr.2.1⟩, hsp.symm⟩
theorem name_all (t : Tx) : nameF t 46 = (splitC 46 t).all fun y => nameF y 46 := by
 rw [name_split]
 cases hs : splitC 46 t with
 | nil => exact absurd hs (splitC_ne 46 t)
 | cons x xs => rfl
theorem part_of {t : Tx} (h : (46 : UInt8) ∉ t) : nameF t 46 = true ↔ t ≠ [] /\ ∀ (i : Nat) (c : UInt8), t[i]? = some c -> okC c.toNat /\ (c = 45 -> i ≠ 0 /\ i + 1 ≠ t.length) := by
 rw [part_iff t 46 h, List.head?_eq_getElem?, List.getLast?_eq_getElem?];constructor
 · rintro ⟨h1, h2, h3, h4⟩
   refine ⟨fun e => (h1 e).1 rfl, fun i c hc => ⟨h2 c (List.mem_of_getElem? hc), fun e => ⟨fun h0 => ?_, fun h0 => ?_⟩⟩⟩
   · subst h0; subst e; exact absurd rfl (h3 hc)
   · subst e
     rw [show i = t.length - 1 by omega] at hc
     exact h4 hc
 · rintro ⟨h1, h2⟩
   refine ⟨fun e => absurd e h1, fun c hc => ?_, fun h0 => ?_, fun h0 => ?_⟩
   · obtain ⟨i, hi, rfl⟩ := List.mem_iff_getElem.1 hc
     exact (h2 i _ (List.getElem?_eq_getElem hi)).1
   · exact absurd rfl ((h2 0 45 h0).2 rfl).1
   · have hl := (List.getElem?_eq_some_iff.1 h0).1
     have := ((h2 _ 45 h0).2 rfl).2;omega
set_option maxHeartbeats 1000000 in
theorem ct127 (s : ByteArray) (hs : s.size <= 1000000) (h46 : (46 : UInt8) ∉ tx s) (I : Mem) : Ct Tryz.prog (fnv 127) #[.string s] I (fun v _ => v = .bool (nameF (tx s) 46)) := by
 obtain ⟨D, hD⟩ : ∃ D : Bool, D = nameF (tx s) 46 := ⟨_, rfl⟩;rw [<- hD];obtain ⟨WI, hWI⟩ : ∃ f : Int -> Prop, f = fun (j : Int) => 0 <= j /\ j <= s.size /\ ∀ (i : Nat) (c : UInt8), (i : Int) < j -> (tx s)[i]? = some c -> okC c.toNat /\ (c = 45 -> i ≠ 0 /\ i + 1 ≠ (tx s).length) := ⟨_, rfl⟩;obtain ⟨XI, hXI⟩ : ∃ f : Int -> Prop, f = fun (j : Int) => ∀ c : UInt8, (tx s)[j.toNat]? = some c -> c = 45 -> j ≠ 0 /\ j + 1 ≠ s.size := ⟨_, rfl⟩
 refine viaR (ct_via (A := { loops := [(2, ⟨[(0, .keep), (3, .sh (.int .i64))], [], [], fun vals _ _ _ => match vals with | [.int .i64 j] => WI j | _ => False, fun vals _ => match vals with | [.int .i64 j] => (s.size - j).toNat | _ => 0⟩)], cuts := [(6, ⟨[(0, .keep), (3, .kv)], [], [], fun vals _ _ _ => match vals with | [.int .i64 j] => XI j | _ => False, fun _ _ => 0⟩)] }) Tryz.func127 rfl Tryz.call127 rfl rfl) ((Rf (SV.v (.string s)) /\ WI 0) /\ ∀ (a : Mem), Mem -> I.le a -> ∀ (n : Int), WI n -> Br (decide (n < (s.size : Int))) ((∃ c, s.data.toList[n.toNat]? = some c /\ 0 <= n /\ Br ((c.toNat : Int) == 45) (Br (n == 0) (Value.bool false = .bool D) (Wr .i64 ((s.size : Int) - 1) (fun b => Br (n == b) (Value.bool false = .bool D) (Rf (SV.v (.string s)) /\ Rf (SV.v (.int .i64 n)) /\ XI n)))) (Rf (SV.v (.string s)) /\ Rf (SV.v (.int .i64 n)) /\ XI n)) /\ ∀ (b : Mem), Mem -> a.le b -> XI n -> ∃ c, s.data.toList[n.toNat]? = some c /\ 0 <= n /\ Br ((c.toNat : Int) != 45) (∃ d, s.data.toList[n.toNat]? = some d /\ 0 <= n /\ Br (decide ((d.toNat : Int) < 48)) (∃ e, s.data.toList[n.toNat]? = some e /\ 0 <= n /\ Br (decide ((e.toNat : Int) < 97)) (Value.bool false = .bool D) (∃ f, s.data.toList[n.toNat]? = some f /\ 0 <= n /\ Br (decide (122 < (f.toNat : Int))) (Value.bool false = .bool D) (Wr .i64 (n + 1) (fun g => Rf (SV.v (.string s)) /\ WI g /\ Int.toNat ((s.size : Int) - g) < Int.toNat ((s.size : Int) - n))))) (∃ e, s.data.toList[n.toNat]? = some e /\ 0 <= n /\ Br (decide (57 < (e.toNat : Int))) (∃ f, s.data.toList[n.toNat]? = some f /\ 0 <= n /\ Br (decide ((f.toNat : Int) < 97)) (Value.bool false = .bool D) (∃ g, s.data.toList[n.toNat]? = some g /\ 0 <= n /\ Br (decide (122 < (g.toNat : Int))) (Value.bool false = .bool D) (Wr .i64 (n + 1) (fun h => Rf (SV.v (.string s)) /\ WI h /\ Int.toNat ((s.size : Int) - h) < Int.toNat ((s.size : Int) - n))))) (Wr .i64 (n + 1) (fun f => Rf (SV.v (.string s)) /\ WI f /\ Int.toNat ((s.size : Int) - f) < Int.toNat ((s.size : Int) - n))))) (Wr .i64 (n + 1) (fun d => Rf (SV.v (.string s)) /\ WI d /\ Int.toNat ((s.size : Int) - d) < Int.toNat ((s.size : Int) - n)))) (Value.bool (decide (0 < (s.size : Int))) = .bool D)) (by kernel_rfl) ?_
 simp only [Rf, true_and];have hts : (tx s).length = s.size := Array.length_toList
 have bad : ∀ {j : Nat} {c : UInt8}, (tx s)[j]? = some c -> ¬ (okC c.toNat /\ (c = 45 -> j ≠ 0 /\ j + 1 ≠ (tx s).length)) -> Value.bool false = Value.bool D := fun {j c} hc hn => by
  rw [hD];refine congrArg Value.bool (Eq.symm (Bool.eq_false_iff.2 fun ht => hn ?_));exact ((part_of h46).1 ht).2 j c hc
 refine ⟨by rw [hWI]; exact ⟨by omega, by omega, fun i c h => by omega⟩, fun J _ lJ j hj => Br.mk (fun hlt => ?_) (fun hge => ?_)⟩
 · have hlt := of_decide_eq_true hlt
   rw [hWI] at hj;obtain ⟨h0, h1, h2⟩ := hj
   obtain ⟨c, hc⟩ : ∃ c, (tx s)[j.toNat]? = some c := ⟨_, List.getElem?_eq_getElem (by omega)⟩
   have hc' : s.data.toList[j.toNat]? = some c := hc
   have c45 : (c.toNat : Int) = 45 -> c = 45 := fun e => UInt8.toNat_inj.1 (by show c.toNat = 45; omega)
   refine ⟨⟨c, hc', h0, Br.mk (fun h3 => ?_) (fun h3 => ?_)⟩, fun J2 _ l2 hx => ?_⟩
   · have h3 : (c.toNat : Int) = 45 := by simpa using h3
     refine Br.mk (fun h4 => ?_) (fun h4 => wr_i64 (by omega) (by omega) (Br.mk (fun h5 => ?_) (fun h5 => ?_)))
     · have h4 : j = 0 := by simpa using h4
       exact bad hc fun hh => (hh.2 (c45 h3)).1 (by omega)
     · have h5 : j = (s.size : Int) - 1 := by simpa using h5
       exact bad hc fun hh => (hh.2 (c45 h3)).2 (by omega)
     · have h4 : j ≠ 0 := by simpa using h4
       have h5 : j ≠ (s.size : Int) - 1 := by simpa using h5
       rw [hXI]
       exact fun c _ _ => ⟨h4, by omega⟩
   · have h3 : (c.toNat : Int) ≠ 45 := by simpa using h3
     rw [hXI];intro d hd e;rw [hc] at hd;cases hd;subst e;exact absurd rfl h3
   · rw [hXI] at hx
     have hx := hx c hc
     have next : okC c.toNat -> Wr IntKind.i64 (j + 1) fun g => WI g /\ (↑s.size - g).toNat < (↑s.size - j).toNat := fun ho => by
      refine wr_i64 (by omega) (by omega) ⟨?_, by omega⟩
      rw [hWI]
      refine ⟨by omega, by omega, fun i d hi hd => ?_⟩
      by_cases e : i = j.toNat
      · subst e
        rw [hc] at hd;cases hd
        exact ⟨ho, fun e => by have := hx e; omega⟩
      · exact h2 i d (by omega) hd
     have nok : ¬ okC c.toNat -> Value.bool false = Value.bool D := fun hn => bad hc fun hh => hn hh.1
     have low : (c.toNat : Int) ≠ 45 -> ((c.toNat : Int) < 48 \/ 57 < (c.toNat : Int)) -> ∃ e, s.data.toList[j.toNat]? = some e /\ 0 <= j /\ Br (decide ((e.toNat : Int) < 97)) (Value.bool false = Value.bool D) (∃ f, s.data.toList[j.toNat]? = some f /\ 0 <= j /\ Br (decide (122 < (f.toNat : Int))) (Value.bool false = Value.bool D) (Wr IntKind.i64 (j + 1) fun g => WI g /\ (↑s.size - g).toNat < (↑s.size - j).toNat)) := fun hn hl => by
      refine ⟨c, hc', h0, Br.mk (fun h3 => ?_) (fun h3 => ⟨c, hc', h0, Br.mk (fun h4 => ?_) (fun h4 => ?_)⟩)⟩
      · have h3 := of_decide_eq_true h3
        exact nok fun hh => by unfold okC at hh; omega
      · have h4 := of_decide_eq_true h4
        exact nok fun hh => by unfold okC at hh; omega
      · have h3 := of_decide_eq_false h3
        have h4 := of_decide_eq_false h4
        exact next (by unfold okC; omega)
     refine ⟨c, hc', h0, Br.mk (fun h3 => ?_) (fun h3 => ?_)⟩
     · have h3 : (c.toNat : Int) ≠ 45 := by simpa using h3
       refine ⟨c, hc', h0, Br.mk (fun h4 => low h3 (.inl (of_decide_eq_true h4))) (fun h4 => ⟨c, hc', h0, Br.mk (fun h5 => low h3 (.inr (of_decide_eq_true h5))) (fun h5 => ?_)⟩)⟩;have h4 := of_decide_eq_false h4;have h5 := of_decide_eq_false h5
       exact next (by unfold okC; omega)
     · have h3 : (c.toNat : Int) = 45 := by simpa using h3
       exact next (by unfold okC; omega)
 · have hge := of_decide_eq_false hge
   rw [hWI] at hj;obtain ⟨h0, h1, h2⟩ := hj;refine congrArg Value.bool ?_;rw [hD];apply Bool.eq_iff_iff.2;rw [part_of h46, decide_eq_true_eq];constructor
   · intro hp
     exact ⟨fun e => by rw [e] at hts; simp at hts; omega, fun i c hc => h2 i c (by have := (List.getElem?_eq_some_iff.1 hc).1; omega) hc⟩
   · rintro ⟨hp, _⟩
     have : (tx s).length ≠ 0 := fun e => hp (List.length_eq_zero_iff.1 e);omega
set_option maxHeartbeats 1000000 in
theorem ct95 (s : ByteArray) (hs : s.size <= 1000000) (I : Mem) : Ct Tryz.prog (fnv 95) #[.string s] I (fun v _ => v = .bool (nameB (strL s))) := by
 obtain ⟨D, hD⟩ : ∃ D : Bool, D = nameB (strL s) := ⟨_, rfl⟩;rw [<- hD];obtain ⟨M, hM⟩ : ∃ n : Nat, n = (splitC 46 (tx s)).length := ⟨_, rfl⟩;obtain ⟨WI, hWI⟩ : ∃ f : Int -> Prop, f = fun (j : Int) => 0 <= j /\ j <= M /\ ∀ x ∈ (splitC 46 (tx s)).take j.toNat, nameF x 46 = true := ⟨_, rfl⟩
 refine viaR (ct_via (A := { loops := [(5, ⟨[(3, .keep), (4, .sh (.int .i64))], [], [], fun vals _ I' _ => match vals with | [.int .i64 j] => WI j | _ => False, fun vals _ => match vals with | [.int .i64 j] => (M - j).toNat | _ => 0⟩)] }) Tryz.func95 rfl Tryz.call95 rfl rfl) (Br ((s.size : Int) == 0) (Value.bool false = .bool D) (Br (decide (32 < (s.size : Int))) (Value.bool false = .bool D) (∃ c, s.data.toList[0]? = some c /\ (0 : Int) <= 0 /\ Br (decide ((c.toNat : Int) < 97)) (Value.bool false = .bool D) (∃ a, s.data.toList[0]? = some a /\ (0 : Int) <= 0 /\ Br (decide (122 < (a.toNat : Int))) (Value.bool false = .bool D) (Ct Tryz.prog (fnv 126) #[.string s] I (fun v b => ∃ d n e, v = .slice d n e /\ (Rf (SV.v (.slice d n e)) /\ WI 0) /\ ∀ (f : Mem), Mem -> b.le f -> ∀ (g : Int), WI g -> Br (decide (g < (n : Int))) (0 <= g /\ g < (n : Int) /\ d.isSome = true /\ ∃ q, atI f d (g.toNat * 1 + 0) = some (.string q) /\ Ct Tryz.prog (fnv 127) #[.string q] f fun h i => ∃ j, h = .bool j /\ Br (!j) (Value.bool false = .bool D) (Wr .i64 (g + 1) (fun k => Rf (SV.v (.slice d n e)) /\ WI k /\ Int.toNat ((M : Int) - k) < Int.toNat ((M : Int) - g)))) (Value.bool true = .bool D))))))) (by kernel_rfl) ?_
 simp only [Rf, true_and];have hsl := strL_len s;have hts : (tx s).length = s.size := Array.length_toList
 have no : nameB (strL s) = false -> Value.bool false = Value.bool D := fun h => by rw [hD, h]
 refine Br.mk (fun h => no ?_) (fun h => Br.mk (fun h1 => no ?_) (fun h1 => ?_))
 · have h : (s.size : Int) = 0 := by simpa using h
   rw [nameB, decide_eq_false (by omega)]; rfl
 · have h1 := of_decide_eq_true h1
   rw [nameB, decide_eq_false (p := (strL s).length <= 32) (by omega)]; simp
 have h : (s.size : Int) ≠ 0 := by simpa using h
 have h1 := of_decide_eq_false h1
 obtain ⟨c, hc⟩ : ∃ c, s.data.toList[0]? = some c := ⟨_, List.getElem?_eq_getElem (by show 0 < (tx s).length; omega)⟩
 have hhd : (strL s).headD 0 = (c.toNat : Int) := by
  have := str_first hc;rw [firstI] at this
  cases hq : strL s with
  | nil => rw [hq] at this; cases this
  | cons x r => rw [hq] at this; simpa using this
 refine ⟨c, hc, by decide, Br.mk (fun h2 => no ?_) (fun h2 => ⟨c, hc, by decide, Br.mk (fun h3 => no ?_) (fun h3 => ?_)⟩)⟩
 · have h2 := of_decide_eq_true h2
   rw [nameB, hhd, decide_eq_false (p := 97 <= (c.toNat : Int) /\ _) (by omega)]; simp
 · have h3 := of_decide_eq_true h3
   rw [nameB, hhd, decide_eq_false (p := 97 <= (c.toNat : Int) /\ _) (by omega)]; simp
 have h2 := of_decide_eq_false h2;have h3 := of_decide_eq_false h3
 have hB : nameB (strL s) = (splitC 46 (tx s)).all fun y => nameF y 46 := by
  rw [nameB, hhd, decide_eq_true (p := 97 <= (c.toNat : Int) /\ _) (by omega), decide_eq_true (by omega), decide_eq_true (by omega), Bool.true_and, Bool.true_and, Bool.true_and, <- name_all]; rfl
 refine (ct126 s hs I).mono fun v J lJ ⟨l, ⟨d, n, e, hv, hl, hne, _⟩, hls⟩ => ⟨d, n, e, hv, by rw [hWI]; exact ⟨by omega, by omega, fun x hx => by simp at hx⟩, fun J2 _ l2 g hg => ?_⟩
 have hln : l.length = n := by have := hl.len; simp [strs] at this; omega
 have hMn : M = n := by rw [hM, <- hls, List.length_map, hln]
 have hMs : M <= s.size + 1 := by rw [hM, <- count_splitC]; have := List.count_le_length (a := (46 : UInt8)) (l := tx s); omega
 rw [hWI] at hg;obtain ⟨g0, g1, g2⟩ := hg;refine Br.mk (fun hlt => ?_) (fun hge => ?_)
 · have hlt := of_decide_eq_true hlt
   obtain ⟨x, hx⟩ : ∃ x, l[g.toNat]? = some x := ⟨_, List.getElem?_eq_getElem (by omega)⟩
   have hat := (hl.mono l2).at_ _ _ (strs_get hx)
   have hx2 : (splitC 46 (tx s))[g.toNat]? = some (tx x) := by rw [<- hls, List.getElem?_map, hx]; rfl
   have hmem := List.mem_of_getElem? hx2;have hfree := splitC_free 46 (tx s) _ hmem;have hxl := splitC_len 46 (tx s) _ hmem
   have hxs : x.size <= 1000000 := by
    have : (tx x).length = x.size := Array.length_toList;omega
   refine ⟨g0, hlt, hl.isSome (by omega), x, by rw [Nat.mul_one, Nat.add_zero]; exact hat, (ct127 x hxs hfree J2).mono fun v J3 l3 hv => ⟨_, hv, Br.mk (fun h4 => no ?_) (fun h4 => wr_i64 (by omega) (by omega) ⟨?_, by omega⟩)⟩⟩
   · have h4 : nameF (tx x) 46 = false := by simpa using h4
     rw [hB, List.all_eq_false]
     exact ⟨_, hmem, by rw [h4]; decide⟩
   · have h4 : nameF (tx x) 46 = true := by simpa using h4
     rw [hWI]
     refine ⟨by omega, by omega, fun y hy => ?_⟩
     rw [show (g + 1).toNat = g.toNat + 1 by omega, List.take_add_one, hx2, Option.toList_some] at hy
     rcases List.mem_append.1 hy with hy | hy
     · exact g2 y hy
     · rw [List.mem_singleton.1 hy]; exact h4
 · have hge := of_decide_eq_false hge
   refine congrArg Value.bool ?_;rw [hD, hB, eq_comm, List.all_eq_true];intro y hy
   exact g2 y (by rw [List.take_of_length_le (by omega)]; exact hy)
theorem wrap_u8 (x : Int) : 0 <= IntKind.u8.wrap x /\ IntKind.u8.wrap x <= 255 := by
 have h : IntKind.u8.wrap x = x % 256 := rfl;omega
theorem CtS.rowed {P : Program} {fv : SV} {args : List SV} {H : List Ent} {I : Mem} {el : TypeId} {Q : List Value -> Prop} (h : CtS P fv args H I (fun sv H' _ => ∃ zs, zs.length <= maxLen /\ Q zs /\
 ((sv = .xsl 0 0 zs.length zs.length /\ H' = [⟨.cells (zs.map .v) el, none⟩]) \/ (sv = .rsl 0 zs.length /\ H' = [⟨.row zs 1 el, none⟩])))) :
 CtS P fv args H I (fun sv H' _ => ∃ zs, Q zs /\ sv = .rsl 0 zs.length /\ H' = [⟨.row zs 1 el, none⟩]) := fun e hp hO => by
 refine (h e hp hO).mono ?_
 rintro v I' hp' hle ⟨e', sv, H', h1, h2, zs, hm, hq, ⟨rfl, rfl⟩ | ⟨rfl, rfl⟩⟩
 · obtain ⟨g1, cur, g2, g3, g4⟩ := h2.hold 0 _ rfl rfl
   refine ⟨{ e' with cap := fun _ => zs.length }, .rsl 0 zs.length, [⟨.row zs 1 el, none⟩], ?_, ⟨fun id x hx hal => ?_, fun i j x y hx hy _ _ _ _ hij => ?_, fun b hb => ?_, fun id x b hx hb => ?_⟩, zs, hq, rfl, rfl⟩
   · rw [h1]; simp [den, g1]
   · cases id with
     | zero =>
      simp only [List.getElem?_cons_zero, Option.some.injEq] at hx;subst hx
      refine ⟨by omega, ⟨zs.length, by omega⟩, .inr ⟨g1, cur, (0, 0), g2, thaw_zero _, by simpa using g3, hm, by simp at g3; omega, ?_⟩⟩
      apply List.ext_getElem?;intro k;rw [List.getElem?_take];split
      · rename_i hk
        have := g4 k (.v zs[k]) (by simp [hk]) rfl
        simp only [den] at this;rw [Array.getElem?_toList, this, List.getElem?_eq_getElem hk]
      · rw [List.getElem?_eq_none (by omega)]
     | succ id => simp at hx
   · have hi := (List.getElem?_eq_some_iff.1 hx).1
     have hj := (List.getElem?_eq_some_iff.1 hy).1;simp at hi hj;omega
   · obtain ⟨id, x, hx, hal, hn, hbe⟩ := h2.dom b hb
     have hi := (List.getElem?_eq_some_iff.1 hx).1;simp at hi;subst hi;exact ⟨0, _, rfl, rfl, hn, hbe⟩
   · have hi := (List.getElem?_eq_some_iff.1 hx).1
     simp at hi;subst hi;simp at hx;subst hx;cases hb
 · exact ⟨e', _, _, h1, h2, zs, hq, rfl, rfl⟩
theorem pow8 : ∀ l : Nat, l < 8 -> (256 : Int) ^ (l + 1) <= 18446744073709551616 := by decide
theorem cs164 : ∀ (k : Nat) (x : Int), 0 <= x -> x < 256 ^ (k + 1) -> (k = 0 \/ 256 ^ k <= x) -> k <= 7 -> ∀ (I : Mem),
 CtS Tryz.prog (.v (fnv 164)) [.v (.int .u64 x)] [] I (fun sv H' _ => ∃ zs, zs = ints .u8 (be (k + 1) x.toNat) /\ sv = .rsl 0 zs.length /\ H' = [⟨.row zs 1 5, none⟩]) := by
 intro k
 induction k with
 | zero =>
  intro x h0 h1 h2 hk I;refine CtS.rowed ?_
  refine viaR (ctS_via (A := { calls := [(10, .lend [] (.row 0) [.row 1 5])] }) Tryz.func164 rfl Tryz.call164 [0] rfl) (Br (decide (x < 256)) (Wr .u8 x (fun c => ∃ z, z.length <= 9223372036854775807 /\ z = [.int .u8 ((x.toNat % 256 : Nat) : Int)] /\ (SV.xsl 0 0 1 1 = .xsl 0 0 z.length z.length /\ [Ent.mk (.cells [.v (.int .u8 c)] 5) none] = [⟨.cells (List.map SV.v z) 5, none⟩] \/ SV.xsl 0 0 1 1 = .rsl 0 z.length /\ [Ent.mk (.cells [.v (.int .u8 c)] 5) none] = [⟨.row z 1 5, none⟩]))) ((256 : Int) ≠ 0 /\ Wr .u64 (x.tdiv 256) fun c => CtS Tryz.prog (.v (fnv 164)) [.v (.int .u64 c)] [] I fun s H a => ∃ n b, s = .rsl 0 n /\ H = [⟨.row b 1 5, none⟩] /\ (256 : Int) ≠ 0 /\ Wr .u8 (x.tmod 256) fun d => b.length = n * 1 /\ n + 1 <= 9223372036854775807 /\ (n + 1) * 1 <= 140737488355328 /\ ∃ z, z.length <= 9223372036854775807 /\ z = [.int .u8 ((x.toNat % 256 : Nat) : Int)] /\ (SV.rsl 0 (n + 1) = .xsl 0 0 z.length z.length /\ [Ent.mk (.row (b ++ [.int .u8 d]) 1 5) none] = [⟨.cells (List.map SV.v z) 5, none⟩] \/ SV.rsl 0 (n + 1) = .rsl 0 z.length /\ [Ent.mk (.row (b ++ [.int .u8 d]) 1 5) none] = [⟨.row z 1 5, none⟩]))) (by kernel_rfl) ?_
  have h1 : x < 256 := by simpa using h1
  refine Br.t (by simpa using h1) ⟨_, IntWalk.u8_in x ⟨h0, by omega⟩, [.int .u8 x], by simp, ?_, .inl ⟨rfl, rfl⟩⟩
  rw [show ((x.toNat % 256 : Nat) : Int) = x by omega]
 | succ k ih =>
  intro x h0 h1 h2 hk I;refine CtS.rowed ?_
  refine viaR (ctS_via (A := { calls := [(10, .lend [] (.row 0) [.row 1 5])] }) Tryz.func164 rfl Tryz.call164 [0] rfl) (Br (decide (x < 256)) (Wr .u8 x (fun c => ∃ z, z.length <= 9223372036854775807 /\ z = List.map (Value.int .u8) (be (k + 1 + 1) x.toNat) /\ (SV.xsl 0 0 1 1 = .xsl 0 0 z.length z.length /\ [Ent.mk (.cells [.v (.int .u8 c)] 5) none] = [⟨.cells (List.map SV.v z) 5, none⟩] \/ SV.xsl 0 0 1 1 = .rsl 0 z.length /\ [Ent.mk (.cells [.v (.int .u8 c)] 5) none] = [⟨.row z 1 5, none⟩]))) ((256 : Int) ≠ 0 /\ Wr .u64 (x.tdiv 256) fun c => CtS Tryz.prog (.v (fnv 164)) [.v (.int .u64 c)] [] I fun s H a => ∃ n b, s = .rsl 0 n /\ H = [⟨.row b 1 5, none⟩] /\ (256 : Int) ≠ 0 /\ Wr .u8 (x.tmod 256) fun d => b.length = n * 1 /\ n + 1 <= 9223372036854775807 /\ (n + 1) * 1 <= 140737488355328 /\ ∃ z, z.length <= 9223372036854775807 /\ z = List.map (Value.int .u8) (be (k + 1 + 1) x.toNat) /\ (SV.rsl 0 (n + 1) = .xsl 0 0 z.length z.length /\ [Ent.mk (.row (b ++ [.int .u8 d]) 1 5) none] = [⟨.cells (List.map SV.v z) 5, none⟩] \/ SV.rsl 0 (n + 1) = .rsl 0 z.length /\ [Ent.mk (.row (b ++ [.int .u8 d]) 1 5) none] = [⟨.row z 1 5, none⟩]))) (by kernel_rfl) ?_
  have hge : 256 ^ (k + 1) <= x := h2.elim (fun h => by omega) id
  have hp : (1 : Int) <= 256 ^ k := Int.pow_pos (by omega)
  have hx : 256 <= x := by rw [Int.pow_succ] at hge; omega
  have hx8 : x < 18446744073709551616 := Int.lt_of_lt_of_le h1 (pow8 (k + 1) (by omega))
  have hd : x.tdiv 256 = x / 256 := Int.tdiv_eq_ediv_of_nonneg h0;have hm : x.tmod 256 = x % 256 := Int.tmod_eq_emod_of_nonneg h0;rw [hd, hm]
  refine Br.f (by simpa using hx) ⟨by omega, _, IntWalk.u64_in _ ⟨by omega, by omega⟩, (ih (x / 256) (by omega) (by rw [Int.pow_succ] at h1; omega) (.inr (by rw [Int.pow_succ] at hge; omega)) (by omega) I).mono ?_⟩
  rintro sv H' I' _ ⟨zs, rfl, rfl, rfl⟩
  refine ⟨_, _, rfl, rfl, by omega, _, IntWalk.u8_in _ ⟨by omega, by omega⟩, by omega, by rw [ints_len, be_len]; omega, by rw [ints_len, be_len]; omega, _, ?_, rfl, .inr ⟨?_, ?_⟩⟩
  · simp [be_len]; have : maxLen = 9223372036854775807 := by decide
    omega
  · simp [be_len, ints]
  · have e : x.toNat / 256 = (x / 256).toNat := by omega
    have e2 : ((x.toNat % 256 : Nat) : Int) = x % 256 := by omega
    rw [show be (k + 1 + 1) x.toNat = be (k + 1) (x.toNat / 256) ++ [((x.toNat % 256 : Nat) : Int)] from rfl, e, e2]
    simp [ints]
theorem ct121 (x : Int) (h : 0 <= x /\ x <= 18446744073709551615) (I : Mem) : Ct Tryz.prog (fnv 121) #[.int .u64 x] I (fun v I' => BySl I' v (formN x.toNat)) := by
 refine viaR (ct_via (A := { calls := [(10, .lend [] (.row 0) [.row 1 5])] }) Tryz.func121 rfl Tryz.call121 rfl rfl) (Br (decide (x < 247)) (Wr .u8 x (fun c => ∀ (b : Nat) (a : Mem), I.le a -> a b = some (.cells #[.int .u8 c] 5 (0, 0)) -> ∃ d m e, Value.slice (some ⟨b, 0, none⟩) 1 1 = .slice d m e /\ SlM a d m 1 (List.map (Value.int .u8) (formN x.toNat)) /\ m <= e /\ e <= 9223372036854775807)) (CtS Tryz.prog (.v (fnv 164)) [.v (.int .u64 x)] [] I (fun s H a => ∃ n b, s = .rsl 0 n /\ H = [⟨.row b 1 5, none⟩] /\ Wr .i64 (246 + (n : Int)) fun c => Wr .u8 c fun d => n * 1 <= b.length /\ (∀ (v : Value), Membership.mem (List.take (n * 1) b) v -> v.oneCell' = true) /\ (1 : Nat) = 1 /\ 1 + n <= 9223372036854775807 /\ (1 + n) * 1 <= 140737488355328 /\ ∀ (e : Option Addr) (f : Nat) (g : Mem), a.le g -> RowM g e f 1 (.int .u8 d :: List.append ([] : List Value) (List.take (n * 1) b)) -> ∃ i m j, Value.slice e (1 + n) f = .slice i m j /\ SlM g i m 1 (List.map (Value.int .u8) (formN x.toNat)) /\ m <= j /\ j <= 9223372036854775807))) (by kernel_rfl) ?_
 refine Br.mk (fun h1 => ?_) (fun h1 => ?_)
 · have h1 := of_decide_eq_true h1
   have hf : formN x.toNat = [x] := by rw [formN, if_pos (by omega)]; congr 1; omega
   refine ⟨_, IntWalk.u8_in x ⟨h.1, by omega⟩, fun b I1 l1 hb => ⟨_, _, _, rfl, ?_, by omega, by decide⟩⟩
   rw [hf]
   exact sl_cells (n := 1) (sz := 1) hb rfl (by decide)
 · have h1 := of_decide_eq_false h1
   have hd8 : digN x.toNat <= 8 := digN_le (k := 8) (by omega)
   have hbd := digN_bd (x := x.toNat) (by omega)
   obtain ⟨k, hk⟩ : ∃ k, digN x.toNat = k + 1 := ⟨digN x.toNat - 1, by rw [digN_pos (by omega)]; omega⟩
   have hf : formN x.toNat = ((246 + (k + 1) : Nat) : Int) :: be (k + 1) x.toNat := by rw [formN, if_neg (by omega), hk]
   rw [hk] at hbd
   have c1 : ((256 ^ (k + 1) : Nat) : Int) = (256 : Int) ^ (k + 1) := by simp
   have c2 : ((256 ^ k : Nat) : Int) = (256 : Int) ^ k := by simp
   refine (cs164 k x h.1 (by omega) (.inr (by simp only [Nat.add_sub_cancel] at hbd; omega)) (by omega) I).mono ?_
   rintro sv H' I' _ ⟨zs, rfl, rfl, rfl⟩;refine ⟨_, _, rfl, rfl, ?_⟩
   have hl : (ints IntKind.u8 (be (k + 1) x.toNat)).length = k + 1 := by rw [ints_len, be_len]
   rw [hl, Nat.mul_one, List.take_of_length_le (by omega)]
   refine wr_i64 (by omega) (by omega) ⟨_, IntWalk.u8_in _ ⟨by omega, by omega⟩, by omega, fun v hv => one_ints v hv, rfl, by omega, by omega, fun a' cp I2 l2 hrow => ?_⟩
   rw [hf]
   exact row_bysl (xs := ((246 + (k + 1) : Nat) : Int) :: be (k + 1) x.toNat) hrow (by simp [be_len]; omega)
theorem ct185 (xs ys : List Int) (a b : Option Addr) (n c m d : Nat) (I : Mem) (h : SlM I a n 1 (ints .u8 xs)) (h' : SlM I b m 1 (ints .u8 ys)) (hn : n <= 1000000000) :
 Ct Tryz.prog (fnv 185) #[.slice a n c, .slice b m d] I (fun v _ => v = .bool (decide (xs = ys))) := by
 refine viaR (ct_via (A := { loops := [(4, ⟨[(0, .keep), (1, .keep), (5, .sh (.int .i64))], [], [], fun vals _ _ _ => match vals with | [.int .i64 j] => 0 <= j /\ j <= n /\ ∀ k : Nat, (k : Int) < j -> xs[k]? = ys[k]? | _ => False, fun vals _ => match vals with | [.int .i64 j] => (n - j).toNat | _ => 0⟩)] }) Tryz.func185 rfl Tryz.call185 rfl rfl) (Br ((n : Int) != (m : Int)) (Value.bool false = .bool (decide (xs = ys))) ((Rf (SV.v (.slice a n c)) /\ Rf (SV.v (.slice b m d)) /\ (0 : Int) <= 0 /\ 0 <= (n : Int) /\ ∀ (k : Nat), (k : Int) < 0 -> xs[k]? = ys[k]?) /\ ∀ (e : Mem), Mem -> I.le e -> ∀ (f : Int), 0 <= f /\ f <= (n : Int) /\ (∀ (k : Nat), (k : Int) < f -> xs[k]? = ys[k]?) -> Br (decide (f < (n : Int))) (0 <= f /\ f < (n : Int) /\ a.isSome = true /\ ∃ g, atI e a (f.toNat * 1 + 0) = some (.int .u8 g) /\ 0 <= f /\ f < (m : Int) /\ b.isSome = true /\ ∃ i, atI e b (f.toNat * 1 + 0) = some (.int .u8 i) /\ Br (g != i) (Value.bool false = .bool (decide (xs = ys))) (Wr .i64 (f + 1) (fun j => Rf (SV.v (.slice a n c)) /\ Rf (SV.v (.slice b m d)) /\ (0 <= j /\ j <= (n : Int) /\ ∀ (k : Nat), (k : Int) < j -> xs[k]? = ys[k]?) /\ Int.toNat ((n : Int) - j) < Int.toNat ((n : Int) - f)))) (Value.bool true = .bool (decide (xs = ys))))) (by kernel_rfl) ?_
 have e1 := h.numLen;have e2 := h'.numLen;refine Br.mk (fun hne => ?_) (fun he => ?_)
 · have hne : n ≠ m := by intro e; subst e; simp at hne
   rw [decide_eq_false (fun e => hne (by rw [e1, e2, e]))]
 have he : n = m := by
  have : (n : Int) = m := by simpa using he
  omega
 refine ⟨⟨rfl, rfl, by omega, by omega, fun k hk => by omega⟩, fun I1 _ l1 j ⟨j0, j1, j2⟩ => Br.mk (fun hlt => ?_) (fun hge => ?_)⟩
 · have hlt := of_decide_eq_true hlt
   obtain ⟨x, hx, hxc⟩ := (h.mono l1).intAt (i := j) j0 hlt
   obtain ⟨y, hy, hyc⟩ := (h'.mono l1).intAt (i := j) j0 (by omega)
   refine ⟨j0, hlt, h.isSome (by omega), x, hxc, j0, by omega, h'.isSome (by omega), y, hyc, Br.mk (fun hne => ?_) (fun hxy => ?_)⟩
   · have hne : x ≠ y := by simpa using hne
     rw [decide_eq_false (fun e => hne (by subst e; rw [hx] at hy; exact Option.some.inj hy))]
   · have hxy : x = y := by simpa using hxy
     subst hxy
     refine wr_i64 (by omega) (by omega) ⟨rfl, rfl, ⟨by omega, by omega, fun k hk => ?_⟩, by omega⟩
     by_cases hkj : (k : Int) < j
     · exact j2 k hkj
     · obtain rfl : k = j.toNat := by omega
       rw [hx, hy]
 · have hge := of_decide_eq_false hge
   have : xs = ys := List.ext_getElem? fun k => by
    by_cases hk : k < n
    · exact j2 k (by omega)
    · rw [List.getElem?_eq_none (by omega), List.getElem?_eq_none (by omega)]
   rw [decide_eq_true this]
theorem ref_end {bs : List Int} (hbs : ∀ b ∈ bs, 0 <= b /\ b <= 255) {at_ x m : Int} (h0 : 0 <= at_) (hx : 0 <= x /\ x <= 18446744073709551615) (hm0 : 0 <= m) (hm : at_ + m <= bs.length) (hacc : readN bs at_ = (0, 0, 11) \/ readN bs at_ = (x, m, 0)) :
 readN bs at_ = if formN x.toNat = (bs.drop at_.toNat).take m.toNat then (x, m, 0) else (0, 0, 11) := by
 split
 · rename_i he
   have hl : (formN x.toNat).length = m.toNat := by rw [he]; simp; omega
   have hb : bs = bs.take at_.toNat ++ (formN x.toNat ++ bs.drop (at_.toNat + m.toNat)) := by
    rw [he, <- List.drop_drop, List.take_append_drop, List.take_append_drop]
   have h1 := readN_form (bs.take at_.toNat) (bs.drop (at_.toNat + m.toNat)) x.toNat (by omega)
   rw [<- hb, List.length_take, show ((min at_.toNat bs.length : Nat) : Int) = at_ by omega, hl] at h1
   rw [h1]
   congr 1
   · omega
   · congr 1; omega
 · rename_i hne
   rcases hacc with h | h
   · exact h
   · exfalso
     obtain ⟨_, _, _, _, g1, g2, g3⟩ := readN_back hbs h;refine hne ?_
     rw [g2, List.take_left' (by omega)]
theorem ct175 (bs : List Int) (hbs : ∀ b ∈ bs, 0 <= b /\ b <= 255) (a : Option Addr) (n c : Nat) (at_ : Int) (hat : -1000000 <= at_ /\ at_ <= 1000000000) (I : Mem) (h : SlM I a n 1 (ints .u8 bs)) (hl : n <= 1000000000) (hc : n <= c) :
 Ct Tryz.prog (fnv 175) #[.slice a n c, .int .i64 at_] I (fun v _ => v = T3 (readN bs at_)) := by
 refine viaR (ct_via (A := { loops := [(14, ⟨[(0, .keep), (1, .keep), (7, .keep), (8, .sh (.int .u64)), (9, .sh (.int .i64))], [], [], fun vals _ _ _ => match vals with | [.int .u64 v8, .int .i64 i] => 1 <= i /\ i <= (bs[at_.toNat]?).getD 0 - 245 /\ v8 = valN ((digs bs at_ ((bs[at_.toNat]?).getD 0)).take (i.toNat - 1)) | _ => False, fun vals _ => match vals with | [_, .int .i64 i] => (20 - i).toNat | _ => 0⟩)] }) Tryz.func175 rfl Tryz.call175 rfl rfl) (Br (decide (at_ < 0)) (Value.tuple #[.int .u64 0, .int .i64 0, .int .i64 2] = .tuple #[.int .u64 (readN bs at_).1, .int .i64 (readN bs at_).2.1, .int .i64 (readN bs at_).2.2]) (Br (decide ((n : Int) < at_)) (Value.tuple #[.int .u64 0, .int .i64 0, .int .i64 2] = .tuple #[.int .u64 (readN bs at_).1, .int .i64 (readN bs at_).2.1, .int .i64 (readN bs at_).2.2]) (Br (at_ == (n : Int)) (Value.tuple #[.int .u64 0, .int .i64 0, .int .i64 10] = .tuple #[.int .u64 (readN bs at_).1, .int .i64 (readN bs at_).2.1, .int .i64 (readN bs at_).2.2]) (0 <= at_ /\ at_ < (n : Int) /\ a.isSome = true /\ ∃ b, atI I a (at_.toNat * 1 + 0) = some (.int .u8 b) /\ Br (decide (246 < b)) (0 <= at_ /\ at_ < (n : Int) /\ a.isSome = true /\ ∃ d, atI I a (at_.toNat * 1 + 0) = some (.int .u8 d) /\ Br (decide (d < 255)) (0 <= at_ /\ at_ < (n : Int) /\ a.isSome = true /\ ∃ e, atI I a (at_.toNat * 1 + 0) = some (.int .u8 e) /\ Wr .i64 e fun f => Wr .i64 (f - 245) fun g => Wr .i64 ((n : Int) - at_) fun i => Br (decide (i < g)) (Value.tuple #[.int .u64 0, .int .i64 0, .int .i64 10] = .tuple #[.int .u64 (readN bs at_).1, .int .i64 (readN bs at_).2.1, .int .i64 (readN bs at_).2.2]) (0 <= at_ /\ at_ < (n : Int) /\ a.isSome = true /\ ∃ j, atI I a (at_.toNat * 1 + 0) = some (.int .u8 j) /\ Wr .u64 j fun k => Br (decide (1 < g)) ((Rf (SV.v (.slice a n c)) /\ Rf (SV.v (.int .i64 at_)) /\ Rf (SV.v (.int .i64 g)) /\ (1 : Int) <= 1 /\ 1 <= bs[at_.toNat]?.getD (0 : Int) - 245 /\ (0 : Int) = 0) /\ ∀ (l : Mem), Mem -> I.le l -> ∀ (m o : Int), 1 <= o /\ o <= bs[at_.toNat]?.getD (0 : Int) - 245 /\ m = valN (List.take (o.toNat - 1) (digs bs at_ (bs[at_.toNat]?.getD (0 : Int)))) -> Br (decide (o < g)) (Wr .u64 (256 * m) (fun p => Wr .i64 (at_ + o) fun q => 0 <= q /\ q < (n : Int) /\ a.isSome = true /\ ∃ r, atI l a (q.toNat * 1 + 0) = some (.int .u8 r) /\ Wr .u64 r fun s => Wr .u64 (p + s) fun t => Wr .i64 (o + 1) fun u => Rf (SV.v (.slice a n c)) /\ Rf (SV.v (.int .i64 at_)) /\ Rf (SV.v (.int .i64 g)) /\ (1 <= u /\ u <= bs[at_.toNat]?.getD (0 : Int) - 245 /\ t = valN (List.take (u.toNat - 1) (digs bs at_ (bs[at_.toNat]?.getD (0 : Int))))) /\ Int.toNat (20 - u) < Int.toNat (20 - o))) (Wr .i64 (at_ + g) (fun p => 0 <= at_ /\ at_ <= p /\ p <= (c : Int) /\ Ct Tryz.prog (fnv 121) #[.int .u64 m] l fun v q => ∃ r s t, v = .slice r s t /\ Ct Tryz.prog (fnv 185) #[.slice r s t, .slice (sladdr a c at_.toNat 1) (p.toNat - at_.toNat) (c - at_.toNat)] q fun u w => ∃ x, u = .bool x /\ Br (!x) (Value.tuple #[.int .u64 0, .int .i64 0, .int .i64 11] = .tuple #[.int .u64 (readN bs at_).1, .int .i64 (readN bs at_).2.1, .int .i64 (readN bs at_).2.2]) (Value.tuple #[.int .u64 m, .int .i64 g, .int .i64 0] = .tuple #[.int .u64 (readN bs at_).1, .int .i64 (readN bs at_).2.1, .int .i64 (readN bs at_).2.2])))) (Wr .i64 (at_ + g) (fun l => 0 <= at_ /\ at_ <= l /\ l <= (c : Int) /\ Ct Tryz.prog (fnv 121) #[.int .u64 k] I fun v m => ∃ o p q, v = .slice o p q /\ Ct Tryz.prog (fnv 185) #[.slice o p q, .slice (sladdr a c at_.toNat 1) (l.toNat - at_.toNat) (c - at_.toNat)] m fun r s => ∃ t, r = .bool t /\ Br (!t) (Value.tuple #[.int .u64 0, .int .i64 0, .int .i64 11] = .tuple #[.int .u64 (readN bs at_).1, .int .i64 (readN bs at_).2.1, .int .i64 (readN bs at_).2.2]) (Value.tuple #[.int .u64 k, .int .i64 g, .int .i64 0] = .tuple #[.int .u64 (readN bs at_).1, .int .i64 (readN bs at_).2.1, .int .i64 (readN bs at_).2.2]))))) (Wr .i64 ((n : Int) - at_) (fun e => Br (decide (e < 1)) (Value.tuple #[.int .u64 0, .int .i64 0, .int .i64 10] = .tuple #[.int .u64 (readN bs at_).1, .int .i64 (readN bs at_).2.1, .int .i64 (readN bs at_).2.2]) (0 <= at_ /\ at_ < (n : Int) /\ a.isSome = true /\ ∃ f, atI I a (at_.toNat * 1 + 0) = some (.int .u8 f) /\ Wr .u64 f fun g => Wr .i64 (at_ + 1) fun i => 0 <= at_ /\ at_ <= i /\ i <= (c : Int) /\ Ct Tryz.prog (fnv 121) #[.int .u64 g] I fun v j => ∃ k l m, v = .slice k l m /\ Ct Tryz.prog (fnv 185) #[.slice k l m, .slice (sladdr a c at_.toNat 1) (i.toNat - at_.toNat) (c - at_.toNat)] j fun o p => ∃ q, o = .bool q /\ Br (!q) (Value.tuple #[.int .u64 0, .int .i64 0, .int .i64 11] = .tuple #[.int .u64 (readN bs at_).1, .int .i64 (readN bs at_).2.1, .int .i64 (readN bs at_).2.2]) (Value.tuple #[.int .u64 g, .int .i64 1, .int .i64 0] = .tuple #[.int .u64 (readN bs at_).1, .int .i64 (readN bs at_).2.1, .int .i64 (readN bs at_).2.2]))))) (Wr .i64 ((n : Int) - at_) (fun d => Br (decide (d < 1)) (Value.tuple #[.int .u64 0, .int .i64 0, .int .i64 10] = .tuple #[.int .u64 (readN bs at_).1, .int .i64 (readN bs at_).2.1, .int .i64 (readN bs at_).2.2]) (0 <= at_ /\ at_ < (n : Int) /\ a.isSome = true /\ ∃ e, atI I a (at_.toNat * 1 + 0) = some (.int .u8 e) /\ Wr .u64 e fun f => Wr .i64 (at_ + 1) fun g => 0 <= at_ /\ at_ <= g /\ g <= (c : Int) /\ Ct Tryz.prog (fnv 121) #[.int .u64 f] I fun v i => ∃ j k l, v = .slice j k l /\ Ct Tryz.prog (fnv 185) #[.slice j k l, .slice (sladdr a c at_.toNat 1) (g.toNat - at_.toNat) (c - at_.toNat)] i fun m o => ∃ p, m = .bool p /\ Br (!p) (Value.tuple #[.int .u64 0, .int .i64 0, .int .i64 11] = .tuple #[.int .u64 (readN bs at_).1, .int .i64 (readN bs at_).2.1, .int .i64 (readN bs at_).2.2]) (Value.tuple #[.int .u64 f, .int .i64 1, .int .i64 0] = .tuple #[.int .u64 (readN bs at_).1, .int .i64 (readN bs at_).2.1, .int .i64 (readN bs at_).2.2])))))))) (by kernel_rfl) ?_
 have hn := h.numLen
 have fin : ∀ (I1 : Mem) (x m : Int), I.le I1 -> 0 <= at_ -> (0 <= x /\ x <= 18446744073709551615) -> 0 <= m -> at_ + m <= bs.length -> (readN bs at_ = (0, 0, 11) \/ readN bs at_ = (x, m, 0)) ->
  Ct Tryz.prog (Value.func (Fn.func 121) #[] #[]) #[Value.int IntKind.u64 x] I1 fun v I' => ∃ a_3 n c_6, v = Value.slice a_3 n c_6 /\ Ct Tryz.prog (Value.func (Fn.func 185) #[] #[]) #[Value.slice a_3 n c_6, Value.slice (sladdr a c at_.toNat 1) ((at_ + m).toNat - at_.toNat) (c - at_.toNat)] I' fun v I' => ∃ b, v = Value.bool b /\ Br (!b) (Value.tuple #[Value.int IntKind.u64 0, Value.int IntKind.i64 0, Value.int IntKind.i64 11] = Value.tuple #[Value.int IntKind.u64 (readN bs at_).fst, Value.int IntKind.i64 (readN bs at_).snd.fst, Value.int IntKind.i64 (readN bs at_).snd.snd]) (Value.tuple #[Value.int IntKind.u64 x, Value.int IntKind.i64 m, Value.int IntKind.i64 0] = Value.tuple #[Value.int IntKind.u64 (readN bs at_).fst, Value.int IntKind.i64 (readN bs at_).snd.fst, Value.int IntKind.i64 (readN bs at_).snd.snd]) := by
  intro I1 x m l1 a0 hx m0 hm hacc;refine (ct121 x hx I1).mono fun v I2 l2 ⟨a3, n3, c3, hv, hs, hc3, hm3⟩ => ⟨a3, n3, c3, hv, ?_⟩
  have hsub := sl_sub (f := at_.toNat) (t := (at_ + m).toNat) ((h.mono l1).mono l2) (by omega) (by omega) hc
  have hf8 := formN_le x.toNat (by omega)
  have hn3 := hs.numLen
  refine (ct185 _ _ _ _ _ _ _ _ I2 hs hsub (by omega)).mono fun v I3 l3 hv => ⟨_, hv, ?_⟩
  rw [show (at_ + m).toNat - at_.toNat = m.toNat by omega, ref_end hbs a0 hx m0 hm hacc]
  by_cases he : formN x.toNat = (bs.drop at_.toNat).take m.toNat
  · rw [decide_eq_true he, if_pos he]; exact Br.f rfl rfl
  · rw [decide_eq_false he, if_neg he]; exact Br.t rfl rfl
 refine Br.mk (fun h0 => ?_) (fun h0 => Br.mk (fun h1 => ?_) (fun h1 => Br.mk (fun h2 => ?_) (fun h2 => ?_)))
 · have h0 := of_decide_eq_true h0
   rw [readN, if_pos (.inl h0)]
 · have h1 := of_decide_eq_true h1
   rw [readN, if_pos (.inr (by omega))]
 · have h2 : at_ = n := by simpa using h2
   rw [readN, if_neg (by omega), List.getElem?_eq_none (by omega)]
 have h0 := of_decide_eq_false h0;have h1 := of_decide_eq_false h1
 have h2 : at_ ≠ n := by simpa using h2
 obtain ⟨b, hb, hcell⟩ := h.intAt (i := at_) (by omega) (by omega)
 have hbr := hbs b (List.mem_of_getElem? hb)
 have hrd : readN bs at_ = if b <= 246 then (b, 1, 0) else if b = 255 then (0, 0, 11) else
  if (bs.length : Int) - at_ - 1 < b - 246 then (0, 0, 10) else
  if (digs bs at_ b)[0]? = some 0 then (0, 0, 11) else
  if valN (digs bs at_ b) <= 246 then (0, 0, 11) else (valN (digs bs at_ b), b - 246 + 1, 0) := by
  rw [readN, if_neg (by omega), hb]
 have hsome := h.isSome (by omega)
 have one : (b <= 246 \/ b = 255) -> readN bs at_ = (0, 0, 11) \/ readN bs at_ = (b, 1, 0) := fun hc => by
  rw [hrd]
  rcases hc with hc | hc
  · rw [if_pos hc]; exact .inr rfl
  · rw [if_neg (by omega), if_pos hc]; exact .inl rfl
 simp only [hb, Option.getD_some]
 refine ⟨by omega, by omega, hsome, b, hcell, Br.mk (fun h3 => ?_) (fun h3 => ?_)⟩
 · have h3 := of_decide_eq_true h3
   refine ⟨by omega, by omega, hsome, b, hcell, Br.mk (fun h4 => ?_) (fun h4 => ?_)⟩
   · have h4 := of_decide_eq_true h4
     rw [if_neg (by omega), if_neg (by omega)] at hrd
     refine ⟨by omega, by omega, hsome, b, hcell, wr_i64 (by omega) (by omega) (wr_i64 (by omega) (by omega) (wr_i64 (by omega) (by omega) (Br.mk (fun h5 => ?_) (fun h5 => ?_))))⟩
     · have h5 := of_decide_eq_true h5
       rw [hrd, if_pos (by omega)]
     have h5 := of_decide_eq_false h5
     rw [if_neg (by omega)] at hrd
     have hdl : (digs bs at_ b).length = (b - 246).toNat := by simp only [digs, List.length_take, List.length_drop]; omega
     have hdat : ∀ i : Nat, i < (b - 246).toNat -> (digs bs at_ b)[i]? = bs[at_.toNat + 1 + i]? := fun i hi => by
      rw [digs, List.getElem?_take, if_pos hi, List.getElem?_drop]
     have hdb : ∀ d ∈ digs bs at_ b, 0 <= d /\ d <= 255 := fun d hd => hbs d (List.mem_of_mem_drop (List.mem_of_mem_take hd))
     refine ⟨by omega, by omega, hsome, b, hcell, b, IntWalk.u64_in b ⟨hbr.1, by omega⟩, Br.t (by simp; omega) ⟨⟨trivial, trivial, trivial, by omega, by omega, trivial⟩, fun I1 G1 l1 x i ⟨k0, k1, k2⟩ => Br.mk (fun hlt => ?_) (fun hge => ?_)⟩⟩
     · have hlt := of_decide_eq_true hlt
       have hxb := valN_bd ((digs bs at_ b).take (i.toNat - 1)) fun y hy => hdb y (List.mem_of_mem_take hy)
       have hxl : ((digs bs at_ b).take (i.toNat - 1)).length <= 7 := by rw [List.length_take]; omega
       have hx7 : x < 72057594037927936 := by
        rw [k2];refine Int.lt_of_lt_of_le hxb.2 ?_
        exact pow7 _ (by omega)
       have hx0 : 0 <= x := by rw [k2]; exact hxb.1
       obtain ⟨d, hd, hdc⟩ := (h.mono l1).intAt (i := at_ + i) (by omega) (by omega)
       have hdr := hbs d (List.mem_of_getElem? hd)
       have hdi : (digs bs at_ b)[i.toNat - 1]? = some d := by rw [hdat _ (by omega), <- hd]; congr 1; omega
       refine ⟨_, IntWalk.u64_in _ ⟨by omega, by omega⟩, wr_i64 (by omega) (by omega) ⟨by omega, by omega, hsome, d, hdc, _, IntWalk.u64_in _ ⟨hdr.1, by omega⟩, _, IntWalk.u64_in _ ⟨by omega, by omega⟩, wr_i64 (by omega) (by omega) ⟨trivial, trivial, trivial, ⟨by omega, by omega, ?_⟩, by omega⟩⟩⟩
       rw [show (i + 1).toNat - 1 = i.toNat - 1 + 1 by omega, take_succ' hdi, valN_snoc, <- k2]
       omega
     · have hge := of_decide_eq_false hge
       have hix : x = valN (digs bs at_ b) := by rw [k2, List.take_of_length_le (by rw [hdl]; omega)]
       have hxb := valN_bd (digs bs at_ b) hdb
       have hp8 : (256 : Int) ^ (digs bs at_ b).length <= 18446744073709551616 := by
        rw [hdl]
        obtain ⟨k, hk⟩ : ∃ k, (b - 246).toNat = k + 1 := ⟨(b - 246).toNat - 1, by omega⟩
        rw [hk]
        exact pow8 k (by omega)
       refine wr_i64 (by omega) (by omega) ⟨by omega, by omega, by omega, fin I1 x (b - 245) l1 (by omega) ⟨by omega, by omega⟩ (by omega) (by omega) ?_⟩
       rw [hrd, hix];split
       · exact .inl rfl
       · split
         · exact .inl rfl
         · right; congr 2; omega
   · have h4 := of_decide_eq_false h4
     refine wr_i64 (by omega) (by omega) (Br.f (by simp; omega) ⟨by omega, by omega, hsome, b, hcell, b, IntWalk.u64_in b ⟨hbr.1, by omega⟩, wr_i64 (by omega) (by omega) ⟨by omega, by omega, by omega, fin I b 1 (Mem.le_refl _) (by omega) ⟨hbr.1, by omega⟩ (by omega) (by omega) (one (.inr (by omega)))⟩⟩)
 · have h3 := of_decide_eq_false h3
   refine wr_i64 (by omega) (by omega) (Br.f (by simp; omega) ⟨by omega, by omega, hsome, b, hcell, b, IntWalk.u64_in b ⟨hbr.1, by omega⟩, wr_i64 (by omega) (by omega) ⟨by omega, by omega, by omega, fin I b 1 (Mem.le_refl _) (by omega) ⟨hbr.1, by omega⟩ (by omega) (by omega) (one (.inl (by omega)))⟩⟩)
theorem sumL_app : ∀ k l, sumL (k ++ l) = sumL k + sumL l
 | [], l => by simp [sumL]
 | f :: r, l => by rw [List.cons_append, sumL, sumL, sumL_app r l]; omega
theorem sumL_take {l : List (Int × List Int)} {B : Int} (h : ∀ f ∈ l, (f.2.length : Int) <= B) : ∀ j, 0 <= B -> sumL (l.take j) <= B * j := by
 intro j hB
 induction j generalizing l with
 | zero => simp [sumL]
 | succ j ih =>
  cases l with
  | nil => simp only [List.take_nil, sumL]; exact Int.mul_nonneg hB (by omega)
  | cons f r =>
   have h1 := h f (by simp)
   have h2 := ih (l := r) fun g hg => h g (by simp [hg])
   rw [List.take_succ_cons, sumL]
   have : B * ((j + 1 : Nat) : Int) = B * j + B := by rw [Int.natCast_add, Int.mul_add]; simp
   omega
theorem ct165 (l : List (Int × List Int)) (a : Option Addr) (n c : Nat) (I : Mem) (h : FldM I a n l) (hb : ∀ f ∈ l, f.2.length <= 1000000) :
 Ct Tryz.prog (fnv 165) #[.slice a n c] I (fun v _ => v = .bool (rightF l)) := by
 refine viaR (ct_via (A := { loops := [(5, ⟨[(0, .keep), (3, .sh (.int .i64)), (4, .sh (.int .i64))], [], [], fun vals _ _ _ => match vals with | [.int .i64 sum, .int .i64 j] => 0 <= j /\ j <= n /\ sum = sumL (l.take j.toNat) /\ ∃ last, (j = 0 -> last = 0) /\ (0 < j -> ∃ bs, l[j.toNat - 1]? = some (last, bs)) /\ 0 <= last /\ chainT 0 l = chainT last (l.drop j.toNat) | _ => False, fun vals _ => match vals with | [_, .int .i64 j] => (n - j).toNat | _ => 0⟩)] }) Tryz.func165 rfl Tryz.call165 rfl rfl) (Br (decide (64 < (n : Int))) (Value.bool false = .bool (rightF l)) ((Rf (SV.v (.slice a n c)) /\ (0 : Int) <= 0 /\ 0 <= (n : Int) /\ (0 : Int) = 0 /\ ∃ b, ((0 : Int) = 0 -> b = 0) /\ ((0 : Int) < 0 -> ∃ d, l[0]? = some (b, d)) /\ 0 <= b /\ chainT 0 l = chainT b l) /\ ∀ (b : Mem), Mem -> I.le b -> ∀ (d e : Int), 0 <= e /\ e <= (n : Int) /\ d = sumL (List.take e.toNat l) /\ (∃ f, (e = 0 -> f = 0) /\ (0 < e -> ∃ g, l[e.toNat - 1]? = some (f, g)) /\ 0 <= f /\ chainT 0 l = chainT f (List.drop e.toNat l)) -> Br (decide (e < (n : Int))) (0 <= e /\ e < (n : Int) /\ a.isSome = true /\ a.isSome = true /\ ∃ f g i, atI b a (e.toNat * 2 + 1 + 0) = some (.slice f g i) /\ Wr .i64 (d + (g : Int)) fun j => 0 <= e /\ e < (n : Int) /\ a.isSome = true /\ a.isSome = true /\ ∃ k, atI b a (e.toNat * 2 + 0 + 0) = some (.int .i64 k) /\ Br (decide (k < 1)) (Value.bool false = .bool (rightF l)) (0 <= e /\ e < (n : Int) /\ a.isSome = true /\ a.isSome = true /\ ∃ m, atI b a (e.toNat * 2 + 0 + 0) = some (.int .i64 m) /\ Br (decide (200 < m)) (Value.bool false = .bool (rightF l)) (Br (decide (0 < e)) (0 <= e /\ e < (n : Int) /\ a.isSome = true /\ a.isSome = true /\ ∃ o, atI b a (e.toNat * 2 + 0 + 0) = some (.int .i64 o) /\ Wr .i64 (e - 1) fun p => 0 <= p /\ p < (n : Int) /\ a.isSome = true /\ a.isSome = true /\ ∃ q, atI b a (p.toNat * 2 + 0 + 0) = some (.int .i64 q) /\ Br (decide (o <= q)) (Value.bool false = .bool (rightF l)) (Wr .i64 (e + 1) (fun r => Rf (SV.v (.slice a n c)) /\ (0 <= r /\ r <= (n : Int) /\ j = sumL (List.take r.toNat l) /\ ∃ s, (r = 0 -> s = 0) /\ (0 < r -> ∃ t, l[r.toNat - 1]? = some (s, t)) /\ 0 <= s /\ chainT 0 l = chainT s (List.drop r.toNat l)) /\ Int.toNat ((n : Int) - r) < Int.toNat ((n : Int) - e)))) (Wr .i64 (e + 1) (fun o => Rf (SV.v (.slice a n c)) /\ (0 <= o /\ o <= (n : Int) /\ j = sumL (List.take o.toNat l) /\ ∃ p, (o = 0 -> p = 0) /\ (0 < o -> ∃ q, l[o.toNat - 1]? = some (p, q)) /\ 0 <= p /\ chainT 0 l = chainT p (List.drop o.toNat l)) /\ Int.toNat ((n : Int) - o) < Int.toNat ((n : Int) - e)))))) (Value.bool (decide (d <= 16384)) = .bool (rightF l)))) (by kernel_rfl) ?_
 have hl := h.len;have hmx := h.max;refine Br.mk (fun h64 => ?_) (fun h64 => ?_)
 · have h64 := of_decide_eq_true h64
   rw [right_split, decide_eq_false (by omega)]; rfl
 have h64 := of_decide_eq_false h64
 refine ⟨⟨rfl, by omega, by omega, rfl, 0, fun _ => rfl, fun h => by omega, by omega, rfl⟩, fun I1 _ l1 sum j ⟨j0, j1, js, last, q1, q2, q3, q4⟩ => ?_⟩
 have hsb := sumL_take (l := l) (B := 1000000) (fun f hf => by have := hb f hf; omega) j.toNat (by omega)
 have hs0 := sumL_nonneg (l.take j.toNat);refine Br.mk (fun hlt => ?_) (fun hge => ?_)
 · have hlt := of_decide_eq_true hlt
   have hsome := h.isSome (by omega)
   obtain ⟨f, b', m', c', hf, hok, e1, e2, hfs, hm1, hm2⟩ := (h.mono l1).at_ j0 hlt;have hfl := hfs.numLen;have hfb := hb f (List.mem_of_getElem? hf);rw [drop_cons hf, chainT] at q4
   have hj1 : (j + 1).toNat = j.toNat + 1 := by omega
   have hsum : sum + m' = sumL (l.take (j + 1).toNat) := by
    rw [hj1, take_succ' hf, sumL_app, js]
    simp only [sumL]; omega
   have bad : chainT 0 l = false -> Value.bool false = Value.bool (rightF l) := fun hc => by rw [right_split, hc]; simp
   have next : last < f.1 -> f.1 <= 200 -> Wr IntKind.i64 (j + 1) fun c_4 => SV.v (Value.slice a n c) = SV.v (Value.slice a n c) /\ (0 <= c_4 /\ c_4 <= ↑n /\ sum + m' = sumL (List.take c_4.toNat l) /\ ∃ last, (c_4 = 0 -> last = 0) /\ (0 < c_4 -> ∃ bs, l[c_4.toNat - 1]? = some (last, bs)) /\ 0 <= last /\ chainT 0 l = chainT last (List.drop c_4.toNat l)) /\ (↑n - c_4).toNat < (↑n - j).toNat := fun g1 g2 => by
    refine wr_i64 (by omega) (by omega) ⟨rfl, ⟨by omega, by omega, hsum, f.1, fun h => by omega, fun _ => ⟨f.2, ?_⟩, by omega, ?_⟩, by omega⟩
    · rw [hj1, Nat.add_sub_cancel]; exact hf
    · rw [q4, hj1]; simp [g1, g2]
   refine ⟨j0, hlt, hsome, hsome, b', m', c', e2, wr_i64 (by omega) (by omega) ⟨j0, hlt, hsome, hsome, f.1, e1, Br.mk (fun g1 => bad ?_) (fun g1 => ⟨j0, hlt, hsome, hsome, f.1, e1, Br.mk (fun g2 => bad ?_) (fun g2 => Br.mk (fun g3 => ?_) (fun g3 => ?_))⟩)⟩⟩
   · have g1 := of_decide_eq_true g1
     rw [q4, decide_eq_false (by omega)]; rfl
   · have g2 := of_decide_eq_true g2
     rw [q4, decide_eq_false (p := f.1 <= 200) (by omega)]; simp
   · have g1 := of_decide_eq_false g1
     have g2 := of_decide_eq_false g2;have g3 := of_decide_eq_true g3
     obtain ⟨p, b2, m2, c2, hp, _, e3, _⟩ := (h.mono l1).at_ (i := j - 1) (by omega) (by omega)
     obtain ⟨bs, hq⟩ := q2 g3
     rw [show (j - 1).toNat = j.toNat - 1 by omega, hq] at hp
     cases hp
     refine ⟨j0, hlt, hsome, hsome, f.1, e1, wr_i64 (by omega) (by omega) ⟨by omega, by omega, hsome, hsome, last, e3, Br.mk (fun g4 => bad ?_) (fun g4 => next ?_ (by omega))⟩⟩
     · have g4 := of_decide_eq_true g4
       rw [q4, decide_eq_false (by omega)]; rfl
     · have g4 := of_decide_eq_false g4; omega
   · have g1 := of_decide_eq_false g1
     have g2 := of_decide_eq_false g2;have g3 := of_decide_eq_false g3
     have := q1 (by omega)
     exact next (by omega) (by omega)
 · have hge := of_decide_eq_false hge
   have hj : j.toNat = l.length := by omega
   rw [hj, List.drop_length, chainT] at q4;rw [hj, List.take_length] at js
   rw [right_split, q4, decide_eq_true (p := l.length <= 64) (by omega), js]
   rfl
theorem dup2 {Q : Prop} (h : Q) : Q /\ Q := ⟨h, h⟩
theorem ct176 (xs : List Int) (a : Option Addr) (n c : Nat) (I : Mem) (h : SlM I a n 1 (ints .u8 xs)) (hn : n <= 1000000) :
 Ct Tryz.prog (fnv 176) #[.slice a n c] I (fun v I' => BySl I' v xs) := by
 refine viaR (ct_via (A := { }) Tryz.func176 rfl Tryz.call176 rfl rfl) (∃ y, y.length = n * 1 /\ (a = none -> n = 0) /\ (∀ (j : Nat) (v : Value), y[j]? = some v -> atI I a j = some v) /\ (∀ (v : Value), Membership.mem y v -> v.oneCell' = true) /\ (0 : Nat) = 0 /\ 0 + n <= 9223372036854775807 /\ (0 + n) * 1 <= 140737488355328 /\ ∀ (b : Option Addr) (d : Nat) (e : Mem), I.le e -> RowM e b d 1 y -> ∃ f m g, Value.slice b (0 + n) d = .slice f m g /\ SlM e f m 1 (List.map (Value.int .u8) xs) /\ m <= g /\ g <= 9223372036854775807) (by kernel_rfl) ?_
 exact ⟨ints .u8 xs, h.len, h.nil, h.at_, one_ints, rfl, by omega, by omega, fun a' cp I' _ hrow => row_bysl hrow (by have := h.numLen; omega)⟩
def lastT : Int -> List (Int × List Int) -> Int
 | a, [] => a
 | _, f :: r => lastT f.1 r
theorem chainT_snoc (f : Int × List Int) : ∀ (L : List (Int × List Int)) (a : Int), chainT a (L ++ [f]) = (chainT a L && (decide (lastT a L < f.1) && decide (f.1 <= 200)))
 | [], a => by simp only [List.nil_append, chainT, lastT, Bool.and_true, Bool.true_and]; rfl
 | g :: r, a => by
  rw [List.cons_append, chainT, chainT, lastT, chainT_snoc f r g.1];simp [Bool.and_assoc]
theorem lastT_snoc (f : Int × List Int) : ∀ (L : List (Int × List Int)) (a : Int), lastT a (L ++ [f]) = f.1
 | [], a => rfl
 | g :: r, a => lastT_snoc f r g.1
theorem lastT_nonneg : ∀ (L : List (Int × List Int)) (a : Int), 0 <= a -> chainT a L = true -> a <= lastT a L
 | [], a, h, _ => Int.le_refl _
 | g :: r, a, h, hc => by
  simp only [chainT, Bool.and_eq_true, decide_eq_true_eq] at hc
  have := lastT_nonneg r g.1 (by omega) hc.2.2
  rw [lastT]; omega
theorem right_snoc {L : List (Int × List Int)} (h : rightF L = true) (f : Int × List Int) :
 rightF (L ++ [f]) = !decide (f.1 <= lastT 0 L \/ 200 < f.1 \/ 16384 - sumL L < f.2.length \/ 64 <= L.length) := by
 rw [right_split] at h ⊢;simp only [Bool.and_eq_true, decide_eq_true_eq] at h
 have hs : sumL (L ++ [f]) = sumL L + f.2.length := by rw [sumL_app]; simp [sumL]
 rw [chainT_snoc, h.2.1, Bool.true_and, List.length_append, List.length_singleton, hs];rw [Bool.eq_iff_iff];simp only [Bool.and_eq_true, decide_eq_true_eq, Bool.not_eq_true', decide_eq_false_iff_not];omega
theorem goF_bad {bs : List Int} {k : Nat} {last left : Int} {L : List (Int × List Int)} (hk : k < bs.length) (h : fstep bs k = none) (h0 : 0 <= last) : goF (yields bs k) last left L = ((k : Int), []) := by
 rw [yields, dif_pos hk, h];simp only [goF];rw [if_pos (.inl h0)]
theorem goF_step {bs : List Int} {k nx : Nat} {body : List Int} {last left : Int} {L : List (Int × List Int)} {b : Int} (hk : k < bs.length) (h : fstep bs k = some (body, nx)) (hb : bs[k]? = some b) (hn : k < nx) :
 goF (yields bs k) last left L = if b <= last \/ 200 < b \/ left < body.length \/ 64 <= L.length then ((k : Int), []) else goF (yields bs nx) b (left - body.length) (L ++ [(b, body)]) := by
 rw [yields, dif_pos hk, h];simp only [dif_pos hn, hb, Option.getD_some];rw [goF]
theorem readN_m {bs : List Int} (hbs : ∀ b ∈ bs, 0 <= b /\ b <= 255) (at_ : Int) : 0 <= (readN bs at_).2.1 /\ (readN bs at_).2.1 <= 9 := by
 unfold readN;split
 · simp
 · split
   · simp
   · rename_i b hb
     have := hbs b (List.mem_of_getElem? hb);split
     · simp
     · split
       · simp
       · split
         · simp
         · split
           · simp
           · split
             · simp
             · simp only; omega
theorem ct149 (bs : List Int) (hbs : byteL bs) (a : Option Addr) (n c : Nat) (I : Mem) (h : SlM I a n 1 (ints .u8 bs)) (hn : n <= 1000000) (hc : n <= c) (hm : c <= maxLen) :
 Ct Tryz.prog (fnv 149) #[.slice a n c] I (fun v I' => ∃ a' n' c', v = .tuple #[.slice a' n' c', .int .i64 (readF bs).2.1, .int .i64 (readF bs).2.2] /\ FldM I' a' n' (readF bs).1 /\ n' <= c' /\ c' <= maxLen) := by
 refine viaR (ct_via (A := { calls := [(68, .ro)], loops := [(5, ⟨[(0, .keep), (5, .row 0), (6, .sh (.int .i64)), (7, .sh (.int .i64))], [(0, .row)], [(5, 2, 182)], fun vals xss I' _ => match vals, xss with | [.int .i64 at_, .int .i64 sum], [xs] => 0 <= at_ /\ ∃ L, FR I' xs L /\ rightF L = true /\ sum = sumL L /\ goF (yields bs 0) 0 16384 [] = goF (yields bs at_.toNat) (lastT 0 L) (16384 - sumL L) L | _, _ => False, fun vals _ => match vals with | [.int .i64 at_, _] => (n - at_).toNat | _ => 0⟩)] }) Tryz.func149 rfl Tryz.call149 rfl rfl) (let E2 := fun (x : Int) (b : Mem) => ∃ d e f, Value.tuple #[.slice none 0 0, .int .i64 x, .int .i64 21] = .tuple #[.slice d e f, .int .i64 (readF bs).2.1, .int .i64 (readF bs).2.2] /\ FldM b d e (readF bs).1 /\ e <= f /\ f <= 9223372036854775807
  let E1 := fun (x : Int) (b : Int) (d : Mem) (e : Int) (f : List Value) (g : Int) (i : Int) (j : Int) => Ct Tryz.prog (fnv 176) #[.slice (sladdr a c x.toNat 1) (b.toNat - x.toNat) (c - x.toNat)] d fun v k => ∃ l m o, v = .slice l m o /\ Wr .i64 (e + (m : Int)) fun p => f.length = f.length / 2 * 2 /\ f.length / 2 + 1 <= 9223372036854775807 /\ (f.length / 2 + 1) * 32 <= 140737488355328 /\ ∀ (q : Option Addr) (r : Nat) (s : Mem), k.le s -> RowM s q r 2 (f ++ [.int .i64 g, .slice l m o]) -> Ct Tryz.prog (fnv 165) #[.slice q (f.length / 2 + 1) r] s fun t u => ∃ w, t = .bool w /\ Br (!w) (E2 i k) (Br (decide (16384 < p)) (E2 i k) (Wr .i64 j (fun y => Wr .i64 (x + y) fun z => Rf (SV.v (.slice a n c)) /\ f.length / 2 + 1 = List.length (f ++ [.int .i64 g, .slice l m o]) / 2 /\ (0 <= z /\ ∃ L, FR k (f ++ [.int .i64 g, .slice l m o]) L /\ rightF L = true /\ p = sumL L /\ goF (yields bs 0) 0 16384 [] = goF (yields bs z.toNat) (lastT 0 L) (16384 - sumL L) L) /\ Int.toNat ((n : Int) - z) < Int.toNat ((n : Int) - i))))
  Br (decide (16768 < (n : Int))) (∃ b d e, Value.tuple #[.slice none 0 0, .int .i64 0, .int .i64 3] = .tuple #[.slice b d e, .int .i64 (readF bs).2.1, .int .i64 (readF bs).2.2] /\ FldM I b d (readF bs).1 /\ d <= e /\ e <= 9223372036854775807) ((Rf (SV.v (.slice a n c)) /\ (0 : Nat) = 0 /\ (0 : Int) <= 0 /\ ∃ L, FR I [] L /\ rightF L = true /\ 0 = sumL L /\ goF (yields bs 0) 0 16384 [] = goF (yields bs 0) (lastT 0 L) (16384 - sumL L) L) /\ ∀ (b : Mem), Mem -> I.le b -> ∀ (x : List Value) (d e : Int), 0 <= d /\ (∃ L, FR b x L /\ rightF L = true /\ e = sumL L /\ goF (yields bs 0) 0 16384 [] = goF (yields bs d.toNat) (lastT 0 L) (16384 - sumL L) L) -> Br (decide (d < (n : Int))) (Wr .i64 (d + 1) (fun f => Ct Tryz.prog (fnv 175) #[.slice a n c, .int .i64 f] b fun v g => ∃ i j k, v = .tuple #[.int .u64 i, .int .i64 j, .int .i64 k] /\ Wr .i64 (d + 1) fun l => Wr .i64 (l + j) fun m => Br (k != 0) (E2 d g) (Wr .i64 ((n : Int) - m) (fun o => Wr .u64 o fun p => Br (decide (p < i)) (E2 d g) (0 <= d /\ d < (n : Int) /\ a.isSome = true /\ ∃ q, atI g a (d.toNat * 1 + 0) = some (.int .u8 q) /\ Wr .i64 q fun r => Wr .i64 i fun s => Wr .i64 (m + s) fun t => 0 <= m /\ m <= t /\ t <= (c : Int) /\ E1 m t g e x r d i /\ E1 m t g e x r d i))))) (∀ (f : Option Addr) (g : Nat) (i : Mem), b.le i -> RowM i f g 2 x -> ∃ j k l, Value.tuple #[.slice f (x.length / 2) g, .int .i64 0, .int .i64 0] = .tuple #[.slice j k l, .int .i64 (readF bs).2.1, .int .i64 (readF bs).2.2] /\ FldM i j k (readF bs).1 /\ k <= l /\ l <= 9223372036854775807))) (by kernel_rfl) ?_
 intro E2 E1;simp only [E1, E2, eq_self, true_and];have hnl := h.numLen;refine Br.mk (fun hlong => ?_) (fun hlong => ?_)
 · have hlong := of_decide_eq_true hlong
   have : readF bs = ([], 0, 3) := by rw [readF, if_pos (by omega)]
   rw [this]
   exact ⟨none, 0, 0, rfl, fldM_nil _, by omega, by omega⟩
 have hlong := of_decide_eq_false hlong
 have hrd0 : readF bs = if 0 <= (goF (yields bs 0) 0 16384 []).1 then ([], (goF (yields bs 0) 0 16384 []).1, 21) else ((goF (yields bs 0) 0 16384 []).2, 0, 0) := by rw [readF, if_neg (by omega)]
 refine ⟨⟨by omega, [], trivial, rfl, rfl, rfl⟩, fun I1 _ l1 xs at_ sum ⟨a0, L, hL, hR, hs, hg⟩ => ?_⟩
 obtain ⟨k, rfl⟩ : ∃ k : Nat, at_ = k := ⟨at_.toNat, by omega⟩
 rw [Int.toNat_natCast] at hg ⊢;have hRs := hR;rw [right_split] at hRs;simp only [Bool.and_eq_true, decide_eq_true_eq] at hRs;obtain ⟨r1, r2, r3⟩ := hRs
 have hl0 := lastT_nonneg L 0 (by omega) r2
 have hs0 := sumL_nonneg L;have hxl := hL.len;refine Br.mk (fun hlt => ?_) (fun hge => ?_)
 · have hlt := of_decide_eq_true hlt
   have hkl : k < bs.length := by omega
   have fail : goF (yields bs k) (lastT 0 L) (16384 - sumL L) L = ((k : Int), []) -> ∀ J, ∃ a' n' c', Value.tuple #[Value.slice none 0 0, Value.int IntKind.i64 k, Value.int IntKind.i64 21] = Value.tuple #[Value.slice a' n' c', Value.int IntKind.i64 (readF bs).snd.fst, Value.int IntKind.i64 (readF bs).snd.snd] /\ FldM J a' n' (readF bs).fst /\ n' <= c' /\ c' <= 9223372036854775807 := by
    intro hf J;rw [hf] at hg
    have : readF bs = ([], (k : Int), 21) := by rw [hrd0, hg, if_pos (by simp only; omega)]
    rw [this]
    exact ⟨none, 0, 0, rfl, fldM_nil _, by omega, by omega⟩
   refine wr_i64 (by omega) (by omega) ((ct175 bs hbs a n c (k + 1) (by omega) I1 (h.mono l1) (by omega) hc).mono fun v I2 l2 hv => ?_)
   have hm9 := readN_m hbs (k + 1)
   rcases hre : readN bs (k + 1) with ⟨x, m, er⟩
   rw [hre] at hv hm9
   simp only at hm9
   refine ⟨x, m, er, hv, wr_i64 (by omega) (by omega) (wr_i64 (by omega) (by omega) (Br.mk (fun he => ?_) (fun he => ?_)))⟩
   · have he : er ≠ 0 := by simpa using he
     refine fail (goF_bad hkl ?_ hl0) _
     have hin : (intN bs (k + 1) 0 16384).2.2 ≠ 0 := by
      unfold intN;rw [hre, if_pos he];exact he
     rw [fstep, if_pos (.inl hin)]
   have he : er = 0 := by simpa using he
   subst he;obtain ⟨g0, g1, g2, g3, g4, g5, g6⟩ := readN_back hbs hre
   refine wr_i64 (by omega) (by omega) ⟨_, IntWalk.u64_in _ ⟨by omega, by omega⟩, Br.mk (fun hlx => ?_) (fun hlx => ?_)⟩
   · have hlx := of_decide_eq_true hlx
     refine fail (goF_bad hkl ?_ hl0) _
     by_cases hx : 16384 < x
     · have hin : (intN bs (k + 1) 0 16384).2.2 ≠ 0 := by
        unfold intN
        rw [hre, if_neg (by simp), if_pos (by simp only; omega)]
        simp
       rw [fstep, if_pos (.inl hin)]
     · have hin : intN bs (k + 1) 0 16384 = (x, m, 0) := by rw [intN, hre, if_neg (by simp), if_neg (by simp only; omega)]
       rw [fstep, hin, if_pos (.inr (by simp only; omega))]
   have hlx := of_decide_eq_false hlx
   obtain ⟨b, hb, hcell⟩ := (h.mono (Mem.le_trans l1 l2)).intAt (i := (k : Int)) (by omega) hlt
   rw [Int.toNat_natCast] at hb hcell;have hbr := hbs b (List.mem_of_getElem? hb)
   refine ⟨by omega, hlt, h.isSome (by omega), b, hcell, wr_i64 (by omega) (by omega) (wr_i64 (by omega) (by omega) (wr_i64 (by omega) (by omega) ⟨by omega, by omega, by omega, dup2 ?_⟩))⟩
   have hsub := sl_sub (f := ((k : Int) + 1 + m).toNat) (t := ((k : Int) + 1 + m + x).toNat) ((h.mono l1).mono l2) (by omega) (by omega) hc
   have hbl : ((bs.drop ((k : Int) + 1 + m).toNat).take (((k : Int) + 1 + m + x).toNat - ((k : Int) + 1 + m).toNat)).length = x.toNat := by simp only [List.length_take, List.length_drop]; omega
   have hbb : byteL ((bs.drop ((k : Int) + 1 + m).toNat).take (((k : Int) + 1 + m + x).toNat - ((k : Int) + 1 + m).toNat)) := fun z hz => hbs z (List.mem_of_mem_drop (List.mem_of_mem_take hz))
   have hst : ¬ 16384 < x -> fstep bs k = some ((bs.drop ((k : Int) + 1 + m).toNat).take (((k : Int) + 1 + m + x).toNat - ((k : Int) + 1 + m).toNat), ((k : Int) + 1 + m + x).toNat) := fun hx => by
    have hin : intN bs (k + 1) 0 16384 = (x, m, 0) := by rw [intN, hre, if_neg (by simp), if_neg (by simp only; omega)]
    rw [fstep, hin, if_neg (by simp only; omega)]
    simp only
    congr 3
    omega
   generalize (bs.drop ((k : Int) + 1 + m).toNat).take (((k : Int) + 1 + m + x).toNat - ((k : Int) + 1 + m).toNat) = body at hsub hbl hbb hst
   refine (ct176 body _ _ _ I2 hsub (by omega)).mono fun v I3 l3 hv => ?_
   have hv2 := hv;obtain ⟨b2, m2, c2, rfl, hv3, _⟩ := hv;have hm2 := hv3.numLen
   have hL2 : FR I3 (xs ++ [.int .i64 b, .slice b2 m2 c2]) (L ++ [(b, body)]) := FR.snoc (hL.mono (Mem.le_trans l2 l3)) ⟨⟨by simp only; omega, hbb⟩, rfl, hv2⟩
   refine ⟨b2, m2, c2, rfl, wr_i64 (by omega) (by omega) ⟨by omega, by omega, by omega, fun a4 cp I4 l4 hrow => ?_⟩⟩
   have hf4 := fldM_row hrow (hL2.mono l4)
   have hbnd : ∀ f ∈ L ++ [(b, body)], f.2.length <= 1000000 := fun f hf => by
    rcases List.mem_append.1 hf with hf | hf
    · have := right_at (rightF_iff.1 hR).1 f hf
      omega
    · cases List.mem_singleton.1 hf
      simp only
      omega
   have hll : (L ++ [(b, body)]).length = xs.length / 2 + 1 := by simp; omega
   rw [hll] at hf4;refine (ct165 (L ++ [(b, body)]) _ _ _ I4 hf4 hbnd).mono fun v I5 l5 hv => ⟨_, hv, ?_⟩;rw [right_snoc hR]
   by_cases hx : 16384 < x
   · refine Br.t ?_ (fail (goF_bad hkl ?_ hl0) _)
     · rw [decide_eq_true (by simp only; omega)]; rfl
     · have hin : (intN bs (k + 1) 0 16384).2.2 ≠ 0 := by
        unfold intN
        rw [hre, if_neg (by simp), if_pos (by simp only; omega)]
        simp
       rw [fstep, if_pos (.inl hin)]
   have hstep := goF_step (last := lastT 0 L) (left := 16384 - sumL L) (L := L) hkl (hst hx) hb (by omega)
   refine Br.mk (fun hbad => ?_) (fun hgood => ?_)
   · have hbad : b <= lastT 0 L \/ 200 < b \/ 16384 - sumL L < body.length \/ 64 <= L.length := by simpa using hbad
     rw [if_pos hbad] at hstep;exact fail hstep _
   · have hgood : ¬ (b <= lastT 0 L \/ 200 < b \/ 16384 - sumL L < body.length \/ 64 <= L.length) := by simpa using hgood
     rw [if_neg hgood] at hstep
     refine Br.f (by simp; omega) (wr_i64 (by omega) (by omega) (wr_i64 (by omega) (by omega) ⟨by simp, ⟨by omega, L ++ [(b, body)], hL2, ?_, ?_, ?_⟩, by omega⟩))
     · rw [right_snoc hR, decide_eq_false hgood]; rfl
     · rw [sumL_app]; simp only [sumL]; omega
     · rw [hg, hstep, lastT_snoc, sumL_app]
       simp only [sumL]
       congr 1
       omega
 · have hge := of_decide_eq_false hge
   intro a4 cp I4 l4 hrow
   have hy : yields bs k = [] := by rw [yields, dif_neg (by omega)]
   rw [hy, goF] at hg
   have : readF bs = (L, 0, 0) := by rw [hrd0, hg]; rfl
   rw [this];obtain ⟨a3, n3, c3, e1, e2⟩ := fr_row hrow (hL.mono l4);cases e1;exact ⟨_, _, _, rfl, e2⟩
theorem readN_bad (bs : List Int) (at_ : Int) : (readN bs at_).2.2 ≠ 0 -> (readN bs at_).1 = 0 /\ (readN bs at_).2.1 = 0 := by
 unfold readN;split
 · simp
 · split
   · simp
   · split
     · simp
     · split
       · simp
       · split
         · simp
         · split
           · simp
           · split <;> simp
theorem ct150 (bs : List Int) (hbs : ∀ b ∈ bs, 0 <= b /\ b <= 255) (a : Option Addr) (n c : Nat) (I : Mem) (h : SlM I a n 1 (ints .u8 bs)) (hl : n <= 1000000000) (hc : n <= c) :
 Ct Tryz.prog (fnv 150) #[.slice a n c] I (fun v _ => v = T3 (lastN bs)) := by
 refine viaR (ct_via (A := {}) Tryz.func150 rfl Tryz.call150 rfl rfl) (Ct Tryz.prog (fnv 175) #[.slice a n c, .int .i64 0] I fun v b => ∃ d e f, v = .tuple #[.int .u64 d, .int .i64 e, .int .i64 f] /\ Br (f == 0) (Br (e != (n : Int)) (Value.tuple #[.int .u64 0, .int .i64 0, .int .i64 11] = .tuple #[.int .u64 (lastN bs).1, .int .i64 (lastN bs).2.1, .int .i64 (lastN bs).2.2]) (Value.tuple #[.int .u64 d, .int .i64 e, .int .i64 f] = .tuple #[.int .u64 (lastN bs).1, .int .i64 (lastN bs).2.1, .int .i64 (lastN bs).2.2])) (Value.tuple #[.int .u64 d, .int .i64 e, .int .i64 f] = .tuple #[.int .u64 (lastN bs).1, .int .i64 (lastN bs).2.1, .int .i64 (lastN bs).2.2])) (by kernel_rfl) ?_
 refine (ct175 bs hbs a n c 0 (by omega) I h hl hc).mono fun v I1 l1 hv => ?_
 have hnl := h.numLen;have hbad := readN_bad bs 0
 rcases hr : readN bs 0 with ⟨x, m, e⟩
 rw [hr] at hv hbad;refine ⟨_, _, _, hv, ?_⟩;unfold lastN;rw [hr];refine Br.mk (fun he => ?_) (fun he => ?_)
 · have he : e = 0 := by simpa using he
   subst he;obtain ⟨g0, g1, g2, g3, g4, g5, g6⟩ := readN_back hbs hr;refine Br.mk (fun hm => ?_) (fun hm => ?_)
   · have hm : m ≠ n := by simpa using hm
     rw [if_neg (by simp), if_pos (by simp only; omega)]
   · have hm : m = n := by simpa using hm
     rw [if_neg (by simp), if_neg (by simp only; omega)]
 · have he : e ≠ 0 := by simpa using he
   obtain ⟨h1, h2⟩ := hbad he
   simp only at h1 h2
   rw [if_pos he, h1, h2]
theorem ct124 (l : List (Int × List Int)) (hb : ∀ f ∈ l, f.2.length <= 1000000) (a : Option Addr) (n c : Nat) (I : Mem) (h : FldM I a n l) (hn : n <= 1000000) :
 Ct Tryz.prog (fnv 124) #[.slice a n c] I (fun v I' => ∃ a' n' c', v = .tuple #[.slice a' n' c', .int .i64 (if rightF l then 0 else 20)] /\ SlM I' a' n' 1 (ints .u8 (if rightF l then writeF l else [])) /\ n' <= c' /\ c' <= maxLen) := by
 refine viaR (ct_via (A := { loops := [(5, ⟨[(0, .keep), (4, .row 0), (5, .sh (.int .i64))], [(0, .row)], [(4, 1, 5)], fun vals xss I' _ => match vals, xss with | [.int .i64 j], [xs] => 0 <= j /\ j <= n /\ xs = ints .u8 (writeF (l.take j.toNat)) /\ rightF l = true | _, _ => False, fun vals _ => match vals with | [.int .i64 j] => (n - j).toNat | _ => 0⟩)] }) Tryz.func124 rfl Tryz.call124 rfl rfl) (Ct Tryz.prog (fnv 165) #[.slice a n c] I fun v b => ∃ d, v = .bool d /\ Br (!d) (∃ e f g, Value.tuple #[.slice none 0 0, .int .i64 20] = .tuple #[.slice e f g, .int .i64 (if rightF l = true then 0 else 20)] /\ SlM b e f 1 (List.map (Value.int .u8) (if rightF l = true then writeF l else ([] : List Int))) /\ f <= g /\ g <= 9223372036854775807) ((Rf (SV.v (.slice a n c)) /\ (0 : Nat) = 0 /\ (0 : Int) <= 0 /\ 0 <= (n : Int) /\ Rf ([] : List Value) /\ rightF l = true) /\ ∀ (e : Mem), Mem -> b.le e -> ∀ (x : List Value) (f : Int), 0 <= f /\ f <= (n : Int) /\ x = List.map (Value.int .u8) (writeF (List.take f.toNat l)) /\ rightF l = true -> Br (decide (f < (n : Int))) (0 <= f /\ f < (n : Int) /\ a.isSome = true /\ a.isSome = true /\ ∃ g, atI e a (f.toNat * 2 + 0 + 0) = some (.int .i64 g) /\ Wr .u8 g fun i => x.length = x.length * 1 /\ x.length + 1 <= 9223372036854775807 /\ (x.length + 1) * 1 <= 140737488355328 /\ 0 <= f /\ f < (n : Int) /\ a.isSome = true /\ a.isSome = true /\ ∃ j k m, atI e a (f.toNat * 2 + 1 + 0) = some (.slice j k m) /\ Wr .u64 (k : Int) fun o => Ct Tryz.prog (fnv 121) #[.int .u64 o] e fun p q => ∃ r s t, p = .slice r s t /\ ∃ y, y.length = s * 1 /\ (r = none -> s = 0) /\ (∀ (u : Nat) (w : Value), y[u]? = some w -> atI q r u = some w) /\ (∀ (u : Value), Membership.mem y u -> u.oneCell' = true) /\ List.length (x ++ [.int .u8 i]) = (x.length + 1) * 1 /\ x.length + 1 + s <= 9223372036854775807 /\ (x.length + 1 + s) * 1 <= 140737488355328 /\ 0 <= f /\ f < (n : Int) /\ a.isSome = true /\ a.isSome = true /\ ∃ u w z, atI q a (f.toNat * 2 + 1 + 0) = some (.slice u w z) /\ ∃ y1, y1.length = w * 1 /\ (u = none -> w = 0) /\ (∀ (j1 : Nat) (v1 : Value), y1[j1]? = some v1 -> atI q u j1 = some v1) /\ (∀ (v1 : Value), Membership.mem y1 v1 -> v1.oneCell' = true) /\ List.length (x ++ [.int .u8 i] ++ y) = (x.length + 1 + s) * 1 /\ x.length + 1 + s + w <= 9223372036854775807 /\ (x.length + 1 + s + w) * 1 <= 140737488355328 /\ Wr .i64 (f + 1) fun c1 => Rf (SV.v (.slice a n c)) /\ x.length + 1 + s + w = List.length (x ++ [.int .u8 i] ++ y ++ y1) /\ (0 <= c1 /\ c1 <= (n : Int) /\ x ++ [.int .u8 i] ++ y ++ y1 = List.map (Value.int .u8) (writeF (List.take c1.toNat l)) /\ rightF l = true) /\ Int.toNat ((n : Int) - c1) < Int.toNat ((n : Int) - f)) (∀ (g : Option Addr) (i : Nat) (j : Mem), e.le j -> RowM j g i 1 x -> ∃ k m o, Value.tuple #[.slice g x.length i, .int .i64 0] = .tuple #[.slice k m o, .int .i64 (if rightF l = true then 0 else 20)] /\ SlM j k m 1 (List.map (Value.int .u8) (if rightF l = true then writeF l else ([] : List Int))) /\ m <= o /\ o <= 9223372036854775807))) (by kernel_rfl) ?_
 have hl := h.len;refine (ct165 l a n c I h hb).mono fun v I0 l0 hv => ⟨_, hv, Br.mk (fun hr => ?_) (fun hr => ?_)⟩
 · have hr : rightF l = false := by simpa using hr
   rw [hr]
   exact ⟨none, 0, 0, rfl, sl_nil _ _, by omega, by omega⟩
 have hr : rightF l = true := by simpa using hr
 obtain ⟨hs, hl64⟩ := rightF_iff.1 hr
 refine ⟨⟨rfl, rfl, by omega, by omega, rfl, hr⟩, fun I1 _ l1 xs j ⟨h0, h1, h2, _⟩ => Br.mk (fun hlt => ?_) (fun hge => ?_)⟩
 · have hlt := of_decide_eq_true hlt
   obtain ⟨f, b, m, c', hf, hok, e1, e2, hfs, hm1, hm2⟩ := (h.mono (Mem.le_trans l0 l1)).at_ h0 hlt;have hm := hfs.numLen;have hfr := right_at hs f (List.mem_of_getElem? hf)
   have hsome := h.isSome (by omega)
   have hwl := right_len (by omega) hs j.toNat
   have hxl : xs.length = (writeF (l.take j.toNat)).length := by rw [h2]; exact ints_len
   refine ⟨h0, hlt, hsome, hsome, f.1, e1, _, IntWalk.u8_in f.1 ⟨by omega, by omega⟩, by omega, by omega, by omega, h0, hlt, hsome, hsome, b, m, c', e2, _, IntWalk.u64_in _ ⟨by omega, by omega⟩, ?_⟩
   refine (ct121 (m : Int) ⟨by omega, by omega⟩ I1).mono fun v I2 l2 ⟨b2, m2, c2, hv, hs2, hm3, hm4⟩ => ⟨b2, m2, c2, hv, ?_⟩
   rw [Int.toNat_natCast] at hs2;have hm2 := hs2.numLen
   have hf9 := formN_le m (by omega)
   obtain ⟨f2, b', m', c2', hf', _, _, e2', hfs', _⟩ := (h.mono (Mem.le_trans l0 (Mem.le_trans l1 l2))).at_ h0 hlt;rw [hf] at hf'
   cases hf'
   refine ⟨_, hs2.len, hs2.nil, hs2.at_, one_ints, by simp, by omega, by omega, h0, hlt, hsome, hsome, b', m', c2', e2', _, hfs'.len, hfs'.nil, hfs'.at_, one_ints, ?_, ?_, ?_, wr_i64 (by omega) (by omega) ⟨rfl, ?_, ⟨by omega, by omega, ?_, hr⟩, by omega⟩⟩
   · simp [ints_len]; omega
   · have := hfs'.numLen; omega
   · have := hfs'.numLen; omega
   · have := hfs'.numLen
     simp [ints_len]; omega
   · rw [h2, show (j + 1).toNat = j.toNat + 1 by omega, take_succ' hf, writeF_app, show writeF [f] = f.1 :: (formN f.2.length ++ f.2) by simp [writeF], <- hm]
     simp [ints]
 · have hge := of_decide_eq_false hge
   intro a4 cp I4 l4 hrow
   rw [List.take_of_length_le (by omega)] at h2
   have hxl : xs.length = (writeF l).length := by rw [h2]; exact ints_len
   refine ⟨a4, xs.length, cp, ?_, ?_, ?_, hrow.2.1⟩
   · rw [hr]; rfl
   · rw [if_pos hr, <- h2]; exact hrow.sl (by omega) (by omega)
   · have := hrow.1; omega
theorem right_none {r : Rq} (h : tagL r.kind r.what = none) : rightR r = false := by rw [rightR, h]
theorem tag_none {k w : Int} (h : k < 1 \/ 9 < k) : tagL k w = none := by
 rw [tagL, if_neg (by omega), if_neg (by omega), if_neg (by omega), if_neg (by omega), if_neg (by omega), if_neg (by omega), if_neg (by omega), if_neg (by omega), if_neg (by omega)]
theorem ask_none {w : Int} (h : w < 1 \/ 5 < w) : tagL 7 w = none := by
 have : askL w = none := by rw [askL, if_neg (by omega), if_neg (by omega), if_neg (by omega), if_neg (by omega), if_neg (by omega)]
 show (askL w).map (1 :: ·) = none
 rw [this]; rfl
theorem right_size {r : Rq} (h : 255 < r.name.size \/ 15000 < r.fed.length) : rightR r = false := by
 rw [rightR];split
 · rfl
 · rcases h with h | h
   · rw [decide_eq_false (p := r.name.size <= 255) (by omega), Bool.false_and]
   · rw [decide_eq_false (p := r.fed.length <= 15000) (by omega), Bool.false_and, Bool.and_false]
theorem ct125 (l : List Int) (t : Int) (a : Option Addr) (n c : Nat) (I : Mem) (h : SlM I a n 1 (ints .i64 l)) (hn : n <= 1000000) :
 Ct Tryz.prog (fnv 125) #[.slice a n c, .int .i64 t] I (fun v _ => v = .bool (decide (t ∈ l))) := by
 refine viaR (ct_via (A := { loops := [(2, ⟨[(0, .keep), (1, .keep), (5, .sh (.int .i64))], [], [], fun vals _ _ _ => match vals with | [.int .i64 j] => 0 <= j /\ j <= n /\ t ∉ l.take j.toNat | _ => False, fun vals _ => match vals with | [.int .i64 j] => (n - j).toNat | _ => 0⟩)] }) Tryz.func125 rfl Tryz.call125 rfl rfl) ((Rf (SV.v (.slice a n c)) /\ Rf (SV.v (.int .i64 t)) /\ (0 : Int) <= 0 /\ 0 <= (n : Int) /\ ¬(Membership.mem ([] : List Int) t)) /\ ∀ (b : Mem), Mem -> I.le b -> ∀ (d : Int), 0 <= d /\ d <= (n : Int) /\ ¬(Membership.mem (List.take d.toNat l) t) -> Br (decide (d < (n : Int))) (0 <= d /\ d < (n : Int) /\ a.isSome = true /\ ∃ e, atI b a (d.toNat * 1 + 0) = some (.int .i64 e) /\ Br (e == t) (Value.bool true = .bool (decide (Membership.mem l t))) (Wr .i64 (d + 1) (fun f => Rf (SV.v (.slice a n c)) /\ Rf (SV.v (.int .i64 t)) /\ (0 <= f /\ f <= (n : Int) /\ ¬(Membership.mem (List.take f.toNat l) t)) /\ Int.toNat ((n : Int) - f) < Int.toNat ((n : Int) - d)))) (Value.bool false = .bool (decide (Membership.mem l t)))) (by kernel_rfl) ?_
 have hl := h.numLen
 refine ⟨⟨rfl, rfl, by omega, by omega, by simp⟩, fun I' _ l' j ⟨j0, j1, hj⟩ => Br.mk (fun hlt => ?_) (fun hge => ?_)⟩
 · have hlt := of_decide_eq_true hlt
   obtain ⟨x, hx, e⟩ := (h.mono l').intAt j0 (by omega)
   refine ⟨j0, hlt, h.isSome (by omega), x, e, Br.mk (fun hq => ?_) (fun hq => ?_)⟩
   · have hq := eqv hq
     rw [decide_eq_true (by rw [<- hq]; exact List.mem_of_getElem? hx)]
   · have hq := nev hq
     refine wr_i64 (by omega) (by omega) ⟨rfl, rfl, ⟨by omega, by omega, ?_⟩, by omega⟩
     rw [show (j + 1).toNat = j.toNat + 1 by omega, take_succ' hx]
     simp only [List.mem_append, List.mem_singleton]
     rintro (hc | hc)
     · exact hj hc
     · exact hq hc.symm
 · have hge := of_decide_eq_false hge
   rw [List.take_of_length_le (by omega)] at hj
   rw [decide_eq_false hj]
theorem ct123 (r : Rq) (y : Value) (t : Int) (ht : 3 <= t /\ t <= 9) (I : Mem) :
 Ct Tryz.prog (fnv 123) #[.agg (rqV r y).toArray, .int .i64 t] I (fun v _ => v = .int .i64 (numR r t)) := by
 refine viaR (ct_via (A := { }) Tryz.func123 rfl Tryz.call123 rfl rfl) (Wr .i64 (t - 3) fun c => 0 <= c /\ c < 7 /\ ∃ n, [SV.v (.int .i64 r.p3), .v (.int .i64 r.p4), .v (.int .i64 r.p5), .v (.int .i64 r.p6), .v (.int .i64 r.p7), .v (.int .i64 r.p8), .v (.int .i64 r.p9)][0 + c.toNat * 1 + 0]?.bind (fun (x : SV) => (match x with
  | SV.v x => some x
  | x => none)) = some (.int .i64 n) /\ Value.int .i64 n = .int .i64 (numR r t)) (by kernel_rfl) ?_
 rcases (by omega : t = 3 \/ t = 4 \/ t = 5 \/ t = 6 \/ t = 7 \/ t = 8 \/ t = 9) with rfl | rfl | rfl | rfl | rfl | rfl | rfl
 all_goals exact wr_i64 (by omega) (by omega) ⟨by omega, by omega, _, rfl, rfl⟩
theorem small_at {J : Mem} {b : Nat} {l : List Int} (h : J b = some (.cells (ints .i64 l).toArray 3)) : ∀ (j : Nat) (v : Value), (ints .i64 l)[j]? = some v -> atI J (some ⟨b, 0, none⟩) j = some v := fun j v hj => atC h (by simpa using hj)
theorem tagE {J : Mem} {a : Option Addr} {n cp : Nat} {k w : Int} {l : List Int} (ht : tagL k w = some l) (hr : RowM J a cp 1 (ints .i64 l)) (hn : n = l.length) : ∃ a_3 n_1 c, Value.tuple #[Value.slice a n cp, Value.bool true] = Value.tuple #[Value.slice a_3 n_1 c, Value.bool (tagL k w).isSome] /\ SlM J a_3 n_1 1 (ints .i64 ((tagL k w).getD [])) /\ n_1 <= c /\ c <= maxLen := by
 rw [ht];have h1 := hr.1;rw [ints_len] at h1
 exact ⟨a, n, cp, rfl, hr.sl (by omega) (by rw [ints_len]; omega), by omega, hr.2.1⟩
theorem ct93 (k w : Int) (hk : 0 <= k /\ k <= 255) (hw : 0 <= w /\ w <= 255) (I : Mem) : Ct Tryz.prog (fnv 93) #[.int .u8 k, .int .u8 w] I (fun v I' => ∃ (a : Option Addr) (n c : Nat), v = .tuple #[.slice a n c, .bool (tagL k w).isSome] /\ SlM I' a n 1 (ints .i64 ((tagL k w).getD [])) /\ n <= c /\ c <= maxLen) := by
 refine viaR (ct_via (A := { befores := [(3, [0, 1, 2, 3, 4, 5, 6, 7, 8, 10, 11, 12, 13, 14])] }) Tryz.func93 rfl Tryz.call93 rfl rfl) (let E1 := fun (x : Nat) => .v (.slice (some ⟨x, 0, none⟩) 1 1)
  ∀ (b : Nat) (a : Mem), I.le a -> a b = some (.cells #[.int .i64 11] 3 (0, 0)) -> ∀ (c : Nat) (d : Mem), a.le d -> d c = some (.cells #[.int .i64 2, .int .i64 3] 3 (0, 0)) -> ∀ (e : Nat) (f : Mem), d.le f -> f e = some (.cells #[.int .i64 4, .int .i64 5, .int .i64 6] 3 (0, 0)) -> ∀ (g : Nat) (h : Mem), f.le h -> h g = some (.cells #[.int .i64 4] 3 (0, 0)) -> ∀ (i : Nat) (j : Mem), h.le j -> j i = some (.cells #[.int .i64 4, .int .i64 7, .int .i64 10] 3 (0, 0)) -> ∀ (l : Nat) (m : Mem), j.le m -> m l = some (.cells #[.int .i64 7] 3 (0, 0)) -> ∀ (n : Nat) (o : Mem), m.le o -> o n = some (.cells #[.int .i64 1] 3 (0, 0)) -> ∀ (p : Nat) (q : Mem), o.le q -> q p = some (.cells #[.int .i64 8, .int .i64 9] 3 (0, 0)) -> ∀ (r : Nat) (s : Mem), q.le s -> s r = some (.cells #[] 3 (0, 0)) -> ∀ (t : Nat) (u : Mem), s.le u -> u t = some (.cells #[] 3 (0, 0)) -> ∀ (v : Nat) (x : Mem), u.le x -> x v = some (.cells #[.int .i64 4] 3 (0, 0)) -> ∀ (y : Nat) (z : Mem), x.le z -> z y = some (.cells #[.int .i64 7, .int .i64 8, .int .i64 9] 3 (0, 0)) -> ∀ (b1 : Nat) (I1 : Mem), z.le I1 -> I1 b1 = some (.cells #[.int .i64 2] 3 (0, 0)) -> ∀ (b2 : Nat) (I2 : Mem), I1.le I2 -> I2 b2 = some (.cells #[.int .i64 4] 3 (0, 0)) -> Br (decide (k < 1)) (∃ a1 n1 c1, Value.tuple #[.slice none 0 0, .bool false] = .tuple #[.slice a1 n1 c1, .bool (tagL k w).isSome] /\ SlM I2 a1 n1 1 (List.map (Value.int .i64) ((tagL k w).getD ([] : List Int))) /\ n1 <= c1 /\ c1 <= 9223372036854775807) (Br (decide (9 < k)) (∃ a1 n1 c1, Value.tuple #[.slice none 0 0, .bool false] = .tuple #[.slice a1 n1 c1, .bool (tagL k w).isSome] /\ SlM I2 a1 n1 1 (List.map (Value.int .i64) ((tagL k w).getD ([] : List Int))) /\ n1 <= c1 /\ c1 <= 9223372036854775807) (0 <= k /\ k < 10 /\ ∃ a1 n1 c1, [SV.v (.slice none 0 0), E1 b, .v (.slice (some ⟨c, 0, none⟩) 2 2), .v (.slice (some ⟨e, 0, none⟩) 3 3), E1 g, .v (.slice (some ⟨i, 0, none⟩) 3 3), E1 l, E1 n, .v (.slice (some ⟨p, 0, none⟩) 2 2), .v (.slice (some ⟨r, 0, none⟩) 0 0)][0 + k.toNat * 1 + 0]?.bind (fun (x1 : SV) => (match x1 with
  | SV.v x => some x
  | x => none)) = some (.slice a1 n1 c1) /\ ∃ y1, y1.length = n1 * 1 /\ (a1 = none -> n1 = 0) /\ (∀ (j1 : Nat) (v1 : Value), y1[j1]? = some v1 -> atI I2 a1 j1 = some v1) /\ (∀ (v1 : Value), Membership.mem y1 v1 -> v1.oneCell' = true) /\ (0 : Nat) = 0 /\ 0 + n1 <= 9223372036854775807 /\ (0 + n1) * 8 <= 140737488355328 /\ Br (k == 7) (Br (decide (w < 1)) (∃ a2 n2 c2, Value.tuple #[.slice none 0 0, .bool false] = .tuple #[.slice a2 n2 c2, .bool (tagL k w).isSome] /\ SlM I2 a2 n2 1 (List.map (Value.int .i64) ((tagL k w).getD ([] : List Int))) /\ n2 <= c2 /\ c2 <= 9223372036854775807) (Br (decide (5 < w)) (∃ a2 n2 c2, Value.tuple #[.slice none 0 0, .bool false] = .tuple #[.slice a2 n2 c2, .bool (tagL k w).isSome] /\ SlM I2 a2 n2 1 (List.map (Value.int .i64) ((tagL k w).getD ([] : List Int))) /\ n2 <= c2 /\ c2 <= 9223372036854775807) (0 <= w /\ w < 6 /\ ∃ a2 n2 c2, [SV.v (.slice none 0 0), .v (.slice (some ⟨t, 0, none⟩) 0 0), E1 v, .v (.slice (some ⟨y, 0, none⟩) 3 3), E1 b1, E1 b2][0 + w.toNat * 1 + 0]?.bind (fun (x1 : SV) => (match x1 with
  | SV.v x => some x
  | x => none)) = some (.slice a2 n2 c2) /\ ∃ y2, y2.length = n2 * 1 /\ (a2 = none -> n2 = 0) /\ (∀ (j1 : Nat) (v1 : Value), y2[j1]? = some v1 -> atI I2 a2 j1 = some v1) /\ (∀ (v1 : Value), Membership.mem y2 v1 -> v1.oneCell' = true) /\ y1.length = (0 + n1) * 1 /\ 0 + n1 + n2 <= 9223372036854775807 /\ (0 + n1 + n2) * 8 <= 140737488355328 /\ ∀ (a3 : Option Addr) (c3 : Nat) (I3 : Mem), I2.le I3 -> RowM I3 a3 c3 1 (y1 ++ y2) -> ∃ a4 n3 c4, Value.tuple #[.slice a3 (0 + n1 + n2) c3, .bool true] = .tuple #[.slice a4 n3 c4, .bool (tagL k w).isSome] /\ SlM I3 a4 n3 1 (List.map (Value.int .i64) ((tagL k w).getD ([] : List Int))) /\ n3 <= c4 /\ c4 <= 9223372036854775807))) (∀ (a2 : Option Addr) (c2 : Nat) (I3 : Mem), I2.le I3 -> RowM I3 a2 c2 1 y1 -> ∃ a3 n2 c3, Value.tuple #[.slice a2 (0 + n1) c2, .bool true] = .tuple #[.slice a3 n2 c3, .bool (tagL k w).isSome] /\ SlM I3 a3 n2 1 (List.map (Value.int .i64) ((tagL k w).getD ([] : List Int))) /\ n2 <= c3 /\ c3 <= 9223372036854775807)))) (by kernel_rfl) ?_
 intro E1
 have Z : ∀ {J : Mem}, tagL k w = none -> ∃ a n c, Value.tuple #[Value.slice none 0 0, Value.bool false] = Value.tuple #[Value.slice a n c, Value.bool (tagL k w).isSome] /\ SlM J a n 1 (ints .i64 ((tagL k w).getD [])) /\ n <= c /\ c <= maxLen := fun {J} hz => by
  rw [hz]
  exact ⟨none, 0, 0, rfl, sl_nil _ _, by omega, by omega⟩
 intro b0 J0 l0 h0 b1 J1 l1 h1 b2 J2 l2 h2 b3 J3 l3 h3 b4 J4 l4 h4 b5 J5 l5 h5 b6 J6 l6 h6 b7 J7 l7 h7 b8 J8 l8 h8 b9 J9 l9 h9 b10 J10 l10 h10 b11 J11 l11 h11 b12 J12 l12 h12 b13 J13 l13 h13;have h0 := (Mem.le_trans l1 (Mem.le_trans l2 (Mem.le_trans l3 (Mem.le_trans l4 (Mem.le_trans l5 (Mem.le_trans l6 (Mem.le_trans l7 (Mem.le_trans l8 (Mem.le_trans l9 (Mem.le_trans l10 (Mem.le_trans l11 (Mem.le_trans l12 l13)))))))))))) _ _ h0
 have h1 := (Mem.le_trans l2 (Mem.le_trans l3 (Mem.le_trans l4 (Mem.le_trans l5 (Mem.le_trans l6 (Mem.le_trans l7 (Mem.le_trans l8 (Mem.le_trans l9 (Mem.le_trans l10 (Mem.le_trans l11 (Mem.le_trans l12 l13))))))))))) _ _ h1;have h2 := (Mem.le_trans l3 (Mem.le_trans l4 (Mem.le_trans l5 (Mem.le_trans l6 (Mem.le_trans l7 (Mem.le_trans l8 (Mem.le_trans l9 (Mem.le_trans l10 (Mem.le_trans l11 (Mem.le_trans l12 l13)))))))))) _ _ h2
 have h3 := (Mem.le_trans l4 (Mem.le_trans l5 (Mem.le_trans l6 (Mem.le_trans l7 (Mem.le_trans l8 (Mem.le_trans l9 (Mem.le_trans l10 (Mem.le_trans l11 (Mem.le_trans l12 l13))))))))) _ _ h3;have h4 := (Mem.le_trans l5 (Mem.le_trans l6 (Mem.le_trans l7 (Mem.le_trans l8 (Mem.le_trans l9 (Mem.le_trans l10 (Mem.le_trans l11 (Mem.le_trans l12 l13)))))))) _ _ h4;have h5 := (Mem.le_trans l6 (Mem.le_trans l7 (Mem.le_trans l8 (Mem.le_trans l9 (Mem.le_trans l10 (Mem.le_trans l11 (Mem.le_trans l12 l13))))))) _ _ h5
 have h6 := (Mem.le_trans l7 (Mem.le_trans l8 (Mem.le_trans l9 (Mem.le_trans l10 (Mem.le_trans l11 (Mem.le_trans l12 l13)))))) _ _ h6;have h7 := (Mem.le_trans l8 (Mem.le_trans l9 (Mem.le_trans l10 (Mem.le_trans l11 (Mem.le_trans l12 l13))))) _ _ h7;have h8 := (Mem.le_trans l9 (Mem.le_trans l10 (Mem.le_trans l11 (Mem.le_trans l12 l13)))) _ _ h8;have h9 := (Mem.le_trans l10 (Mem.le_trans l11 (Mem.le_trans l12 l13))) _ _ h9;have h10 := (Mem.le_trans l11 (Mem.le_trans l12 l13)) _ _ h10;have h11 := (Mem.le_trans l12 l13) _ _ h11;have h12 := l13 _ _ h12
 refine Br.mk (fun g => Z (tag_none (.inl (of_decide_eq_true g)))) (fun g1 => Br.mk (fun g => Z (tag_none (.inr (of_decide_eq_true g)))) (fun g2 => ?_));have g1 := of_decide_eq_false g1;have g2 := of_decide_eq_false g2
 refine ⟨by omega, by omega, ?_⟩
 rcases (by omega : k = 1 \/ k = 2 \/ k = 3 \/ k = 4 \/ k = 5 \/ k = 6 \/ k = 7 \/ k = 8 \/ k = 9) with rfl | rfl | rfl | rfl | rfl | rfl | rfl | rfl | rfl
 · exact ⟨_, _, _, rfl, ints .i64 [11], rfl, (fun h => by cases h), small_at h0, one_ints, rfl, by omega, by omega, Br.f rfl (fun a cp J _ hr => tagE (l := [11]) rfl hr rfl)⟩
 · exact ⟨_, _, _, rfl, ints .i64 [2, 3], rfl, (fun h => by cases h), small_at h1, one_ints, rfl, by omega, by omega, Br.f rfl (fun a cp J _ hr => tagE (l := [2, 3]) rfl hr rfl)⟩
 · exact ⟨_, _, _, rfl, ints .i64 [4, 5, 6], rfl, (fun h => by cases h), small_at h2, one_ints, rfl, by omega, by omega, Br.f rfl (fun a cp J _ hr => tagE (l := [4, 5, 6]) rfl hr rfl)⟩
 · exact ⟨_, _, _, rfl, ints .i64 [4], rfl, (fun h => by cases h), small_at h3, one_ints, rfl, by omega, by omega, Br.f rfl (fun a cp J _ hr => tagE (l := [4]) rfl hr rfl)⟩
 · exact ⟨_, _, _, rfl, ints .i64 [4, 7, 10], rfl, (fun h => by cases h), small_at h4, one_ints, rfl, by omega, by omega, Br.f rfl (fun a cp J _ hr => tagE (l := [4, 7, 10]) rfl hr rfl)⟩
 · exact ⟨_, _, _, rfl, ints .i64 [7], rfl, (fun h => by cases h), small_at h5, one_ints, rfl, by omega, by omega, Br.f rfl (fun a cp J _ hr => tagE (l := [7]) rfl hr rfl)⟩
 · refine ⟨_, _, _, rfl, ints .i64 [1], rfl, (fun h => by cases h), small_at h6, one_ints, rfl, by omega, by omega, Br.t rfl (Br.mk (fun g => Z (ask_none (.inl (of_decide_eq_true g)))) (fun g3 => Br.mk (fun g => Z (ask_none (.inr (of_decide_eq_true g)))) (fun g4 => ?_)))⟩
   have g3 := of_decide_eq_false g3;have g4 := of_decide_eq_false g4
   refine ⟨by omega, by omega, ?_⟩
   rcases (by omega : w = 1 \/ w = 2 \/ w = 3 \/ w = 4 \/ w = 5) with rfl | rfl | rfl | rfl | rfl
   · exact ⟨_, _, _, rfl, ints .i64 [], rfl, (fun h => by cases h), small_at h9, one_ints, rfl, by omega, by omega, fun a cp J _ hr => tagE (l := [1]) rfl hr rfl⟩
   · exact ⟨_, _, _, rfl, ints .i64 [4], rfl, (fun h => by cases h), small_at h10, one_ints, rfl, by omega, by omega, fun a cp J _ hr => tagE (l := [1, 4]) rfl hr rfl⟩
   · exact ⟨_, _, _, rfl, ints .i64 [7, 8, 9], rfl, (fun h => by cases h), small_at h11, one_ints, rfl, by omega, by omega, fun a cp J _ hr => tagE (l := [1, 7, 8, 9]) rfl hr rfl⟩
   · exact ⟨_, _, _, rfl, ints .i64 [2], rfl, (fun h => by cases h), small_at h12, one_ints, rfl, by omega, by omega, fun a cp J _ hr => tagE (l := [1, 2]) rfl hr rfl⟩
   · exact ⟨_, _, _, rfl, ints .i64 [4], rfl, (fun h => by cases h), small_at h13, one_ints, rfl, by omega, by omega, fun a cp J _ hr => tagE (l := [1, 4]) rfl hr rfl⟩
 · exact ⟨_, _, _, rfl, ints .i64 [8, 9], rfl, (fun h => by cases h), small_at h7, one_ints, rfl, by omega, by omega, Br.f rfl (fun a cp J _ hr => tagE (l := [8, 9]) rfl hr rfl)⟩
 · exact ⟨_, _, _, rfl, ints .i64 [], rfl, (fun h => by cases h), small_at h8, one_ints, rfl, by omega, by omega, Br.f rfl (fun a cp J _ hr => tagE (l := []) rfl hr rfl)⟩
def refQ (r : Rq) (l : List Int) (t : Int) : Bool := decide (0 <= numR r t) && (decide (numR r t <= 0) || decide (t ∈ l))
def refR (r : Rq) : Bool := match tagL r.kind r.what with
 | none => false
 | some l => decide (r.name.size <= 255) && decide (r.fed.length <= 15000) && ([3, 4, 5, 6, 7, 8, 9].all (refQ r l) && ((decide (r.what = 0) || decide ((1 : Int) ∈ l)) && ((decide (r.name = ⟨#[]⟩) || decide ((2 : Int) ∈ l)) && ((decide (r.val = 0) || decide ((10 : Int) ∈ l)) && (decide (r.fed = []) || decide ((11 : Int) ∈ l))))))
theorem refR_eq {r : Rq} (hr : okRq r) : refR r = rightR r := by
 rw [right_eq hr, refR, rightS]
 cases hq : tagL r.kind r.what with
 | none => rfl
 | some l =>
  simp only
  rw [Bool.and_assoc]
  congr 2
  have hsh := tagL_shape hq;simp only [shapesL, List.mem_cons, List.not_mem_nil, or_false] at hsh;obtain ⟨e, he⟩ : ∃ e : ByteArray, e = ⟨#[]⟩ := ⟨_, rfl⟩
  have hh : had0 r = { kind := r.kind, what := 0, name := e, p3 := 0, p4 := 0, p5 := 0, p6 := 0, p7 := 0, p8 := 0, p9 := 0, val := 0, fed := [] } := by rw [he]; rfl
  rw [hh, <- he]
  clear hh he hq hr
  by_cases hnm : r.name = e
  · by_cases hfd : r.fed = []
    · rcases hsh with rfl | rfl | rfl | rfl | rfl | rfl | rfl | rfl | rfl | rfl | rfl | rfl
      all_goals
       rw [Bool.eq_iff_iff];simp [refQ, okT, numR, sameR, copyT, hnm, hfd]
       try omega
    · have hfd' : ¬ [] = r.fed := fun h => hfd h.symm
      rcases hsh with rfl | rfl | rfl | rfl | rfl | rfl | rfl | rfl | rfl | rfl | rfl | rfl
      all_goals
       rw [Bool.eq_iff_iff];simp [refQ, okT, numR, sameR, copyT, hnm, hfd, hfd']
       try omega
  · have hnm' : ¬ e = r.name := fun h => hnm h.symm
    by_cases hfd : r.fed = []
    · rcases hsh with rfl | rfl | rfl | rfl | rfl | rfl | rfl | rfl | rfl | rfl | rfl | rfl
      all_goals
       rw [Bool.eq_iff_iff];simp [refQ, okT, numR, sameR, copyT, hnm, hnm', hfd]
       try omega
    · have hfd' : ¬ [] = r.fed := fun h => hfd h.symm
      rcases hsh with rfl | rfl | rfl | rfl | rfl | rfl | rfl | rfl | rfl | rfl | rfl | rfl
      all_goals
       rw [Bool.eq_iff_iff];simp [refQ, okT, numR, sameR, copyT, hnm, hnm', hfd, hfd']
       try omega
theorem ct91 (r : Rq) (hr : okRq r) (y : Value) (I : Mem) (hy : BySl I y r.fed) (hn : r.fed.length <= 1000000) :
 Ct Tryz.prog (fnv 91) #[.agg (rqV r y).toArray] I (fun v _ => v = .bool (rightR r)) := by
 obtain ⟨a1, n1, c1, rfl, hs1, _⟩ := hy
 refine viaR (ct_via (A := { befores := [(1, [0])], cuts := [(10, ⟨[(1, .keep), (3, .keep)], [], [], fun vals _ _ _ => ∀ i : Int, 3 <= i -> i <= 9 -> refQ r (tagsR r) i = true, fun _ _ => 0⟩)], loops := [(5, ⟨[(1, .keep), (3, .keep), (5, .sh (.int .i64))], [], [], fun vals _ _ _ => match vals with | [.int .i64 j] => 3 <= j /\ j <= 10 /\ ∀ i : Int, 3 <= i -> i <= 9 -> i < j -> refQ r (tagsR r) i = true | _ => False, fun vals _ => match vals with | [.int .i64 j] => (10 - j).toNat | _ => 0⟩)] }) Tryz.func91 rfl Tryz.call91 rfl rfl) (∀ (b : Nat) (a : Mem), I.le a -> a b = some (.cells #[.int .u8 r.kind, .int .u8 r.what, .string r.name, .int .i64 r.p3, .int .i64 r.p4, .int .i64 r.p5, .int .i64 r.p6, .int .i64 r.p7, .int .i64 r.p8, .int .i64 r.p9, .int .i64 r.val, .slice a1 n1 c1] 78 (0, 0)) -> true = true /\ ∃ n, atI a (some ⟨b, 0, none⟩) 0 = some (.int .u8 n) /\ true = true /\ ∃ c, atI a (some ⟨b, 0, none⟩) 1 = some (.int .u8 c) /\ Ct Tryz.prog (fnv 93) #[.int .u8 n, .int .u8 c] a fun v d => ∃ e f g h, v = .tuple #[.slice e f g, .bool h] /\ Br (!h) (Value.bool false = .bool (rightR r)) (true = true /\ ∃ q, atI d (some ⟨b, 0, none⟩) 2 = some (.string q) /\ Br (decide (255 < (q.size : Int))) (Value.bool false = .bool (rightR r)) (true = true /\ ∃ i j k, atI d (some ⟨b, 0, none⟩) 11 = some (.slice i j k) /\ Br (decide (15000 < (j : Int))) (Value.bool false = .bool (rightR r)) (((Rf (SV.v (.pointer (some ⟨b, 0, none⟩))) /\ Rf (SV.v (.slice e f g)) /\ (3 : Int) <= 3 /\ (3 : Int) <= 10 /\ ∀ (l : Int), 3 <= l -> l <= 9 -> l < 3 -> refQ r (tagsR r) l = true) /\ ∀ (l : Mem), Mem -> d.le l -> ∀ (m : Int), 3 <= m /\ m <= 10 /\ (∀ (o : Int), 3 <= o -> o <= 9 -> o < m -> refQ r (tagsR r) o = true) -> Br (decide (m < 10)) ((12 : Nat) = 12 /\ ∃ o, atI l (some ⟨b, 0, none⟩) 0 = some (.int .u8 o) /\ ∃ p, atI l (some ⟨b, 0, none⟩) 1 = some (.int .u8 p) /\ ∃ s, atI l (some ⟨b, 0, none⟩) 2 = some (.string s) /\ ∃ t, atI l (some ⟨b, 0, none⟩) 3 = some (.int .i64 t) /\ ∃ u, atI l (some ⟨b, 0, none⟩) 4 = some (.int .i64 u) /\ ∃ w, atI l (some ⟨b, 0, none⟩) 5 = some (.int .i64 w) /\ ∃ x, atI l (some ⟨b, 0, none⟩) 6 = some (.int .i64 x) /\ ∃ y, atI l (some ⟨b, 0, none⟩) 7 = some (.int .i64 y) /\ ∃ z, atI l (some ⟨b, 0, none⟩) 8 = some (.int .i64 z) /\ ∃ n2, atI l (some ⟨b, 0, none⟩) 9 = some (.int .i64 n2) /\ ∃ n3, atI l (some ⟨b, 0, none⟩) 10 = some (.int .i64 n3) /\ ∃ a2 n4 c2, atI l (some ⟨b, 0, none⟩) 11 = some (.slice a2 n4 c2) /\ Ct Tryz.prog (fnv 123) #[.agg #[.int .u8 o, .int .u8 p, .string s, .int .i64 t, .int .i64 u, .int .i64 w, .int .i64 x, .int .i64 y, .int .i64 z, .int .i64 n2, .int .i64 n3, .slice a2 n4 c2], .int .i64 m] l fun v1 I1 => ∃ n5, v1 = .int .i64 n5 /\ Br (decide (n5 < 0)) (Value.bool false = .bool (rightR r)) (Br (decide (0 < n5)) (Ct Tryz.prog (fnv 125) #[.slice e f g, .int .i64 m] I1 (fun v2 I2 => ∃ b1, v2 = .bool b1 /\ Br (!b1) (Value.bool false = .bool (rightR r)) (Wr .i64 (m + 1) (fun c3 => Rf (SV.v (.pointer (some ⟨b, 0, none⟩))) /\ Rf (SV.v (.slice e f g)) /\ (3 <= c3 /\ c3 <= 10 /\ ∀ (i1 : Int), 3 <= i1 -> i1 <= 9 -> i1 < c3 -> refQ r (tagsR r) i1 = true) /\ Int.toNat (10 - c3) < Int.toNat (10 - m))))) (Wr .i64 (m + 1) (fun c3 => Rf (SV.v (.pointer (some ⟨b, 0, none⟩))) /\ Rf (SV.v (.slice e f g)) /\ (3 <= c3 /\ c3 <= 10 /\ ∀ (i1 : Int), 3 <= i1 -> i1 <= 9 -> i1 < c3 -> refQ r (tagsR r) i1 = true) /\ Int.toNat (10 - c3) < Int.toNat (10 - m))))) (Rf (SV.v (.pointer (some ⟨b, 0, none⟩))) /\ Rf (SV.v (.slice e f g)) /\ ∀ (o : Int), 3 <= o -> o <= 9 -> refQ r (tagsR r) o = true)) /\ ∀ (l : Mem), Mem -> d.le l -> (∀ (m : Int), 3 <= m -> m <= 9 -> refQ r (tagsR r) m = true) -> true = true /\ ∃ m, atI l (some ⟨b, 0, none⟩) 1 = some (.int .u8 m) /\ Br (m == 0) (true = true /\ ∃ o, atI l (some ⟨b, 0, none⟩) 2 = some (.string o) /\ Br (o.toList == (ByteArray.mk #[]).toList) (true = true /\ ∃ p, atI l (some ⟨b, 0, none⟩) 10 = some (.int .i64 p) /\ Br (p == 0) (true = true /\ ∃ s t u, atI l (some ⟨b, 0, none⟩) 11 = some (.slice s t u) /\ Br ((t : Int) == 0) (Value.bool true = .bool (rightR r)) (Ct Tryz.prog (fnv 125) #[.slice e f g, .int .i64 11] l (fun w x => ∃ y, w = .bool y /\ Value.bool y = .bool (rightR r)))) (Ct Tryz.prog (fnv 125) #[.slice e f g, .int .i64 10] l (fun s t => ∃ u, s = .bool u /\ Br u (true = true /\ ∃ w x y, atI t (some ⟨b, 0, none⟩) 11 = some (.slice w x y) /\ Br ((x : Int) == 0) (Value.bool true = .bool (rightR r)) (Ct Tryz.prog (fnv 125) #[.slice e f g, .int .i64 11] t (fun z I1 => ∃ b1, z = .bool b1 /\ Value.bool b1 = .bool (rightR r)))) (Value.bool false = .bool (rightR r))))) (Ct Tryz.prog (fnv 125) #[.slice e f g, .int .i64 2] l (fun p s => ∃ t, p = .bool t /\ Br t (true = true /\ ∃ u, atI s (some ⟨b, 0, none⟩) 10 = some (.int .i64 u) /\ Br (u == 0) (true = true /\ ∃ w x y, atI s (some ⟨b, 0, none⟩) 11 = some (.slice w x y) /\ Br ((x : Int) == 0) (Value.bool true = .bool (rightR r)) (Ct Tryz.prog (fnv 125) #[.slice e f g, .int .i64 11] s (fun z I1 => ∃ b1, z = .bool b1 /\ Value.bool b1 = .bool (rightR r)))) (Ct Tryz.prog (fnv 125) #[.slice e f g, .int .i64 10] s (fun w x => ∃ y, w = .bool y /\ Br y (true = true /\ ∃ z n2 c2, atI x (some ⟨b, 0, none⟩) 11 = some (.slice z n2 c2) /\ Br ((n2 : Int) == 0) (Value.bool true = .bool (rightR r)) (Ct Tryz.prog (fnv 125) #[.slice e f g, .int .i64 11] x (fun v1 I1 => ∃ b1, v1 = .bool b1 /\ Value.bool b1 = .bool (rightR r)))) (Value.bool false = .bool (rightR r))))) (Value.bool false = .bool (rightR r))))) (Ct Tryz.prog (fnv 125) #[.slice e f g, .int .i64 1] l (fun o p => ∃ s, o = .bool s /\ Br s (true = true /\ ∃ t, atI p (some ⟨b, 0, none⟩) 2 = some (.string t) /\ Br (t.toList == (ByteArray.mk #[]).toList) (true = true /\ ∃ u, atI p (some ⟨b, 0, none⟩) 10 = some (.int .i64 u) /\ Br (u == 0) (true = true /\ ∃ w x y, atI p (some ⟨b, 0, none⟩) 11 = some (.slice w x y) /\ Br ((x : Int) == 0) (Value.bool true = .bool (rightR r)) (Ct Tryz.prog (fnv 125) #[.slice e f g, .int .i64 11] p (fun z I1 => ∃ b1, z = .bool b1 /\ Value.bool b1 = .bool (rightR r)))) (Ct Tryz.prog (fnv 125) #[.slice e f g, .int .i64 10] p (fun w x => ∃ y, w = .bool y /\ Br y (true = true /\ ∃ z n2 c2, atI x (some ⟨b, 0, none⟩) 11 = some (.slice z n2 c2) /\ Br ((n2 : Int) == 0) (Value.bool true = .bool (rightR r)) (Ct Tryz.prog (fnv 125) #[.slice e f g, .int .i64 11] x (fun v1 I1 => ∃ b1, v1 = .bool b1 /\ Value.bool b1 = .bool (rightR r)))) (Value.bool false = .bool (rightR r))))) (Ct Tryz.prog (fnv 125) #[.slice e f g, .int .i64 2] p (fun u w => ∃ x, u = .bool x /\ Br x (true = true /\ ∃ y, atI w (some ⟨b, 0, none⟩) 10 = some (.int .i64 y) /\ Br (y == 0) (true = true /\ ∃ z n2 c2, atI w (some ⟨b, 0, none⟩) 11 = some (.slice z n2 c2) /\ Br ((n2 : Int) == 0) (Value.bool true = .bool (rightR r)) (Ct Tryz.prog (fnv 125) #[.slice e f g, .int .i64 11] w (fun v1 I1 => ∃ b1, v1 = .bool b1 /\ Value.bool b1 = .bool (rightR r)))) (Ct Tryz.prog (fnv 125) #[.slice e f g, .int .i64 10] w (fun z I1 => ∃ b1, z = .bool b1 /\ Br b1 (true = true /\ ∃ a2 n2 c2, atI I1 (some ⟨b, 0, none⟩) 11 = some (.slice a2 n2 c2) /\ Br ((n2 : Int) == 0) (Value.bool true = .bool (rightR r)) (Ct Tryz.prog (fnv 125) #[.slice e f g, .int .i64 11] I1 (fun v1 I2 => ∃ b2, v1 = .bool b2 /\ Value.bool b2 = .bool (rightR r)))) (Value.bool false = .bool (rightR r))))) (Value.bool false = .bool (rightR r))))) (Value.bool false = .bool (rightR r)))))))) (by kernel_rfl) ?_
 intro b I1 l1 hb;obtain ⟨sfr, hsf⟩ : ∃ R, R = rightR r := ⟨_, rfl⟩;refine ⟨rfl, _, atC hb rfl, rfl, _, atC hb rfl, (ct93 r.kind r.what hr.kind hr.what I1).mono fun v I2 l2 ⟨a, n, c, hv, hs, hn1, hc1⟩ => ⟨_, _, _, _, hv, Br.mk (fun h => ?_) (fun h => ?_)⟩⟩
 · have h : tagL r.kind r.what = none := by simpa using h
   rw [right_none h]
 have h : (tagL r.kind r.what).isSome = true := by simpa using h
 obtain ⟨l, hq⟩ := Option.isSome_iff_exists.1 h;rw [hq, Option.getD_some] at hs
 have htg : tagsR r = l := by rw [tagsR, hq]; rfl
 rw [htg];have hll := tagL_ok hq;have hln := hs.numLen;have hb2 := l2 _ _ hb;have hfl := hs1.numLen;refine ⟨rfl, _, atC hb2 rfl, Br.mk (fun g => ?_) (fun g1 => ⟨rfl, _, _, _, atC hb2 rfl, Br.mk (fun g => ?_) (fun g2 => ?_)⟩)⟩
 · have g := of_decide_eq_true g
   rw [right_size (.inl (by omega))]
 · have g := of_decide_eq_true g
   rw [right_size (.inr (by omega))]
 have g1 := of_decide_eq_false g1;have g2 := of_decide_eq_false g2
 have hR : rightR r = ([3, 4, 5, 6, 7, 8, 9].all (refQ r l) && ((decide (r.what = 0) || decide ((1 : Int) ∈ l)) && ((decide (r.name = ⟨#[]⟩) || decide ((2 : Int) ∈ l)) && ((decide (r.val = 0) || decide ((10 : Int) ∈ l)) && (decide (r.fed = []) || decide ((11 : Int) ∈ l)))))) := by
  rw [<- refR_eq hr, refR, hq]
  simp only
  rw [decide_eq_true (by omega : r.name.size <= 255), decide_eq_true (by omega : r.fed.length <= 15000)]; rfl
 have C : ∀ (t : Int) (J : Mem), I2.le J -> Ct Tryz.prog (fnv 125) #[.slice a n c, .int .i64 t] J (fun v _ => v = .bool (decide (t ∈ l))) := fun t J lJ => ct125 l t a n c J (hs.mono lJ) (by omega)
 refine ⟨⟨⟨rfl, rfl, by omega, by omega, fun i h3 h9 h => by omega⟩, fun I3 _ l3 j ⟨j3, j10, hj⟩ => Br.mk (fun hlt => ?_) (fun hge => ?_)⟩, ?_⟩
 · have hlt := of_decide_eq_true hlt
   have hb3 := l3 _ _ hb2
   have NO : refQ r l j = false -> Value.bool false = Value.bool (rightR r) := fun hx => by
    have : [3, 4, 5, 6, 7, 8, 9].all (refQ r l) = false := by
     cases hz : [3, 4, 5, 6, 7, 8, 9].all (refQ r l) with
     | false => rfl
     | true =>
      have := (List.all_eq_true.1 hz) j (by rcases (by omega : j = 3 \/ j = 4 \/ j = 5 \/ j = 6 \/ j = 7 \/ j = 8 \/ j = 9) with rfl | rfl | rfl | rfl | rfl | rfl | rfl <;> simp)
      rw [hx] at this; cases this
    rw [hR, this, Bool.false_and]
   have YES : refQ r l j = true -> ∀ i : Int, 3 <= i -> i <= 9 -> i < j + 1 -> refQ r l i = true := fun hx i h3 h9 hi => by
    by_cases hij : i = j
    · rw [hij]; exact hx
    · exact hj i h3 h9 (by omega)
   refine ⟨rfl, _, atC hb3 rfl, _, atC hb3 rfl, _, atC hb3 rfl, _, atC hb3 rfl, _, atC hb3 rfl, _, atC hb3 rfl, _, atC hb3 rfl, _, atC hb3 rfl, _, atC hb3 rfl, _, atC hb3 rfl, _, atC hb3 rfl, _, _, _, atC hb3 rfl, ?_⟩
   refine (ct123 r _ j ⟨j3, by omega⟩ I3).mono fun v I4 l4 hv => ⟨_, hv, Br.mk (fun g => ?_) (fun g => Br.mk (fun g' => ?_) (fun g' => ?_))⟩
   · have g := of_decide_eq_true g
     exact NO (by rw [refQ, decide_eq_false (by omega), Bool.false_and])
   · have g := of_decide_eq_false g
     have g' := of_decide_eq_true g';refine (C j I4 (Mem.le_trans l3 l4)).mono fun v I5 l5 hv => ⟨_, hv, Br.mk (fun k => ?_) (fun k => ?_)⟩
     · have k : ¬ j ∈ l := by simpa using k
       exact NO (by rw [refQ, decide_eq_false (p := numR r j <= 0) (by omega), decide_eq_false k]; simp)
     · have k : j ∈ l := by simpa using k
       exact wr_i64 (by omega) (by omega) ⟨rfl, rfl, ⟨by omega, by omega, YES (by rw [refQ, decide_eq_true k, decide_eq_true (by omega)]; simp)⟩, by omega⟩
   · have g := of_decide_eq_false g
     have g' := of_decide_eq_false g'
     exact wr_i64 (by omega) (by omega) ⟨rfl, rfl, ⟨by omega, by omega, YES (by rw [refQ, decide_eq_true (by omega : 0 <= numR r j), decide_eq_true (by omega : numR r j <= 0)]; rfl)⟩, by omega⟩
 · have hge := of_decide_eq_false hge
   exact ⟨rfl, rfl, fun i h3 h9 => hj i h3 h9 (by omega)⟩
 intro I3 _ l3 hall;have hb3 := (Mem.le_trans l2 l3) _ _ hb
 have ha : [3, 4, 5, 6, 7, 8, 9].all (refQ r l) = true := by
  rw [List.all_eq_true];intro i hi;simp only [List.mem_cons, List.not_mem_nil, or_false] at hi
  exact hall i (by omega) (by omega)
 rw [ha, Bool.true_and] at hR
 have sF : ∀ J, I3.le J -> rightR r = (decide (r.fed = []) || decide ((11 : Int) ∈ l)) -> (true = true /\ ∃ a_4 n_5 c_2, atI J (some { block := b, off := 0 }) 11 = some (Value.slice a_4 n_5 c_2) /\ Br (((n_5 : Nat) : Int) == 0) (Value.bool true = Value.bool (rightR r)) (Ct Tryz.prog (fnv 125) #[Value.slice a n c, Value.int IntKind.i64 11] J fun v I' => ∃ b, v = Value.bool b /\ Value.bool b = Value.bool (rightR r))) := fun J lJ e => by
  refine ⟨rfl, _, _, _, atC (lJ _ _ hb3) rfl, Br.mk (fun g => ?_) (fun g => ?_)⟩
  · have g : n1 = 0 := by simpa using g
    rw [e, decide_eq_true (List.eq_nil_of_length_eq_zero (by omega))]; rfl
  · have g : n1 ≠ 0 := by simpa using g
    refine (C 11 J (Mem.le_trans l3 lJ)).mono fun v I5 l5 hv => ⟨_, hv, ?_⟩
    rw [e, decide_eq_false (p := r.fed = []) (fun hc => by rw [hc] at hfl; simp at hfl; omega), Bool.false_or]
 have sV : ∀ J, I3.le J -> rightR r = ((decide (r.val = 0) || decide ((10 : Int) ∈ l)) && (decide (r.fed = []) || decide ((11 : Int) ∈ l))) -> (true = true /\ ∃ n_4, atI J (some { block := b, off := 0 }) 10 = some (Value.int IntKind.i64 n_4) /\ Br (n_4 == 0) (true = true /\ ∃ a_4 n_5 c_2, atI J (some { block := b, off := 0 }) 11 = some (Value.slice a_4 n_5 c_2) /\ Br (((n_5 : Nat) : Int) == 0) (Value.bool true = Value.bool (rightR r)) (Ct Tryz.prog (fnv 125) #[Value.slice a n c, Value.int IntKind.i64 11] J fun v I' => ∃ b, v = Value.bool b /\ Value.bool b = Value.bool (rightR r))) (Ct Tryz.prog (fnv 125) #[Value.slice a n c, Value.int IntKind.i64 10] J fun v I' => ∃ b_2, v = Value.bool b_2 /\ Br b_2 (true = true /\ ∃ a_4 n_5 c_2, atI I' (some { block := b, off := 0 }) 11 = some (Value.slice a_4 n_5 c_2) /\ Br (((n_5 : Nat) : Int) == 0) (Value.bool true = Value.bool (rightR r)) (Ct Tryz.prog (fnv 125) #[Value.slice a n c, Value.int IntKind.i64 11] I' fun v I' => ∃ b, v = Value.bool b /\ Value.bool b = Value.bool (rightR r))) (Value.bool false = Value.bool (rightR r)))) := fun J lJ e => by
  refine ⟨rfl, _, atC (lJ _ _ hb3) rfl, Br.mk (fun g => ?_) (fun g => ?_)⟩
  · have g := eqv g
    exact sF J lJ (by rw [e, decide_eq_true g]; simp)
  · have g := nev g
    refine (C 10 J (Mem.le_trans l3 lJ)).mono fun v I5 l5 hv => ⟨_, hv, Br.mk (fun k => ?_) (fun k => ?_)⟩
    · exact sF I5 (Mem.le_trans lJ l5) (by rw [e, k]; simp)
    · rw [e, k, decide_eq_false g]; rfl
 have sN : ∀ J, I3.le J -> rightR r = ((decide (r.name = ⟨#[]⟩) || decide ((2 : Int) ∈ l)) && ((decide (r.val = 0) || decide ((10 : Int) ∈ l)) && (decide (r.fed = []) || decide ((11 : Int) ∈ l)))) -> (true = true /\ ∃ q, atI J (some { block := b, off := 0 }) 2 = some (Value.string q) /\ Br (q.toList == (⟨#[]⟩ : ByteArray).toList) (true = true /\ ∃ n_4, atI J (some { block := b, off := 0 }) 10 = some (Value.int IntKind.i64 n_4) /\ Br (n_4 == 0) (true = true /\ ∃ a_4 n_5 c_2, atI J (some { block := b, off := 0 }) 11 = some (Value.slice a_4 n_5 c_2) /\ Br (((n_5 : Nat) : Int) == 0) (Value.bool true = Value.bool (rightR r)) (Ct Tryz.prog (fnv 125) #[Value.slice a n c, Value.int IntKind.i64 11] J fun v I' => ∃ b, v = Value.bool b /\ Value.bool b = Value.bool (rightR r))) (Ct Tryz.prog (fnv 125) #[Value.slice a n c, Value.int IntKind.i64 10] J fun v I' => ∃ b_2, v = Value.bool b_2 /\ Br b_2 (true = true /\ ∃ a_4 n_5 c_2, atI I' (some { block := b, off := 0 }) 11 = some (Value.slice a_4 n_5 c_2) /\ Br (((n_5 : Nat) : Int) == 0) (Value.bool true = Value.bool (rightR r)) (Ct Tryz.prog (fnv 125) #[Value.slice a n c, Value.int IntKind.i64 11] I' fun v I' => ∃ b, v = Value.bool b /\ Value.bool b = Value.bool (rightR r))) (Value.bool false = Value.bool (rightR r)))) (Ct Tryz.prog (fnv 125) #[Value.slice a n c, Value.int IntKind.i64 2] J fun v I' => ∃ b_2, v = Value.bool b_2 /\ Br b_2 (true = true /\ ∃ n_4, atI I' (some { block := b, off := 0 }) 10 = some (Value.int IntKind.i64 n_4) /\ Br (n_4 == 0) (true = true /\ ∃ a_4 n_5 c_2, atI I' (some { block := b, off := 0 }) 11 = some (Value.slice a_4 n_5 c_2) /\ Br (((n_5 : Nat) : Int) == 0) (Value.bool true = Value.bool (rightR r)) (Ct Tryz.prog (fnv 125) #[Value.slice a n c, Value.int IntKind.i64 11] I' fun v K => ∃ b, v = Value.bool b /\ Value.bool b = Value.bool (rightR r))) (Ct Tryz.prog (fnv 125) #[Value.slice a n c, Value.int IntKind.i64 10] I' fun v K => ∃ b_2, v = Value.bool b_2 /\ Br b_2 (true = true /\ ∃ a_4 n_5 c_2, atI K (some { block := b, off := 0 }) 11 = some (Value.slice a_4 n_5 c_2) /\ Br (((n_5 : Nat) : Int) == 0) (Value.bool true = Value.bool (rightR r)) (Ct Tryz.prog (fnv 125) #[Value.slice a n c, Value.int IntKind.i64 11] K fun v K => ∃ b, v = Value.bool b /\ Value.bool b = Value.bool (rightR r))) (Value.bool false = Value.bool (rightR r)))) (Value.bool false = Value.bool (rightR r)))) := fun J lJ e => by
  refine ⟨rfl, _, atC (lJ _ _ hb3) rfl, Br.mk (fun g => ?_) (fun g => ?_)⟩
  · rw [str_eq] at g
    have g : r.name = ⟨#[]⟩ := by simpa using g
    exact sV J lJ (by rw [e, decide_eq_true g]; simp)
  · rw [str_eq] at g
    have g : ¬ r.name = ⟨#[]⟩ := by simpa using g
    refine (C 2 J (Mem.le_trans l3 lJ)).mono fun v I5 l5 hv => ⟨_, hv, Br.mk (fun k => ?_) (fun k => ?_)⟩
    · exact sV I5 (Mem.le_trans lJ l5) (by rw [e, k]; simp)
    · rw [e, k, decide_eq_false g]; rfl
 refine ⟨rfl, _, atC hb3 rfl, Br.mk (fun g => ?_) (fun g => ?_)⟩
 · have g := eqv g
   exact sN I3 (Mem.le_refl _) (by rw [hR, decide_eq_true g]; simp)
 · have g := nev g
   refine (C 1 I3 l3).mono fun v I5 l5 hv => ⟨_, hv, Br.mk (fun k => ?_) (fun k => ?_)⟩
   · exact sN I5 l5 (by rw [hR, k]; simp)
   · rw [hR, k, decide_eq_false g]; rfl
set_option maxRecDepth 100000 in
theorem ct90 (r : Rq) (hr : okRq r) (hnm : r.name.size <= 1000000) (y : Value) (I : Mem) (hy : BySl I y r.fed) (hfl : r.fed.length <= 1000000) :
 Ct Tryz.prog (fnv 90) #[.agg (rqV r y).toArray] I (fun v I' => ∃ a' n' c', v = .tuple #[.slice a' n' c', .int .i64 (if rightR r then 0 else 340)] /\ SlM I' a' n' 1 (ints .u8 (if rightR r then writeR r else [])) /\ n' <= c' /\ c' <= maxLen) := by
 obtain ⟨a1, n1, c1, rfl, hs1, hc1, hm1⟩ := hy
 refine viaR (ct_via (A := { befores := [(1,[0])], loops := [(6, ⟨[(1, .keep), (4, .keep), (6, .row 1), (7, .sh (.int .i64))], [(1, .row)], [(6, 2, 182)], fun vals xss I' _ => match vals, xss with | [.int .i64 j], [xs] => 0 <= j /\ j <= (tagsR r).length /\ FR I' xs (fldsR r ((tagsR r).take j.toNat)) | _, _ => False, fun vals _ => match vals with | [.int .i64 j] => ((tagsR r).length - j).toNat | _ => 0⟩)] }) Tryz.func90 rfl Tryz.call90 rfl rfl) (∀ (b : Nat) (a : Mem), I.le a -> a b = some (.cells #[.int .u8 r.kind, .int .u8 r.what, .string r.name, .int .i64 r.p3, .int .i64 r.p4, .int .i64 r.p5, .int .i64 r.p6, .int .i64 r.p7, .int .i64 r.p8, .int .i64 r.p9, .int .i64 r.val, .slice a1 n1 c1] 78 (0, 0)) -> (12 : Nat) = 12 /\ ∃ n, atI a (some ⟨b, 0, none⟩) 0 = some (.int .u8 n) /\ ∃ c, atI a (some ⟨b, 0, none⟩) 1 = some (.int .u8 c) /\ ∃ q, atI a (some ⟨b, 0, none⟩) 2 = some (.string q) /\ ∃ d, atI a (some ⟨b, 0, none⟩) 3 = some (.int .i64 d) /\ ∃ e, atI a (some ⟨b, 0, none⟩) 4 = some (.int .i64 e) /\ ∃ f, atI a (some ⟨b, 0, none⟩) 5 = some (.int .i64 f) /\ ∃ g, atI a (some ⟨b, 0, none⟩) 6 = some (.int .i64 g) /\ ∃ h, atI a (some ⟨b, 0, none⟩) 7 = some (.int .i64 h) /\ ∃ i, atI a (some ⟨b, 0, none⟩) 8 = some (.int .i64 i) /\ ∃ j, atI a (some ⟨b, 0, none⟩) 9 = some (.int .i64 j) /\ ∃ k, atI a (some ⟨b, 0, none⟩) 10 = some (.int .i64 k) /\ ∃ l m o, atI a (some ⟨b, 0, none⟩) 11 = some (.slice l m o) /\ Ct Tryz.prog (fnv 91) #[.agg #[.int .u8 n, .int .u8 c, .string q, .int .i64 d, .int .i64 e, .int .i64 f, .int .i64 g, .int .i64 h, .int .i64 i, .int .i64 j, .int .i64 k, .slice l m o]] a fun v p => ∃ s, v = .bool s /\ Br (!s) (∃ t u w, Value.tuple #[.slice none 0 0, .int .i64 340] = .tuple #[.slice t u w, .int .i64 (if rightR r = true then 0 else 340)] /\ SlM p t u 1 (List.map (Value.int .u8) (if rightR r = true then (1 : Int) :: r.kind :: writeF (fldsR r (tagsR r)) else ([] : List Int))) /\ u <= w /\ w <= 9223372036854775807) (true = true /\ ∃ t, atI p (some ⟨b, 0, none⟩) 0 = some (.int .u8 t) /\ true = true /\ ∃ u, atI p (some ⟨b, 0, none⟩) 1 = some (.int .u8 u) /\ Ct Tryz.prog (fnv 93) #[.int .u8 t, .int .u8 u] p fun w x => ∃ y z c2 b1, w = .tuple #[.slice y z c2, .bool b1] /\ (Rf (SV.v (.pointer (some ⟨b, 0, none⟩))) /\ Rf (SV.v (.slice y z c2)) /\ (0 : Nat) = 0 /\ (0 : Int) <= 0 /\ 0 <= ((tagsR r).length : Int) /\ FR x [] []) /\ ∀ (I1 : Mem), Mem -> x.le I1 -> ∀ (x1 : List Value) (n2 : Int), 0 <= n2 /\ n2 <= ((tagsR r).length : Int) /\ FR I1 x1 (fldsR r (List.take n2.toNat (tagsR r))) -> Br (decide (n2 < (z : Int))) (0 <= n2 /\ n2 < (z : Int) /\ y.isSome = true /\ ∃ n3, atI I1 y (n2.toNat * 1 + 0) = some (.int .i64 n3) /\ 0 <= n2 /\ n2 < (z : Int) /\ y.isSome = true /\ ∃ n4, atI I1 y (n2.toNat * 1 + 0) = some (.int .i64 n4) /\ Br (n4 == 1) (true = true /\ ∃ n5, atI I1 (some ⟨b, 0, none⟩) 1 = some (.int .u8 n5) /\ Wr .u64 n5 fun c3 => Ct Tryz.prog (fnv 121) #[.int .u64 c3] I1 fun v1 I2 => ∃ a2 n6 c4, v1 = .slice a2 n6 c4 /\ x1.length = x1.length / 2 * 2 /\ x1.length / 2 + 1 <= 9223372036854775807 /\ (x1.length / 2 + 1) * 32 <= 140737488355328 /\ Wr .i64 (n2 + 1) fun c5 => Rf (SV.v (.pointer (some ⟨b, 0, none⟩))) /\ Rf (SV.v (.slice y z c2)) /\ x1.length / 2 + 1 = List.length (x1 ++ [.int .i64 n3, .slice a2 n6 c4]) / 2 /\ (0 <= c5 /\ c5 <= ((tagsR r).length : Int) /\ FR I2 (x1 ++ [.int .i64 n3, .slice a2 n6 c4]) (fldsR r (List.take c5.toNat (tagsR r)))) /\ Int.toNat (((tagsR r).length : Int) - c5) < Int.toNat (((tagsR r).length : Int) - n2)) (Br (n4 == 2) (true = true /\ ∃ q1, atI I1 (some ⟨b, 0, none⟩) 2 = some (.string q1) /\ q1.size <= 4611686018427387904 /\ ∀ (a2 : Option Addr) (c3 : Nat) (I2 : Mem), I1.le I2 -> a2.isSome = true -> q1.size <= c3 -> c3 <= 9223372036854775807 -> (∀ (j1 : Nat) (b2 : UInt8), q1.data.toList[j1]? = some b2 -> atI I2 a2 j1 = some (.int .u8 (b2.toNat : Int))) -> x1.length = x1.length / 2 * 2 /\ x1.length / 2 + 1 <= 9223372036854775807 /\ (x1.length / 2 + 1) * 32 <= 140737488355328 /\ Wr .i64 (n2 + 1) fun c4 => Rf (SV.v (.pointer (some ⟨b, 0, none⟩))) /\ Rf (SV.v (.slice y z c2)) /\ x1.length / 2 + 1 = List.length (x1 ++ [.int .i64 n3, .slice a2 q1.size c3]) / 2 /\ (0 <= c4 /\ c4 <= ((tagsR r).length : Int) /\ FR I2 (x1 ++ [.int .i64 n3, .slice a2 q1.size c3]) (fldsR r (List.take c4.toNat (tagsR r)))) /\ Int.toNat (((tagsR r).length : Int) - c4) < Int.toNat (((tagsR r).length : Int) - n2)) (Br (n4 == 10) (true = true /\ ∃ n5, atI I1 (some ⟨b, 0, none⟩) 10 = some (.int .i64 n5) /\ Ct Tryz.prog (fnv 122) #[.int .i64 n5] I1 fun v1 I2 => ∃ n6, v1 = .int .u64 n6 /\ Ct Tryz.prog (fnv 121) #[.int .u64 n6] I2 fun v2 I3 => ∃ a2 n7 c3, v2 = .slice a2 n7 c3 /\ x1.length = x1.length / 2 * 2 /\ x1.length / 2 + 1 <= 9223372036854775807 /\ (x1.length / 2 + 1) * 32 <= 140737488355328 /\ Wr .i64 (n2 + 1) fun c4 => Rf (SV.v (.pointer (some ⟨b, 0, none⟩))) /\ Rf (SV.v (.slice y z c2)) /\ x1.length / 2 + 1 = List.length (x1 ++ [.int .i64 n3, .slice a2 n7 c3]) / 2 /\ (0 <= c4 /\ c4 <= ((tagsR r).length : Int) /\ FR I3 (x1 ++ [.int .i64 n3, .slice a2 n7 c3]) (fldsR r (List.take c4.toNat (tagsR r)))) /\ Int.toNat (((tagsR r).length : Int) - c4) < Int.toNat (((tagsR r).length : Int) - n2)) (Br (n4 == 11) (true = true /\ ∃ a2 n5 c3, atI I1 (some ⟨b, 0, none⟩) 11 = some (.slice a2 n5 c3) /\ x1.length = x1.length / 2 * 2 /\ x1.length / 2 + 1 <= 9223372036854775807 /\ (x1.length / 2 + 1) * 32 <= 140737488355328 /\ Wr .i64 (n2 + 1) fun c4 => Rf (SV.v (.pointer (some ⟨b, 0, none⟩))) /\ Rf (SV.v (.slice y z c2)) /\ x1.length / 2 + 1 = List.length (x1 ++ [.int .i64 n3, .slice a2 n5 c3]) / 2 /\ (0 <= c4 /\ c4 <= ((tagsR r).length : Int) /\ FR I1 (x1 ++ [.int .i64 n3, .slice a2 n5 c3]) (fldsR r (List.take c4.toNat (tagsR r)))) /\ Int.toNat (((tagsR r).length : Int) - c4) < Int.toNat (((tagsR r).length : Int) - n2)) ((12 : Nat) = 12 /\ ∃ n5, atI I1 (some ⟨b, 0, none⟩) 0 = some (.int .u8 n5) /\ ∃ n6, atI I1 (some ⟨b, 0, none⟩) 1 = some (.int .u8 n6) /\ ∃ q1, atI I1 (some ⟨b, 0, none⟩) 2 = some (.string q1) /\ ∃ n7, atI I1 (some ⟨b, 0, none⟩) 3 = some (.int .i64 n7) /\ ∃ n8, atI I1 (some ⟨b, 0, none⟩) 4 = some (.int .i64 n8) /\ ∃ n9, atI I1 (some ⟨b, 0, none⟩) 5 = some (.int .i64 n9) /\ ∃ n10, atI I1 (some ⟨b, 0, none⟩) 6 = some (.int .i64 n10) /\ ∃ n11, atI I1 (some ⟨b, 0, none⟩) 7 = some (.int .i64 n11) /\ ∃ n12, atI I1 (some ⟨b, 0, none⟩) 8 = some (.int .i64 n12) /\ ∃ n13, atI I1 (some ⟨b, 0, none⟩) 9 = some (.int .i64 n13) /\ ∃ n14, atI I1 (some ⟨b, 0, none⟩) 10 = some (.int .i64 n14) /\ ∃ a2 n15 c3, atI I1 (some ⟨b, 0, none⟩) 11 = some (.slice a2 n15 c3) /\ 0 <= n2 /\ n2 < (z : Int) /\ y.isSome = true /\ ∃ n16, atI I1 y (n2.toNat * 1 + 0) = some (.int .i64 n16) /\ Ct Tryz.prog (fnv 123) #[.agg #[.int .u8 n5, .int .u8 n6, .string q1, .int .i64 n7, .int .i64 n8, .int .i64 n9, .int .i64 n10, .int .i64 n11, .int .i64 n12, .int .i64 n13, .int .i64 n14, .slice a2 n15 c3], .int .i64 n16] I1 fun v1 I2 => ∃ n17, v1 = .int .i64 n17 /\ Wr .u64 n17 fun c4 => Ct Tryz.prog (fnv 121) #[.int .u64 c4] I2 fun v2 I3 => ∃ a3 n18 c5, v2 = .slice a3 n18 c5 /\ x1.length = x1.length / 2 * 2 /\ x1.length / 2 + 1 <= 9223372036854775807 /\ (x1.length / 2 + 1) * 32 <= 140737488355328 /\ Wr .i64 (n2 + 1) fun c6 => Rf (SV.v (.pointer (some ⟨b, 0, none⟩))) /\ Rf (SV.v (.slice y z c2)) /\ x1.length / 2 + 1 = List.length (x1 ++ [.int .i64 n3, .slice a3 n18 c5]) / 2 /\ (0 <= c6 /\ c6 <= ((tagsR r).length : Int) /\ FR I3 (x1 ++ [.int .i64 n3, .slice a3 n18 c5]) (fldsR r (List.take c6.toNat (tagsR r)))) /\ Int.toNat (((tagsR r).length : Int) - c6) < Int.toNat (((tagsR r).length : Int) - n2)))))) (∀ (a2 : Option Addr) (c3 : Nat) (I2 : Mem), I1.le I2 -> RowM I2 a2 c3 2 x1 -> Ct Tryz.prog (fnv 124) #[.slice a2 (x1.length / 2) c3] I2 fun v1 I3 => ∃ a3 n3 c4 n4, v1 = .tuple #[.slice a3 n3 c4, .int .i64 n4] /\ true = true /\ ∃ n5, atI I3 (some ⟨b, 0, none⟩) 0 = some (.int .u8 n5) /\ ∃ y1, y1.length = n3 * 1 /\ (a3 = none -> n3 = 0) /\ (∀ (j1 : Nat) (v2 : Value), y1[j1]? = some v2 -> atI I3 a3 j1 = some v2) /\ (∀ (v2 : Value), Membership.mem y1 v2 -> v2.oneCell' = true) /\ (2 : Nat) = 2 /\ 2 + n3 <= 9223372036854775807 /\ (2 + n3) * 1 <= 140737488355328 /\ ∀ (a4 : Option Addr) (c5 : Nat) (I4 : Mem), I3.le I4 -> RowM I4 a4 c5 1 (.int .u8 1 :: .int .u8 n5 :: y1) -> ∃ a5 n6 c6, Value.tuple #[.slice a4 (2 + n3) c5, .int .i64 0] = .tuple #[.slice a5 n6 c6, .int .i64 (if rightR r = true then 0 else 340)] /\ SlM I4 a5 n6 1 (List.map (Value.int .u8) (if rightR r = true then (1 : Int) :: r.kind :: writeF (fldsR r (tagsR r)) else ([] : List Int))) /\ n6 <= c6 /\ c6 <= 9223372036854775807))) (by kernel_rfl) ?_
 have hmx : maxLen = 9223372036854775807 := by decide
 intro b I1 l1 hb;have hs1 := hs1.mono l1;have hyB : ∀ {J : Mem}, I1.le J -> BySl J (.slice a1 n1 c1) r.fed := fun l => ⟨_, _, _, rfl, hs1.mono l, hc1, hm1⟩;refine ⟨rfl, _, atC hb rfl, _, atC hb rfl, _, atC hb rfl, _, atC hb rfl, _, atC hb rfl, _, atC hb rfl, _, atC hb rfl, _, atC hb rfl, _, atC hb rfl, _, atC hb rfl, _, atC hb rfl, _, _, _, atC hb rfl, ?_⟩;refine (ct91 r hr _ I1 (hyB (Mem.le_refl _)) hfl).mono fun v I2 l2 hv => ⟨_, hv, Br.mk (fun h => ?_) (fun h => ?_)⟩
 · have h : rightR r = false := by simpa using h
   rw [h]
   exact ⟨none, 0, 0, rfl, sl_nil _ _, by omega, by omega⟩
 have h : rightR r = true := by simpa using h
 obtain ⟨ht, hn1, hn2, _⟩ := right_tag h;obtain ⟨hl1, hl2⟩ := tagL_ok ht;have hF := right_flds hr h;have hb2 := l2 _ _ hb;have hk := hr.kind;have hw := hr.what;refine ⟨rfl, _, atC hb2 rfl, rfl, _, atC hb2 rfl, ?_⟩;refine (ct93 r.kind r.what hk hw I2).mono fun v I3 l3 ⟨a, n, c, hv, hs, hn, hc⟩ => ⟨_, _, _, _, hv, ?_⟩;rw [ht, Option.getD_some] at hs;have hnn := hs.numLen;have hb3 := l3 _ _ hb2
 refine ⟨⟨rfl, rfl, rfl, by omega, by omega, trivial⟩, ?_⟩
 rintro I4 _ l4 xs j ⟨h0, h1, hFR⟩;have hb4 := l4 _ _ hb3;have hs4 := hs.mono l4;have hxl := hFR.len
 have htl : (fldsR r ((tagsR r).take j.toNat)).length = j.toNat := by rw [fldsR, List.length_map, List.length_take]; omega
 rw [htl] at hxl;refine Br.mk (fun hlt => ?_) (fun hge => ?_)
 · have hlt := of_decide_eq_true hlt
   obtain ⟨t, ht1, hat⟩ := hs4.intAt h0 hlt;have htr := hl1 t (List.mem_of_getElem? ht1)
   have hsome : a.isSome = true := by
    cases ha : a with
    | none => have := hs4.nil ha; omega
    | some _ => rfl
   have e1 : xs.length = xs.length / 2 * 2 := by omega
   have nx : ∀ {J : Mem} {a : Option Addr} {m c : Nat}, I4.le J -> BySl J (.slice a m c) (bytesR r t) -> FR J (xs ++ [.int .i64 t, .slice a m c]) (fldsR r ((tagsR r).take (j + 1).toNat)) := fun {J a m c} l hB => by
    rw [show (j + 1).toNat = j.toNat + 1 by omega, take_succ' ht1]
    have : fldsR r ((tagsR r).take j.toNat ++ [t]) = fldsR r ((tagsR r).take j.toNat) ++ [(t, bytesR r t)] := by simp [fldsR]
    rw [this]
    exact (hFR.mono l).snoc ⟨⟨⟨by show -9223372036854775808 <= t; omega, by show t <= 9223372036854775807; omega⟩, bytesR_ok hr t⟩, rfl, hB⟩
   refine ⟨h0, hlt, hsome, t, hat, h0, hlt, hsome, t, hat, Br.mk (fun g => ?_) (fun g1 => Br.mk (fun g => ?_) (fun g2 => Br.mk (fun g => ?_) (fun g10 => Br.mk (fun g => ?_) (fun g11 => ?_))))⟩
   · obtain rfl := eqv g
     refine ⟨rfl, _, atC hb4 rfl, _, IntWalk.u64_in _ ⟨by omega, by omega⟩, ?_⟩
     refine (ct121 r.what ⟨by omega, by omega⟩ I4).mono fun v I5 l5 ⟨a5, m5, c5, hv, g1, g2, g3⟩ => ⟨_, _, _, hv, ⟨e1, by omega, by omega, wr_i64 (by omega) (by omega) ⟨rfl, rfl, by simp <;> omega, ⟨by omega, by omega, nx l5 ⟨_, _, _, rfl, g1, g2, g3⟩⟩, by omega⟩⟩⟩
   · obtain rfl := eqv g
     refine ⟨rfl, _, atC hb4 rfl, by omega, fun a5 cp I5 l5 hsm hq hcp hat5 => ⟨e1, by omega, by omega, wr_i64 (by omega) (by omega) ⟨rfl, rfl, by simp <;> omega, ⟨by omega, by omega, nx l5 ⟨_, _, _, rfl, str_sl hsm (by omega) hat5, hq, hcp⟩⟩, by omega⟩⟩⟩
   · obtain rfl := eqv g
     refine ⟨rfl, _, atC hb4 rfl, ?_⟩;refine (ct122 r.val hr.val I4).mono fun v I5 l5 hv => ⟨_, hv, ?_⟩
     refine (ct121 (foldZ r.val) (foldZ_range hr.val) I5).mono fun v I6 l6 ⟨a5, m5, c5, hv, g1, g2, g3⟩ => ⟨_, _, _, hv, ⟨e1, by omega, by omega, wr_i64 (by omega) (by omega) ⟨rfl, rfl, by simp <;> omega, ⟨by omega, by omega, nx (Mem.le_trans l5 l6) ⟨_, _, _, rfl, g1, g2, g3⟩⟩, by omega⟩⟩⟩
   · obtain rfl := eqv g
     exact ⟨rfl, _, _, _, atC hb4 rfl, ⟨e1, by omega, by omega, wr_i64 (by omega) (by omega) ⟨rfl, rfl, by simp <;> omega, ⟨by omega, by omega, nx (Mem.le_refl _) (hyB (Mem.le_trans (Mem.le_trans l2 l3) l4))⟩, by omega⟩⟩⟩
   · have e1' := nev g1
     have e2' := nev g2;have e10 := nev g10;have e11 := nev g11;refine ⟨rfl, _, atC hb4 rfl, _, atC hb4 rfl, _, atC hb4 rfl, _, atC hb4 rfl, _, atC hb4 rfl, _, atC hb4 rfl, _, atC hb4 rfl, _, atC hb4 rfl, _, atC hb4 rfl, _, atC hb4 rfl, _, atC hb4 rfl, _, _, _, atC hb4 rfl, h0, hlt, hsome, t, hat, ?_⟩
     refine (ct123 r _ t (by omega) I4).mono fun v I5 l5 hv => ⟨_, hv, _, rfl, ?_⟩
     have hbt : bytesR r t = formN (IntKind.u64.wrap (numR r t)).toNat := by
      rw [bytesR, if_neg e1', if_neg e2', if_neg e10, if_neg e11]
     refine (ct121 _ (w64_range (numR r t)) I5).mono fun v I6 l6 ⟨a5, m5, c5, hv, g1, g2, g3⟩ => ⟨_, _, _, hv, ⟨e1, by omega, by omega, wr_i64 (by omega) (by omega) ⟨rfl, rfl, by simp <;> omega, ⟨by omega, by omega, nx (Mem.le_trans l5 l6) (by rw [hbt]; exact ⟨_, _, _, rfl, g1, g2, g3⟩)⟩, by omega⟩⟩⟩
 · have hge := of_decide_eq_false hge
   rw [List.take_of_length_le (by omega)] at hFR
   refine fun a5 cp I5 l5 hrow => ?_
   have hll : (fldsR r (tagsR r)).length = (tagsR r).length := by rw [fldsR, List.length_map]
   have hfm := fldM_row hrow (hFR.mono l5)
   rw [show xs.length / 2 = (fldsR r (tagsR r)).length by omega]
   refine (ct124 _ (fun f hf => by
    obtain ⟨t, _, rfl⟩ := List.mem_map.1 hf
    exact bytesR_len hr hnm hfl t) a5 _ cp I5 hfm (by omega)).mono fun v I6 l6 ⟨a6, n6, c6, hv, hw6, hn6, hc6⟩ => ⟨_, _, _, _, hv, rfl, _, atC (l6 _ _ (l5 _ _ hb4)) rfl, ?_⟩
   rw [if_pos hF] at hw6;have hl6 := hw6.numLen;have hwl := write_len hF;rw [h]
   refine ⟨_, hw6.len, hw6.nil, hw6.at_, one_ints, rfl, by omega, by omega, fun a7 cp I7 l7 hrow => ⟨a7, 2 + n6, cp, rfl, ?_⟩⟩
   have hrow : RowM I7 a7 cp 1 (ints .u8 (writeR r)) := hrow
   have hlw : (writeR r).length = 2 + n6 := by rw [writeR, List.length_cons, List.length_cons]; omega
   have h1 := hrow.1;rw [ints_len] at h1
   exact ⟨hrow.sl (by omega) (by rw [ints_len]; omega), by omega, hrow.2.1⟩
theorem ct152 (r : Rq) (y : Value) (t n : Int) (I : Mem) (hy : BySl I y r.fed) :
 Ct Tryz.prog (fnv 152) #[.agg (rqV r y).toArray, .int .i64 t, .int .i64 n] I (fun v I' => v = .agg (rqV (setN r t n) y).toArray) := by
 obtain ⟨a1, n1, c1, rfl, hs1, hc1, hm1⟩ := hy
 refine viaR (ct_via (A := { }) Tryz.func152 rfl Tryz.call152 rfl rfl) (Br (t == 3) (Value.agg #[.int .u8 r.kind, .int .u8 r.what, .string r.name, .int .i64 n, .int .i64 r.p4, .int .i64 r.p5, .int .i64 r.p6, .int .i64 r.p7, .int .i64 r.p8, .int .i64 r.p9, .int .i64 r.val, .slice a1 n1 c1] = .agg #[.int .u8 (setN r t n).kind, .int .u8 (setN r t n).what, .string (setN r t n).name, .int .i64 (setN r t n).p3, .int .i64 (setN r t n).p4, .int .i64 (setN r t n).p5, .int .i64 (setN r t n).p6, .int .i64 (setN r t n).p7, .int .i64 (setN r t n).p8, .int .i64 (setN r t n).p9, .int .i64 (setN r t n).val, .slice a1 n1 c1]) (Br (t == 4) (Value.agg #[.int .u8 r.kind, .int .u8 r.what, .string r.name, .int .i64 r.p3, .int .i64 n, .int .i64 r.p5, .int .i64 r.p6, .int .i64 r.p7, .int .i64 r.p8, .int .i64 r.p9, .int .i64 r.val, .slice a1 n1 c1] = .agg #[.int .u8 (setN r t n).kind, .int .u8 (setN r t n).what, .string (setN r t n).name, .int .i64 (setN r t n).p3, .int .i64 (setN r t n).p4, .int .i64 (setN r t n).p5, .int .i64 (setN r t n).p6, .int .i64 (setN r t n).p7, .int .i64 (setN r t n).p8, .int .i64 (setN r t n).p9, .int .i64 (setN r t n).val, .slice a1 n1 c1]) (Br (t == 5) (Value.agg #[.int .u8 r.kind, .int .u8 r.what, .string r.name, .int .i64 r.p3, .int .i64 r.p4, .int .i64 n, .int .i64 r.p6, .int .i64 r.p7, .int .i64 r.p8, .int .i64 r.p9, .int .i64 r.val, .slice a1 n1 c1] = .agg #[.int .u8 (setN r t n).kind, .int .u8 (setN r t n).what, .string (setN r t n).name, .int .i64 (setN r t n).p3, .int .i64 (setN r t n).p4, .int .i64 (setN r t n).p5, .int .i64 (setN r t n).p6, .int .i64 (setN r t n).p7, .int .i64 (setN r t n).p8, .int .i64 (setN r t n).p9, .int .i64 (setN r t n).val, .slice a1 n1 c1]) (Br (t == 6) (Value.agg #[.int .u8 r.kind, .int .u8 r.what, .string r.name, .int .i64 r.p3, .int .i64 r.p4, .int .i64 r.p5, .int .i64 n, .int .i64 r.p7, .int .i64 r.p8, .int .i64 r.p9, .int .i64 r.val, .slice a1 n1 c1] = .agg #[.int .u8 (setN r t n).kind, .int .u8 (setN r t n).what, .string (setN r t n).name, .int .i64 (setN r t n).p3, .int .i64 (setN r t n).p4, .int .i64 (setN r t n).p5, .int .i64 (setN r t n).p6, .int .i64 (setN r t n).p7, .int .i64 (setN r t n).p8, .int .i64 (setN r t n).p9, .int .i64 (setN r t n).val, .slice a1 n1 c1]) (Br (t == 7) (Value.agg #[.int .u8 r.kind, .int .u8 r.what, .string r.name, .int .i64 r.p3, .int .i64 r.p4, .int .i64 r.p5, .int .i64 r.p6, .int .i64 n, .int .i64 r.p8, .int .i64 r.p9, .int .i64 r.val, .slice a1 n1 c1] = .agg #[.int .u8 (setN r t n).kind, .int .u8 (setN r t n).what, .string (setN r t n).name, .int .i64 (setN r t n).p3, .int .i64 (setN r t n).p4, .int .i64 (setN r t n).p5, .int .i64 (setN r t n).p6, .int .i64 (setN r t n).p7, .int .i64 (setN r t n).p8, .int .i64 (setN r t n).p9, .int .i64 (setN r t n).val, .slice a1 n1 c1]) (Br (t == 8) (Value.agg #[.int .u8 r.kind, .int .u8 r.what, .string r.name, .int .i64 r.p3, .int .i64 r.p4, .int .i64 r.p5, .int .i64 r.p6, .int .i64 r.p7, .int .i64 n, .int .i64 r.p9, .int .i64 r.val, .slice a1 n1 c1] = .agg #[.int .u8 (setN r t n).kind, .int .u8 (setN r t n).what, .string (setN r t n).name, .int .i64 (setN r t n).p3, .int .i64 (setN r t n).p4, .int .i64 (setN r t n).p5, .int .i64 (setN r t n).p6, .int .i64 (setN r t n).p7, .int .i64 (setN r t n).p8, .int .i64 (setN r t n).p9, .int .i64 (setN r t n).val, .slice a1 n1 c1]) (Value.agg #[.int .u8 r.kind, .int .u8 r.what, .string r.name, .int .i64 r.p3, .int .i64 r.p4, .int .i64 r.p5, .int .i64 r.p6, .int .i64 r.p7, .int .i64 r.p8, .int .i64 n, .int .i64 r.val, .slice a1 n1 c1] = .agg #[.int .u8 (setN r t n).kind, .int .u8 (setN r t n).what, .string (setN r t n).name, .int .i64 (setN r t n).p3, .int .i64 (setN r t n).p4, .int .i64 (setN r t n).p5, .int .i64 (setN r t n).p6, .int .i64 (setN r t n).p7, .int .i64 (setN r t n).p8, .int .i64 (setN r t n).p9, .int .i64 (setN r t n).val, .slice a1 n1 c1]))))))) (by kernel_rfl) ?_
 refine Br.mk (fun g => ?_) (fun g3 => Br.mk (fun g => ?_) (fun g4 => Br.mk (fun g => ?_) (fun g5 => Br.mk (fun g => ?_) (fun g6 => Br.mk (fun g => ?_) (fun g7 => Br.mk (fun g => ?_) (fun g8 => ?_))))))
 · obtain rfl := eqv g; rfl
 · obtain rfl := eqv g; rfl
 · obtain rfl := eqv g; rfl
 · obtain rfl := eqv g; rfl
 · obtain rfl := eqv g; rfl
 · obtain rfl := eqv g; rfl
 · have : setN r t n = { r with p9 := n } := by
    rw [setN, if_neg (nev g3), if_neg (nev g4), if_neg (nev g5), if_neg (nev g6), if_neg (nev g7), if_neg (nev g8)]
   rw [this]
def refTake (h : Rq) (t : Int) (bs : List Int) : Rq := if t = 1 then { h with what := (lastN bs).1 } else takeR h t bs
def RefB (bs : List Int) (j : Int) : Bool := match (flB bs)[j.toNat]? with
 | some f => decide ((lastN f.2).2.2 ≠ 0) || (decide (11 < f.1) || ((decide (f.1 = 1) && decide (255 < (lastN f.2).1)) || (decide (f.1 < 10) && decide (9223372036854775807 < (lastN f.2).1))))
 | none => false
def RefI (bs : List Int) (I' : Mem) (j : Int) (cs : List Value) : Prop := 0 <= j /\ j <= (flB bs).length /\ ∃ h y, cs = rqV h y /\ okRq h /\ h.name.size <= 1000000 /\ h.fed.length <= 1000000 /\ BySl I' y h.fed /\ (accB bs = true -> h = ((tagsR (readR bs).1).take j.toNat).foldl (copyT (readR bs).1) (had0 (readR bs).1))
def RefJ (bs : List Int) (I' : Mem) (a : Option Addr) (n : Nat) (j : Int) (cs : List Value) : Prop := ∃ h y, cs = rqV h y /\ okRq h /\ rightR h = true /\ BySl I' y h.fed /\ SlM I' a n 1 (ints .u8 (writeR h)) /\ n = bs.length /\ 0 <= j /\ j <= n /\ (writeR h).take j.toNat = bs.take j.toNat /\ (accB bs = true -> h = (readR bs).1)
def RefE (bs : List Int) (I' : Mem) (v : Value) : Prop := ∃ y, v = .tuple #[.agg (rqV (readR bs).1 y).toArray, .int .i64 (readR bs).2] /\ BySl I' y (readR bs).1.fed
theorem acc_flds {bs : List Int} (hb : byteL bs) (h : accB bs = true) : okRq (readR bs).1 /\ rightR (readR bs).1 = true /\ writeR (readR bs).1 = bs /\ flB bs = fldsR (readR bs).1 (tagsR (readR bs).1) /\ kindB bs = (readR bs).1.kind := by
 obtain ⟨h1, h2, h3, _⟩ := read_back hb h;refine ⟨h1, h2, h3, ?_, ?_⟩
 · have : (readF ((writeR (readR bs).1).drop 2)).1 = fldsR (readR bs).1 (tagsR (readR bs).1) := by
    rw [show (writeR (readR bs).1).drop 2 = writeF (fldsR (readR bs).1 (tagsR (readR bs).1)) from rfl, read_write (right_flds h1 h2)]
   rw [h3] at this;exact this
 · have : kindB (writeR (readR bs).1) = (readR bs).1.kind := rfl
   rw [h3] at this;exact this
theorem refE_bad {bs : List Int} {J : Mem} (h : accB bs = false) : RefE bs J (.tuple #[.agg (rqV zeroRq (.slice none 0 0)).toArray, .int .i64 341]) := by
 unfold RefE;rw [read_bad h]
 exact ⟨_, rfl, none, 0, 0, rfl, sl_nil _ _, by omega, by omega⟩
theorem refI_start {bs : List Int} (hb : byteL bs) {J : Mem} : RefI bs J 0 (rqV { zeroRq with kind := kindB bs } (.slice none 0 0)) := by
 obtain ⟨hk, _, _⟩ := what_range hb
 refine ⟨by omega, by omega, _, _, rfl, okRq_start (w := 0) hk (by omega), (by show (⟨#[]⟩ : ByteArray).size <= 1000000; decide), (by show ([] : List Int).length <= 1000000; decide), ⟨none, 0, 0, rfl, sl_nil _ _, by omega, by omega⟩, fun ha => ?_⟩
 rw [(acc_flds hb ha).2.2.2.2]; rfl
theorem refTake_ok {h : Rq} (hh : okRq h) {t : Int} {b : List Int} (hb : byteL b) (h1 : t = 1 -> (lastN b).1 <= 255) : okRq (refTake h t b) := by
 unfold refTake;split
 · rename_i he
   have hr := last_range hb;have := h1 he;exact ⟨hh.kind, ⟨hr.1, this⟩, hh.p3, hh.p4, hh.p5, hh.p6, hh.p7, hh.p8, hh.p9, hh.val, hh.fed⟩
 · exact okRq_take hh t hb
theorem refTake_size {h : Rq} {t : Int} {b : List Int} (h1 : h.name.size <= 1000000) (h2 : h.fed.length <= 1000000) (hb : b.length <= 1000000) : (refTake h t b).name.size <= 1000000 /\ (refTake h t b).fed.length <= 1000000 := by
 unfold refTake;split
 · exact ⟨h1, h2⟩
 · exact size_take h1 h2 hb
theorem ref_copy {R h : Rq} (hR : okRq R) {t : Int} (ht : 1 <= t /\ t <= 11) (hk : okT R t = true) : refTake h t (bytesR R t) = copyT R h t := by
 by_cases h1 : t = 1
 · subst h1
   have hw := hR.what
   obtain ⟨g1, _⟩ := lastN_f2 (x := R.what.toNat) (by omega)
   rw [Int.toNat_of_nonneg hw.1] at g1
   show { h with what := (lastN (formN R.what.toNat)).1 } = { h with what := R.what }
   rw [g1]
 · have := (step_copy (h := h) hR ht).2 hk
   rw [show preR R h t = h from if_neg h1] at this
   rw [refTake, if_neg h1, this]
theorem acc_at {bs : List Int} (hb : byteL bs) (ha : accB bs = true) {j : Nat} {f : Int × List Int} (hf : (flB bs)[j]? = some f) : (tagsR (readR bs).1)[j]? = some f.1 /\ f.2 = bytesR (readR bs).1 f.1 /\ (1 <= f.1 /\ f.1 <= 11) /\ okT (readR bs).1 f.1 = true := by
 obtain ⟨h1, h2, _, h4, _⟩ := acc_flds hb ha;rw [h4, fldsR, List.getElem?_map, Option.map_eq_some_iff] at hf;obtain ⟨t, ht, rfl⟩ := hf;have hm := List.mem_of_getElem? ht;exact ⟨ht, rfl, (tagL_ok (right_tag h2).1).1 t hm, List.all_eq_true.1 (right_run h1 h2).1 t hm⟩
theorem refI_next {bs : List Int} (hb : byteL bs) {J' : Mem} {j : Int} {h : Rq} {y' : Value} {f : Int × List Int} (g1 : 0 <= j) (g3 : okRq h) (g4 : h.name.size <= 1000000) (g5 : h.fed.length <= 1000000)
 (g6 : accB bs = true -> h = ((tagsR (readR bs).1).take j.toNat).foldl (copyT (readR bs).1) (had0 (readR bs).1)) (hf : (flB bs)[j.toNat]? = some f) (hlen : f.2.length <= 1000000) (h1 : f.1 = 1 -> (lastN f.2).1 <= 255)
 (hy : BySl J' y' (refTake h f.1 f.2).fed) {cs : List Value} (hcs : cs = rqV (refTake h f.1 f.2) y') : RefI bs J' (j + 1) cs := by
 subst hcs;have hlt := (List.getElem?_eq_some_iff.1 hf).1;obtain ⟨_, _, hok⟩ := what_range hb;have hfo := hok f (List.mem_of_getElem? hf);obtain ⟨s1, s2⟩ := refTake_size (t := f.1) g4 g5 hlen
 refine ⟨by omega, by omega, _, _, rfl, refTake_ok g3 hfo.2 h1, s1, s2, hy, fun ha => ?_⟩
 obtain ⟨k1, k2, k3, k4⟩ := acc_at hb ha hf
 rw [show (j + 1).toNat = j.toNat + 1 by omega, take_succ' k1, List.foldl_append, List.foldl_cons, List.foldl_nil, <- g6 ha, k2, ref_copy (acc_flds hb ha).1 k3 k4]
theorem refB_bad {bs : List Int} (hb : byteL bs) {j : Int} {f : Int × List Int} (hf : (flB bs)[j.toNat]? = some f) (h2 : f.1 ≠ 2) (h11 : f.1 ≠ 11) (h : RefB bs j = true) : accB bs = false := by
 cases ha : accB bs with
 | false => rfl
 | true =>
  obtain ⟨_, k2, k3, k4⟩ := acc_at hb ha hf;have hR := (acc_flds hb ha).1;generalize (readR bs).1 = R at *;have hs := (step_copy (h := R) hR k3).1;rw [k4, <- k2] at hs;rw [RefB, hf] at h;simp only [Bool.or_eq_true, Bool.and_eq_true, decide_eq_true_eq] at h
  rw [takeB, if_neg (by omega)] at hs
  by_cases e1 : f.1 = 1
  · rw [if_pos e1, Bool.and_eq_true, decide_eq_true_eq, decide_eq_true_eq] at hs
    have hw := hR.what
    rw [show (preR R R f.1).what = R.what by unfold preR; split <;> rfl] at hs
    omega
  · rw [if_neg e1] at hs
    by_cases e10 : f.1 = 10
    · rw [if_pos e10, decide_eq_true_eq] at hs
      omega
    · rw [if_neg e10, Bool.and_eq_true, decide_eq_true_eq, decide_eq_true_eq] at hs
      omega
set_option maxRecDepth 100000 in
set_option maxHeartbeats 2000000 in
theorem ct111 (bs : List Int) (hbs : byteL bs) (a : Option Addr) (n c : Nat) (I : Mem) (h : SlM I a n 1 (ints .u8 bs)) (hn : n <= 1000000) (hc : n <= c) (hm : c <= maxLen) :
 Ct Tryz.prog (fnv 111) #[.slice a n c] I (fun v I' => RefE bs I' v) := by
 refine viaR (ct_via (A := { cuts := [(17, ⟨[(0,.keep),(2,.keep),(4,.keep),(7,.keep),(8,.kv),(9,.keep),(90,.sh .bool)],[(0,.keep),(1,.keep)],[], fun vals _ _ _ => match vals with | [.int .i64 j, .bool b] => b = RefB bs j | _ => False, fun _ _ => 0⟩)], loops := [(8, ⟨[(0, .keep), (2, .keep), (4, .keep), (7, .keep), (8, .sh (.int .i64))], [(0, .keep), (1, .cells cellsA)], [], fun vals _ I' _ => match vals with | .int .i64 j :: cs => RefI bs I' j cs | _ => False, fun vals _ => match vals with | .int .i64 j :: _ => ((flB bs).length - j).toNat | _ => 0⟩), (26, ⟨[(0, .keep), (2, .keep), (7, .keep), (12, .kv), (13, .sh (.int .i64))], [(0, .keep), (1, .cells cellsA)], [], fun vals _ I' _ => match vals with | .slice a n c :: .int .i64 j :: cs => RefJ bs I' a n j cs | _ => False, fun vals _ => match vals with | .slice a n c :: .int .i64 j :: cs => (bs.length - j).toNat | _ => 0⟩)] }) Tryz.func111 rfl Tryz.call111 rfl rfl) (let E1 := Ent.mk (.cells [.v (.int .u8 0), .v (.int .u8 0), .v (.string ⟨#[]⟩), .v (.int .i64 0), .v (.int .i64 0), .v (.int .i64 0), .v (.int .i64 0), .v (.int .i64 0), .v (.int .i64 0), .v (.int .i64 0), .v (.int .i64 0), .v (.slice none 0 0)] 78) none
  let E2 := fun (x : ByteArray) (b : Int) (d : Int) (e : Int) (f : Int) (g : Int) (i : Int) (j : Int) (k : Int) (l : Option Addr) (m : Nat) (o : Nat) => [.v (.string x), .v (.int .i64 b), .v (.int .i64 d), .v (.int .i64 e), .v (.int .i64 f), .v (.int .i64 g), .v (.int .i64 i), .v (.int .i64 j), .v (.int .i64 k), .v (.slice l m o)]
  Br (decide ((n : Int) < 2)) (RefE bs I (.tuple #[.agg #[.int .u8 0, .int .u8 0, .string ⟨#[]⟩, .int .i64 0, .int .i64 0, .int .i64 0, .int .i64 0, .int .i64 0, .int .i64 0, .int .i64 0, .int .i64 0, .slice none 0 0], .int .i64 341])) ((0 : Int) <= 0 /\ 0 < (n : Int) /\ a.isSome = true /\ ∃ (b : Int), atI I a 0 = some (.int .u8 b) /\ Br (b != 1) (RefE bs I (.tuple #[.agg #[.int .u8 0, .int .u8 0, .string ⟨#[]⟩, .int .i64 0, .int .i64 0, .int .i64 0, .int .i64 0, .int .i64 0, .int .i64 0, .int .i64 0, .int .i64 0, .slice none 0 0], .int .i64 341])) ((0 : Int) <= 2 /\ 2 <= (n : Int) /\ Ct Tryz.prog (fnv 149) #[.slice (sladdr a c 2 1) (n - 2) (c - 2)] I fun (v : Value) (d : Mem) => ∃ (e : Option Addr) (f g : Nat) (i j : Int), v = .tuple #[.slice e f g, .int .i64 i, .int .i64 j] /\ Br (j != 0) (RefE bs d (.tuple #[.agg #[.int .u8 0, .int .u8 0, .string ⟨#[]⟩, .int .i64 0, .int .i64 0, .int .i64 0, .int .i64 0, .int .i64 0, .int .i64 0, .int .i64 0, .int .i64 0, .slice none 0 0], .int .i64 341])) ((0 : Int) <= 1 /\ 1 < (n : Int) /\ a.isSome = true /\ ∃ (k : Int), atI d a 1 = some (.int .u8 k) /\ (Rf E1 /\ Rf (SV.v (.slice a n c)) /\ Rf (SV.ptr 0 0) /\ Rf (SV.v (.slice e f g)) /\ Rf (SV.ptr 1 0) /\ Rf (none : Option Nat) /\ RefI bs d 0 [.int .u8 k, .int .u8 0, .string ⟨#[]⟩, .int .i64 0, .int .i64 0, .int .i64 0, .int .i64 0, .int .i64 0, .int .i64 0, .int .i64 0, .int .i64 0, .slice none 0 0]) /\ ∀ (l : Mem), Mem -> d.le l -> ∀ (m o p : Int) (q : ByteArray) (r s t u w x y z : Int) (a1 : Option Addr) (n1 c1 : Nat), RefI bs l m [.int .u8 o, .int .u8 p, .string q, .int .i64 r, .int .i64 s, .int .i64 t, .int .i64 u, .int .i64 w, .int .i64 x, .int .i64 y, .int .i64 z, .slice a1 n1 c1] -> Br (decide (m < (f : Int))) (0 <= m /\ m < (f : Int) /\ e.isSome = true /\ e.isSome = true /\ ∃ (a2 : Option Addr) (n2 c2 : Nat), atI l e (m.toNat * 2 + 1 + 0) = some (.slice a2 n2 c2) /\ Ct Tryz.prog (fnv 150) #[.slice a2 n2 c2] l fun (v1 : Value) (I1 : Mem) => ∃ (n3 n4 n5 : Int), v1 = .tuple #[.int .u64 n3, .int .i64 n4, .int .i64 n5] /\ 0 <= m /\ m < (f : Int) /\ e.isSome = true /\ e.isSome = true /\ ∃ (n6 : Int), atI I1 e (m.toNat * 2 + 0 + 0) = some (.int .i64 n6) /\ Br (n6 == 2) (0 <= m /\ m < (f : Int) /\ e.isSome = true /\ e.isSome = true /\ ∃ (a3 : Option Addr) (n7 c3 : Nat), atI I1 e (m.toNat * 2 + 1 + 0) = some (.slice a3 n7 c3) /\ ∃ (q1 : List UInt8), q1.length = n7 /\ (a3 = none -> n7 = 0) /\ (∀ (j1 : Nat) (b1 : UInt8), q1[j1]? = some b1 -> atI I1 a3 j1 = some (.int .u8 (b1.toNat : Int))) /\ Wr .i64 (m + 1) fun (c4 : Int) => Rf E1 /\ Rf (SV.v (.slice a n c)) /\ Rf (SV.ptr 0 0) /\ Rf (SV.v (.slice e f g)) /\ Rf (SV.ptr 1 0) /\ Rf (none : Option Nat) /\ RefI bs I1 c4 [.int .u8 o, .int .u8 p, .string ⟨q1.toArray⟩, .int .i64 r, .int .i64 s, .int .i64 t, .int .i64 u, .int .i64 w, .int .i64 x, .int .i64 y, .int .i64 z, .slice a1 n1 c1] /\ Int.toNat (((flB bs).length : Int) - c4) < Int.toNat (((flB bs).length : Int) - m)) (0 <= m /\ m < (f : Int) /\ e.isSome = true /\ e.isSome = true /\ ∃ (n7 : Int), atI I1 e (m.toNat * 2 + 0 + 0) = some (.int .i64 n7) /\ Br (n7 == 11) (0 <= m /\ m < (f : Int) /\ e.isSome = true /\ e.isSome = true /\ ∃ (a3 : Option Addr) (n8 c3 : Nat), atI I1 e (m.toNat * 2 + 1 + 0) = some (.slice a3 n8 c3) /\ Wr .i64 (m + 1) fun (c4 : Int) => Rf E1 /\ Rf (SV.v (.slice a n c)) /\ Rf (SV.ptr 0 0) /\ Rf (SV.v (.slice e f g)) /\ Rf (SV.ptr 1 0) /\ Rf (none : Option Nat) /\ RefI bs I1 c4 [.int .u8 o, .int .u8 p, .string q, .int .i64 r, .int .i64 s, .int .i64 t, .int .i64 u, .int .i64 w, .int .i64 x, .int .i64 y, .int .i64 z, .slice a3 n8 c3] /\ Int.toNat (((flB bs).length : Int) - c4) < Int.toNat (((flB bs).length : Int) - m)) (Br (n5 != 0) (Rf E1 /\ Rf (Ent.mk (.cells (.v (.int .u8 o) :: .v (.int .u8 p) :: E2 q r s t u w x y z a1 n1 c1) 78) none) /\ Rf (SV.v (.slice a n c)) /\ Rf (SV.ptr 0 0) /\ Rf (SV.v (.slice e f g)) /\ Rf (SV.ptr 1 0) /\ Rf (SV.v (.int .i64 m)) /\ Rf (SV.v (.int .u64 n3)) /\ true = RefB bs m) (0 <= m /\ m < (f : Int) /\ e.isSome = true /\ e.isSome = true /\ ∃ (n8 : Int), atI I1 e (m.toNat * 2 + 0 + 0) = some (.int .i64 n8) /\ Br (decide (11 < n8)) (Rf E1 /\ Rf (Ent.mk (.cells (.v (.int .u8 o) :: .v (.int .u8 p) :: E2 q r s t u w x y z a1 n1 c1) 78) none) /\ Rf (SV.v (.slice a n c)) /\ Rf (SV.ptr 0 0) /\ Rf (SV.v (.slice e f g)) /\ Rf (SV.ptr 1 0) /\ Rf (SV.v (.int .i64 m)) /\ Rf (SV.v (.int .u64 n3)) /\ true = RefB bs m) (0 <= m /\ m < (f : Int) /\ e.isSome = true /\ e.isSome = true /\ ∃ (n9 : Int), atI I1 e (m.toNat * 2 + 0 + 0) = some (.int .i64 n9) /\ Br (n9 == 1) (Br (decide (255 < n3)) (Rf E1 /\ Rf (Ent.mk (.cells (.v (.int .u8 o) :: .v (.int .u8 p) :: E2 q r s t u w x y z a1 n1 c1) 78) none) /\ Rf (SV.v (.slice a n c)) /\ Rf (SV.ptr 0 0) /\ Rf (SV.v (.slice e f g)) /\ Rf (SV.ptr 1 0) /\ Rf (SV.v (.int .i64 m)) /\ Rf (SV.v (.int .u64 n3)) /\ true = RefB bs m) (0 <= m /\ m < (f : Int) /\ e.isSome = true /\ e.isSome = true /\ ∃ (n10 : Int), atI I1 e (m.toNat * 2 + 0 + 0) = some (.int .i64 n10) /\ Br (decide (n10 < 10)) (Rf E1 /\ Rf (Ent.mk (.cells (.v (.int .u8 o) :: .v (.int .u8 p) :: E2 q r s t u w x y z a1 n1 c1) 78) none) /\ Rf (SV.v (.slice a n c)) /\ Rf (SV.ptr 0 0) /\ Rf (SV.v (.slice e f g)) /\ Rf (SV.ptr 1 0) /\ Rf (SV.v (.int .i64 m)) /\ Rf (SV.v (.int .u64 n3)) /\ decide (9223372036854775807 < n3) = RefB bs m) (Rf E1 /\ Rf (Ent.mk (.cells (.v (.int .u8 o) :: .v (.int .u8 p) :: E2 q r s t u w x y z a1 n1 c1) 78) none) /\ Rf (SV.v (.slice a n c)) /\ Rf (SV.ptr 0 0) /\ Rf (SV.v (.slice e f g)) /\ Rf (SV.ptr 1 0) /\ Rf (SV.v (.int .i64 m)) /\ Rf (SV.v (.int .u64 n3)) /\ false = RefB bs m))) (0 <= m /\ m < (f : Int) /\ e.isSome = true /\ e.isSome = true /\ ∃ (n10 : Int), atI I1 e (m.toNat * 2 + 0 + 0) = some (.int .i64 n10) /\ Br (decide (n10 < 10)) (Rf E1 /\ Rf (Ent.mk (.cells (.v (.int .u8 o) :: .v (.int .u8 p) :: E2 q r s t u w x y z a1 n1 c1) 78) none) /\ Rf (SV.v (.slice a n c)) /\ Rf (SV.ptr 0 0) /\ Rf (SV.v (.slice e f g)) /\ Rf (SV.ptr 1 0) /\ Rf (SV.v (.int .i64 m)) /\ Rf (SV.v (.int .u64 n3)) /\ decide (9223372036854775807 < n3) = RefB bs m) (Rf E1 /\ Rf (Ent.mk (.cells (.v (.int .u8 o) :: .v (.int .u8 p) :: E2 q r s t u w x y z a1 n1 c1) 78) none) /\ Rf (SV.v (.slice a n c)) /\ Rf (SV.ptr 0 0) /\ Rf (SV.v (.slice e f g)) /\ Rf (SV.ptr 1 0) /\ Rf (SV.v (.int .i64 m)) /\ Rf (SV.v (.int .u64 n3)) /\ false = RefB bs m)))) /\ ∀ (I2 : Mem), Mem -> I1.le I2 -> ∀ (b1 : Bool), b1 = RefB bs m -> Br b1 (RefE bs I2 (.tuple #[.agg #[.int .u8 0, .int .u8 0, .string ⟨#[]⟩, .int .i64 0, .int .i64 0, .int .i64 0, .int .i64 0, .int .i64 0, .int .i64 0, .int .i64 0, .int .i64 0, .slice none 0 0], .int .i64 341])) (0 <= m /\ m < (f : Int) /\ e.isSome = true /\ e.isSome = true /\ ∃ (n8 : Int), atI I2 e (m.toNat * 2 + 0 + 0) = some (.int .i64 n8) /\ Br (n8 == 1) (Wr .u8 n3 (fun (c3 : Int) => Wr .i64 (m + 1) fun (c4 : Int) => Rf E1 /\ Rf (SV.v (.slice a n c)) /\ Rf (SV.ptr 0 0) /\ Rf (SV.v (.slice e f g)) /\ Rf (SV.ptr 1 0) /\ Rf (none : Option Nat) /\ RefI bs I2 c4 [.int .u8 o, .int .u8 c3, .string q, .int .i64 r, .int .i64 s, .int .i64 t, .int .i64 u, .int .i64 w, .int .i64 x, .int .i64 y, .int .i64 z, .slice a1 n1 c1] /\ Int.toNat (((flB bs).length : Int) - c4) < Int.toNat (((flB bs).length : Int) - m))) (0 <= m /\ m < (f : Int) /\ e.isSome = true /\ e.isSome = true /\ ∃ (n9 : Int), atI I2 e (m.toNat * 2 + 0 + 0) = some (.int .i64 n9) /\ Br (n9 == 10) (Ct Tryz.prog (fnv 151) #[.int .u64 n3] I2 (fun (v2 : Value) (I3 : Mem) => ∃ (n10 : Int), v2 = .int .i64 n10 /\ Wr .i64 (m + 1) fun (c3 : Int) => Rf E1 /\ Rf (SV.v (.slice a n c)) /\ Rf (SV.ptr 0 0) /\ Rf (SV.v (.slice e f g)) /\ Rf (SV.ptr 1 0) /\ Rf (none : Option Nat) /\ RefI bs I3 c3 [.int .u8 o, .int .u8 p, .string q, .int .i64 r, .int .i64 s, .int .i64 t, .int .i64 u, .int .i64 w, .int .i64 x, .int .i64 y, .int .i64 n10, .slice a1 n1 c1] /\ Int.toNat (((flB bs).length : Int) - c3) < Int.toNat (((flB bs).length : Int) - m))) (0 <= m /\ m < (f : Int) /\ e.isSome = true /\ e.isSome = true /\ ∃ (n10 : Int), atI I2 e (m.toNat * 2 + 0 + 0) = some (.int .i64 n10) /\ Wr .i64 n3 fun (c3 : Int) => Ct Tryz.prog (fnv 152) #[.agg #[.int .u8 o, .int .u8 p, .string q, .int .i64 r, .int .i64 s, .int .i64 t, .int .i64 u, .int .i64 w, .int .i64 x, .int .i64 y, .int .i64 z, .slice a1 n1 c1], .int .i64 n10, .int .i64 c3] I2 fun (v2 : Value) (I3 : Mem) => ∃ (n11 n12 : Int) (q1 : ByteArray) (n13 n14 n15 n16 n17 n18 n19 n20 : Int) (a3 : Option Addr) (n21 c4 : Nat), v2 = .agg #[.int .u8 n11, .int .u8 n12, .string q1, .int .i64 n13, .int .i64 n14, .int .i64 n15, .int .i64 n16, .int .i64 n17, .int .i64 n18, .int .i64 n19, .int .i64 n20, .slice a3 n21 c4] /\ Wr .i64 (m + 1) fun (c5 : Int) => Rf E1 /\ Rf (SV.v (.slice a n c)) /\ Rf (SV.ptr 0 0) /\ Rf (SV.v (.slice e f g)) /\ Rf (SV.ptr 1 0) /\ Rf (none : Option Nat) /\ RefI bs I3 c5 [.int .u8 n11, .int .u8 n12, .string q1, .int .i64 n13, .int .i64 n14, .int .i64 n15, .int .i64 n16, .int .i64 n17, .int .i64 n18, .int .i64 n19, .int .i64 n20, .slice a3 n21 c4] /\ Int.toNat (((flB bs).length : Int) - c5) < Int.toNat (((flB bs).length : Int) - m))))))) (Ct Tryz.prog (fnv 90) #[.agg #[.int .u8 o, .int .u8 p, .string q, .int .i64 r, .int .i64 s, .int .i64 t, .int .i64 u, .int .i64 w, .int .i64 x, .int .i64 y, .int .i64 z, .slice a1 n1 c1]] l (fun (v1 : Value) (I1 : Mem) => ∃ (a2 : Option Addr) (n2 c2 : Nat) (n3 : Int), v1 = .tuple #[.slice a2 n2 c2, .int .i64 n3] /\ Br (n3 != 0) (RefE bs I1 (.tuple #[.agg #[.int .u8 0, .int .u8 0, .string ⟨#[]⟩, .int .i64 0, .int .i64 0, .int .i64 0, .int .i64 0, .int .i64 0, .int .i64 0, .int .i64 0, .int .i64 0, .slice none 0 0], .int .i64 341])) (Br ((n2 : Int) != (n : Int)) (RefE bs I1 (.tuple #[.agg #[.int .u8 0, .int .u8 0, .string ⟨#[]⟩, .int .i64 0, .int .i64 0, .int .i64 0, .int .i64 0, .int .i64 0, .int .i64 0, .int .i64 0, .int .i64 0, .slice none 0 0], .int .i64 341])) ((Rf E1 /\ Rf (SV.v (.slice a n c)) /\ Rf (SV.ptr 0 0) /\ Rf (SV.ptr 1 0) /\ Rf (SV.v (.slice a2 n2 c2)) /\ Rf (none : Option Nat) /\ RefJ bs I1 a2 n2 0 [.int .u8 o, .int .u8 p, .string q, .int .i64 r, .int .i64 s, .int .i64 t, .int .i64 u, .int .i64 w, .int .i64 x, .int .i64 y, .int .i64 z, .slice a1 n1 c1]) /\ ∀ (I2 : Mem), Mem -> I1.le I2 -> ∀ (n4 n5 n6 : Int) (q1 : ByteArray) (n7 n8 n9 n10 n11 n12 n13 n14 : Int) (a3 : Option Addr) (n15 c3 : Nat), RefJ bs I2 a2 n2 n4 [.int .u8 n5, .int .u8 n6, .string q1, .int .i64 n7, .int .i64 n8, .int .i64 n9, .int .i64 n10, .int .i64 n11, .int .i64 n12, .int .i64 n13, .int .i64 n14, .slice a3 n15 c3] -> Br (decide (n4 < (n : Int))) (0 <= n4 /\ n4 < (n2 : Int) /\ a2.isSome = true /\ ∃ (n16 : Int), atI I2 a2 (n4.toNat * 1 + 0) = some (.int .u8 n16) /\ 0 <= n4 /\ n4 < (n : Int) /\ a.isSome = true /\ ∃ (n17 : Int), atI I2 a (n4.toNat * 1 + 0) = some (.int .u8 n17) /\ Br (n16 != n17) (RefE bs I2 (.tuple #[.agg #[.int .u8 0, .int .u8 0, .string ⟨#[]⟩, .int .i64 0, .int .i64 0, .int .i64 0, .int .i64 0, .int .i64 0, .int .i64 0, .int .i64 0, .int .i64 0, .slice none 0 0], .int .i64 341])) (Wr .i64 (n4 + 1) (fun (c4 : Int) => Rf E1 /\ Rf (SV.v (.slice a n c)) /\ Rf (SV.ptr 0 0) /\ Rf (SV.ptr 1 0) /\ Rf (SV.v (.slice a2 n2 c2)) /\ Rf (none : Option Nat) /\ RefJ bs I2 a2 n2 c4 [.int .u8 n5, .int .u8 n6, .string q1, .int .i64 n7, .int .i64 n8, .int .i64 n9, .int .i64 n10, .int .i64 n11, .int .i64 n12, .int .i64 n13, .int .i64 n14, .slice a3 n15 c3] /\ Int.toNat ((bs.length : Int) - c4) < Int.toNat ((bs.length : Int) - n4)))) (RefE bs I2 (.tuple #[.agg #[.int .u8 n5, .int .u8 n6, .string q1, .int .i64 n7, .int .i64 n8, .int .i64 n9, .int .i64 n10, .int .i64 n11, .int .i64 n12, .int .i64 n13, .int .i64 n14, .slice a3 n15 c3], .int .i64 0])))))))))) (by kernel_rfl) ?_
 intro E1 E2
 have hmx : maxLen = 9223372036854775807 := by decide
 have hln := h.numLen;refine Br.mk (fun h1 => refE_bad ?_) (fun h1 => ?_)
 · have h1 := of_decide_eq_true h1
   rw [accB, decide_eq_false (by omega)]; rfl
 have h1 := of_decide_eq_false h1
 obtain ⟨x0, hx0, e0⟩ := h.intAt (i := 0) (by omega) (by omega)
 have hx0 : bs[0]? = some x0 := hx0
 refine ⟨by omega, by omega, h.isSome (by omega), x0, e0, Br.mk (fun h2 => refE_bad ?_) (fun h2 => ?_)⟩
 · have h2 : x0 ≠ 1 := by simpa using h2
   rw [accB, hx0, decide_eq_false (p := some x0 = some 1) (fun hc => h2 (Option.some.inj hc)), Bool.false_and, Bool.and_false]
 have h2 : x0 = 1 := by simpa using h2
 have hsub := sl_sub h (f := 2) (t := n) (by omega) (by omega) hc
 rw [List.take_of_length_le (by rw [List.length_drop]; omega)] at hsub
 have hbd : byteL (bs.drop 2) := fun z hz => hbs z (List.mem_of_mem_drop hz)
 refine ⟨by omega, by omega, (ct149 (bs.drop 2) hbd _ (n - 2) (c - 2) I hsub (by omega) (by omega) (by omega)).mono fun v I1 l1 ⟨a1, n1, c1, hv, hF, hn1, hc1⟩ => ⟨_, _, _, _, _, hv, Br.mk (fun h3 => refE_bad ?_) (fun h3 => ?_)⟩⟩
 · have h3 : (readF (bs.drop 2)).2.2 ≠ 0 := by simpa using h3
   rw [accB, decide_eq_false (p := (readF (bs.drop 2)).2.2 = 0) h3]
   simp
 have hF : FldM I1 a1 n1 (flB bs) := hF;have hlen := hF.len
 have hle : ∀ f ∈ flB bs, f.2.length <= 16384 /\ 0 < f.1 := by
  rcases read_cases (bs.drop 2) hbd with ⟨_, _, hr, _⟩ | ⟨hr, _⟩
  · intro f hf
    have := right_at (rightF_iff.1 hr).1 f hf;omega
  · intro f hf
    have : flB bs = [] := hr
    rw [this] at hf; cases hf
 obtain ⟨x1, hx1, e1⟩ := (h.mono l1).intAt (i := 1) (by omega) (by omega)
 have hx1 : bs[1]? = some x1 := hx1
 have hk : kindB bs = x1 := by rw [kindB, hx1]; rfl
 refine ⟨by omega, by omega, h.isSome (by omega), x1, e1, ⟨rfl, rfl, rfl, rfl, rfl, rfl, ?_⟩, ?_⟩
 · have := refI_start hbs (J := I1)
   rw [hk] at this;exact this
 intro I2 _ l2 j y0 y1 yq y3 y4 y5 y6 y7 y8 y9 y10 ah nh ch hI;obtain ⟨j0, j1, hq, yq', heq, hok, hs1, hs2, hy, hacc⟩ := hI;simp only [rqV, List.cons.injEq, Value.int.injEq, Value.string.injEq, true_and, and_true] at heq;obtain ⟨rfl, rfl, rfl, rfl, rfl, rfl, rfl, rfl, rfl, rfl, rfl, rfl⟩ := heq;refine Br.mk (fun hlt => ?_) (fun hge => ?_)
 · have hlt := of_decide_eq_true hlt
   have hF2 := hF.mono l2;obtain ⟨f, b, m, c', hf, hfo, e2, e3, hfs, hmc, hcm⟩ := hF2.at_ j0 hlt;have hfl := hle f (List.mem_of_getElem? hf);have hml := hfs.numLen
   have hsome := hF2.isSome (by omega)
   have hr := last_range hfo.2
   refine ⟨j0, hlt, hsome, hsome, _, _, _, e3, (ct150 f.2 hfo.2 b m c' I2 hfs (by omega) hmc).mono fun v I3 l3 hv => ⟨_, _, _, hv, ?_⟩⟩
   obtain ⟨f', b', m', c2, hf', _, e4, e5, hfs3, hmc, hcm⟩ := (hF2.mono l3).at_ j0 hlt;rw [hf] at hf'
   cases hf'
   have hml3 := hfs3.numLen;have hy3 := hy.mono l3;refine ⟨j0, hlt, hsome, hsome, _, e4, Br.mk (fun g2 => ?_) (fun g2 => ?_)⟩
   · have g2 := eqv g2
     obtain ⟨q1, q2, q3⟩ := u8s_at hfo.2 hfs3
     refine ⟨j0, hlt, hsome, hsome, _, _, _, e5, _, q1, q2, q3, wr_i64 (by omega) (by omega) ⟨rfl, rfl, rfl, rfl, rfl, rfl, refI_next hbs (y' := .slice ah nh ch) j0 hok hs1 hs2 hacc hf (by omega) (by omega) ?_ ?_, by omega⟩⟩
     · rw [g2]; exact hy3
     · rw [g2]; rfl
   refine ⟨j0, hlt, hsome, hsome, _, e4, Br.mk (fun g11 => ?_) (fun g11 => ?_)⟩
   · have g11 := eqv g11
     refine ⟨j0, hlt, hsome, hsome, _, _, _, e5, wr_i64 (by omega) (by omega) ⟨rfl, rfl, rfl, rfl, rfl, rfl, refI_next hbs (y' := .slice b' m' c2) j0 hok hs1 hs2 hacc hf (by omega) (by omega) ?_ ?_, by omega⟩⟩
     · rw [g11]; exact ⟨_, _, _, rfl, hfs3, hmc, hcm⟩
     · rw [g11]; rfl
   have g2 := nev g2;have g11 := nev g11
   have hRB : RefB bs j = (decide ((lastN f.2).2.2 ≠ 0) || (decide (11 < f.1) || ((decide (f.1 = 1) && decide (255 < (lastN f.2).1)) || (decide (f.1 < 10) && decide (9223372036854775807 < (lastN f.2).1))))) := by
    rw [RefB, hf]
   refine ⟨?_, ?_⟩
   · rw [hRB]
     refine Br.mk (fun k1 => ⟨rfl, rfl, rfl, rfl, rfl, rfl, rfl, rfl, ?_⟩) (fun k1 => ⟨j0, hlt, hsome, hsome, _, e4, Br.mk (fun k2 => ⟨rfl, rfl, rfl, rfl, rfl, rfl, rfl, rfl, ?_⟩) (fun k2 => ⟨j0, hlt, hsome, hsome, _, e4, Br.mk (fun k3 => Br.mk (fun k4 => ⟨rfl, rfl, rfl, rfl, rfl, rfl, rfl, rfl, ?_⟩) (fun k4 => ⟨j0, hlt, hsome, hsome, _, e4, Br.mk (fun k5 => ⟨rfl, rfl, rfl, rfl, rfl, rfl, rfl, rfl, ?_⟩) (fun k5 => ⟨rfl, rfl, rfl, rfl, rfl, rfl, rfl, rfl, ?_⟩)⟩)) (fun k3 => ⟨j0, hlt, hsome, hsome, _, e4, Br.mk (fun k5 => ⟨rfl, rfl, rfl, rfl, rfl, rfl, rfl, rfl, ?_⟩) (fun k5 => ⟨rfl, rfl, rfl, rfl, rfl, rfl, rfl, rfl, ?_⟩)⟩)⟩)⟩)
     · have k1 : (lastN f.2).2.2 ≠ 0 := by simpa using k1
       rw [decide_eq_true k1]; rfl
     all_goals have k1 : decide ((lastN f.2).2.2 ≠ 0) = false := decide_eq_false (by simpa using k1)
     all_goals rw [k1, Bool.false_or]
     · rw [k2, Bool.true_or]
     all_goals rw [k2, Bool.false_or]
     · rw [decide_eq_true (eqv k3), k4]; rfl
     · rw [k4, Bool.and_false, Bool.false_or, k5, Bool.true_and]
     · rw [k4, Bool.and_false, Bool.false_or, k5, Bool.false_and]
     · rw [decide_eq_false (nev k3), Bool.false_and, Bool.false_or, k5, Bool.true_and]
     · rw [decide_eq_false (nev k3), Bool.false_and, Bool.false_or, k5, Bool.false_and]
   rintro I4 _ l4 bb rfl;refine Br.mk (fun hb => refE_bad (refB_bad hbs hf g2 g11 hb)) (fun hb => ?_);rw [hRB] at hb;simp only [Bool.or_eq_false_iff, Bool.and_eq_false_iff, decide_eq_false_iff_not] at hb;have hy4 := hy3.mono l4;obtain ⟨f', b', m', c2, hf', _, e4, e5, _⟩ := ((hF2.mono l3).mono l4).at_ j0 hlt;rw [hf] at hf'
   cases hf'
   refine ⟨j0, hlt, hsome, hsome, _, e4, Br.mk (fun k1 => ?_) (fun k1 => ?_)⟩
   · have k1 := eqv k1
     refine ⟨_, IntWalk.u8_in _ ⟨hr.1, by omega⟩, wr_i64 (by omega) (by omega) ⟨rfl, rfl, rfl, rfl, rfl, rfl, refI_next hbs (y' := .slice ah nh ch) j0 hok hs1 hs2 hacc hf (by omega) (by omega) ?_ ?_, by omega⟩⟩
     · rw [k1]; exact hy4
     · rw [k1]; rfl
   have k1 := nev k1;refine ⟨j0, hlt, hsome, hsome, _, e4, Br.mk (fun k10 => ?_) (fun k10 => ?_)⟩
   · have k10 := eqv k10
     refine (ct151 _ hr I4).mono fun v I5 l5 hv => ⟨_, hv, wr_i64 (by omega) (by omega) ⟨rfl, rfl, rfl, rfl, rfl, rfl, refI_next hbs (y' := .slice ah nh ch) j0 hok hs1 hs2 hacc hf (by omega) (by omega) ?_ ?_, by omega⟩⟩
     · rw [k10]; exact hy4.mono l5
     · rw [k10]; rfl
   have k10 := nev k10;refine ⟨j0, hlt, hsome, hsome, _, e4, _, rfl, ?_⟩;refine (ct152 hq (.slice ah nh ch) f.1 _ I4 hy4).mono fun v I5 l5 hv => ?_
   have hst : setN hq f.1 (IntKind.i64.wrap (lastN f.2).1) = refTake hq f.1 f.2 := by
    rcases (by omega : f.1 = 3 \/ f.1 = 4 \/ f.1 = 5 \/ f.1 = 6 \/ f.1 = 7 \/ f.1 = 8 \/ f.1 = 9) with e | e | e | e | e | e | e
    all_goals rw [e]; rfl
   rw [hst] at hv
   refine ⟨_, _, _, _, _, _, _, _, _, _, _, _, _, _, hv, wr_i64 (by omega) (by omega) ⟨rfl, rfl, rfl, rfl, rfl, rfl, refI_next hbs (y' := .slice ah nh ch) j0 hok hs1 hs2 hacc hf (by omega) (by omega) ?_ rfl, by omega⟩⟩
   rw [<- hst]
   have : (setN hq f.1 (IntKind.i64.wrap (lastN f.2).1)).fed = hq.fed := by
    unfold setN
    repeat' split
    all_goals rfl
   rw [this];exact hy4.mono l5
 have hge := of_decide_eq_false hge
 have hR : accB bs = true -> hq = (readR bs).1 := fun ha => by
  obtain ⟨r1, r2, _, r4, _⟩ := acc_flds hbs ha
  have hl : (flB bs).length = (tagsR (readR bs).1).length := by rw [r4, fldsR, List.length_map]
  rw [hacc ha, List.take_of_length_le (by omega), (right_run r1 r2).2]
 refine (ct90 hq hok hs1 _ I2 hy hs2).mono fun v I3 l3 ⟨a5, n5, c5, hv, hw5, hn5, hc5⟩ => ⟨_, _, _, _, hv, Br.mk (fun k => refE_bad ?_) (fun k => ?_)⟩
 · cases ha : accB bs with
   | false => rfl
   | true =>
    rw [hR ha, (acc_flds hbs ha).2.1] at k;cases k
 have hrr : rightR hq = true := by
  cases hr : rightR hq with
  | true => rfl
  | false => rw [hr] at k; cases k
 rw [hrr] at hw5;simp only [if_true] at hw5;have hl5 := hw5.numLen;refine Br.mk (fun k => refE_bad ?_) (fun k => ?_)
 · have k : (n5 : Int) ≠ n := by simpa using k
   cases ha : accB bs with
   | false => rfl
   | true =>
    have := (acc_flds hbs ha).2.2.1;rw [<- hR ha] at this;rw [this] at hl5;omega
 have k : (n5 : Int) = n := by simpa using k
 have hle3 := Mem.le_trans (Mem.le_trans l1 l2) l3
 refine ⟨⟨rfl, rfl, rfl, rfl, rfl, rfl, _, _, rfl, hok, hrr, hy.mono l3, hw5, by omega, by omega, by omega, by simp, hR⟩, ?_⟩
 intro I4 _ l4 i z0 z1 zq z3 z4 z5 z6 z7 z8 z9 z10 ai ni ci hJ;obtain ⟨g, yg, heq, gok, grr, gy, gw, gn, i0, i1, gt, gR⟩ := hJ;simp only [rqV, List.cons.injEq, Value.int.injEq, Value.string.injEq, true_and, and_true] at heq;obtain ⟨rfl, rfl, rfl, rfl, rfl, rfl, rfl, rfl, rfl, rfl, rfl, rfl⟩ := heq;refine Br.mk (fun hlt => ?_) (fun hge => ?_)
 · have hlt := of_decide_eq_true hlt
   obtain ⟨u, hu, hau⟩ := gw.intAt i0 (by omega)
   obtain ⟨w, hw, haw⟩ := (h.mono (Mem.le_trans hle3 l4)).intAt i0 hlt
   refine ⟨i0, by omega, gw.isSome (by omega), u, hau, i0, hlt, h.isSome (by omega), w, haw, Br.mk (fun k => refE_bad ?_) (fun k => ?_)⟩
   · have k : u ≠ w := by simpa using k
     cases ha : accB bs with
     | false => rfl
     | true =>
      have := (acc_flds hbs ha).2.2.1;rw [<- gR ha] at this;rw [this, hw] at hu;exact absurd (Option.some.inj hu).symm k
   · have k : u = w := by simpa using k
     refine wr_i64 (by omega) (by omega) ⟨rfl, rfl, rfl, rfl, rfl, rfl, ⟨_, _, rfl, gok, grr, gy, gw, gn, by omega, by omega, ?_, gR⟩, by omega⟩
     rw [show (i + 1).toNat = i.toNat + 1 by omega, take_succ' hu, take_succ' hw, gt, k]
 · have hge := of_decide_eq_false hge
   have gl := gw.numLen
   have he : writeR g = bs := by
    rw [List.take_of_length_le (by omega), List.take_of_length_le (by omega)] at gt
    exact gt
   have := (read_writeR gok grr).2;rw [he] at this;unfold RefE;rw [this];exact ⟨_, rfl, gy⟩
def behT (r : Rq) (l : List Int) : Tx := l.flatMap fun t => 32 :: fieldT r t
theorem joinC_beh (c : UInt8) (x : Tx) : ∀ ys : List Tx, joinC c (x :: ys) = x ++ ys.flatMap fun y => c :: y
 | [] => by simp [joinC]
 | y :: r => by rw [joinC, joinC_beh c y r]; simp
theorem words_beh (r : Rq) : wordsB r = strT (tx (nameS r.kind) ++ behT r (tagsR r)) := by
 rw [wordsB, joinB, wordsL, List.map_cons, joinC_beh, List.map_map, behT, List.flatMap_map];simp only [Function.comp, tx_strT]
theorem beh_snoc (r : Rq) (l : List Int) (t : Int) : behT r (l ++ [t]) = behT r l ++ 32 :: fieldT r t := by simp [behT]
theorem beh_len (r : Rq) (l : List Int) (k : Nat) : (behT r (l.take k)).length <= (behT r l).length := by
 have : behT r l = behT r (l.take k) ++ behT r (l.drop k) := by rw [behT, behT, behT, <- List.flatMap_append, List.take_append_drop]
 rw [this, List.length_append]; omega
theorem kinds_at {k : Int} (h0 : 0 <= k) (h1 : k <= 9) : kindsN[k.toNat]? = some (nameS k) := by
 have : ∀ k : Fin 10, kindsN[k.val]? = some (nameS k.val) := by decide +kernel
 have := this ⟨k.toNat, by omega⟩
 simp only at this
 rwa [Int.toNat_of_nonneg h0] at this
theorem asks_at {k : Int} (h0 : 0 <= k) (h1 : k <= 5) : asksN[k.toNat]? = some (askS k) := by
 have : ∀ k : Fin 6, asksN[k.val]? = some (askS k.val) := by decide +kernel
 have := this ⟨k.toNat, by omega⟩
 simp only at this
 rwa [Int.toNat_of_nonneg h0] at this
set_option maxHeartbeats 4000000 in
theorem ct46 (r : Rq) (hr : okRq r) (hnm : r.name.size <= 1000000) (y : Value) (I : Mem) (hy : BySl I y r.fed) (hfl : r.fed.length <= 1000000) :
 Ct Tryz.prog (fnv 46) #[.agg (rqV r y).toArray] I (fun v _ => v = .tuple #[.string (if rightR r then wordsB r else ⟨#[]⟩), .int .i64 (if rightR r then 0 else 412)]) := by
 have hy' := hy;obtain ⟨p, n, c, rfl, hp, hpc, hpm⟩ := hy;obtain ⟨WI, hWI⟩ : ∃ f : Int -> List Value -> Prop, f = fun (j : Int) xs => 0 <= j /\ j <= (tagsR r).length /\ xs = ints .u8 (intT (tx (nameS r.kind) ++ behT r ((tagsR r).take j.toNat))) := ⟨_, rfl⟩
 obtain ⟨Q, hQ⟩ : ∃ q : Value, q = .tuple #[.string (if rightR r then wordsB r else ⟨#[]⟩), .int .i64 (if rightR r then 0 else 412)] := ⟨_, rfl⟩
 rw [<- hQ]
 refine viaR (ct_via (A := { calls := [(16, .sym)], loops := [(6, ⟨[(1, .keep), (4, .row 1), (5, .keep), (7, .sh (.int .i64))], [(0, .keep), (1, .row)], [(4, 1, 5)], fun vals xss _ _ => match vals, xss with | [.int .i64 j], [xs] => WI j xs | _, _ => False, fun vals _ => match vals with | [.int .i64 j] => ((tagsR r).length - j).toNat | _ => 0⟩)] }) Tryz.func46 rfl Tryz.call46 rfl rfl) (let E1 := Ent.mk (.cells [.v (.int .u8 r.kind), .v (.int .u8 r.what), .v (.string r.name), .v (.int .i64 r.p3), .v (.int .i64 r.p4), .v (.int .i64 r.p5), .v (.int .i64 r.p6), .v (.int .i64 r.p7), .v (.int .i64 r.p8), .v (.int .i64 r.p9), .v (.int .i64 r.val), .v (.slice p n c)] 78) none
  Ct Tryz.prog (fnv 91) #[.agg #[.int .u8 r.kind, .int .u8 r.what, .string r.name, .int .i64 r.p3, .int .i64 r.p4, .int .i64 r.p5, .int .i64 r.p6, .int .i64 r.p7, .int .i64 r.p8, .int .i64 r.p9, .int .i64 r.val, .slice p n c]] I fun v a => ∃ b, v = .bool b /\ Br (!b) (Value.tuple #[.string ⟨#[]⟩, .int .i64 412] = Q) (Ct Tryz.prog (fnv 92) #[] a (fun d e => ∃ f g h, d = .slice f g h /\ 0 <= r.kind /\ r.kind < (g : Int) /\ f.isSome = true /\ ∃ q, atI e f (r.kind.toNat * 1 + 0) = some (.string q) /\ q.size <= 4611686018427387904 /\ Ct Tryz.prog (fnv 93) #[.int .u8 r.kind, .int .u8 r.what] e fun i j => ∃ k l m o, i = .tuple #[.slice k l m, .bool o] /\ (Rf E1 /\ Rf (SV.ptr 0 0) /\ q.size = (bytesV q).length /\ Rf (SV.v (.slice k l m)) /\ WI 0 (bytesV q)) /\ ∀ (s : Mem), Mem -> j.le s -> ∀ (x : List Value) (t : Int), WI t x -> Br (decide (t < (l : Int))) (x.length = x.length * 1 /\ x.length + 1 <= 9223372036854775807 /\ (x.length + 1) * 1 <= 140737488355328 /\ 0 <= t /\ t < (l : Int) /\ k.isSome = true /\ ∃ u, atI s k (t.toNat * 1 + 0) = some (.int .i64 u) /\ Br (u == 1) (Ct Tryz.prog (fnv 94) #[] s (fun w y => ∃ z n1 c1, w = .slice z n1 c1 /\ 0 <= r.what /\ r.what < (n1 : Int) /\ z.isSome = true /\ ∃ q1, atI y z (r.what.toNat * 1 + 0) = some (.string q1) /\ (1 : Nat) = 1 /\ List.length (x ++ [.int .u8 32]) = (x.length + 1) * 1 /\ x.length + 1 + q1.size <= 9223372036854775807 /\ (x.length + 1 + q1.size) * 1 <= 140737488355328 /\ Wr .i64 (t + 1) fun c2 => Rf E1 /\ Rf (SV.ptr 0 0) /\ x.length + 1 + q1.size = List.length (x ++ [.int .u8 32] ++ bytesV q1) /\ Rf (SV.v (.slice k l m)) /\ WI c2 (x ++ [.int .u8 32] ++ bytesV q1) /\ Int.toNat (((tagsR r).length : Int) - c2) < Int.toNat (((tagsR r).length : Int) - t))) (Br (u == 2) (Ct Tryz.prog (fnv 95) #[.string r.name] s (fun w y => ∃ z, w = .bool z /\ Br z ((1 : Nat) = 1 /\ List.length (x ++ [.int .u8 32]) = (x.length + 1) * 1 /\ x.length + 1 + r.name.size <= 9223372036854775807 /\ (x.length + 1 + r.name.size) * 1 <= 140737488355328 /\ Wr .i64 (t + 1) fun c1 => Rf E1 /\ Rf (SV.ptr 0 0) /\ x.length + 1 + r.name.size = List.length (x ++ [.int .u8 32] ++ bytesV r.name) /\ Rf (SV.v (.slice k l m)) /\ WI c1 (x ++ [.int .u8 32] ++ bytesV r.name) /\ Int.toNat (((tagsR r).length : Int) - c1) < Int.toNat (((tagsR r).length : Int) - t)) (r.name.size <= 4611686018427387904 /\ ∀ (a1 : Option Addr) (c1 : Nat) (I1 : Mem), y.le I1 -> a1.isSome = true -> r.name.size <= c1 -> c1 <= 9223372036854775807 -> (∀ (j1 : Nat) (b1 : UInt8), r.name.data.toList[j1]? = some b1 -> atI I1 a1 j1 = some (.int .u8 (b1.toNat : Int))) -> Ct Tryz.prog (fnv 96) #[.slice a1 r.name.size c1] I1 fun v1 I2 => ∃ a2 n1 c2, v1 = .slice a2 n1 c2 /\ ∃ y1, y1.length = n1 * 1 /\ (a2 = none -> n1 = 0) /\ (∀ (j1 : Nat) (v2 : Value), y1[j1]? = some v2 -> atI I2 a2 j1 = some v2) /\ (∀ (v2 : Value), Membership.mem y1 v2 -> v2.oneCell' = true) /\ List.length (x ++ [.int .u8 32]) = (x.length + 1) * 1 /\ x.length + 1 + n1 <= 9223372036854775807 /\ (x.length + 1 + n1) * 1 <= 140737488355328 /\ Wr .i64 (t + 1) fun c3 => Rf E1 /\ Rf (SV.ptr 0 0) /\ x.length + 1 + n1 = List.length (x ++ [.int .u8 32] ++ y1) /\ Rf (SV.v (.slice k l m)) /\ WI c3 (x ++ [.int .u8 32] ++ y1) /\ Int.toNat (((tagsR r).length : Int) - c3) < Int.toNat (((tagsR r).length : Int) - t)))) (Br (u == 10) (Ct Tryz.prog (fnv 97) #[.int .i64 r.val] s (fun w y => ∃ z, w = .string z /\ (1 : Nat) = 1 /\ List.length (x ++ [.int .u8 32]) = (x.length + 1) * 1 /\ x.length + 1 + z.size <= 9223372036854775807 /\ (x.length + 1 + z.size) * 1 <= 140737488355328 /\ Wr .i64 (t + 1) fun c1 => Rf E1 /\ Rf (SV.ptr 0 0) /\ x.length + 1 + z.size = List.length (x ++ [.int .u8 32] ++ bytesV z) /\ Rf (SV.v (.slice k l m)) /\ WI c1 (x ++ [.int .u8 32] ++ bytesV z) /\ Int.toNat (((tagsR r).length : Int) - c1) < Int.toNat (((tagsR r).length : Int) - t))) (Br (u == 11) (Ct Tryz.prog (fnv 96) #[.slice p n c] s (fun w y => ∃ z n1 c1, w = .slice z n1 c1 /\ ∃ y1, y1.length = n1 * 1 /\ (z = none -> n1 = 0) /\ (∀ (j1 : Nat) (v1 : Value), y1[j1]? = some v1 -> atI y z j1 = some v1) /\ (∀ (v1 : Value), Membership.mem y1 v1 -> v1.oneCell' = true) /\ List.length (x ++ [.int .u8 32]) = (x.length + 1) * 1 /\ x.length + 1 + n1 <= 9223372036854775807 /\ (x.length + 1 + n1) * 1 <= 140737488355328 /\ Wr .i64 (t + 1) fun c2 => Rf E1 /\ Rf (SV.ptr 0 0) /\ x.length + 1 + n1 = List.length (x ++ [.int .u8 32] ++ y1) /\ Rf (SV.v (.slice k l m)) /\ WI c2 (x ++ [.int .u8 32] ++ y1) /\ Int.toNat (((tagsR r).length : Int) - c2) < Int.toNat (((tagsR r).length : Int) - t))) (0 <= t /\ t < (l : Int) /\ k.isSome = true /\ ∃ w, atI s k (t.toNat * 1 + 0) = some (.int .i64 w) /\ Ct Tryz.prog (fnv 98) #[.agg #[.int .u8 r.kind, .int .u8 r.what, .string r.name, .int .i64 r.p3, .int .i64 r.p4, .int .i64 r.p5, .int .i64 r.p6, .int .i64 r.p7, .int .i64 r.p8, .int .i64 r.p9, .int .i64 r.val, .slice p n c], .int .i64 w] s fun y z => ∃ n1, y = .int .i64 n1 /\ Ct Tryz.prog (fnv 97) #[.int .i64 n1] z fun v1 I1 => ∃ q1, v1 = .string q1 /\ (1 : Nat) = 1 /\ List.length (x ++ [.int .u8 32]) = (x.length + 1) * 1 /\ x.length + 1 + q1.size <= 9223372036854775807 /\ (x.length + 1 + q1.size) * 1 <= 140737488355328 /\ Wr .i64 (t + 1) fun c1 => Rf E1 /\ Rf (SV.ptr 0 0) /\ x.length + 1 + q1.size = List.length (x ++ [.int .u8 32] ++ bytesV q1) /\ Rf (SV.v (.slice k l m)) /\ WI c1 (x ++ [.int .u8 32] ++ bytesV q1) /\ Int.toNat (((tagsR r).length : Int) - c1) < Int.toNat (((tagsR r).length : Int) - t)))))) (∃ u, u.length = x.length /\ List.take x.length x = List.map (fun (w : UInt8) => .int .u8 (w.toNat : Int)) u /\ Value.tuple #[.string ⟨u.toArray⟩, .int .i64 0] = Q)))) (by kernel_rfl) ?_
 intro E1;simp only [Rf, true_and]
 have hB : ∀ q : ByteArray, bytesV q = ints .u8 (intT (tx q)) := fun q => by simp [bytesV, ints, intT, tx]
 refine (ct91 r hr _ I hy' hfl).mono fun v I1 l1 hv => ⟨_, hv, Br.mk (fun h => ?_) (fun h => ?_)⟩
 · have h : rightR r = false := by simpa using h
   rw [hQ, h]; rfl
 have hR : rightR r = true := by simpa using h
 obtain ⟨htag, hn255, hf15, _⟩ := right_tag hR
 have hk9 : 1 <= r.kind /\ r.kind <= 9 := by rcases tag_shape htag with ⟨h7, _⟩ | ⟨_, hk, _⟩ <;> omega
 refine (ct92 I1).mono fun v I2 l2 ⟨a, m, d, hv, hs, _⟩ => ?_
 have hm : m = 10 := by have := hs.len; simp [strs, kindsN] at this; omega
 have hnz := name_len r.kind
 refine ⟨a, m, d, hv, by omega, by omega, hs.isSome (by omega), nameS r.kind, by rw [Nat.mul_one, Nat.add_zero]; exact hs.at_ _ _ (strs_get (kinds_at (by omega) (by omega))), by omega, (ct93 r.kind r.what hr.kind hr.what I2).mono fun v I3 l3 ⟨ta, tn, tc, hv, hts, _⟩ => ⟨ta, tn, tc, _, hv, ⟨(bytesV_len _).symm, ?_⟩, fun I4 _ l4 x j hj => ?_⟩⟩
 · rw [hWI]; exact ⟨by omega, by omega, by rw [hB]; simp [behT]⟩
 rw [htag] at hts;simp only [Option.getD_some] at hts
 have htl : (tagsR r).length = tn := by have := hts.len; simpa [ints] using this
 rw [hWI] at hj;obtain ⟨j0, j1, hx⟩ := hj;have hwl := (words_len hr hR).2
 have hxl : x.length <= 1000000 := by
  rw [words_beh, strT_size, List.length_append] at hwl;have := beh_len r (tagsR r) j.toNat
  rw [hx]; simp only [ints, intT, List.length_map, List.length_append]; omega
 refine Br.mk (fun hlt => ?_) (fun hge => ?_)
 · have hlt := of_decide_eq_true hlt
   have hts4 := hts.mono l4;obtain ⟨t, ht, hat⟩ := hts4.intAt (i := j) j0 hlt;have htr := (tag_some htag).2 t (List.mem_of_getElem? ht);have hfl40 := field_len hr hn255 hf15 t;have h4l := (tag_some htag).1
   have fin : ∀ (u : List Value) (len : Nat), u = ints .u8 (intT (fieldT r t)) -> len = u.length -> Wr IntKind.i64 (j + 1) fun c => x.length + 1 + len = (x ++ [Value.int IntKind.u8 32] ++ u).length /\ WI c (x ++ [Value.int IntKind.u8 32] ++ u) /\ (↑(tagsR r).length - c).toNat < (↑(tagsR r).length - j).toNat := by
    intro u len hu hl;subst hu
    refine wr_i64 (by omega) (by omega) ⟨by simp [hl]; omega, ?_, by omega⟩
    rw [hWI];have := (List.getElem?_eq_some_iff.1 ht).1
    refine ⟨by omega, by omega, ?_⟩
    rw [show (j + 1).toNat = j.toNat + 1 by omega, List.take_add_one, ht, Option.toList_some, beh_snoc, hx]
    simp [ints, intT]
   have ful : (ints .u8 (intT (fieldT r t))).length = (fieldT r t).length := by simp [ints, intT]
   have one : (x ++ [Value.int IntKind.u8 32]).length = (x.length + 1) * 1 := by simp
   have word : ∀ {bs : List Int} {J : Mem} {v : Value}, fieldT r t = wordT bs -> BySl J v (intT (wordT bs)) -> ∃ a n c, v = .slice a n c /\ ∃ ys : List Value, ys.length = n * 1 /\ (a = none -> n = 0) /\ (∀ (k : Nat) (v : Value), ys[k]? = some v -> atI J a k = some v) /\ (∀ v ∈ ys, v.oneCell' = true) /\ (x ++ [Value.int IntKind.u8 32]).length = (x.length + 1) * 1 /\ x.length + 1 + n <= 9223372036854775807 /\ (x.length + 1 + n) * 1 <= 140737488355328 /\ Wr IntKind.i64 (j + 1) fun c => x.length + 1 + n = (x ++ [Value.int IntKind.u8 32] ++ ys).length /\ WI c (x ++ [Value.int IntKind.u8 32] ++ ys) /\ (↑(tagsR r).length - c).toNat < (↑(tagsR r).length - j).toNat := by
    intro bs J v hf ⟨a, n, c, hv, hs, _⟩;have hl := hs.len;rw [<- hf, ful] at hl
    exact ⟨a, n, c, hv, _, hs.len, hs.nil, hs.at_, one_ints, one, by omega, by omega, fin _ _ (by rw [hf]) (by have := hs.len; omega)⟩
   refine ⟨(Nat.mul_one _).symm, by omega, by omega, j0, hlt, hts4.isSome (by omega), t, hat, Br.mk (fun h1 => ?_) (fun h1 => Br.mk (fun h2 => ?_) (fun h2 => Br.mk (fun h3 => ?_) (fun h3 => Br.mk (fun h4 => ?_) (fun h4 => ?_))))⟩
   · have h1 : t = 1 := by simpa using h1
     subst h1
     have hw5 : 1 <= r.what /\ r.what <= 5 := by
      rcases tag_shape htag with ⟨_, hw, _⟩ | ⟨_, _, hl⟩
      · exact hw
      · have := hl 1 (List.mem_of_getElem? ht); omega
     refine (ct94 I4).mono fun v I5 l5 ⟨z, m1, c1, hv, hs1, _⟩ => ?_
     have hm1 : m1 = 6 := by have := hs1.len; simp [strs, asksN] at this; omega
     have hsz : (fieldT r 1).length = (askS r.what).size := Array.length_toList
     exact ⟨z, m1, c1, hv, by omega, by omega, hs1.isSome (by omega), askS r.what, by rw [Nat.mul_one, Nat.add_zero]; exact hs1.at_ _ _ (strs_get (asks_at (by omega) (by omega))), one, by omega, by omega, fin _ _ (hB _) (bytesV_len _).symm⟩
   · have h2 : t = 2 := by simpa using h2
     subst h2
     have e : fieldT r 2 = if nameB (strL r.name) then tx r.name else wordT (strL r.name) := rfl
     refine (ct95 r.name hnm I4).mono fun v I5 l5 hv => ⟨_, hv, Br.mk (fun hb => ?_) (fun hb => ⟨by omega, fun a1 c1 I6 l6 ha hc hm' hat' => ?_⟩)⟩
     · rw [if_pos hb] at e
       exact ⟨one, by omega, by omega, fin _ _ (by rw [hB, e]) (bytesV_len _).symm⟩
     · rw [if_neg (by rw [hb]; decide)] at e
       exact (ct96 (strL r.name) (strL_bytes _) a1 r.name.size c1 I6 (str_sl ha (by simp only [maxLen]; omega) hat') (by omega)).mono fun v I7 l7 hv => word e hv
   · have h3 : t = 10 := by simpa using h3
     subst h3;have e : fieldT r 10 = Lib.itoa r.val := rfl;have := itoa_len hr.val
     refine (ct97 r.val hr.val I4).mono fun v I5 l5 hv => ⟨_, hv, one, by rw [strT_size]; omega, by rw [strT_size]; omega, fin _ _ (by rw [hB, tx_strT, e]) (bytesV_len _).symm⟩
   · have h4 : t = 11 := by simpa using h4
     subst h4
     exact (ct96 r.fed hr.fed p n c I4 ((((hp.mono l1).mono l2).mono l3).mono l4) (by have := hp.numLen; omega)).mono fun v I5 l5 hv => word rfl hv
   · have h1 : t ≠ 1 := by simpa using h1
     have h2 : t ≠ 2 := by simpa using h2
     have h3 : t ≠ 10 := by simpa using h3
     have h4 : t ≠ 11 := by simpa using h4
     have e : fieldT r t = Lib.itoa (numR r t) := by rw [fieldT, if_neg h1, if_neg h2, if_neg h3, if_neg h4]
     have := itoa_len (num_ok hr t)
     refine ⟨j0, hlt, hts4.isSome (by omega), t, hat, (ct98 r (.slice p n c) t (by omega) I4).mono fun v I5 l5 hv => ⟨_, hv, (ct97 _ (num_ok hr t) I5).mono fun v I6 l6 hv => ⟨_, hv, one, by rw [strT_size]; omega, by rw [strT_size]; omega, fin _ _ (by rw [hB, tx_strT, e]) (bytesV_len _).symm⟩⟩⟩
 · have hge := of_decide_eq_false hge
   rw [List.take_of_length_le (by omega)] at hx
   refine ⟨tx (nameS r.kind) ++ behT r (tagsR r), by rw [hx]; simp [ints, intT], by rw [List.take_of_length_le (Nat.le_refl _), hx]; simp only [ints, intT, List.map_map]; rfl, ?_⟩
   rw [hQ, hR, if_pos rfl, if_pos rfl, words_beh]; rfl
theorem ct45 (slot : Int) (hs : i64R slot) (r : Rq) (hr : okRq r) (hnm : r.name.size <= 1000000) (y : Value) (I : Mem) (hy : BySl I y r.fed) (hfl : r.fed.length <= 1000000) :
 Ct Tryz.prog (fnv 45) #[.int .i64 slot, .agg (rqV r y).toArray] I (fun u I' => ∃ y', u = .tuple #[.agg (enV (askE slot r).1 y').toArray, .int .i64 (askE slot r).2] /\ BySl I' y' (askE slot r).1.bs) := by
 have hy' := hy;obtain ⟨p, n, c, rfl, hp, hpc, hpm⟩ := hy;obtain ⟨Q, hQ⟩ : ∃ q : Value -> Mem -> Prop, q = fun u I' => ∃ y', u = .tuple #[.agg (enV (askE slot r).1 y').toArray, .int .i64 (askE slot r).2] /\ BySl I' y' (askE slot r).1.bs := ⟨_, rfl⟩;rw [<- hQ]
 refine viaR (ct_via (A := { }) Tryz.func45 rfl Tryz.call45 rfl rfl) (Ct Tryz.prog (fnv 90) #[.agg #[.int .u8 r.kind, .int .u8 r.what, .string r.name, .int .i64 r.p3, .int .i64 r.p4, .int .i64 r.p5, .int .i64 r.p6, .int .i64 r.p7, .int .i64 r.p8, .int .i64 r.p9, .int .i64 r.val, .slice p n c]] I fun v a => ∃ b d e f, v = .tuple #[.slice b d e, .int .i64 f] /\ Br (f != 0) (Q (.tuple #[.agg #[.int .u8 0, .int .i64 0, .int .i64 0, .slice none 0 0], .int .i64 412]) a) (Ct Tryz.prog (fnv 75) #[.agg #[.int .u8 1, .int .i64 slot, .int .i64 0, .slice b d e]] a (fun g h => ∃ i, g = .bool i /\ Br (!i) (Q (.tuple #[.agg #[.int .u8 0, .int .i64 0, .int .i64 0, .slice none 0 0], .int .i64 410]) h) (Q (.tuple #[.agg #[.int .u8 1, .int .i64 slot, .int .i64 0, .slice b d e], .int .i64 0]) h)))) (by kernel_rfl) ?_
 refine (ct90 r hr hnm _ I hy' hfl).mono fun v I1 l1 ⟨a, m, d, hv, hs, h1, h2⟩ => ⟨a, m, d, _, hv, Br.mk (fun h => ?_) (fun h => ?_)⟩
 · have h : rightR r = false := by
    cases hR : rightR r with
    | false => rfl
    | true => rw [hR] at h; exact absurd h (by decide)
   have e : askE slot r = (zeroEn, 412) := by rw [askE, h]; rfl
   rw [hQ, e];exact ⟨_, rfl, bysl_nil _⟩
 have hR : rightR r = true := by
  cases hR : rightR r with
  | true => rfl
  | false => rw [hR] at h; exact absurd h (by decide)
 rw [hR] at hs;simp only [if_true] at hs;have hb := write_ok hr hR;refine (ct75 ⟨1, slot, 0, writeR r⟩ (.slice a m d) I1 ⟨a, m, d, rfl, hs, h1, h2⟩).mono fun v I2 l2 hv => ⟨_, hv, Br.mk (fun h => ?_) (fun h => ?_)⟩
 · have hc : cleanE ⟨1, slot, 0, writeR r⟩ = false := by simpa using h
   have e : askE slot r = (zeroEn, 410) := by rw [askE, hR, hc]; rfl
   rw [hQ, e];exact ⟨_, rfl, bysl_nil _⟩
 · have hc : cleanE ⟨1, slot, 0, writeR r⟩ = true := by simpa using h
   have e : askE slot r = (⟨1, slot, 0, writeR r⟩, 0) := by rw [askE, hR, hc]; rfl
   rw [hQ, e];exact ⟨_, rfl, a, m, d, rfl, hs.mono l2, h1, h2⟩
theorem ct74 (e : En) (hk : okEn e) (y : Value) (I : Mem) (hy : BySl I y e.bs) :
 Ct Tryz.prog (fnv 74) #[.agg (enV e y).toArray] I (fun v _ => v = .tuple #[.string (strT (lineT e)), .int .i64 (lineE e)]) := by
 have hy' := hy;obtain ⟨p, n, c, rfl, hp, hpc, hpm⟩ := hy;obtain ⟨Q, hQ⟩ : ∃ q : Value, q = .tuple #[.string (strT (lineT e)), .int .i64 (lineE e)] := ⟨_, rfl⟩;rw [<- hQ]
 refine viaR (ct_via (A := { calls := [(47, .sym)] }) Tryz.func74 rfl Tryz.call74 rfl rfl) (Ct Tryz.prog (fnv 75) #[.agg #[.int .u8 e.kind, .int .i64 e.slot, .int .i64 e.n, .slice p n c]] I fun v a => ∃ b, v = .bool b /\ Br (!b) (Value.tuple #[.string ⟨#[]⟩, .int .i64 410] = Q) (Br (e.kind == 2) (Value.tuple #[.string ⟨#[116, 105, 99, 107]⟩, .int .i64 0] = Q) (Br (e.kind == 3) (Ct Tryz.prog (fnv 97) #[.int .i64 e.n] a (fun d f => ∃ q, d = .string q /\ 5 + q.size <= 4611686018427387904 /\ Value.tuple #[.string (⟨#[112, 105, 99, 107, 32]⟩ ++ q), .int .i64 0] = Q)) (Ct Tryz.prog (fnv 111) #[.slice p n c] a (fun d f => ∃ g h q i j k l m o r s t u w x, d = .tuple #[.agg #[.int .u8 g, .int .u8 h, .string q, .int .i64 i, .int .i64 j, .int .i64 k, .int .i64 l, .int .i64 m, .int .i64 o, .int .i64 r, .int .i64 s, .slice t u w], .int .i64 x] /\ Br (x == 0) (Ct Tryz.prog (fnv 46) #[.agg #[.int .u8 g, .int .u8 h, .string q, .int .i64 i, .int .i64 j, .int .i64 k, .int .i64 l, .int .i64 m, .int .i64 o, .int .i64 r, .int .i64 s, .slice t u w]] f (fun y z => ∃ q1 n1, y = .tuple #[.string q1, .int .i64 n1] /\ Ct Tryz.prog (fnv 97) #[.int .i64 e.slot] z fun v1 I1 => ∃ q2, v1 = .string q2 /\ 4 + q2.size <= 4611686018427387904 /\ ByteArray.size (⟨#[97, 115, 107, 32]⟩ ++ q2) + 1 <= 4611686018427387904 /\ ByteArray.size (⟨#[97, 115, 107, 32]⟩ ++ q2 ++ ⟨#[32]⟩) + q1.size <= 4611686018427387904 /\ Value.tuple #[.string (⟨#[97, 115, 107, 32]⟩ ++ q2 ++ ⟨#[32]⟩ ++ q1), .int .i64 0] = Q)) (Ct Tryz.prog (fnv 97) #[.int .i64 e.slot] f (fun y z => ∃ q1, y = .string q1 /\ 4 + q1.size <= 4611686018427387904 /\ ByteArray.size (⟨#[114, 97, 119, 32]⟩ ++ q1) + 1 <= 4611686018427387904 /\ ByteArray.size (⟨#[114, 97, 119, 32]⟩ ++ q1 ++ ⟨#[32]⟩) <= 4611686018427387904 /\ Ct Tryz.prog (fnv 96) #[.slice p n c] z fun v1 I1 => ∃ a1 n1 c1, v1 = .slice a1 n1 c1 /\ ∃ y1, y1.length = n1 * 1 /\ (a1 = none -> n1 = 0) /\ (∀ (j1 : Nat) (v2 : Value), y1[j1]? = some v2 -> atI I1 a1 j1 = some v2) /\ (∀ (v2 : Value), Membership.mem y1 v2 -> v2.oneCell' = true) /\ (bytesV (⟨#[114, 97, 119, 32]⟩ ++ q1 ++ ⟨#[32]⟩)).length = ByteArray.size (⟨#[114, 97, 119, 32]⟩ ++ q1 ++ ⟨#[32]⟩) * 1 /\ ByteArray.size (⟨#[114, 97, 119, 32]⟩ ++ q1 ++ ⟨#[32]⟩) + n1 <= 9223372036854775807 /\ (ByteArray.size (⟨#[114, 97, 119, 32]⟩ ++ q1 ++ ⟨#[32]⟩) + n1) * 1 <= 140737488355328 /\ ∃ q2, q2.length = ByteArray.size (⟨#[114, 97, 119, 32]⟩ ++ q1 ++ ⟨#[32]⟩) + n1 /\ List.take (ByteArray.size (⟨#[114, 97, 119, 32]⟩ ++ q1 ++ ⟨#[32]⟩) + n1) (bytesV (⟨#[114, 97, 119, 32]⟩ ++ q1 ++ ⟨#[32]⟩) ++ y1) = List.map (fun (b1 : UInt8) => .int .u8 (b1.toNat : Int)) q2 /\ Value.tuple #[.string ⟨q2.toArray⟩, .int .i64 0] = Q))))))) (by kernel_rfl) ?_
 have hnum : ∀ {z : Int}, i64R z -> (strT (Lib.itoa z)).size <= 21 := fun h => by rw [strT_size]; exact itoa_len h
 refine (ct75 e _ I hy').mono fun v I1 l1 hv => ⟨_, hv, Br.mk (fun h => ?_) (fun h => Br.mk (fun h2 => ?_) (fun h2 => Br.mk (fun h3 => ?_) (fun h3 => ?_)))⟩
 · have h : cleanE e = false := by simpa using h
   rw [hQ, lineT, lineE, if_pos h, h]; rfl
 · have h : cleanE e = true := by simpa using h
   have h2 : e.kind = 2 := by simpa using h2
   rw [hQ, lineT, lineE, if_neg (by rw [h]; decide), if_pos h2, h]; rfl
 · have h : cleanE e = true := by simpa using h
   have h2 : e.kind ≠ 2 := by simpa using h2
   have h3 : e.kind = 3 := by simpa using h3
   refine (ct97 e.n hk.n I1).mono fun v I2 l2 hv => ⟨_, hv, by have := hnum hk.n; omega, ?_⟩
   rw [hQ, lineT, lineE, if_neg (by rw [h]; decide), if_neg h2, if_pos h3, h]
   rfl
 · have h : cleanE e = true := by simpa using h
   have h2 : e.kind ≠ 2 := by simpa using h2
   have h3 : e.kind ≠ 3 := by simpa using h3
   obtain ⟨hbl, _⟩ := clean_len h;have hn := hp.numLen;have g1 := hnum hk.slot
   refine (ct111 e.bs hk.bs p n c I1 (hp.mono l1) (by omega) hpc hpm).mono fun v I3 l3 ⟨y2, hv, hy2⟩ => ?_
   have l13 := Mem.le_trans l1 l3;obtain ⟨p2, n2, c2, rfl, hp2, hpc2, hpm2⟩ := hy2;refine ⟨_, _, _, _, _, _, _, _, _, _, _, _, _, _, _, hv, Br.mk (fun h4 => ?_) (fun h4 => ?_)⟩
   · have h4 : (readR e.bs).2 = 0 := by simpa using h4
     have hacc : accB e.bs = true := by
      cases ha : accB e.bs with
      | true => rfl
      | false => rw [read_bad ha] at h4; cases h4
     obtain ⟨ho, hr, _, _⟩ := read_back hk.bs hacc;obtain ⟨_, hn1, hf1, _⟩ := right_tag hr;have hwl := (words_len ho hr).2
     refine (ct46 (readR e.bs).1 ho (by omega) _ I3 ⟨p2, n2, c2, rfl, hp2, hpc2, hpm2⟩ (by omega)).mono fun v I4 l4 hv => ?_
     rw [hr] at hv;simp only [if_true] at hv
     refine ⟨_, _, hv, (ct97 e.slot hk.slot I4).mono fun v I5 l5 hv => ⟨_, hv, by omega, by simp only [ByteArray.size_append, sz1]; show 4 + _ + 1 <= _; omega, by simp only [ByteArray.size_append, sz1]; show 4 + _ + 1 + _ <= _; omega, ?_⟩⟩
     rw [hQ, lineT, lineE, if_neg (by rw [h]; decide), if_neg h2, if_neg h3, if_pos h4, h]
     refine congrArg (fun z => Value.tuple #[.string z, .int .i64 0]) ?_
     show strT [97, 115, 107, 32] ++ strT (Lib.itoa e.slot) ++ strT [32] ++ strT (tx (wordsB (readR e.bs).1)) = _
     rw [strT_add, strT_add, strT_add]; simp [askB]
   · have h4 : (readR e.bs).2 ≠ 0 := by simpa using h4
     have hbb : ∀ z ∈ e.bs, 0 <= z /\ z <= 255 := hk.bs
     refine (ct97 e.slot hk.slot I3).mono fun v I4 l4 hv => ⟨_, hv, by omega, by rw [ByteArray.size_append]; show 4 + _ + 1 <= _; omega, by rw [ByteArray.size_append, ByteArray.size_append]; show 4 + _ + 1 <= _; omega, (ct96 e.bs hk.bs p n c I4 ((hp.mono l13).mono l4) (by omega)).mono fun v I5 l5 ⟨a, m, d, hv, hs, _⟩ => ?_⟩
     have hsz : ((⟨#[114, 97, 119, 32]⟩ : ByteArray) ++ strT (Lib.itoa e.slot) ++ ⟨#[32]⟩).size <= 30 := by
      rw [ByteArray.size_append, ByteArray.size_append]; show 4 + _ + 1 <= _; omega
     have htx : tx ((⟨#[114, 97, 119, 32]⟩ : ByteArray) ++ strT (Lib.itoa e.slot) ++ ⟨#[32]⟩) = rawB ++ 32 :: (Lib.itoa e.slot ++ [32]) := by
      show tx (strT [114, 97, 119, 32] ++ strT (Lib.itoa e.slot) ++ strT [32]) = _
      rw [strT_add, strT_add, tx_strT]; simp [rawB]
     generalize ((⟨#[114, 97, 119, 32]⟩ : ByteArray) ++ strT (Lib.itoa e.slot) ++ ⟨#[32]⟩) = S at hsz htx ⊢;have hl := hs.len;have hwl := word_len e.bs
     have hml : m = (wordT e.bs).length := by simpa [ints, intT] using hl.symm
     refine ⟨a, m, d, hv, _, hs.len, hs.nil, hs.at_, one_ints, by rw [bytesV_len, Nat.mul_one], by omega, by omega, tx S ++ wordT e.bs, ?_, ?_, ?_⟩
     · have : (tx S).length = S.size := Array.length_toList
       rw [List.length_append]; omega
     · have hB : bytesV S = (tx S).map fun b => Value.int .u8 (b.toNat : Int) := rfl
       rw [List.take_of_length_le (by rw [List.length_append, bytesV_len, hl]; omega), hB, List.map_append]
       simp only [ints, intT, List.map_map]; rfl
     · rw [hQ, lineT, lineE, if_neg (by rw [h]; decide), if_neg h2, if_neg h3, if_neg h4, h, htx]
       refine congrArg (fun z => Value.tuple #[.string z, .int .i64 0]) ?_
       show strT _ = strT _
       simp
def tagsQ (ws : List ByteArray) : List Int := (tagL (qKind ws) (qWhat ws)).getD []
def AskJ (ws : List ByteArray) (I : Mem) (j : Int) (cs : List Value) : Prop :=
 ∃ (r : Rq) (y : Value), 0 <= j /\ j <= (tagsQ ws).length /\ cs = rqV r y /\ BySl I y r.fed /\ runQ (tagsQ ws) (ws.drop 1) (q0 ws) = runQ ((tagsQ ws).drop j.toNat) ((ws.drop 1).drop j.toNat) r
set_option maxHeartbeats 4000000 in
theorem ct88 (ws : List ByteArray) (hws : ∀ w ∈ ws, w.size <= 1000000) (hne : ws ≠ []) (v : Value) (I : Mem) (h : WsL I v ws) :
 Ct Tryz.prog (fnv 88) #[v] I (fun u I' => ∃ y, u = .tuple #[.agg (rqV (askQW ws).1 y).toArray, .bool (askQW ws).2] /\ BySl I' y (askQW ws).1.fed) := by
 obtain ⟨p, n, c, rfl, hp, hpc, hpm⟩ := h;obtain ⟨Q, hQ⟩ : ∃ q : Value -> Mem -> Prop, q = fun u I' => ∃ y, u = .tuple #[.agg (rqV (askQW ws).1 y).toArray, .bool (askQW ws).2] /\ BySl I' y (askQW ws).1.fed := ⟨_, rfl⟩;obtain ⟨AI, hAI⟩ : ∃ f, f = AskJ ws := ⟨_, rfl⟩;obtain ⟨KW, hKW⟩ : ∃ f : Int -> Int -> Prop, f = fun k q => k = qKind ws /\ q = qWhat ws := ⟨_, rfl⟩;rw [<- hQ]
 refine viaR (ct_via (A := { cuts := [(4, ⟨[(0, .keep), (2, .keep), (4, .keep)], [(0, .keep), (1, .cells [.sh (.int .u8), .sh (.int .u8), .keep, .keep, .keep, .keep, .keep, .keep, .keep, .keep, .keep, .keep])], [], fun vals _ _ _ => match vals with | [.int .u8 k, .int .u8 q] => KW k q | _ => False, fun _ _ => 0⟩)], loops := [(8, ⟨[(0, .keep), (2, .keep), (4, .keep), (5, .keep), (7, .sh (.int .i64))], [(0, .keep), (1, .cells cellsA)], [], fun vals _ I' _ => match vals with | .int .i64 j :: cs => AI I' j cs | _ => False, fun vals _ => match vals with | .int .i64 j :: _ => (100 - j).toNat | _ => 0⟩)] }) Tryz.func88 rfl Tryz.call88 rfl rfl) (let E3 := SV.v (.int .i64 0)
  let E2 := Ent.mk (.cells [.v (.int .u8 0), .v (.int .u8 0), .v (.string ⟨#[]⟩), E3, E3, E3, E3, E3, E3, E3, E3, .v (.slice none 0 0)] 78) none
  let E4 := fun (x : Int) => Rf E2 /\ Rf (SV.v (.slice p n c)) /\ Rf (SV.ptr 0 0) /\ Rf (SV.ptr 1 0) /\ Rf (none : Option Nat) /\ Rf (SV.v (.string ⟨#[]⟩)) /\ Rf E3 /\ Rf E3 /\ Rf E3 /\ Rf E3 /\ Rf E3 /\ Rf E3 /\ Rf E3 /\ Rf E3 /\ Rf (SV.v (.slice none 0 0)) /\ KW x 0
  let E1 := fun (x : Option Addr) (a : Nat) (b : Nat) (d : ByteArray) (e : Mem) => Ct Tryz.prog (fnv 120) #[.slice x a b, .string d] e fun (v : Value) (f : Mem) => ∃ (g : Int), v = .int .u8 g /\ Br (g == 7) (Br (decide (1 < (n : Int))) ((0 : Int) <= 1 /\ 1 < (n : Int) /\ p.isSome = true /\ ∃ (q : ByteArray), atI f p 1 = some (.string q) /\ Ct Tryz.prog (fnv 94) #[] f fun (h : Value) (i : Mem) => ∃ (j : Option Addr) (k l : Nat), h = .slice j k l /\ Ct Tryz.prog (fnv 120) #[.slice j k l, .string q] i fun (m : Value) (o : Mem) => ∃ (r : Int), m = .int .u8 r /\ Rf E2 /\ Rf (SV.v (.slice p n c)) /\ Rf (SV.ptr 0 0) /\ Rf (SV.ptr 1 0) /\ Rf (none : Option Nat) /\ Rf (SV.v (.string ⟨#[]⟩)) /\ Rf E3 /\ Rf E3 /\ Rf E3 /\ Rf E3 /\ Rf E3 /\ Rf E3 /\ Rf E3 /\ Rf E3 /\ Rf (SV.v (.slice none 0 0)) /\ KW g r) (E4 g)) (E4 g) /\ ∀ (h : Mem), Mem -> f.le h -> ∀ (i j : Int), KW i j -> Ct Tryz.prog (fnv 93) #[.int .u8 i, .int .u8 j] h fun (k : Value) (l : Mem) => ∃ (m : Option Addr) (o q : Nat) (r : Bool), k = .tuple #[.slice m o q, .bool r] /\ Br (!r) (Q (.tuple #[.agg #[.int .u8 i, .int .u8 j, .string ⟨#[]⟩, .int .i64 0, .int .i64 0, .int .i64 0, .int .i64 0, .int .i64 0, .int .i64 0, .int .i64 0, .int .i64 0, .slice none 0 0], .bool false]) l) (Wr .i64 ((n : Int) - 1) (fun (s : Int) => Br ((o : Int) != s) (Q (.tuple #[.agg #[.int .u8 i, .int .u8 j, .string ⟨#[]⟩, .int .i64 0, .int .i64 0, .int .i64 0, .int .i64 0, .int .i64 0, .int .i64 0, .int .i64 0, .int .i64 0, .slice none 0 0], .bool false]) l) ((Rf E2 /\ Rf (SV.v (.slice p n c)) /\ Rf (SV.ptr 0 0) /\ Rf (SV.ptr 1 0) /\ Rf (SV.v (.slice m o q)) /\ Rf (none : Option Nat) /\ AI l 0 [.int .u8 i, .int .u8 j, .string ⟨#[]⟩, .int .i64 0, .int .i64 0, .int .i64 0, .int .i64 0, .int .i64 0, .int .i64 0, .int .i64 0, .int .i64 0, .slice none 0 0]) /\ ∀ (t : Mem), Mem -> l.le t -> ∀ (u w y : Int) (z : ByteArray) (n1 n2 n3 n4 n5 n6 n7 n8 : Int) (a1 : Option Addr) (n9 c1 : Nat), AI t u [.int .u8 w, .int .u8 y, .string z, .int .i64 n1, .int .i64 n2, .int .i64 n3, .int .i64 n4, .int .i64 n5, .int .i64 n6, .int .i64 n7, .int .i64 n8, .slice a1 n9 c1] -> Br (decide (u < (o : Int))) (Wr .i64 (u + 1) (fun (c2 : Int) => 0 <= c2 /\ c2 < (n : Int) /\ p.isSome = true /\ ∃ (q1 : ByteArray), atI t p (c2.toNat * 1 + 0) = some (.string q1) /\ 0 <= u /\ u < (o : Int) /\ m.isSome = true /\ ∃ (n10 : Int), atI t m (u.toNat * 1 + 0) = some (.int .i64 n10) /\ Br (n10 == 2) (Br (decide (0 < (q1.size : Int))) (∃ (c3 : UInt8), q1.data.toList[0]? = some c3 /\ (0 : Int) <= 0 /\ Br ((c3.toNat : Int) == 37) (Ct Tryz.prog (fnv 87) #[.string q1] t (fun (v1 : Value) (I1 : Mem) => ∃ (a2 : Option Addr) (n11 c4 : Nat), v1 = .slice a2 n11 c4 /\ ∃ (q2 : List UInt8), q2.length = n11 /\ (a2 = none -> n11 = 0) /\ (∀ (j1 : Nat) (b1 : UInt8), q2[j1]? = some b1 -> atI I1 a2 j1 = some (.int .u8 (b1.toNat : Int))) /\ Wr .i64 (u + 1) fun (c5 : Int) => Rf E2 /\ Rf (SV.v (.slice p n c)) /\ Rf (SV.ptr 0 0) /\ Rf (SV.ptr 1 0) /\ Rf (SV.v (.slice m o q)) /\ Rf (none : Option Nat) /\ AI I1 c5 [.int .u8 w, .int .u8 y, .string ⟨q2.toArray⟩, .int .i64 n1, .int .i64 n2, .int .i64 n3, .int .i64 n4, .int .i64 n5, .int .i64 n6, .int .i64 n7, .int .i64 n8, .slice a1 n9 c1] /\ Int.toNat (100 - c5) < Int.toNat (100 - u))) (Wr .i64 (u + 1) (fun (c4 : Int) => Rf E2 /\ Rf (SV.v (.slice p n c)) /\ Rf (SV.ptr 0 0) /\ Rf (SV.ptr 1 0) /\ Rf (SV.v (.slice m o q)) /\ Rf (none : Option Nat) /\ AI t c4 [.int .u8 w, .int .u8 y, .string q1, .int .i64 n1, .int .i64 n2, .int .i64 n3, .int .i64 n4, .int .i64 n5, .int .i64 n6, .int .i64 n7, .int .i64 n8, .slice a1 n9 c1] /\ Int.toNat (100 - c4) < Int.toNat (100 - u)))) (Wr .i64 (u + 1) (fun (c3 : Int) => Rf E2 /\ Rf (SV.v (.slice p n c)) /\ Rf (SV.ptr 0 0) /\ Rf (SV.ptr 1 0) /\ Rf (SV.v (.slice m o q)) /\ Rf (none : Option Nat) /\ AI t c3 [.int .u8 w, .int .u8 y, .string q1, .int .i64 n1, .int .i64 n2, .int .i64 n3, .int .i64 n4, .int .i64 n5, .int .i64 n6, .int .i64 n7, .int .i64 n8, .slice a1 n9 c1] /\ Int.toNat (100 - c3) < Int.toNat (100 - u)))) (Br (n10 == 3) (Ct Tryz.prog (fnv 86) #[.string q1] t (fun (v1 : Value) (I1 : Mem) => ∃ (n11 : Int), v1 = .int .i64 n11 /\ Wr .i64 (u + 1) fun (c3 : Int) => Rf E2 /\ Rf (SV.v (.slice p n c)) /\ Rf (SV.ptr 0 0) /\ Rf (SV.ptr 1 0) /\ Rf (SV.v (.slice m o q)) /\ Rf (none : Option Nat) /\ AI I1 c3 [.int .u8 w, .int .u8 y, .string z, .int .i64 n11, .int .i64 n2, .int .i64 n3, .int .i64 n4, .int .i64 n5, .int .i64 n6, .int .i64 n7, .int .i64 n8, .slice a1 n9 c1] /\ Int.toNat (100 - c3) < Int.toNat (100 - u))) (Br (n10 == 4) (Ct Tryz.prog (fnv 86) #[.string q1] t (fun (v1 : Value) (I1 : Mem) => ∃ (n11 : Int), v1 = .int .i64 n11 /\ Wr .i64 (u + 1) fun (c3 : Int) => Rf E2 /\ Rf (SV.v (.slice p n c)) /\ Rf (SV.ptr 0 0) /\ Rf (SV.ptr 1 0) /\ Rf (SV.v (.slice m o q)) /\ Rf (none : Option Nat) /\ AI I1 c3 [.int .u8 w, .int .u8 y, .string z, .int .i64 n1, .int .i64 n11, .int .i64 n3, .int .i64 n4, .int .i64 n5, .int .i64 n6, .int .i64 n7, .int .i64 n8, .slice a1 n9 c1] /\ Int.toNat (100 - c3) < Int.toNat (100 - u))) (Br (n10 == 5) (Ct Tryz.prog (fnv 86) #[.string q1] t (fun (v1 : Value) (I1 : Mem) => ∃ (n11 : Int), v1 = .int .i64 n11 /\ Wr .i64 (u + 1) fun (c3 : Int) => Rf E2 /\ Rf (SV.v (.slice p n c)) /\ Rf (SV.ptr 0 0) /\ Rf (SV.ptr 1 0) /\ Rf (SV.v (.slice m o q)) /\ Rf (none : Option Nat) /\ AI I1 c3 [.int .u8 w, .int .u8 y, .string z, .int .i64 n1, .int .i64 n2, .int .i64 n11, .int .i64 n4, .int .i64 n5, .int .i64 n6, .int .i64 n7, .int .i64 n8, .slice a1 n9 c1] /\ Int.toNat (100 - c3) < Int.toNat (100 - u))) (Br (n10 == 6) (Ct Tryz.prog (fnv 86) #[.string q1] t (fun (v1 : Value) (I1 : Mem) => ∃ (n11 : Int), v1 = .int .i64 n11 /\ Wr .i64 (u + 1) fun (c3 : Int) => Rf E2 /\ Rf (SV.v (.slice p n c)) /\ Rf (SV.ptr 0 0) /\ Rf (SV.ptr 1 0) /\ Rf (SV.v (.slice m o q)) /\ Rf (none : Option Nat) /\ AI I1 c3 [.int .u8 w, .int .u8 y, .string z, .int .i64 n1, .int .i64 n2, .int .i64 n3, .int .i64 n11, .int .i64 n5, .int .i64 n6, .int .i64 n7, .int .i64 n8, .slice a1 n9 c1] /\ Int.toNat (100 - c3) < Int.toNat (100 - u))) (Br (n10 == 7) (Ct Tryz.prog (fnv 86) #[.string q1] t (fun (v1 : Value) (I1 : Mem) => ∃ (n11 : Int), v1 = .int .i64 n11 /\ Wr .i64 (u + 1) fun (c3 : Int) => Rf E2 /\ Rf (SV.v (.slice p n c)) /\ Rf (SV.ptr 0 0) /\ Rf (SV.ptr 1 0) /\ Rf (SV.v (.slice m o q)) /\ Rf (none : Option Nat) /\ AI I1 c3 [.int .u8 w, .int .u8 y, .string z, .int .i64 n1, .int .i64 n2, .int .i64 n3, .int .i64 n4, .int .i64 n11, .int .i64 n6, .int .i64 n7, .int .i64 n8, .slice a1 n9 c1] /\ Int.toNat (100 - c3) < Int.toNat (100 - u))) (Br (n10 == 8) (Ct Tryz.prog (fnv 86) #[.string q1] t (fun (v1 : Value) (I1 : Mem) => ∃ (n11 : Int), v1 = .int .i64 n11 /\ Wr .i64 (u + 1) fun (c3 : Int) => Rf E2 /\ Rf (SV.v (.slice p n c)) /\ Rf (SV.ptr 0 0) /\ Rf (SV.ptr 1 0) /\ Rf (SV.v (.slice m o q)) /\ Rf (none : Option Nat) /\ AI I1 c3 [.int .u8 w, .int .u8 y, .string z, .int .i64 n1, .int .i64 n2, .int .i64 n3, .int .i64 n4, .int .i64 n5, .int .i64 n11, .int .i64 n7, .int .i64 n8, .slice a1 n9 c1] /\ Int.toNat (100 - c3) < Int.toNat (100 - u))) (Br (n10 == 9) (Ct Tryz.prog (fnv 86) #[.string q1] t (fun (v1 : Value) (I1 : Mem) => ∃ (n11 : Int), v1 = .int .i64 n11 /\ Wr .i64 (u + 1) fun (c3 : Int) => Rf E2 /\ Rf (SV.v (.slice p n c)) /\ Rf (SV.ptr 0 0) /\ Rf (SV.ptr 1 0) /\ Rf (SV.v (.slice m o q)) /\ Rf (none : Option Nat) /\ AI I1 c3 [.int .u8 w, .int .u8 y, .string z, .int .i64 n1, .int .i64 n2, .int .i64 n3, .int .i64 n4, .int .i64 n5, .int .i64 n6, .int .i64 n11, .int .i64 n8, .slice a1 n9 c1] /\ Int.toNat (100 - c3) < Int.toNat (100 - u))) (Br (n10 == 10) (Ct Tryz.prog (fnv 86) #[.string q1] t (fun (v1 : Value) (I1 : Mem) => ∃ (n11 : Int), v1 = .int .i64 n11 /\ Wr .i64 (u + 1) fun (c3 : Int) => Rf E2 /\ Rf (SV.v (.slice p n c)) /\ Rf (SV.ptr 0 0) /\ Rf (SV.ptr 1 0) /\ Rf (SV.v (.slice m o q)) /\ Rf (none : Option Nat) /\ AI I1 c3 [.int .u8 w, .int .u8 y, .string z, .int .i64 n1, .int .i64 n2, .int .i64 n3, .int .i64 n4, .int .i64 n5, .int .i64 n6, .int .i64 n7, .int .i64 n11, .slice a1 n9 c1] /\ Int.toNat (100 - c3) < Int.toNat (100 - u))) (Br (n10 == 11) (Ct Tryz.prog (fnv 87) #[.string q1] t (fun (v1 : Value) (I1 : Mem) => ∃ (a2 : Option Addr) (n11 c3 : Nat), v1 = .slice a2 n11 c3 /\ Wr .i64 (u + 1) fun (c4 : Int) => Rf E2 /\ Rf (SV.v (.slice p n c)) /\ Rf (SV.ptr 0 0) /\ Rf (SV.ptr 1 0) /\ Rf (SV.v (.slice m o q)) /\ Rf (none : Option Nat) /\ AI I1 c4 [.int .u8 w, .int .u8 y, .string z, .int .i64 n1, .int .i64 n2, .int .i64 n3, .int .i64 n4, .int .i64 n5, .int .i64 n6, .int .i64 n7, .int .i64 n8, .slice a2 n11 c3] /\ Int.toNat (100 - c4) < Int.toNat (100 - u))) (Wr .i64 (u + 1) (fun (c3 : Int) => Rf E2 /\ Rf (SV.v (.slice p n c)) /\ Rf (SV.ptr 0 0) /\ Rf (SV.ptr 1 0) /\ Rf (SV.v (.slice m o q)) /\ Rf (none : Option Nat) /\ AI t c3 [.int .u8 w, .int .u8 y, .string z, .int .i64 n1, .int .i64 n2, .int .i64 n3, .int .i64 n4, .int .i64 n5, .int .i64 n6, .int .i64 n7, .int .i64 n8, .slice a1 n9 c1] /\ Int.toNat (100 - c3) < Int.toNat (100 - u)))))))))))))) (Q (.tuple #[.agg #[.int .u8 w, .int .u8 y, .string z, .int .i64 n1, .int .i64 n2, .int .i64 n3, .int .i64 n4, .int .i64 n5, .int .i64 n6, .int .i64 n7, .int .i64 n8, .slice a1 n9 c1], .bool true]) t))))
  (0 : Int) <= 0 /\ 0 < (n : Int) /\ p.isSome = true /\ ∃ (q : ByteArray), atI I p 0 = some (.string q) /\ Ct Tryz.prog (fnv 92) #[] I (fun (v : Value) (a : Mem) => ∃ (b : Option Addr) (d e : Nat), v = .slice b d e /\ E1 b d e q a /\ E1 b d e q a) /\ Ct Tryz.prog (fnv 92) #[] I fun (v : Value) (a : Mem) => ∃ (b : Option Addr) (d e : Nat), v = .slice b d e /\ E1 b d e q a) (by kernel_rfl) ?_
 intro E3 E2 E4 E1;simp only [E3,E2,E4,E1, Rf, true_and]
 have hwn : ws.length = n := by have := hp.len; simp [strs] at this; omega
 have hn1 : 0 < ws.length := List.length_pos_iff.2 hne
 obtain ⟨w0, wr, hw⟩ : ∃ w0 wr, ws = w0 :: wr := by cases ws with | nil => exact absurd rfl hne | cons a b => exact ⟨a, b, rfl⟩
 have hg0 : ws[0]? = some w0 := by rw [hw]; rfl
 have hk : idxL kindsN w0 = qKind ws := by rw [qKind, hw]; rfl
 have hsmall : ∀ {a : Option Addr} {J : Mem} {m : Nat} {l : List ByteArray}, SlM J a m 1 (strs l) -> l.length = m := fun h => by have := h.len; simp [strs] at this; omega
 have hkl : kindsN.length = 10 := rfl;have hmx := hp.max;simp only [maxLen] at hmx;have hal : asksN.length = 6 := rfl
 refine ⟨by decide, by omega, hp.isSome (by omega), w0, hp.at_ _ _ (strs_get hg0), (fun Y => And.intro (Ct.mono Y fun v J l hh => Exists.elim hh fun b hh => Exists.elim hh fun d hh => Exists.elim hh fun e hh => ⟨b, d, e, hh.1, hh.2, hh.2⟩) Y) ?_⟩
 refine (ct92 I).mono fun v I1 l1 ⟨b, d, e, hv, hs, _⟩ => ⟨b, d, e, hv, ?_⟩;have hd := hsmall hs
 refine (ct120 kindsN b d e I1 hs (by omega) w0).mono fun v I2 l2 hv => ⟨_, hv, ?_, fun I3 _ l3 k q hkw => ?_⟩
 · rw [hk, hKW]
   refine Br.mk (fun h => Br.mk (fun h1 => ?_) (fun h1 => ⟨rfl, ?_⟩)) (fun h => ⟨rfl, ?_⟩)
   · have h : qKind ws = 7 := by simpa using h
     have h1 := of_decide_eq_true h1
     obtain ⟨w1, hg1⟩ : ∃ w1, ws[1]? = some w1 := ⟨_, List.getElem?_eq_getElem (by omega)⟩
     refine ⟨by decide, by omega, hp.isSome (by omega), w1, ((hp.mono l1).mono l2).at_ _ _ (strs_get hg1), (ct94 I2).mono fun v I3 l3 ⟨a, m, o, hv, hs, _⟩ => ⟨a, m, o, hv, (ct120 asksN a m o I3 hs (by have := hsmall hs; omega) w1).mono fun v I4 l4 hv => ⟨_, hv, rfl, ?_⟩⟩⟩
     rw [qWhat, if_pos ⟨h, by omega⟩, hg1]; rfl
   · have h1 := of_decide_eq_false h1
     rw [qWhat, if_neg (fun hh => h1 (by have := hh.2; omega))]
   · have h : qKind ws ≠ 7 := by simpa using h
     rw [qWhat, if_neg (fun hh => h hh.1)]
 rw [hKW] at hkw;obtain ⟨rfl, rfl⟩ := hkw;have hq0 := (q0_ok ws).ok;refine (ct93 (qKind ws) (qWhat ws) hq0.kind hq0.what I3).mono fun v I4 l4 ⟨o, m, d2, hv, hts, _⟩ => ⟨o, m, d2, _, hv, ?_⟩
 have htl : (tagsQ ws).length = m := by have := hts.len; simpa [ints, tagsQ] using this
 have no : askOK ws = false -> ∀ J : Mem, Q (.tuple #[.agg #[.int .u8 (qKind ws), .int .u8 (qWhat ws), .string ⟨#[]⟩, .int .i64 0, .int .i64 0, .int .i64 0, .int .i64 0, .int .i64 0, .int .i64 0, .int .i64 0, .int .i64 0, .slice none 0 0], .bool false]) J := fun h J => by
  rw [hQ, askQW, h];exact ⟨_, rfl, bysl_nil _⟩
 refine Br.mk (fun h => no ?_ _) (fun h => wr_i64 (by omega) (by omega) (Br.mk (fun h1 => no ?_ _) (fun h1 => ?_)))
 · have h : (tagL (qKind ws) (qWhat ws)).isSome = false := by simpa using h
   rw [askOK, h, Bool.false_and]
 · have h1 : (m : Int) ≠ (n : Int) - 1 := by simpa using h1
   rw [askOK, decide_eq_false (by rw [<- tagsQ, htl]; omega), Bool.and_false]
 have h : (tagL (qKind ws) (qWhat ws)).isSome = true := by simpa using h
 have h1 : (m : Int) = (n : Int) - 1 := by simpa using h1
 have hok : askOK ws = true := by rw [askOK, h, decide_eq_true (by rw [<- tagsQ, htl]; omega)]; rfl
 have htl4 : m <= 100 := by rw [<- htl]; exact tagL_len _ _
 have hyes : askQW ws = (runQ (tagsQ ws) (ws.drop 1) (q0 ws), true) := by rw [askQW, if_pos hok]; rfl
 refine ⟨?_, fun I5 _ l5 j k' q' nm x3 x4 x5 x6 x7 x8 x9 x10 fa fn fc hA => ?_⟩
 · rw [hAI]
   exact ⟨q0 ws, .slice none 0 0, Int.le_refl _, by omega, rfl, bysl_nil _, rfl⟩
 rw [hAI] at hA;obtain ⟨r, y, j0, j1, hcs, hy, hrun⟩ := hA;simp only [rqV, List.cons.injEq, Value.int.injEq, Value.string.injEq, true_and, and_true] at hcs;obtain ⟨rfl, rfl, rfl, rfl, rfl, rfl, rfl, rfl, rfl, rfl, rfl, rfl⟩ := hcs;refine Br.mk (fun hlt => ?_) (fun hge => ?_)
 · have hlt := of_decide_eq_true hlt
   obtain ⟨t, ht, hat⟩ := ((hts.mono l5).intAt (i := j) j0 hlt);have htr := tagL_rng _ _ t (List.mem_of_getElem? ht)
   obtain ⟨w, hgw⟩ : ∃ w, ws[(j + 1).toNat]? = some w := ⟨_, List.getElem?_eq_getElem (by omega)⟩
   have hws' := hws w (List.mem_of_getElem? hgw);have hp5 := hp.mono (Mem.le_trans l1 (Mem.le_trans l2 (Mem.le_trans l3 (Mem.le_trans l4 l5))))
   have step : runQ (tagsQ ws) (ws.drop 1) (q0 ws) = runQ ((tagsQ ws).drop (j + 1).toNat) ((ws.drop 1).drop (j + 1).toNat) (stepQ r t w) := by
    have ht' : (tagsQ ws)[j.toNat]? = some t := ht
    have hw' : (ws.drop 1)[j.toNat]? = some w := by rw [List.getElem?_drop, show 1 + j.toNat = (j + 1).toNat by omega]; exact hgw
    obtain ⟨e1, e2⟩ := List.getElem?_eq_some_iff.1 ht';obtain ⟨e3, e4⟩ := List.getElem?_eq_some_iff.1 hw'
    rw [hrun, List.drop_eq_getElem_cons e1, List.drop_eq_getElem_cons e3, runQ, e2, e4, show (j + 1).toNat = j.toNat + 1 by omega]
   have adv : ∀ (J : Mem) (y' : Value), BySl J y' (stepQ r t w).fed -> AI J (j + 1) (rqV (stepQ r t w) y') := fun J y' hy' => by
    rw [hAI]; exact ⟨_, _, by omega, by omega, rfl, hy', step⟩
   have num : ∀ {P : Mem -> Int -> Int -> Prop}, (∀ J : Mem, I5.le J -> P J (valI (strL w)) (j + 1)) -> Ct Tryz.prog (fnv 86) #[.string w] I5 fun v J => ∃ z, v = .int .i64 z /\ Wr .i64 (j + 1) fun c => P J z c := fun hP => (ct86 w hws' I5).mono fun v J lJ hv => ⟨_, hv, wr_i64 (by omega) (by omega) (hP J lJ)⟩
   refine wr_i64 (by omega) (by omega) ⟨by omega, by omega, hp.isSome (by omega), w, by rw [Nat.mul_one, Nat.add_zero]; exact hp5.at_ _ _ (strs_get hgw), j0, hlt, hts.isSome (by omega), t, hat, ?_⟩
   have hfs : ∀ c : UInt8, w.data.toList[0]? = some c -> firstI w = some (c.toNat : Int) := fun c hc => str_first hc;refine Br.mk (fun e => ?_) (fun e2 => Br.mk (fun e => ?_) (fun e3 => Br.mk (fun e => ?_) (fun e4 => Br.mk (fun e => ?_) (fun e5 => Br.mk (fun e => ?_) (fun e6 => Br.mk (fun e => ?_) (fun e7 => Br.mk (fun e => ?_) (fun e8 => Br.mk (fun e => ?_) (fun e9 => Br.mk (fun e => ?_) (fun e10 => Br.mk (fun e => ?_) (fun e11 => ?_))))))))))
   · have e : t = 2 := by simpa using e
     subst e
     have keep : firstI w ≠ some 37 -> Wr IntKind.i64 (j + 1) fun c => AI I5 c [.int .u8 r.kind, .int .u8 r.what, .string w, .int .i64 r.p3, .int .i64 r.p4, .int .i64 r.p5, .int .i64 r.p6, .int .i64 r.p7, .int .i64 r.p8, .int .i64 r.p9, .int .i64 r.val, .slice fa fn fc] /\ (100 - c).toNat < (100 - j).toNat := fun h => by
      have hst : stepQ r 2 w = { r with name := w } := by
       show (if firstI w = some 37 then _ else _) = _
       rw [if_neg h]
      have := adv I5 _ (by rw [hst]; exact hy)
      rw [hst] at this
      exact wr_i64 (by omega) (by omega) ⟨this, by omega⟩
     refine Br.mk (fun g => ?_) (fun g => keep ?_)
     · have g := of_decide_eq_true g
       obtain ⟨c0, hc0⟩ : ∃ c0, w.data.toList[0]? = some c0 := ⟨_, List.getElem?_eq_getElem (by rw [Array.length_toList]; show 0 < w.size; omega)⟩
       refine ⟨c0, hc0, by decide, Br.mk (fun g => ?_) (fun g => keep ?_)⟩
       · have g : (c0.toNat : Int) = 37 := by simpa using g
         obtain ⟨u1, u2⟩ := unI_ok w
         refine (ct87 w hws' I5).mono fun v J lJ ⟨a, m2, d3, hv, hsl, _⟩ => ⟨a, m2, d3, hv, u8s (unI w), ?_, (u8s_at u1 hsl).2.1, (u8s_at u1 hsl).2.2, wr_i64 (by omega) (by omega) ⟨?_, by omega⟩⟩
         · rw [u8s, List.length_map]; exact (hsl.numLen).symm
         · have hst : stepQ r 2 w = { r with name := strB (unI w) } := by
            show (if firstI w = some 37 then _ else _) = _
            rw [if_pos (by rw [hfs _ hc0, g])]
           have := adv J _ (by rw [hst]; exact hy.mono lJ)
           rw [hst] at this;exact this
       · have g : (c0.toNat : Int) ≠ 37 := by simpa using g
         rw [hfs _ hc0];exact fun h => g (Option.some.inj h)
     · have g := of_decide_eq_false g
       have : strL w = [] := List.length_eq_zero_iff.1 (by rw [strL_len]; omega)
       rw [firstI, this]
       exact fun h => by cases h
   · obtain rfl : t = 3 := by simpa using e
     exact num fun J lJ => ⟨adv J _ (hy.mono lJ), by omega⟩
   · obtain rfl : t = 4 := by simpa using e
     exact num fun J lJ => ⟨adv J _ (hy.mono lJ), by omega⟩
   · obtain rfl : t = 5 := by simpa using e
     exact num fun J lJ => ⟨adv J _ (hy.mono lJ), by omega⟩
   · obtain rfl : t = 6 := by simpa using e
     exact num fun J lJ => ⟨adv J _ (hy.mono lJ), by omega⟩
   · obtain rfl : t = 7 := by simpa using e
     exact num fun J lJ => ⟨adv J _ (hy.mono lJ), by omega⟩
   · obtain rfl : t = 8 := by simpa using e
     exact num fun J lJ => ⟨adv J _ (hy.mono lJ), by omega⟩
   · obtain rfl : t = 9 := by simpa using e
     exact num fun J lJ => ⟨adv J _ (hy.mono lJ), by omega⟩
   · obtain rfl : t = 10 := by simpa using e
     exact num fun J lJ => ⟨adv J _ (hy.mono lJ), by omega⟩
   · obtain rfl : t = 11 := by simpa using e
     refine (ct87 w hws' I5).mono fun v J lJ hv => ?_;have hv' := hv;obtain ⟨a, m2, d3, rfl, _⟩ := hv'
     exact ⟨a, m2, d3, rfl, wr_i64 (by omega) (by omega) ⟨adv J _ hv, by omega⟩⟩
   · have n2 : t ≠ 2 := by simpa using e2
     have n3 : t ≠ 3 := by simpa using e3
     have n4 : t ≠ 4 := by simpa using e4
     have n5 : t ≠ 5 := by simpa using e5
     have n6 : t ≠ 6 := by simpa using e6
     have n7 : t ≠ 7 := by simpa using e7
     have n8 : t ≠ 8 := by simpa using e8
     have n9 : t ≠ 9 := by simpa using e9
     have n10 : t ≠ 10 := by simpa using e10
     have n11 : t ≠ 11 := by simpa using e11
     obtain rfl : t = 1 := by omega
     exact wr_i64 (by omega) (by omega) ⟨adv I5 _ hy, by omega⟩
 · have hge := of_decide_eq_false hge
   rw [hQ, hyes]
   have hd : (tagsQ ws).drop j.toNat = [] := List.drop_eq_nil_of_le (by omega)
   rw [hrun, hd]
   exact ⟨_, by simp only [runQ]; rfl, by simp only [runQ]; exact hy⟩
