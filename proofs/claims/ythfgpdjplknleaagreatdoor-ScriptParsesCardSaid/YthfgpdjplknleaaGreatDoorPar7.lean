/- Part of a proof by the rules of the symbolic walk (see the law's own text): contracts of functions of the program. -/
import Derived.Test.YthfgpdjplknleaaGreatDoorPar6
import Derived.Test.YthfgpdjplknleaaGreatDoorPar5
set_option linter.unusedVariables false
set_option linter.unusedSimpArgs false
open Go Go.Proofs Go.SE Go.RowKit
set_option linter.unusedVariables false
set_option maxRecDepth 100000
def refW (ws : List ByteArray) (t : Tx) : En × Bool :=
 if t = tickB then (⟨2, 0, 0, []⟩, true)
 else if wordAt ws 0 = strT pickB /\ ws.length = 2 then (⟨3, 0, valI (strL (wordAt ws 1)), []⟩, true)
 else if wordAt ws 0 = strT rawB /\ ws.length = 3 then (⟨1, valI (strL (wordAt ws 1)), 0, unI (wordAt ws 2)⟩, true)
 else if wordAt ws 0 = strT askB /\ 2 < ws.length then (if (askQW (ws.drop 2)).2 then ((askE (valI (strL (wordAt ws 1))) (askQW (ws.drop 2)).1).1, true) else (zeroEn, false))
 else (zeroEn, true)
def readQ (t : Tx) : En × Int :=
 if t.length <= 40000 /\ (refW (pieces t) t).2 = true /\ cleanE (refW (pieces t) t).1 = true /\ lineT (refW (pieces t) t).1 = t then ((refW (pieces t) t).1, 0) else (zeroEn, 411)
theorem refW_ok {ws : List ByteArray} (hws : ∀ w ∈ ws, w.size <= 1000000) (t : Tx) : okEn (refW ws t).1 := by
 have hsm := askQ_ok (ws := ws.drop 2) fun w hw => hws w (List.mem_of_mem_drop hw);unfold refW
 repeat' split
 · exact ⟨k255 (.inr (.inr (.inl rfl))), i64R_zero, i64R_zero, byteL_nil⟩
 · exact ⟨k255 (.inr (.inr (.inr rfl))), i64R_zero, valI_rng _, byteL_nil⟩
 · exact ⟨k255 (.inr (.inl rfl)), valI_rng _, i64R_zero, (unI_ok _).1⟩
 · exact askE_ok (valI_rng _) hsm.ok
 · exact zero_okE
 · exact zero_okE
theorem ct41 (s : ByteArray) (hs : s.size <= 1000000) (I : Mem) :
 Ct Tryz.prog (fnv 41) #[.string s] I (fun u I' => ∃ y, u = .tuple #[.agg (enV (readQ (tx s)).1 y).toArray, .int .i64 (readQ (tx s)).2] /\ BySl I' y (readQ (tx s)).1.bs) := by
 obtain ⟨Q, hQ⟩ : ∃ q : Value -> Mem -> Prop, q = fun u I' => ∃ y, u = .tuple #[.agg (enV (readQ (tx s)).1 y).toArray, .int .i64 (readQ (tx s)).2] /\ BySl I' y (readQ (tx s)).1.bs := ⟨_, rfl⟩;obtain ⟨RI, hRI⟩ : ∃ f : Mem -> List Value -> Prop, f = fun I' cs => ∃ y, cs = enV (refW (pieces (tx s)) (tx s)).1 y /\ BySl I' y (refW (pieces (tx s)) (tx s)).1.bs /\ (refW (pieces (tx s)) (tx s)).2 = true /\ (tx s).length <= 40000 := ⟨_, rfl⟩;obtain ⟨ws, hws⟩ : ∃ ws, ws = pieces (tx s) := ⟨_, rfl⟩;obtain ⟨PB, hPB⟩ : ∃ f : Bool -> Prop, f = fun b => b = decide (wordAt ws 0 = strT pickB /\ ws.length = 2) := ⟨_, rfl⟩
 obtain ⟨QB, hQB⟩ : ∃ f : Bool -> Prop, f = fun b => b = decide (wordAt ws 0 = strT rawB /\ ws.length = 3) := ⟨_, rfl⟩;obtain ⟨AB, hAB⟩ : ∃ f : Bool -> Prop, f = fun b => b = decide (wordAt ws 0 = strT askB /\ 2 < ws.length) := ⟨_, rfl⟩;rw [<- hQ]
 refine viaR (ct_via (A := { cuts := [(8, ⟨[(0, .keep), (2, .keep), (4, .keep), (5, .keep), (21, .sh .bool)], [(0, .keep), (1, .keep)], [], fun vals _ _ _ => match vals with | [.bool b] => PB b | _ => False, fun _ _ => 0⟩), (10, ⟨[(0, .keep), (2, .keep), (4, .keep), (5, .keep), (36, .sh .bool)], [(0, .keep), (1, .keep)], [], fun vals _ _ _ => match vals with | [.bool b] => QB b | _ => False, fun _ _ => 0⟩), (12, ⟨[(0, .keep), (2, .keep), (4, .keep), (5, .keep), (55, .sh .bool)], [(0, .keep), (1, .keep)], [], fun vals _ _ _ => match vals with | [.bool b] => AB b | _ => False, fun _ _ => 0⟩), (16, ⟨[(0, .keep), (2, .keep), (5, .keep)], [(0, .keep), (1, .cells [.sh (.int .u8), .sh (.int .i64), .sh (.int .i64), .sh .sl])], [], fun vals _ I' _ => RI I' vals, fun _ _ => 0⟩)] }) Tryz.func41 rfl Tryz.call41 rfl rfl) (let E1 := Ent.mk (.cells [.v (.int .u8 0), .v (.int .i64 0), .v (.int .i64 0), .v (.slice none 0 0)] 72) none
  Br (decide (40000 < (s.size : Int))) (Q (.tuple #[.agg #[.int .u8 0, .int .i64 0, .int .i64 0, .slice none 0 0], .int .i64 411]) I) (Ct Tryz.prog (fnv 85) #[.string s] I (fun v a => ∃ b n c, v = .slice b n c /\ Br (s.toList == (ByteArray.mk #[116, 105, 99, 107]).toList) (Rf E1 /\ Rf (SV.v (.string s)) /\ Rf (SV.ptr 0 0) /\ Rf (SV.ptr 1 0) /\ Rf (none : Option Nat) /\ RI a [.int .u8 2, .int .i64 0, .int .i64 0, .slice none 0 0]) (((0 : Int) <= 0 /\ 0 < (n : Int) /\ b.isSome = true /\ ∃ q, atI a b 0 = some (.string q) /\ Br (q.toList == (ByteArray.mk #[112, 105, 99, 107]).toList) (Rf E1 /\ Rf E1 /\ Rf (SV.v (.string s)) /\ Rf (SV.ptr 0 0) /\ Rf (SV.v (.slice b n c)) /\ Rf (SV.ptr 1 0) /\ PB ((n : Int) == 2)) (Rf E1 /\ Rf E1 /\ Rf (SV.v (.string s)) /\ Rf (SV.ptr 0 0) /\ Rf (SV.v (.slice b n c)) /\ Rf (SV.ptr 1 0) /\ PB false)) /\ ∀ (d : Mem), Mem -> a.le d -> ∀ (e : Bool), PB e -> Br e ((0 : Int) <= 1 /\ 1 < (n : Int) /\ b.isSome = true /\ ∃ q, atI d b 1 = some (.string q) /\ Ct Tryz.prog (fnv 86) #[.string q] d fun f g => ∃ h, f = .int .i64 h /\ Rf E1 /\ Rf (SV.v (.string s)) /\ Rf (SV.ptr 0 0) /\ Rf (SV.ptr 1 0) /\ Rf (none : Option Nat) /\ RI g [.int .u8 3, .int .i64 0, .int .i64 h, .slice none 0 0]) (((0 : Int) <= 0 /\ 0 < (n : Int) /\ b.isSome = true /\ ∃ q, atI d b 0 = some (.string q) /\ Br (q.toList == (ByteArray.mk #[114, 97, 119]).toList) (Rf E1 /\ Rf E1 /\ Rf (SV.v (.string s)) /\ Rf (SV.ptr 0 0) /\ Rf (SV.v (.slice b n c)) /\ Rf (SV.ptr 1 0) /\ QB ((n : Int) == 3)) (Rf E1 /\ Rf E1 /\ Rf (SV.v (.string s)) /\ Rf (SV.ptr 0 0) /\ Rf (SV.v (.slice b n c)) /\ Rf (SV.ptr 1 0) /\ QB false)) /\ ∀ (f : Mem), Mem -> d.le f -> ∀ (g : Bool), QB g -> Br g ((0 : Int) <= 1 /\ 1 < (n : Int) /\ b.isSome = true /\ ∃ q, atI f b 1 = some (.string q) /\ (0 : Int) <= 2 /\ 2 < (n : Int) /\ b.isSome = true /\ ∃ h, atI f b 2 = some (.string h) /\ Ct Tryz.prog (fnv 86) #[.string q] f fun i j => ∃ k, i = .int .i64 k /\ Ct Tryz.prog (fnv 87) #[.string h] j fun l m => ∃ o p r, l = .slice o p r /\ Rf E1 /\ Rf (SV.v (.string s)) /\ Rf (SV.ptr 0 0) /\ Rf (SV.ptr 1 0) /\ Rf (none : Option Nat) /\ RI m [.int .u8 1, .int .i64 k, .int .i64 0, .slice o p r]) (((0 : Int) <= 0 /\ 0 < (n : Int) /\ b.isSome = true /\ ∃ q, atI f b 0 = some (.string q) /\ Br (q.toList == (ByteArray.mk #[97, 115, 107]).toList) (Rf E1 /\ Rf E1 /\ Rf (SV.v (.string s)) /\ Rf (SV.ptr 0 0) /\ Rf (SV.v (.slice b n c)) /\ Rf (SV.ptr 1 0) /\ AB (decide (2 < (n : Int)))) (Rf E1 /\ Rf E1 /\ Rf (SV.v (.string s)) /\ Rf (SV.ptr 0 0) /\ Rf (SV.v (.slice b n c)) /\ Rf (SV.ptr 1 0) /\ AB false)) /\ ∀ (h : Mem), Mem -> f.le h -> ∀ (i : Bool), AB i -> Br i ((0 : Int) <= 2 /\ 2 <= (n : Int) /\ Ct Tryz.prog (fnv 88) #[.slice (sladdr b c 2 1) (n - 2) (c - 2)] h fun j k => ∃ l m q o p r t u w x y z n1 c1 b1, j = .tuple #[.agg #[.int .u8 l, .int .u8 m, .string q, .int .i64 o, .int .i64 p, .int .i64 r, .int .i64 t, .int .i64 u, .int .i64 w, .int .i64 x, .int .i64 y, .slice z n1 c1], .bool b1] /\ Br (!b1) (Q (.tuple #[.agg #[.int .u8 0, .int .i64 0, .int .i64 0, .slice none 0 0], .int .i64 411]) k) ((0 : Int) <= 1 /\ 1 < (n : Int) /\ b.isSome = true /\ ∃ q1, atI k b 1 = some (.string q1) /\ Ct Tryz.prog (fnv 86) #[.string q1] k fun v1 I1 => ∃ n2, v1 = .int .i64 n2 /\ Ct Tryz.prog (fnv 45) #[.int .i64 n2, .agg #[.int .u8 l, .int .u8 m, .string q, .int .i64 o, .int .i64 p, .int .i64 r, .int .i64 t, .int .i64 u, .int .i64 w, .int .i64 x, .int .i64 y, .slice z n1 c1]] I1 fun v2 I2 => ∃ n3 n4 n5 a1 n6 c2 n7, v2 = .tuple #[.agg #[.int .u8 n3, .int .i64 n4, .int .i64 n5, .slice a1 n6 c2], .int .i64 n7] /\ Rf E1 /\ Rf (SV.v (.string s)) /\ Rf (SV.ptr 0 0) /\ Rf (SV.ptr 1 0) /\ Rf (none : Option Nat) /\ RI I2 [.int .u8 n3, .int .i64 n4, .int .i64 n5, .slice a1 n6 c2])) (Rf E1 /\ Rf (SV.v (.string s)) /\ Rf (SV.ptr 0 0) /\ Rf (SV.ptr 1 0) /\ Rf (none : Option Nat) /\ RI h [.int .u8 0, .int .i64 0, .int .i64 0, .slice none 0 0])))) /\ ∀ (d : Mem), Mem -> a.le d -> ∀ (e f g : Int) (h : Option Addr) (i j : Nat), RI d [.int .u8 e, .int .i64 f, .int .i64 g, .slice h i j] -> Ct Tryz.prog (fnv 74) #[.agg #[.int .u8 e, .int .i64 f, .int .i64 g, .slice h i j]] d fun k l => ∃ q m, k = .tuple #[.string q, .int .i64 m] /\ Br (m != 0) (Q (.tuple #[.agg #[.int .u8 0, .int .i64 0, .int .i64 0, .slice none 0 0], .int .i64 411]) l) (Br (!(q.toList == s.toList)) (Q (.tuple #[.agg #[.int .u8 0, .int .i64 0, .int .i64 0, .slice none 0 0], .int .i64 411]) l) (Q (.tuple #[.agg #[.int .u8 e, .int .i64 f, .int .i64 g, .slice h i j], .int .i64 0]) l))))) (by kernel_rfl) ?_
 intro E1;simp only [Rf, true_and];have hl : (tx s).length = s.size := Array.length_toList
 have no : ∀ J : Mem, (¬ ((tx s).length <= 40000 /\ (refW (pieces (tx s)) (tx s)).2 = true /\ cleanE (refW (pieces (tx s)) (tx s)).1 = true /\ lineT (refW (pieces (tx s)) (tx s)).1 = tx s)) -> Q (.tuple #[.agg #[.int .u8 0, .int .i64 0, .int .i64 0, .slice none 0 0], .int .i64 411]) J := fun J h => by
  rw [hQ, readQ, if_neg h];exact ⟨_, rfl, bysl_nil _⟩
 refine Br.mk (fun h => no I fun hh => ?_) (fun h => ?_)
 · have h := of_decide_eq_true h
   have := hh.1;omega
 have h := of_decide_eq_false h
 have h40 : (tx s).length <= 40000 := by omega
 have hwz : ∀ w ∈ ws, w.size <= 1000000 := by rw [hws]; exact pieces_len (by omega)
 have hne : ws ≠ [] := by rw [hws]; exact pieces_ne _
 refine (ct85 s hs I).mono fun v I1 l1 ⟨l, ⟨b, n, c, hv, hsl, hbc, hcm⟩, hls⟩ => ⟨b, n, c, hv, ?_, fun I2 _ l2 ek es en fa fn fc hR => ?_⟩
 · have hlw : l = ws := by rw [hws]; exact pieces_of hls
   rw [hlw] at hsl
   have hn : ws.length = n := by have := hsl.len; simp [strs] at this; omega
   have hn1 : 0 < ws.length := List.length_pos_iff.2 hne
   have wat : ∀ {J : Mem}, I1.le J -> ∀ j : Nat, j < n -> atI J b j = some (.string (wordAt ws j)) := fun {J} hJ j hj => by
    have hg : ws[j]? = some ws[j] := List.getElem?_eq_getElem (by omega)
    have : wordAt ws j = ws[j] := by rw [wordAt, hg]; rfl
    rw [this];exact (hsl.mono hJ).at_ _ _ (strs_get hg)
   have hsome : b.isSome = true := hsl.isSome (by omega)
   have wz : ∀ j : Nat, j < n -> (wordAt ws j).size <= 1000000 := fun j hj => by
    have hg : ws[j]? = some ws[j] := List.getElem?_eq_getElem (by omega)
    have : wordAt ws j = ws[j] := by rw [wordAt, hg]; rfl
    rw [this]; exact hwz _ (List.getElem_mem _)
   refine Br.mk (fun h1 => ?_) (fun h1 => ?_)
   · rw [str_eq] at h1
     have h1 := of_decide_eq_true h1
     have ht : tx s = tickB := by rw [h1]; rfl
     rw [hRI, refW, if_pos ht];exact ⟨_, rfl, bysl_nil _, rfl, h40⟩
   rw [str_eq] at h1;have h1 := of_decide_eq_false h1
   have ht : tx s ≠ tickB := fun e => h1 (by rw [<- strT_tx s, e]; rfl)
   refine ⟨⟨by decide, by omega, hsome, _, wat (Mem.le_refl _) 0 (by omega), Br.mk (fun h2 => ?_) (fun h2 => ?_)⟩, fun I2 _ l2 pb hpb => ?_⟩
   · rw [str_eq] at h2
     rw [hPB]
     have hi : ((((n : Nat) : Int) == 2) = true) ↔ ws.length = 2 := by rw [beq_iff_eq]; omega
     refine Bool.eq_iff_iff.2 ?_;rw [hi, decide_eq_true_eq];exact ⟨fun hq => ⟨of_decide_eq_true h2, hq⟩, fun hq => hq.2⟩
   · rw [str_eq] at h2
     rw [hPB];exact (decide_eq_false fun hh => of_decide_eq_false h2 hh.1).symm
   rw [hPB] at hpb;subst hpb;refine Br.mk (fun h2 => ?_) (fun h2 => ?_)
   · have h2 := of_decide_eq_true h2
     refine ⟨by decide, by omega, hsome, _, wat l2 1 (by omega), (ct86 _ (wz 1 (by omega)) I2).mono fun v I3 l3 hv => ⟨_, hv, ?_⟩⟩
     rw [hRI, <- hws, refW, if_neg ht, if_pos h2];exact ⟨_, rfl, bysl_nil _, rfl, h40⟩
   have h2 := of_decide_eq_false h2
   refine ⟨⟨by decide, by omega, hsome, _, wat l2 0 (by omega), Br.mk (fun h3 => ?_) (fun h3 => ?_)⟩, fun I3 _ l3 pb hpb => ?_⟩
   · rw [str_eq] at h3
     rw [hQB]
     have hi : ((((n : Nat) : Int) == 3) = true) ↔ ws.length = 3 := by rw [beq_iff_eq]; omega
     refine Bool.eq_iff_iff.2 ?_;rw [hi, decide_eq_true_eq];exact ⟨fun hq => ⟨of_decide_eq_true h3, hq⟩, fun hq => hq.2⟩
   · rw [str_eq] at h3
     rw [hQB];exact (decide_eq_false fun hh => of_decide_eq_false h3 hh.1).symm
   rw [hQB] at hpb;subst hpb;have l23 := Mem.le_trans l2 l3;refine Br.mk (fun h3 => ?_) (fun h3 => ?_)
   · have h3 := of_decide_eq_true h3
     refine ⟨by decide, by omega, hsome, _, wat l23 1 (by omega), by decide, by omega, hsome, _, wat l23 2 (by omega), (ct86 _ (wz 1 (by omega)) I3).mono fun v I4 l4 hv => ⟨_, hv, (ct87 _ (wz 2 (by omega)) I4).mono fun v I5 l5 hv => ?_⟩⟩
     have hv' := hv;obtain ⟨a, m, d, rfl, _⟩ := hv';refine ⟨a, m, d, rfl, ?_⟩;rw [hRI, <- hws, refW, if_neg ht, if_neg h2, if_pos h3];exact ⟨_, rfl, hv, rfl, h40⟩
   have h3 := of_decide_eq_false h3
   refine ⟨⟨by decide, by omega, hsome, _, wat l23 0 (by omega), Br.mk (fun h4 => ?_) (fun h4 => ?_)⟩, fun I4 _ l4 pb hpb => ?_⟩
   · rw [str_eq] at h4
     rw [hAB]
     exact decide_eq_decide.2 ⟨fun h5 => ⟨of_decide_eq_true h4, by omega⟩, fun h5 => by have := h5.2; omega⟩
   · rw [str_eq] at h4
     rw [hAB];exact (decide_eq_false fun hh => of_decide_eq_false h4 hh.1).symm
   rw [hAB] at hpb;subst hpb;have l24 := Mem.le_trans l23 l4;refine Br.mk (fun h4 => ?_) (fun h4 => ?_)
   · have h4 := of_decide_eq_true h4
     have hsd : SlM I4 (sladdr b c 2 1) (n - 2) 1 (strs (ws.drop 2)) := by
      have := sl_drop (k := 2) (hsl.mono l24) (by omega) hbc
      simpa [strs] using this
     have hdz : ∀ w ∈ ws.drop 2, w.size <= 1000000 := fun w hw => hwz w (List.mem_of_mem_drop hw);have hsm := askQ_ok hdz
     refine ⟨by decide, by omega, (ct88 (ws.drop 2) hdz (fun e => by have := congrArg List.length e; rw [List.length_drop] at this; simp at this; omega) _ I4 ⟨_, _, _, rfl, hsd, by omega, by omega⟩).mono fun v I5 l5 ⟨y, hv, hy⟩ => ?_⟩
     have hy' := hy;obtain ⟨ya, ym, yd, rfl, _⟩ := hy';refine ⟨_, _, _, _, _, _, _, _, _, _, _, _, _, _, _, hv, Br.mk (fun h5 => no _ fun hh => ?_) (fun h5 => ?_)⟩
     · have h5 : (askQW (ws.drop 2)).2 = false := by simpa using h5
       have := hh.2.1;rw [<- hws, refW, if_neg ht, if_neg h2, if_neg h3, if_pos h4, h5] at this;cases this
     · have h5 : (askQW (ws.drop 2)).2 = true := by simpa using h5
       refine ⟨by decide, by omega, hsome, _, wat (Mem.le_trans l24 l5) 1 (by omega), (ct86 _ (wz 1 (by omega)) I5).mono fun v I6 l6 hv => ⟨_, hv, (ct45 _ (valI_rng _) (askQW (ws.drop 2)).1 hsm.ok hsm.name _ I6 (hy.mono l6) hsm.fed).mono fun v I7 l7 ⟨z, hv, hz⟩ => ?_⟩⟩
       have hz' := hz;obtain ⟨za, zm, zd, rfl, _⟩ := hz';refine ⟨_, _, _, _, _, _, _, hv, ?_⟩;rw [hRI, <- hws, refW, if_neg ht, if_neg h2, if_neg h3, if_pos h4, if_pos h5];exact ⟨_, rfl, hz, rfl, h40⟩
   · have h4 := of_decide_eq_false h4
     rw [hRI, <- hws, refW, if_neg ht, if_neg h2, if_neg h3, if_neg h4];exact ⟨_, rfl, bysl_nil _, rfl, h40⟩
 · rw [hRI, <- hws] at hR
   obtain ⟨y, hcs, hy, hok, _⟩ := hR;have heok := refW_ok hwz (tx s);rw [<- hws] at no
   have hQ2 : readQ (tx s) = if (tx s).length <= 40000 /\ (refW ws (tx s)).2 = true /\ cleanE (refW ws (tx s)).1 = true /\ lineT (refW ws (tx s)).1 = tx s then ((refW ws (tx s)).1, 0) else (zeroEn, 411) := by rw [hws]; rfl
   generalize hE : (refW ws (tx s)).1 = E at hcs hy heok no hQ2;simp only [enV, List.cons.injEq, Value.int.injEq, true_and, and_true] at hcs;obtain ⟨rfl, rfl, rfl, rfl⟩ := hcs;refine (ct74 E heok _ I2 hy).mono fun v I3 l3 hv => ⟨_, _, hv, Br.mk (fun h1 => no _ fun hh => ?_) (fun h1 => Br.mk (fun h2 => no _ fun hh => ?_) (fun h2 => ?_))⟩
   · have h1 : lineE E ≠ 0 := by simpa using h1
     rw [lineE, if_pos hh.2.2.1] at h1;exact h1 rfl
   · rw [str_eq] at h2
     have h2 : strT (lineT E) ≠ s := by simpa using h2
     exact h2 (by rw [hh.2.2.2]; rfl)
   · rw [str_eq] at h2
     have h2 : strT (lineT E) = s := by simpa using h2
     have h1 : lineE E = 0 := by simpa using h1
     have hc : cleanE E = true := by
      rw [lineE] at h1
      split at h1
      · assumption
      · cases h1
     have hlt : lineT E = tx s := by rw [<- h2, tx_strT]
     rw [hQ, hQ2, if_pos ⟨h40, hok, hc, hlt⟩];exact ⟨_, rfl, hy.mono l3⟩
theorem refW_line {e : En} (hk : okEn e) (hc : cleanE e = true) : refW (pieces (lineT e)) (lineT e) = (e, true) := by
 obtain ⟨_, h3⟩ := clean_len hc;obtain ⟨kd, sl, n, bs⟩ := e
 have val : ∀ {n : Int}, i64R n -> valI (strL (strT (Lib.itoa n))) = n := fun hn => by rw [strL_tx, tx_strT, valI_itoa hn]
 simp only at h3
 rcases h3 with rfl | rfl | rfl
 · have hn : n = 0 := by
    simp only [cleanE, if_true, Bool.and_eq_true, decide_eq_true_eq] at hc;exact hc.2.1
   subst hn
   cases ha : accB bs with
   | true =>
    obtain ⟨ho, hr, hw, h0⟩ := read_back hk.bs ha
    have hlt : lineT ⟨1, sl, 0, bs⟩ = askB ++ 32 :: (Lib.itoa sl ++ 32 :: tx (wordsB (readR bs).1)) := by
     have := line_right ho hr (slot := sl) (by rw [hw]; exact hc)
     rwa [hw] at this
    have hsp : pieces (lineT ⟨1, sl, 0, bs⟩) = strT askB :: strT (Lib.itoa sl) :: wordsL (readR bs).1 := by
     rw [hlt, pieces, split_app (by decide), split_app (free_no (itoa_free sl)).1, words_split ho.fed, List.map_cons, List.map_cons, List.map_map]
     have : (strT ∘ tx) = id := by funext s; exact strT_tx s
     rw [this, List.map_id]
    have hwl : 0 < (wordsL (readR bs).1).length := by simp [wordsL]
    have e0 : ∀ (a b : ByteArray) (l : List ByteArray), wordAt (a :: b :: l) 0 = a := fun _ _ _ => rfl;have e1 : ∀ (a b : ByteArray) (l : List ByteArray), wordAt (a :: b :: l) 1 = b := fun _ _ _ => rfl
    have hE : askE sl (readR bs).1 = (⟨1, sl, 0, bs⟩, 0) := by
     rw [askE, if_pos hr, hw, if_pos hc]
    have ht : lineT ⟨1, sl, 0, bs⟩ ≠ tickB := by
     rw [hlt]; intro h; simp [askB, tickB] at h
    rw [hsp, refW, if_neg ht, e0, e1, if_neg (fun h => absurd h.1 (by decide)), if_neg (fun h => absurd h.1 (by decide)), if_pos ⟨rfl, by simp only [List.length_cons]; omega⟩, val hk.slot]
    rw [show (strT askB :: strT (Lib.itoa sl) :: wordsL (readR bs).1).drop 2 = wordsL (readR bs).1 from rfl, askQ_words ho ho.fed hr, if_pos rfl, hE]
   | false =>
    have hlt : lineT ⟨1, sl, 0, bs⟩ = rawB ++ 32 :: (Lib.itoa sl ++ 32 :: wordT bs) := by
     rw [lineT, if_neg (by rw [hc]; decide), if_neg (fun e => absurd (show (1 : Int) = 2 from e) (by decide)), if_neg (fun e => absurd (show (1 : Int) = 3 from e) (by decide)), read_bad ha, if_neg (by decide)]
    have hsp : pieces (lineT ⟨1, sl, 0, bs⟩) = [strT rawB, strT (Lib.itoa sl), strT (wordT bs)] := by
     rw [hlt, pieces, split_app (by decide), split_app (free_no (itoa_free sl)).1, split_free (free_no (word_free hk.bs)).1]; rfl
    have e0 : wordAt [strT rawB, strT (Lib.itoa sl), strT (wordT bs)] 0 = strT rawB := rfl;have e1 : wordAt [strT rawB, strT (Lib.itoa sl), strT (wordT bs)] 1 = strT (Lib.itoa sl) := rfl;have e2 : wordAt [strT rawB, strT (Lib.itoa sl), strT (wordT bs)] 2 = strT (wordT bs) := rfl
    have ht : lineT ⟨1, sl, 0, bs⟩ ≠ tickB := by
     rw [hlt]; intro h; simp [rawB, tickB] at h
    rw [hsp, refW, if_neg ht, e0, e1, e2, if_neg (fun h => absurd h.1 (by decide)), if_pos ⟨rfl, rfl⟩, val hk.slot, unI_word hk.bs]
 · have hz : (⟨2, sl, n, bs⟩ : En) = ⟨2, 0, 0, []⟩ := by
    simp only [cleanE, show ¬ ((2 : Int) = 1) by decide, if_false, if_true, decide_eq_true_eq] at hc
    exact hc
   rw [hz]
   have : lineT ⟨2, 0, 0, []⟩ = tickB := by decide
   rw [this, refW, if_pos rfl]
 · have hz : (⟨3, sl, n, bs⟩ : En) = ⟨3, 0, n, []⟩ := by
    simp only [cleanE, show ¬ ((3 : Int) = 1) by decide, show ¬ ((3 : Int) = 2) by decide, if_false, if_true, Bool.and_eq_true, decide_eq_true_eq] at hc
    exact hc.2
   have hlt : lineT ⟨3, sl, n, bs⟩ = pickB ++ 32 :: Lib.itoa n := by
    rw [lineT, if_neg (by rw [hc]; decide), if_neg (fun e => absurd (show (3 : Int) = 2 from e) (by decide)), if_pos rfl]
   have hsp : pieces (lineT ⟨3, sl, n, bs⟩) = [strT pickB, strT (Lib.itoa n)] := by
    rw [hlt, pieces, split_app (by decide), split_free (free_no (itoa_free n)).1]; rfl
   have ht : lineT ⟨3, sl, n, bs⟩ ≠ tickB := by
    rw [hlt]; intro h; simp [pickB, tickB] at h
   have e0 : wordAt [strT pickB, strT (Lib.itoa n)] 0 = strT pickB := rfl;have e1 : wordAt [strT pickB, strT (Lib.itoa n)] 1 = strT (Lib.itoa n) := rfl;rw [hsp, refW, if_neg ht, e0, e1, if_pos ⟨rfl, rfl⟩, val hk.n, hz]
theorem readQ_eq (t : Tx) : readQ t = readL t := by
 rw [readL];split
 · rename_i h
   obtain ⟨h1, h2, h3, h4⟩ := h
   have hok := entry_ok (ws := pieces t) (pieces_len (by omega))
   generalize (entryW (pieces t)).1 = E at h3 h4 hok;subst h4;have hr := refW_line hok h3
   rw [readQ, hr, if_pos ⟨by omega, rfl, h3, rfl⟩]
 · rename_i h
   rw [readQ];split
   · rename_i h2
     obtain ⟨g1, g2, g3, g4⟩ := h2
     have hok := refW_ok (ws := pieces t) (pieces_len (by omega)) t
     have := read_line hok g3;rw [g4, readL, if_neg h] at this;have := congrArg Prod.snd this;cases this
   · rfl
set_option maxHeartbeats 1000000 in
theorem ct73 (es : List En) (a : Option Addr) (n c : Nat) (I : Mem) (h : EnM I a n es) (hb : ∀ e ∈ es, e.bs.length <= 1000000) (hn : n <= 100000) :
 Ct Tryz.prog (fnv 73) #[.slice a n c] I (fun v I' => ∃ a' c', v = .slice a' n c' /\ EnM I' a' n es /\ n <= c' /\ c' <= maxLen) := by
 obtain ⟨Q, hQ⟩ : ∃ q : Value -> Mem -> Prop, q = fun v I' => ∃ a' c', v = .slice a' n c' /\ EnM I' a' n es /\ n <= c' /\ c' <= maxLen := ⟨_, rfl⟩;rw [<- hQ];obtain ⟨TI, hTI⟩ : ∃ f : Mem -> Int -> List Value -> Prop, f = fun I' (j : Int) xs => 0 <= j /\ j <= n /\ RowR 4 EnC I' xs (es.take j.toNat) := ⟨_, rfl⟩
 refine viaR (ct_via (A := { loops := [(3, ⟨[(3, .row 0), (6, .keep), (7, .keep), (8, .sh (.int .i64))], [(0, .row)], [(3, 4, 72)], fun vals xss I' _ => match vals, xss with | [.int .i64 j], [xs] => TI I' j xs | _, _ => False, fun vals _ => match vals with | [.int .i64 j] => (n - j).toNat | _ => 0⟩)] }) Tryz.func73 rfl Tryz.call73 rfl rfl) (((0 : Nat) = 0 /\ Rf (SV.v (.slice a n c)) /\ Rf (SV.v (.int .i64 (n : Int))) /\ TI I 0 []) /\ ∀ (b : Mem), Mem -> I.le b -> ∀ (x : List Value) (d : Int), TI b d x -> Br (decide (d < (n : Int))) (0 <= d /\ d < (n : Int) /\ a.isSome = true /\ (4 : Nat) = 4 /\ ∃ e, atI b a (d.toNat * 4 + 0) = some (.int .u8 e) /\ ∃ f, atI b a (d.toNat * 4 + 1) = some (.int .i64 f) /\ ∃ g, atI b a (d.toNat * 4 + 2) = some (.int .i64 g) /\ ∃ i j k, atI b a (d.toNat * 4 + 3) = some (.slice i j k) /\ Ct Tryz.prog (fnv 89) #[.slice i j k] b fun v l => ∃ m o p, v = .slice m o p /\ x.length = x.length / 4 * 4 /\ x.length / 4 + 1 <= 9223372036854775807 /\ (x.length / 4 + 1) * 48 <= 140737488355328 /\ Wr .i64 (d + 1) fun q => x.length / 4 + 1 = List.length (x ++ [.int .u8 e, .int .i64 f, .int .i64 g, .slice m o p]) / 4 /\ Rf (SV.v (.slice a n c)) /\ Rf (SV.v (.int .i64 (n : Int))) /\ TI l q (x ++ [.int .u8 e, .int .i64 f, .int .i64 g, .slice m o p]) /\ Int.toNat ((n : Int) - q) < Int.toNat ((n : Int) - d)) (∀ (e : Option Addr) (f : Nat) (g : Mem), b.le g -> RowM g e f 4 x -> Q (.slice e (x.length / 4) f) g)) (by kernel_rfl) ?_
 simp only [Rf, true_and]
 have hes : es.length = n := SlR.len (by decide) h
 refine ⟨by rw [hTI]; exact ⟨by omega, by omega, rfl⟩, fun J _ lJ xs j hj => ?_⟩
 rw [hTI] at hj;obtain ⟨j0, j1, hr⟩ := hj;have hl := hr.len;rw [List.length_take] at hl;refine Br.mk (fun hlt => ?_) (fun hge A cp J2 l2 hrow => ?_)
 · have hlt := of_decide_eq_true hlt
   obtain ⟨e, b, m, cp, g1, g2, g3, g4, g5, g6, g7⟩ := (h.mono lJ).get j0 hlt;have hbe := hb e (List.mem_of_getElem? g1);obtain ⟨_, _, _, e1, g8, g9, g10⟩ := g3;cases e1
   refine ⟨j0, hlt, SlR.isSome h (by omega), _, g4, _, g5, _, g6, _, _, _, g7, (ct89 e.bs b m cp J g8 (by have := g8.numLen; omega)).mono fun v J3 l3 hv => ?_⟩
   have hv' := hv;obtain ⟨p, q, r, rfl, _⟩ := hv'
   refine ⟨p, q, r, rfl, by omega, by omega, by omega, wr_i64 (by omega) (by omega) ⟨by simp only [List.length_append, List.length_cons, List.length_nil]; omega, ?_, by omega⟩⟩
   rw [hTI]
   refine ⟨by omega, by omega, ?_⟩
   rw [show (j + 1).toNat = j.toNat + 1 by omega, List.take_add_one, g1, Option.toList_some]
   exact (hr.mono enC_mono l3).snoc rfl ⟨g2, _, rfl, hv⟩
 · have hge := of_decide_eq_false hge
   rw [List.take_of_length_le (by omega)] at hr
   have hr1 := hrow.1
   have hn4 : xs.length / 4 = n := by omega
   rw [hQ, hn4]
   have := SlR.row (by decide) hrow (hr.mono enC_mono l2)
   rw [hes] at this
   exact ⟨_, _, rfl, this, by omega, hrow.2.1⟩
set_option maxHeartbeats 1000000 in
theorem ct42 (es fs : List En) (a b : Option Addr) (n m c d : Nat) (I : Mem) (h : EnM I a n es) (h2 : EnM I b m fs) (hb : ∀ e ∈ es, e.bs.length <= 1000000) (hn : n <= 100000) :
 Ct Tryz.prog (fnv 42) #[.slice a n c, .slice b m d] I (fun v _ => v = .bool (decide (es = fs))) := by
 obtain ⟨D, hD⟩ : ∃ D, D = decide (es = fs) := ⟨_, rfl⟩;rw [<- hD];obtain ⟨WI, hWI⟩ : ∃ f : Int -> Prop, f = fun (j : Int) => 0 <= j /\ j <= n /\ es.take j.toNat = fs.take j.toNat := ⟨_, rfl⟩
 refine viaR (ct_via (A := { loops := [(4, ⟨[(1, .keep), (13, .keep), (14, .keep), (15, .sh (.int .i64))], [], [], fun vals _ _ _ => match vals with | [.int .i64 j] => WI j | _ => False, fun vals _ => match vals with | [.int .i64 j] => (n - j).toNat | _ => 0⟩)] }) Tryz.func42 rfl Tryz.call42 rfl rfl) (Br ((n : Int) != (m : Int)) (Value.bool false = .bool D) (Ct Tryz.prog (fnv 73) #[.slice a n c] I (fun v e => ∃ f g i, v = .slice f g i /\ (Rf (SV.v (.slice b m d)) /\ Rf (SV.v (.slice f g i)) /\ Rf (SV.v (.int .i64 (g : Int))) /\ WI 0) /\ ∀ (j : Mem), Mem -> e.le j -> ∀ (k : Int), WI k -> Br (decide (k < (g : Int))) (0 <= k /\ k < (g : Int) /\ f.isSome = true /\ (4 : Nat) = 4 /\ ∃ l, atI j f (k.toNat * 4 + 0) = some (.int .u8 l) /\ ∃ o, atI j f (k.toNat * 4 + 1) = some (.int .i64 o) /\ ∃ p, atI j f (k.toNat * 4 + 2) = some (.int .i64 p) /\ ∃ q r s, atI j f (k.toNat * 4 + 3) = some (.slice q r s) /\ 0 <= k /\ k < (m : Int) /\ b.isSome = true /\ (4 : Nat) = 4 /\ ∃ t, atI j b (k.toNat * 4 + 0) = some (.int .u8 t) /\ ∃ u, atI j b (k.toNat * 4 + 1) = some (.int .i64 u) /\ ∃ w, atI j b (k.toNat * 4 + 2) = some (.int .i64 w) /\ ∃ x y z, atI j b (k.toNat * 4 + 3) = some (.slice x y z) /\ Ct Tryz.prog (fnv 76) #[.agg #[.int .u8 l, .int .i64 o, .int .i64 p, .slice q r s], .agg #[.int .u8 t, .int .i64 u, .int .i64 w, .slice x y z]] j fun v1 I1 => ∃ b1, v1 = .bool b1 /\ Br (!b1) (Value.bool false = .bool D) (Wr .i64 (k + 1) (fun c1 => Rf (SV.v (.slice b m d)) /\ Rf (SV.v (.slice f g i)) /\ Rf (SV.v (.int .i64 (g : Int))) /\ WI c1 /\ Int.toNat ((n : Int) - c1) < Int.toNat ((n : Int) - k)))) (Value.bool true = .bool D)))) (by kernel_rfl) ?_
 simp only [Rf, true_and]
 have hes : es.length = n := SlR.len (by decide) h
 have hfs : fs.length = m := SlR.len (by decide) h2
 have no : es ≠ fs -> Value.bool false = Value.bool D := fun hh => by rw [hD, decide_eq_false hh]
 refine Br.mk (fun g => no fun e => ?_) (fun g => ?_)
 · have g : (n : Int) ≠ m := by simpa using g
   rw [e] at hes; omega
 have g : (n : Int) = m := by simpa using g
 refine (ct73 es a n c I h hb hn).mono fun v I1 l1 ⟨a', c', hv, h3, _⟩ => ⟨a', n, c', hv, by rw [hWI]; exact ⟨by omega, by omega, rfl⟩, fun J _ lJ j hj => ?_⟩
 rw [hWI] at hj;obtain ⟨j0, j1, hj⟩ := hj;refine Br.mk (fun hlt => ?_) (fun hge => ?_)
 · have hlt := of_decide_eq_true hlt
   obtain ⟨e, b1, m1, cp1, g1, g2, g3, g4, g5, g6, g7⟩ := (h3.mono lJ).get j0 hlt
   obtain ⟨f, b2, m2, cp2, k1, k2, k3, k4, k5, k6, k7⟩ := ((h2.mono l1).mono lJ).get j0 (by omega)
   refine ⟨j0, hlt, SlR.isSome h3 (by omega), _, g4, _, g5, _, g6, _, _, _, g7, j0, by omega, SlR.isSome h2 (by omega), _, k4, _, k5, _, k6, _, _, _, k7, (ct76 e f _ _ J g3 k3).mono fun v J2 l2 hv => ⟨_, hv, Br.mk (fun q => no fun he => ?_) (fun q => wr_i64 (by omega) (by omega) ⟨?_, by omega⟩)⟩⟩
   · have q : e ≠ f := by simpa using q
     rw [he, k1] at g1;exact q (Option.some.inj g1).symm
   · have q : e = f := by simpa using q
     rw [hWI]
     refine ⟨by omega, by omega, ?_⟩
     rw [show (j + 1).toNat = j.toNat + 1 by omega, List.take_add_one, List.take_add_one, hj, g1, k1, q]
 · have hge := of_decide_eq_false hge
   rw [List.take_of_length_le (by omega), List.take_of_length_le (by omega)] at hj
   rw [hD, decide_eq_true hj]
theorem readL_good {t : Tx} (ht : t.length <= 100000) : okEn (readL t).1 /\ (readL t).1.bs.length <= 16384 := by
 rw [readL];split
 · rename_i h
   exact ⟨entry_ok (pieces_len (by omega)), (clean_len h.2.2.1).1⟩
 · exact ⟨zero_okE, Nat.zero_le _⟩
def Q9 (I : Mem) (v : Value) : Prop := ∃ s : ByteArray, v = .string s /\ s.size <= reachBytes
section
variable {H : Type} {enc : TypeId × Value -> H} {W : World} {r : Reach} {b0 : Nat} {v : Value} {d : DataW H} {ps : List MemPlace}
theorem op9 (hval : Value.okWide Tryz.prog W r b0 9 v) (hd : DataW.Trod enc Tryz.prog W 0 (fun _ => true) true 9 v d ps) (hw : ∀ n ∈ d.weights Tryz.prog 9, n <= reachBytes) : Q9 (memW W) v := by
 obtain ⟨s, rfl⟩ := Go.WideShapes.okWide_string Tryz.underlying9 hval;obtain ⟨fuel, hf⟩ := hd;obtain ⟨s', h1, h2⟩ := opc_str Tryz.underlying9 H enc fuel _ d ps hf hw;cases h1;exact ⟨s, rfl, h2⟩
end
def ParJ (t : Tx) (I : Mem) (k n i : Int) (xs : List Value) : Prop :=
 ∃ out : List En, RowR 4 EnC I xs out /\ out.length <= 4000 /\ 0 <= k /\ 0 <= n /\ n <= i /\ ((k <= i /\ i <= t.length /\ (10 : UInt8) ∉ (t.take i.toNat).drop k.toNat /\ parseGo (linesT t) 1 [] = parseGo (linesT (t.drop k.toNat)) (n + 1) out) \/ (i = t.length + 1 /\ parseGo (linesT t) 1 [] = (out, 0, 0)))
set_option maxHeartbeats 4000000 in
theorem ct79 (text : ByteArray) (ht : text.size <= 1000000) (I : Mem) :
 Ct Tryz.prog (fnv 79) #[.string text] I (fun v I' => ∃ a n c, v = .tuple #[.slice a n c, .int .i64 (parseL (tx text)).2.1, .int .i64 (parseL (tx text)).2.2] /\ EnM I' a n (parseL (tx text)).1 /\ n <= c /\ c <= maxLen) := by
 obtain ⟨Q, hQ⟩ : ∃ q : Value -> Mem -> Prop, q = fun v I' => ∃ a n c, v = .tuple #[.slice a n c, .int .i64 (parseL (tx text)).2.1, .int .i64 (parseL (tx text)).2.2] /\ EnM I' a n (parseL (tx text)).1 /\ n <= c /\ c <= maxLen := ⟨_, rfl⟩;obtain ⟨PI, hPI⟩ : ∃ f, f = ParJ (tx text) := ⟨_, rfl⟩;obtain ⟨LI, hLI⟩ : ∃ f : Int -> Int -> Prop, f = fun (k i : Int) => (i < text.size /\ (tx text)[i.toNat]? = some 10) \/ (i = text.size /\ k ≠ i) := ⟨_, rfl⟩;rw [<- hQ]
 refine viaR (ct_via (A := { cuts := [(9, ⟨[(0, .keep), (5, .keep), (6, .kv), (7, .kv), (8, .kv)], [(0, .keep)], [], fun vals _ _ _ => match vals with | [.int .i64 k, .int .i64 _, .int .i64 i] => LI k i | _ => False, fun _ _ => 0⟩)], loops := [(6, ⟨[(0, .keep), (5, .row 0), (6, .sh (.int .i64)), (7, .sh (.int .i64)), (8, .sh (.int .i64))], [(0, .row)], [(5, 4, 72)], fun vals xss I' _ => match vals, xss with | [.int .i64 k, .int .i64 n, .int .i64 i], [xs] => PI I' k n i xs | _, _ => False, fun vals _ => match vals with | [_, _, .int .i64 i] => (text.size + 1 - i).toNat | _ => 0⟩)] }) Tryz.func79 rfl Tryz.call79 rfl rfl) (Br (decide (1048576 < (text.size : Int))) (Q (.tuple #[.slice none 0 0, .int .i64 0, .int .i64 3]) I) ((Rf (SV.v (.string text)) /\ (0 : Nat) = 0 /\ PI I 0 0 0 []) /\ ∀ (a : Mem), Mem -> I.le a -> ∀ (x : List Value) (n b c : Int), PI a n b c x -> Br (decide (c <= (text.size : Int))) (Br (decide (c < (text.size : Int))) (∃ d, text.data.toList[c.toNat]? = some d /\ 0 <= c /\ Br ((d.toNat : Int) != 10) (Wr .i64 (c + 1) (fun e => Rf (SV.v (.string text)) /\ Rf (x.length / 4) /\ PI a n b e x /\ Int.toNat ((text.size : Int) + 1 - e) < Int.toNat ((text.size : Int) + 1 - c))) (Br (c == (text.size : Int)) (Br (n == c) (Wr .i64 (c + 1) (fun e => Rf (SV.v (.string text)) /\ Rf (x.length / 4) /\ PI a n b e x /\ Int.toNat ((text.size : Int) + 1 - e) < Int.toNat ((text.size : Int) + 1 - c))) (Rf (Ent.mk (.row x 4 72) none) /\ Rf (SV.v (.string text)) /\ Rf (SV.rsl 0 (x.length / 4)) /\ Rf (SV.v (.int .i64 n)) /\ Rf (SV.v (.int .i64 b)) /\ Rf (SV.v (.int .i64 c)) /\ LI n c)) (Rf (Ent.mk (.row x 4 72) none) /\ Rf (SV.v (.string text)) /\ Rf (SV.rsl 0 (x.length / 4)) /\ Rf (SV.v (.int .i64 n)) /\ Rf (SV.v (.int .i64 b)) /\ Rf (SV.v (.int .i64 c)) /\ LI n c))) (Br (c == (text.size : Int)) (Br (n == c) (Wr .i64 (c + 1) (fun d => Rf (SV.v (.string text)) /\ Rf (x.length / 4) /\ PI a n b d x /\ Int.toNat ((text.size : Int) + 1 - d) < Int.toNat ((text.size : Int) + 1 - c))) (Rf (Ent.mk (.row x 4 72) none) /\ Rf (SV.v (.string text)) /\ Rf (SV.rsl 0 (x.length / 4)) /\ Rf (SV.v (.int .i64 n)) /\ Rf (SV.v (.int .i64 b)) /\ Rf (SV.v (.int .i64 c)) /\ LI n c)) (Rf (Ent.mk (.row x 4 72) none) /\ Rf (SV.v (.string text)) /\ Rf (SV.rsl 0 (x.length / 4)) /\ Rf (SV.v (.int .i64 n)) /\ Rf (SV.v (.int .i64 b)) /\ Rf (SV.v (.int .i64 c)) /\ LI n c)) /\ ∀ (d : Mem), Mem -> a.le d -> LI n c -> Wr .i64 (b + 1) fun e => 0 <= n /\ n <= c /\ c <= (text.size : Int) /\ Wr .i64 (c + 1) fun f => Br (((text.extract n.toNat c.toNat).size : Int) == 0) (Wr .i64 (c + 1) (fun g => Rf (SV.v (.string text)) /\ Rf (x.length / 4) /\ PI d f e g x /\ Int.toNat ((text.size : Int) + 1 - g) < Int.toNat ((text.size : Int) + 1 - c))) (∃ g, (text.extract n.toNat c.toNat).data.toList[0]? = some g /\ (0 : Int) <= 0 /\ Br ((g.toNat : Int) == 35) (Wr .i64 (c + 1) (fun h => Rf (SV.v (.string text)) /\ Rf (x.length / 4) /\ PI d f e h x /\ Int.toNat ((text.size : Int) + 1 - h) < Int.toNat ((text.size : Int) + 1 - c))) (Ct Tryz.prog (fnv 41) #[.string (text.extract n.toNat c.toNat)] d (fun v h => ∃ i j k l m o p, v = .tuple #[.agg #[.int .u8 i, .int .i64 j, .int .i64 k, .slice l m o], .int .i64 p] /\ Br (p != 0) (Q (.tuple #[.slice none 0 0, .int .i64 e, .int .i64 p]) h) (Br (((x.length / 4 : Nat) : Int) == 4000) (Q (.tuple #[.slice none 0 0, .int .i64 e, .int .i64 5]) h) (x.length = x.length / 4 * 4 /\ x.length / 4 + 1 <= 9223372036854775807 /\ (x.length / 4 + 1) * 48 <= 140737488355328 /\ Wr .i64 (c + 1) fun q => Rf (SV.v (.string text)) /\ x.length / 4 + 1 = List.length (x ++ [.int .u8 i, .int .i64 j, .int .i64 k, .slice l m o]) / 4 /\ PI h f e q (x ++ [.int .u8 i, .int .i64 j, .int .i64 k, .slice l m o]) /\ Int.toNat ((text.size : Int) + 1 - q) < Int.toNat ((text.size : Int) + 1 - c))))))) (∀ (d : Option Addr) (e : Nat) (f : Mem), a.le f -> RowM f d e 4 x -> Q (.tuple #[.slice d (x.length / 4) e, .int .i64 0, .int .i64 0]) f))) (by kernel_rfl) ?_
 simp only [Rf, true_and];have hl : (tx text).length = text.size := Array.length_toList;refine Br.mk (fun h => ?_) (fun h => ?_)
 · have h := of_decide_eq_true h
   omega
 have hL : parseL (tx text) = parseGo (linesT (tx text)) 1 [] := by rw [parseL, if_neg (by omega)]
 have start : PI I 0 0 0 [] := by
  rw [hPI]
  exact ⟨[], rfl, Nat.zero_le _, by decide, by decide, by decide, .inl ⟨by decide, by omega, by simp, rfl⟩⟩
 refine ⟨start, fun J _ lJ xs k n i hp => ?_⟩;rw [hPI] at hp;obtain ⟨out, hr, ho, k0, n0, ni, hc⟩ := hp;have hxl := hr.len;refine Br.mk (fun hle => ?_) (fun hgt A cp J2 l2 hrow => ?_)
 · have hle := of_decide_eq_true hle
   obtain ⟨ki, _, hno, hgo⟩ : k <= i /\ i <= (tx text).length /\ (10 : UInt8) ∉ ((tx text).take i.toNat).drop k.toNat /\ parseGo (linesT (tx text)) 1 [] = parseGo (linesT ((tx text).drop k.toNat)) (n + 1) out := by
    rcases hc with hc | ⟨e, _⟩
    · exact hc
    · omega
   have hdt : ((tx text).take i.toNat).drop k.toNat ++ (tx text).drop i.toNat = (tx text).drop k.toNat := by
    rw [<- List.drop_append_of_le_length (by rw [List.length_take]; omega), List.take_append_drop]
   have last : i = text.size -> k = i -> Wr IntKind.i64 (i + 1) fun d => PI J k n d xs /\ (↑text.size + 1 - d).toNat < (↑text.size + 1 - i).toNat := fun h1 h2 => by
    refine wr_i64 (by omega) (by omega) ⟨?_, by omega⟩
    rw [hPI]
    refine ⟨out, hr, ho, k0, n0, by omega, .inr ⟨by omega, ?_⟩⟩
    rw [hgo, List.drop_eq_nil_of_le (by omega)]; rfl
   refine ⟨Br.mk (fun h1 => ?_) (fun h1 => ?_), fun J2 _ l2 hl2 => ?_⟩
   · have h1 := of_decide_eq_true h1
     obtain ⟨x, hx⟩ : ∃ x, (tx text)[i.toNat]? = some x := ⟨_, List.getElem?_eq_getElem (by omega)⟩
     refine ⟨x, hx, by omega, Br.mk (fun h2 => ?_) (fun h2 => ?_)⟩
     · have h2 : x ≠ 10 := fun e => by subst e; simp at h2
       refine wr_i64 (by omega) (by omega) ⟨?_, by omega⟩
       rw [hPI]
       refine ⟨out, hr, ho, k0, n0, by omega, .inl ⟨by omega, by omega, ?_, hgo⟩⟩
       rw [show (i + 1).toNat = i.toNat + 1 by omega, List.take_add_one, hx, List.drop_append_of_le_length (by rw [List.length_take]; omega)]
       intro hm
       rcases List.mem_append.1 hm with hm | hm
       · exact hno hm
       · simp at hm; exact h2 hm.symm
     · have h2 : x = 10 := by
        have : (x.toNat : Int) = 10 := by simpa using h2
        exact UInt8.toNat_inj.1 (by show x.toNat = 10; omega)
       have hli : LI k i := by rw [hLI]; exact .inl ⟨h1, by rw [hx, h2]⟩
       exact Br.mk (fun h3 => Br.mk (fun h4 => last (by simpa using h3) (by simpa using h4)) (fun _ => hli)) (fun _ => hli)
   · have h1 := of_decide_eq_false h1
     refine Br.mk (fun h3 => Br.mk (fun h4 => last (by simpa using h3) (by simpa using h4)) (fun h4 => ?_)) (fun h3 => ?_)
     · rw [hLI]; exact .inr ⟨by omega, by simpa using h4⟩
     · have h3 : i ≠ text.size := by simpa using h3
       omega
   · rw [hLI] at hl2
     have htx : tx (text.extract k.toNat i.toNat) = ((tx text).take i.toNat).drop k.toNat := tx_extract _ _ _
     have hsz : (text.extract k.toNat i.toNat).size = (((tx text).take i.toNat).drop k.toNat).length := by rw [<- htx]; exact Array.length_toList.symm
     have hsl : (((tx text).take i.toNat).drop k.toNat).length <= text.size := by rw [List.length_drop, List.length_take]; omega
     obtain ⟨R, hR, hnext⟩ : ∃ R : List Tx, linesT ((tx text).drop k.toNat) = ((tx text).take i.toNat).drop k.toNat :: R /\ ∀ (J : Mem) (ys : List Value) (o : List En), RowR 4 EnC J ys o -> o.length <= 4000 -> parseGo (linesT (tx text)) 1 [] = parseGo R (n + 2) o -> PI J (i + 1) (n + 1) (i + 1) ys := by
      rcases hl2 with ⟨h1, hx⟩ | ⟨h1, h2⟩
      · refine ⟨linesT ((tx text).drop (i + 1).toNat), ?_, fun J ys o h3 h4 h5 => ?_⟩
        · have : (tx text).drop i.toNat = 10 :: (tx text).drop (i + 1).toNat := by
           obtain ⟨e1, e2⟩ := List.getElem?_eq_some_iff.1 hx
           rw [List.drop_eq_getElem_cons e1, e2, show (i + 1).toNat = i.toNat + 1 by omega]
          rw [<- hdt, this, lines_hit _ _ hno]
        · rw [hPI]
          refine ⟨o, h3, h4, by omega, by omega, by omega, .inl ⟨Int.le_refl _, by omega, ?_, by rw [h5, show n + 2 = n + 1 + 1 by omega]⟩⟩
          rw [List.drop_eq_nil_of_le (by rw [List.length_take]; omega)]
          simp
      · refine ⟨[], ?_, fun J ys o h3 h4 h5 => ?_⟩
        · have hd : (tx text).drop i.toNat = [] := List.drop_eq_nil_of_le (by omega)
          rw [hd, List.append_nil] at hdt;rw [<- hdt];refine lines_miss hno fun e => ?_;have := congrArg List.length e;rw [List.length_drop, List.length_take, List.length_nil] at this;omega
        · rw [hPI]
          exact ⟨o, h3, h4, by omega, by omega, by omega, .inr ⟨by omega, by rw [h5]; rfl⟩⟩
     rw [hR, parseGo] at hgo;generalize hS : ((tx text).take i.toNat).drop k.toNat = S at htx hsz hsl hgo
     refine wr_i64 (by omega) (by omega) ⟨k0, ki, by omega, wr_i64 (by omega) (by omega) (Br.mk (fun h1 => ?_) (fun h1 => ?_))⟩
     · have h1 : S = [] := List.length_eq_zero_iff.1 (by have h9 : ((text.extract k.toNat i.toNat).size : Int) = 0 := (by simpa using h1); omega)
       refine wr_i64 (by omega) (by omega) ⟨hnext J2 xs out (hr.mono enC_mono l2) ho ?_, by omega⟩
       have h2 : skipT S = true := by rw [h1]; rfl
       rw [hgo, if_pos h2, show n + 1 + 1 = n + 2 by omega]
     have h1 : S ≠ [] := fun e => by
      have : ((text.extract k.toNat i.toNat).size : Int) ≠ 0 := by simpa using h1
      rw [hsz, e] at this;exact this rfl
     obtain ⟨c0, hc0⟩ : ∃ c0, S[0]? = some c0 := ⟨_, List.getElem?_eq_getElem (List.length_pos_iff.2 h1)⟩
     have hhd : S.head? = some c0 := by rw [List.head?_eq_getElem?]; exact hc0
     refine ⟨c0, by rw [<- htx] at hc0; exact hc0, by decide, Br.mk (fun h2 => ?_) (fun h2 => ?_)⟩
     · have h2 : c0 = 35 := by
        have : (c0.toNat : Int) = 35 := by simpa using h2
        exact UInt8.toNat_inj.1 (by show c0.toNat = 35; omega)
       refine wr_i64 (by omega) (by omega) ⟨hnext J2 xs out (hr.mono enC_mono l2) ho ?_, by omega⟩
       have : skipT S = true := by rw [skipT, hhd, h2]; simp
       rw [hgo, if_pos this, show n + 1 + 1 = n + 2 by omega]
     · have h2 : c0 ≠ 35 := fun e => by subst e; simp at h2
       have hns : skipT S = false := by rw [skipT, hhd]; simp [h1, h2]
       rw [if_neg (by rw [hns]; decide)] at hgo
       refine (ct41 (text.extract k.toNat i.toNat) (by omega) J2).mono fun v J3 l3 ⟨y, hv, hy⟩ => ?_
       rw [readQ_eq, htx] at hv hy;have hy' := hy;obtain ⟨a, m, d, rfl, _⟩ := hy'
       have hst : S.length <= 1000000 := by omega
       have hok := readL_okE hst;refine ⟨_, _, _, _, _, _, _, hv, Br.mk (fun h3 => ?_) (fun h3 => Br.mk (fun h4 => ?_) (fun h4 => ?_))⟩
       · have h3 : (readL S).2 ≠ 0 := by simpa using h3
         rw [if_pos h3] at hgo;rw [hQ, hL, hgo];exact ⟨_, _, _, rfl, SlR.nil, Nat.le_refl _, Nat.zero_le _⟩
       · have h3 : (readL S).2 = 0 := by simpa using h3
         have h4 : ((xs.length / 4 : Nat) : Int) = 4000 := by simpa using h4
         rw [if_neg (fun h => h h3), if_pos (by omega)] at hgo
         rw [hQ, hL, hgo];exact ⟨_, _, _, rfl, SlR.nil, Nat.le_refl _, Nat.zero_le _⟩
       · have h3 : (readL S).2 = 0 := by simpa using h3
         have h4 : ((xs.length / 4 : Nat) : Int) ≠ 4000 := by simpa using h4
         rw [if_neg (fun h => h h3), if_neg (by omega)] at hgo
         refine ⟨by omega, by omega, by omega, wr_i64 (by omega) (by omega) ⟨by simp only [List.length_append, List.length_cons, List.length_nil]; omega, hnext J3 _ (out ++ [(readL S).1]) ?_ ?_ ?_, by omega⟩⟩
         · exact (hr.mono enC_mono (Mem.le_trans l2 l3)).snoc rfl ⟨hok, _, rfl, hy⟩
         · rw [List.length_append, List.length_singleton]; omega
         · rw [hgo, show n + 1 + 1 = n + 2 by omega]
 · have hgt := of_decide_eq_false hgt
   rcases hc with ⟨_, h1, _⟩ | ⟨_, hgo⟩
   · omega
   rw [hQ, hL, hgo];have hr1 := hrow.1
   have hn4 : xs.length / 4 = out.length := by omega
   rw [hn4]
   exact ⟨_, _, _, rfl, SlR.row (by decide) hrow (hr.mono enC_mono l2), by omega, hrow.2.1⟩
theorem parseGo_bs : ∀ (r : List Tx) (n : Int) (out : List En), (∀ x ∈ r, x.length <= 100000) -> (∀ e ∈ out, e.bs.length <= 16384) -> ∀ e ∈ (parseGo r n out).1, e.bs.length <= 16384
 | [], n, out, _, h => h
 | s :: r, n, out, hr, h => by
  rw [parseGo]
  repeat' split
  · exact parseGo_bs r _ _ (fun x hx => hr x (by simp [hx])) h
  · exact fun e he => by cases he
  · exact fun e he => by cases he
  · refine parseGo_bs r _ _ (fun x hx => hr x (by simp [hx])) fun e he => ?_
    rcases List.mem_append.1 he with he | he
    · exact h e he
    · rw [List.mem_singleton.1 he]; exact (readL_good (hr s (by simp))).2
theorem parseGo_cnt : ∀ (r : List Tx) (n : Int) (out : List En), out.length <= 4000 -> (parseGo r n out).1.length <= 4000
 | [], n, out, h => h
 | s :: r, n, out, h => by
  rw [parseGo]
  repeat' split
  · exact parseGo_cnt r _ _ h
  · exact Nat.zero_le _
  · exact Nat.zero_le _
  · exact parseGo_cnt r _ _ (by rw [List.length_append, List.length_singleton]; omega)
theorem ct35 (s : ByteArray) (I : Mem) (hG : Globs I) : Ct Tryz.prog (fnv 35) #[.string s] I (fun v _ => v = .bool true) := by
 refine viaR (ct_via (A := { }) Tryz.func35 rfl Tryz.call35 rfl rfl) (Br (decide (4000 < (s.size : Int))) (Rf (Value.bool true)) (Ct Tryz.prog (fnv 36) #[.string s] I (fun v a => ∃ b n c d e, v = .tuple #[.slice b n c, .int .i64 d, .int .i64 e] /\ Ct Tryz.prog (fnv 79) #[.string s] a fun f g => ∃ h i j k l, f = .tuple #[.slice h i j, .int .i64 k, .int .i64 l] /\ Ct Tryz.prog (fnv 42) #[.slice b n c, .slice h i j] g fun m o => ∃ p, m = .bool p /\ Br p (Br (d == k) (Value.bool (e == l) = .bool true) (Value.bool false = .bool true)) (Value.bool false = .bool true)))) (by kernel_rfl) ?_
 refine Br.mk (fun h => rfl) (fun h => ?_);have h := of_decide_eq_false h;have hl : (tx s).length = s.size := Array.length_toList;have hlin := (lines_len _ (tx s) (Nat.le_refl _)).2
 have hbs : ∀ e ∈ (parseL (tx s)).1, e.bs.length <= 1000000 := by
  rw [parseL, if_neg (by omega)]
  intro e he
  have := parseGo_bs (linesT (tx s)) 1 [] (fun x hx => by have := hlin x hx; omega) (fun e he => by cases he) e he
  omega
 have hcnt : (parseL (tx s)).1.length <= 4000 := by
  rw [parseL, if_neg (by omega)]
  exact parseGo_cnt _ _ _ (Nat.zero_le _)
 refine (ct36 s (by omega) I hG).mono fun v I1 l1 ⟨a, n, c, hv, hM, _⟩ => ⟨a, n, c, _, _, hv, (ct79 s (by omega) I1).mono fun v I2 l2 ⟨a2, n2, c2, hv, hM2, _⟩ => ⟨a2, n2, c2, _, _, hv, ?_⟩⟩
 have hn : (parseL (tx s)).1.length = n := SlR.len (by decide) hM
 refine (ct42 _ _ a a2 n n2 c c2 I2 (hM.mono l2) hM2 hbs (by omega)).mono fun v I3 l3 hv => ⟨_, hv, ?_⟩
 rw [decide_eq_true rfl];refine Br.t rfl (Br.t (beq_self_eq_true _) ?_);rw [beq_self_eq_true]
theorem ct9 (s : ByteArray) (I : Mem) (hG : Globs I) : Ct Tryz.prog (fnv 9) #[.string s] I (fun v _ => v = .bool true) := by
 refine viaR (ct_via (A := { }) Tryz.func9 rfl Tryz.call9 rfl rfl) (Ct Tryz.prog (fnv 35) #[.string s] I fun v a => ∃ b, v = .bool b /\ Br b (Ct Tryz.prog (fnv 14) #[] a (fun c d => ∃ e, c = .bool e /\ Value.bool e = .bool true)) (Value.bool false = .bool true)) (by kernel_rfl) ?_
 exact (ct35 s I hG).mono fun v I1 l1 hv => ⟨_, hv, Br.t rfl ((ct14 I1 (hG.mono l1)).mono fun v I2 l2 hv => ⟨_, hv, rfl⟩)⟩
theorem ct9Q (I : Mem) (hG : Globs I) (v0 : Value) (h0 : Q9 I v0) : Ct Tryz.prog (fnv 9) #[v0] I (fun v _ => v = .bool true) := by
 obtain ⟨s, rfl, hs⟩ := h0;exact ct9 s I hG
