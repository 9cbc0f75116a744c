/- Part of a proof by the rules of the symbolic walk (see the law's own text): contracts of functions of the program. -/
import Derived.Test.YtdmhilnnendcoaaGP
open Go Go.Proofs Go.SE Go.RowKit
set_option linter.unusedVariables false
/-- What is left to be read, and whether it was bad. -/
abbrev RS := List Int × Bool
def Rd (I G : Mem) (kb : Nat) (s : RS) : Prop := ∃ a n c, G kb = some (.cells #[.slice a n c, .bool s.2] 97 (0, 0)) ∧ SlM I a n 1 (ints .u8 s.1) ∧ n ≤ c ∧ c ≤ maxLen ∧ byteL s.1 ∧ n ≤ 1000000
def RdTo (I G G' : Mem) (kb : Nat) (s : RS) : Prop := Rd I G' kb s ∧ ∀ x, x ≠ kb → G' x = G x
theorem addB_eq (G : Mem) (b : Nat) (o : Obj) : addB G b o b = some o := if_pos rfl
theorem addB_ne (G : Mem) {b x : Nat} (o : Obj) (h : x ≠ b) : addB G b o x = G x := if_neg h
theorem put0 {G : Mem} {b : Nat} {x y z : Value} {el : TypeId} (h : G b = some (.cells #[x, y] el (0, 0))) : PutG G (some ⟨b, 0, none⟩) 0 [z] (addB G b (.cells #[z, y] el (0, 0))) :=
  ⟨b, 0, _, _, rfl, h, Nat.le_succ 1, rfl⟩
theorem put1 {G : Mem} {b : Nat} {x y z : Value} {el : TypeId} (h : G b = some (.cells #[x, y] el (0, 0))) : PutG G (some ⟨b, 0, none⟩) 1 [z] (addB G b (.cells #[x, z] el (0, 0))) :=
  ⟨b, 0, _, _, rfl, h, Nat.le_refl 2, rfl⟩
theorem atC {I : Mem} {k off i : Nat} {cs : Array Value} {el : TypeId} {v : Value} (h : I k = some (.cells cs el)) (hv : cs[off + i]? = some v) : atI I (some ⟨k, off, none⟩) i = some v := by
  simp only [atI, Option.bind_some, Addr.add_lit, cellM, h, Option.isSome_none, Bool.false_eq_true, if_false]
  exact hv
theorem Rd.mono {I J G : Mem} {kb : Nat} {s : RS} (h : Rd I G kb s) (hle : I.le J) : Rd J G kb s := by
  obtain ⟨a, n, c, h1, h2, h3⟩ := h
  exact ⟨a, n, c, h1, h2.mono hle, h3⟩
def nextR (s : RS) : Int × RS := if s.2 = true ∨ (readN s.1 0).2.2 ≠ 0 then (0, [], true) else ((readN s.1 0).1, s.1.drop (readN s.1 0).2.1.toNat, false)
theorem rdTo_mk {I G : Mem} {kb : Nat} {o : Obj} {a : Option Addr} {n c : Nat} {bs : List Int} {b : Bool} (hs : SlM I a n 1 (ints .u8 bs)) (hc : n ≤ c) (hm : c ≤ maxLen) (hb : byteL bs) (hn : n ≤ 1000000) :
    RdTo I G (addB (addB G kb o) kb (.cells #[.slice a n c, .bool b] 97 (0, 0))) kb (bs, b) :=
  ⟨⟨a, n, c, addB_eq .., hs, hc, hm, hb, hn⟩, fun x hx => by rw [addB_ne _ _ hx, addB_ne _ _ hx]⟩
theorem rdTo_nil {I G : Mem} {kb : Nat} {o : Obj} {b : Bool} : RdTo I G (addB (addB G kb o) kb (.cells #[.slice none 0 0, .bool b] 97 (0, 0))) kb ([], b) :=
  rdTo_mk (sl_nil _ _) (Nat.le_refl 0) (Nat.zero_le _) (fun z hz => by cases hz) (Nat.zero_le _)
theorem ct45 (s : RS) (kb : Nat) (I G : Mem) (h : Rd I G kb s) :
    CtH Try.prog (fnv 45) #[.pointer (some ⟨kb, 0, none⟩)] I G (fun v I' G' => v = .int .u64 (nextR s).1 ∧ RdTo I' G G' kb (nextR s).2) := by
  obtain ⟨a, n, c, hG, hs, hc, hm, hb, hn⟩ := h
  refine viaR (ctG_via (A := { calls := [(10, .g), (19, .g), (29, .g), (37, .g), (25, .st), (32, .st), (41, .st)] }) Try.func45 rfl Try.call45 rfl rfl) (true = true ∧ true = true ∧ ∃ (a : Option Addr), ∃ (n : Nat), ∃ (c : Nat), atI G (some (Addr.mk kb (0 : Nat) none)) (0 : Nat) = some (Value.slice a n c) ∧ Ct Try.prog (Value.func (Fn.func (80 : Nat)) #[] #[]) #[Value.slice a n c, Value.int IntKind.i64 (0 : Int)] I fun (v : Value) (I' : Mem) => ∃ (n : Int), ∃ (n_1 : Int), ∃ (n_2 : Int), v = Value.tuple #[Value.int IntKind.u64 n, Value.int IntKind.i64 n_1, Value.int IntKind.i64 n_2] ∧ true = true ∧ true = true ∧ ∃ (b : Bool), atI G (some (Addr.mk kb (0 : Nat) none)) (1 : Nat) = some (Value.bool b) ∧ Br b (true = true ∧ true = true ∧ ∃ (G' : Mem), PutG G (some (Addr.mk kb (0 : Nat) none)) (1 : Nat) [Value.bool true] G' ∧ true = true ∧ true = true ∧ ∃ (b : Bool), atI G' (some (Addr.mk kb (0 : Nat) none)) (1 : Nat) = some (Value.bool b) ∧ Br b (true = true ∧ true = true ∧ ∃ (G'_1 : Mem), PutG G' (some (Addr.mk kb (0 : Nat) none)) (0 : Nat) [Value.slice none (0 : Nat) (0 : Nat)] G'_1 ∧ Value.int IntKind.u64 (0 : Int) = Value.int IntKind.u64 (Prod.fst (nextR s)) ∧ RdTo I' G G'_1 kb (Prod.snd (nextR s))) (true = true ∧ true = true ∧ ∃ (a : Option Addr), ∃ (n_3 : Nat), ∃ (c : Nat), atI G' (some (Addr.mk kb (0 : Nat) none)) (0 : Nat) = some (Value.slice a n_3 c) ∧ (0 : Int) ≤ n_1 ∧ n_1 ≤ (↑n_3 : Int) ∧ true = true ∧ true = true ∧ ∃ (G'_1 : Mem), PutG G' (some (Addr.mk kb (0 : Nat) none)) (0 : Nat) [Value.slice (sladdr a c (Int.toNat n_1) (1 : Nat)) (n_3 - Int.toNat n_1) (c - Int.toNat n_1)] G'_1 ∧ Value.int IntKind.u64 n = Value.int IntKind.u64 (Prod.fst (nextR s)) ∧ RdTo I' G G'_1 kb (Prod.snd (nextR s)))) (true = true ∧ true = true ∧ ∃ (G' : Mem), PutG G (some (Addr.mk kb (0 : Nat) none)) (1 : Nat) [Value.bool (n_2 != (0 : Int))] G' ∧ true = true ∧ true = true ∧ ∃ (b : Bool), atI G' (some (Addr.mk kb (0 : Nat) none)) (1 : Nat) = some (Value.bool b) ∧ Br b (true = true ∧ true = true ∧ ∃ (G'_1 : Mem), PutG G' (some (Addr.mk kb (0 : Nat) none)) (0 : Nat) [Value.slice none (0 : Nat) (0 : Nat)] G'_1 ∧ Value.int IntKind.u64 (0 : Int) = Value.int IntKind.u64 (Prod.fst (nextR s)) ∧ RdTo I' G G'_1 kb (Prod.snd (nextR s))) (true = true ∧ true = true ∧ ∃ (a : Option Addr), ∃ (n_3 : Nat), ∃ (c : Nat), atI G' (some (Addr.mk kb (0 : Nat) none)) (0 : Nat) = some (Value.slice a n_3 c) ∧ (0 : Int) ≤ n_1 ∧ n_1 ≤ (↑n_3 : Int) ∧ true = true ∧ true = true ∧ ∃ (G'_1 : Mem), PutG G' (some (Addr.mk kb (0 : Nat) none)) (0 : Nat) [Value.slice (sladdr a c (Int.toNat n_1) (1 : Nat)) (n_3 - Int.toNat n_1) (c - Int.toNat n_1)] G'_1 ∧ Value.int IntKind.u64 n = Value.int IntKind.u64 (Prod.fst (nextR s)) ∧ RdTo I' G G'_1 kb (Prod.snd (nextR s))))) (by kernel_rfl) ?_
  refine ⟨rfl, rfl, a, n, c, atC hG rfl, (ct80 s.1 hb a n c 0 (by omega) I hs (by omega)).mono fun v I1 l1 hv => ⟨_, _, _, hv, rfl, rfl, s.2, atC hG rfl, Br.mk (fun h1 => ?_) (fun h1 => ?_)⟩⟩
  · have hq : nextR s = (0, [], true) := by rw [nextR, if_pos (.inl h1)]
    rw [hq]
    exact ⟨rfl, rfl, _, put1 hG, rfl, rfl, true, atC (addB_eq ..) rfl, Br.t rfl ⟨rfl, rfl, _, put0 (addB_eq ..), rfl, rdTo_nil⟩⟩
  refine ⟨rfl, rfl, _, put1 hG, rfl, rfl, _, atC (addB_eq ..) rfl, Br.mk (fun h2 => ?_) (fun h2 => ?_)⟩
  · have hq : nextR s = (0, [], true) := by rw [nextR, if_pos (.inr (by simpa using h2))]
    rw [hq]
    have hp := put0 (z := .slice none 0 0) (addB_eq G kb (.cells #[.slice a n c, .bool ((readN s.1 0).2.2 != 0)] 97 (0, 0)))
    rw [h2] at hp ⊢
    exact ⟨rfl, rfl, _, hp, rfl, rdTo_nil⟩
  · have h3 : (readN s.1 0).2.2 = 0 := by simpa using h2
    obtain ⟨g1, g2, g3, g4, g5, g6, g7⟩ := readN_back hb (x := (readN s.1 0).1) (n := (readN s.1 0).2.1) (at_ := 0) (Prod.ext rfl (Prod.ext rfl h3))
    have hq : nextR s = ((readN s.1 0).1, s.1.drop (readN s.1 0).2.1.toNat, false) := by rw [nextR, if_neg (by rw [h1, h3]; simp)]
    have hln := hs.numLen
    have hp := put0 (z := .slice (sladdr a c (readN s.1 0).2.1.toNat 1) (n - (readN s.1 0).2.1.toNat) (c - (readN s.1 0).2.1.toNat)) (addB_eq G kb (.cells #[.slice a n c, .bool ((readN s.1 0).2.2 != 0)] 97 (0, 0)))
    generalize (readN s.1 0).2.1 = k at *
    rw [h2] at hp ⊢
    rw [hq]
    have hsub := sl_sub (hs.mono l1) (f := k.toNat) (t := n) (by omega) (by omega) hc
    rw [List.take_of_length_le (by rw [List.length_drop]; omega)] at hsub
    exact ⟨rfl, rfl, _, _, _, atC (addB_eq ..) rfl, by omega, by omega, rfl, rfl, _, hp, rfl, rdTo_mk hsub (by omega) (by omega) (fun z hz => hb z (List.mem_of_mem_drop hz)) (by omega)⟩
theorem RdTo.trans {I J G G1 G2 : Mem} {kb : Nat} {s1 s2 : RS} (h : RdTo I G G1 kb s1) (h' : RdTo J G1 G2 kb s2) : RdTo J G G2 kb s2 :=
  ⟨h'.1, fun x hx => (h'.2 x hx).trans (h.2 x hx)⟩
theorem RdTo.mono {I J G G1 : Mem} {kb : Nat} {s : RS} (h : RdTo I G G1 kb s) (hle : I.le J) : RdTo J G G1 kb s := ⟨h.1.mono hle, h.2⟩
theorem nextR_range {s : RS} (hb : byteL s.1) : 0 ≤ (nextR s).1 ∧ (nextR s).1 ≤ 18446744073709551615 := by
  unfold nextR
  split
  · decide
  · rename_i h
    simp only [not_or, Decidable.not_not] at h
    obtain ⟨g1, g2, g3, g4, _⟩ := readN_back hb (x := (readN s.1 0).1) (n := (readN s.1 0).2.1) (at_ := 0) (Prod.ext rfl (Prod.ext rfl h.2))
    simp only
    omega
def numQ (s : RS) : Int × RS := (IntKind.i64.wrap (nextR s).1, (nextR s).2.1, (nextR s).2.2 || decide (9223372036854775807 < (nextR s).1))
theorem ct37 (s : RS) (p : Int × RS) (hp : p = numQ s) (kb : Nat) (I G : Mem) (h : Rd I G kb s) :
    CtH Try.prog (fnv 37) #[.pointer (some ⟨kb, 0, none⟩)] I G (fun v I' G' => v = .int .i64 p.1 ∧ RdTo I' G G' kb p.2) := by
  refine viaR (ctG_via (A := { calls := [(5, .g), (10, .g), (16, .st)] }) Try.func37 rfl Try.call37 rfl rfl) (CtH Try.prog (Value.func (Fn.func (45 : Nat)) #[] #[]) #[Value.pointer (some (Addr.mk kb (0 : Nat) none))] I G fun (v : Value) (I' G' : Mem) => ∃ (n : Int), v = Value.int IntKind.u64 n ∧ true = true ∧ true = true ∧ ∃ (b : Bool), atI G' (some (Addr.mk kb (0 : Nat) none)) (1 : Nat) = some (Value.bool b) ∧ Br b (true = true ∧ true = true ∧ ∃ (G'_1 : Mem), PutG G' (some (Addr.mk kb (0 : Nat) none)) (1 : Nat) [Value.bool true] G'_1 ∧ Wr IntKind.i64 n fun (c : Int) => Value.int IntKind.i64 c = Value.int IntKind.i64 (Prod.fst p) ∧ RdTo I' G G'_1 kb (Prod.snd p)) (true = true ∧ true = true ∧ ∃ (G'_1 : Mem), PutG G' (some (Addr.mk kb (0 : Nat) none)) (1 : Nat) [Value.bool (decide ((9223372036854775807 : Int) < n))] G'_1 ∧ Wr IntKind.i64 n fun (c : Int) => Value.int IntKind.i64 c = Value.int IntKind.i64 (Prod.fst p) ∧ RdTo I' G G'_1 kb (Prod.snd p))) (by kernel_rfl) ?_
  have hbs : byteL s.1 := by obtain ⟨_, _, _, _, _, _, _, hb, _⟩ := h; exact hb
  refine (ct45 s kb I G h).mono fun v I1 G1 l1 ⟨hv, hr⟩ => ⟨_, hv, rfl, rfl, (nextR s).2.2, ?_⟩
  obtain ⟨⟨a, n, c, hG, hs, hc, hm, hb, hn⟩, hx⟩ := hr
  have hr := nextR_range hbs
  have fin : ∀ b : Bool, ∃ G', PutG G1 (some ⟨kb, 0, none⟩) 1 [.bool b] G' ∧ RdTo I1 G G' kb ((nextR s).2.1, b) := fun b =>
    ⟨_, put1 hG, ⟨a, n, c, addB_eq .., hs, hc, hm, hb, hn⟩, fun x hxk => (addB_ne _ _ hxk).trans (hx x hxk)⟩
  refine ⟨atC hG rfl, Br.mk (fun hb => ?_) (fun hb => ?_)⟩
  · obtain ⟨G2, g1, g2⟩ := fin true
    refine ⟨rfl, rfl, G2, g1, _, rfl, ?_⟩
    rw [hp, numQ, hb, Bool.true_or]
    exact ⟨rfl, g2⟩
  · obtain ⟨G2, g1, g2⟩ := fin (decide (9223372036854775807 < (nextR s).1))
    refine ⟨rfl, rfl, G2, g1, _, rfl, ?_⟩
    rw [hp, numQ, hb, Bool.false_or]
    exact ⟨rfl, g2⟩
def keyQ (s : RS) : (Int × Int × Int) × RS := (((numQ s).1, (numQ (numQ s).2).1, (numQ (numQ (numQ s).2).2).1), (numQ (numQ (numQ s).2).2).2)
theorem ct38 (s : RS) (p : (Int × Int × Int) × RS) (hp : p = keyQ s) (kb : Nat) (I G : Mem) (h : Rd I G kb s) :
    CtH Try.prog (fnv 38) #[.pointer (some ⟨kb, 0, none⟩)] I G (fun v I' G' => v = .agg #[.int .i64 p.1.1, .int .i64 p.1.2.1, .int .i64 p.1.2.2] ∧ RdTo I' G G' kb p.2) := by
  refine viaR (ctG_via (A := { calls := [(6, .g), (8, .g), (12, .g)] }) Try.func38 rfl Try.call38 rfl rfl) (CtH Try.prog (Value.func (Fn.func (37 : Nat)) #[] #[]) #[Value.pointer (some (Addr.mk kb (0 : Nat) none))] I G fun (v : Value) (I' G' : Mem) => ∃ (n : Int), v = Value.int IntKind.i64 n ∧ CtH Try.prog (Value.func (Fn.func (37 : Nat)) #[] #[]) #[Value.pointer (some (Addr.mk kb (0 : Nat) none))] I' G' fun (v : Value) (I' G' : Mem) => ∃ (n_1 : Int), v = Value.int IntKind.i64 n_1 ∧ CtH Try.prog (Value.func (Fn.func (37 : Nat)) #[] #[]) #[Value.pointer (some (Addr.mk kb (0 : Nat) none))] I' G' fun (v : Value) (I' G' : Mem) => ∃ (n_2 : Int), v = Value.int IntKind.i64 n_2 ∧ Value.agg #[Value.int IntKind.i64 n, Value.int IntKind.i64 n_1, Value.int IntKind.i64 n_2] = Value.agg #[Value.int IntKind.i64 (Prod.fst (Prod.fst p)), Value.int IntKind.i64 (Prod.fst (Prod.snd (Prod.fst p))), Value.int IntKind.i64 (Prod.snd (Prod.snd (Prod.fst p)))] ∧ RdTo I' G G' kb (Prod.snd p)) (by kernel_rfl) ?_
  refine (ct37 s _ rfl kb I G h).mono fun v I1 G1 l1 ⟨hv, h1⟩ => ⟨_, hv, (ct37 _ _ rfl kb I1 G1 h1.1).mono fun v I2 G2 l2 ⟨hv, h2⟩ => ⟨_, hv, (ct37 _ _ rfl kb I2 G2 h2.1).mono fun v I3 G3 l3 ⟨hv, h3⟩ => ⟨_, hv, ?_⟩⟩⟩
  rw [hp]
  exact ⟨rfl, h1.trans (h2.trans h3)⟩
abbrev EvT := (Int × Int × Int) × Int × Int
def evQ (s : RS) : EvT × RS := (((keyQ s).1, (numQ (keyQ s).2).1, unfoldZ (nextR (numQ (keyQ s).2).2).1), (nextR (numQ (keyQ s).2).2).2)
theorem byte_rd {I G : Mem} {kb : Nat} {s : RS} (h : Rd I G kb s) : byteL s.1 := by obtain ⟨_, _, _, _, _, _, _, hb, _⟩ := h; exact hb
theorem ct48 (s : RS) (p : EvT × RS) (hp : p = evQ s) (kb : Nat) (I G : Mem) (h : Rd I G kb s) :
    CtH Try.prog (fnv 48) #[.pointer (some ⟨kb, 0, none⟩)] I G (fun v I' G' => v = .agg #[.int .i64 p.1.1.1, .int .i64 p.1.1.2.1, .int .i64 p.1.1.2.2, .int .i64 p.1.2.1, .int .i64 p.1.2.2] ∧ RdTo I' G G' kb p.2) := by
  refine viaR (ctG_via (A := { calls := [(6, .g), (8, .g), (12, .g)] }) Try.func48 rfl Try.call48 rfl rfl) (CtH Try.prog (Value.func (Fn.func (38 : Nat)) #[] #[]) #[Value.pointer (some (Addr.mk kb (0 : Nat) none))] I G fun (v : Value) (I' G' : Mem) => ∃ (n : Int), ∃ (n_1 : Int), ∃ (n_2 : Int), v = Value.agg #[Value.int IntKind.i64 n, Value.int IntKind.i64 n_1, Value.int IntKind.i64 n_2] ∧ CtH Try.prog (Value.func (Fn.func (37 : Nat)) #[] #[]) #[Value.pointer (some (Addr.mk kb (0 : Nat) none))] I' G' fun (v : Value) (I' G' : Mem) => ∃ (n_3 : Int), v = Value.int IntKind.i64 n_3 ∧ CtH Try.prog (Value.func (Fn.func (45 : Nat)) #[] #[]) #[Value.pointer (some (Addr.mk kb (0 : Nat) none))] I' G' fun (v : Value) (I' G' : Mem) => ∃ (n_4 : Int), v = Value.int IntKind.u64 n_4 ∧ Ct Try.prog (Value.func (Fn.func (44 : Nat)) #[] #[]) #[Value.int IntKind.u64 n_4] I' fun (v : Value) (I' : Mem) => ∃ (n_5 : Int), v = Value.int IntKind.i64 n_5 ∧ Value.agg #[Value.int IntKind.i64 n, Value.int IntKind.i64 n_1, Value.int IntKind.i64 n_2, Value.int IntKind.i64 n_3, Value.int IntKind.i64 n_5] = Value.agg #[Value.int IntKind.i64 (Prod.fst (Prod.fst (Prod.fst p))), Value.int IntKind.i64 (Prod.fst (Prod.snd (Prod.fst (Prod.fst p)))), Value.int IntKind.i64 (Prod.snd (Prod.snd (Prod.fst (Prod.fst p)))), Value.int IntKind.i64 (Prod.fst (Prod.snd (Prod.fst p))), Value.int IntKind.i64 (Prod.snd (Prod.snd (Prod.fst p)))] ∧ RdTo I' G G' kb (Prod.snd p)) (by kernel_rfl) ?_
  refine (ct38 s _ rfl kb I G h).mono fun v I1 G1 l1 ⟨hv, h1⟩ => ⟨_, _, _, hv, (ct37 _ _ rfl kb I1 G1 h1.1).mono fun v I2 G2 l2 ⟨hv, h2⟩ => ⟨_, hv, (ct45 _ kb I2 G2 h2.1).mono fun v I3 G3 l3 ⟨hv, h3⟩ => ⟨_, hv, (ct44 _ (nextR_range (byte_rd h2.1)) I3).mono fun v I4 l4 hv => ⟨_, hv, ?_⟩⟩⟩⟩
  rw [hp]
  exact ⟨rfl, h1.trans (h2.trans (h3.mono l4))⟩
def valQ (s : RS) : Int × RS := (unfoldZ (nextR s).1, (nextR s).2)
theorem ct43 (s : RS) (p : Int × RS) (hp : p = valQ s) (kb kv : Nat) (el : TypeId) (I G : Mem) (h : Rd I G kb s) (hv : G kv = some (.cells #[.pointer (some ⟨kb, 0, none⟩)] el (0, 0))) :
    CtH Try.prog (fnv 43) #[.pointer (some ⟨kv, 0, none⟩)] I G (fun v I' G' => v = .int .i64 p.1 ∧ RdTo I' G G' kb p.2) := by
  refine viaR (ctG_via (A := { calls := [(2, .g), (3, .g)] }) Try.func43 rfl Try.call43 rfl rfl) (∃ (a : Option Addr), atI G (some (Addr.mk kv (0 : Nat) none)) (0 : Nat) = some (Value.pointer a) ∧ CtH Try.prog (Value.func (Fn.func (45 : Nat)) #[] #[]) #[Value.pointer a] I G fun (v : Value) (I' G' : Mem) => ∃ (n : Int), v = Value.int IntKind.u64 n ∧ Ct Try.prog (Value.func (Fn.func (44 : Nat)) #[] #[]) #[Value.int IntKind.u64 n] I' fun (v : Value) (I' : Mem) => ∃ (n : Int), v = Value.int IntKind.i64 n ∧ Value.int IntKind.i64 n = Value.int IntKind.i64 (Prod.fst p) ∧ RdTo I' G G' kb (Prod.snd p)) (by kernel_rfl) ?_
  refine ⟨_, atC hv rfl, (ct45 s kb I G h).mono fun v I1 G1 l1 ⟨hv, h1⟩ => ⟨_, hv, (ct44 _ (nextR_range (byte_rd h)) I1).mono fun v I2 l2 hv => ⟨_, hv, ?_⟩⟩⟩
  rw [hp]
  exact ⟨rfl, h1.mono l2⟩
abbrev HdT := Int × Int × Int × Int × Int
def hdQ (s : RS) : HdT × RS := (((numQ s).1, (numQ (numQ s).2).1, (numQ (numQ (numQ s).2).2).1, (numQ (numQ (numQ (numQ s).2).2).2).1, IntKind.u8.wrap (numQ (numQ (numQ (numQ (numQ s).2).2).2).2).1), ((numQ (numQ (numQ (numQ (numQ s).2).2).2).2).2.1, (numQ (numQ (numQ (numQ (numQ s).2).2).2).2).2.2 || decide (255 < (numQ (numQ (numQ (numQ (numQ s).2).2).2).2).1)))
theorem setBad {I G : Mem} {kb : Nat} {s : RS} (h : Rd I G kb s) (b : Bool) : ∃ G', PutG G (some ⟨kb, 0, none⟩) 1 [.bool b] G' ∧ RdTo I G G' kb (s.1, b) := by
  obtain ⟨a, n, c, hG, hs, hc, hm, hb, hn⟩ := h
  exact ⟨_, put1 hG, ⟨a, n, c, addB_eq .., hs, hc, hm, hb, hn⟩, fun x hxk => addB_ne _ _ hxk⟩
theorem Rd.bad {I G : Mem} {kb : Nat} {s : RS} (h : Rd I G kb s) : atI G (some ⟨kb, 0, none⟩) 1 = some (.bool s.2) := by
  obtain ⟨a, n, c, hG, _⟩ := h
  exact atC hG rfl
theorem ct54 (s : RS) (p : HdT × RS) (hp : p = hdQ s) (kb : Nat) (I G : Mem) (h : Rd I G kb s) :
    CtH Try.prog (fnv 54) #[.pointer (some ⟨kb, 0, none⟩)] I G (fun v I' G' => v = .agg #[.int .i64 p.1.1, .int .i64 p.1.2.1, .int .i64 p.1.2.2.1, .int .i64 p.1.2.2.2.1, .int .u8 p.1.2.2.2.2] ∧ RdTo I' G G' kb p.2) := by
  refine viaR (ctG_via (A := { calls := [(9, .g), (11, .g), (13, .g), (15, .g), (17, .g), (22, .g), (28, .st)] }) Try.func54 rfl Try.call54 rfl rfl) (CtH Try.prog (Value.func (Fn.func (37 : Nat)) #[] #[]) #[Value.pointer (some (Addr.mk kb (0 : Nat) none))] I G fun (v : Value) (I' G' : Mem) => ∃ (n : Int), v = Value.int IntKind.i64 n ∧ CtH Try.prog (Value.func (Fn.func (37 : Nat)) #[] #[]) #[Value.pointer (some (Addr.mk kb (0 : Nat) none))] I' G' fun (v : Value) (I' G' : Mem) => ∃ (n_1 : Int), v = Value.int IntKind.i64 n_1 ∧ CtH Try.prog (Value.func (Fn.func (37 : Nat)) #[] #[]) #[Value.pointer (some (Addr.mk kb (0 : Nat) none))] I' G' fun (v : Value) (I' G' : Mem) => ∃ (n_2 : Int), v = Value.int IntKind.i64 n_2 ∧ CtH Try.prog (Value.func (Fn.func (37 : Nat)) #[] #[]) #[Value.pointer (some (Addr.mk kb (0 : Nat) none))] I' G' fun (v : Value) (I' G' : Mem) => ∃ (n_3 : Int), v = Value.int IntKind.i64 n_3 ∧ CtH Try.prog (Value.func (Fn.func (37 : Nat)) #[] #[]) #[Value.pointer (some (Addr.mk kb (0 : Nat) none))] I' G' fun (v : Value) (I' G' : Mem) => ∃ (n_4 : Int), v = Value.int IntKind.i64 n_4 ∧ true = true ∧ true = true ∧ ∃ (b : Bool), atI G' (some (Addr.mk kb (0 : Nat) none)) (1 : Nat) = some (Value.bool b) ∧ Br b (true = true ∧ true = true ∧ ∃ (G'_1 : Mem), PutG G' (some (Addr.mk kb (0 : Nat) none)) (1 : Nat) [Value.bool true] G'_1 ∧ Wr IntKind.u8 n_4 fun (c : Int) => Value.agg #[Value.int IntKind.i64 n, Value.int IntKind.i64 n_1, Value.int IntKind.i64 n_2, Value.int IntKind.i64 n_3, Value.int IntKind.u8 c] = Value.agg #[Value.int IntKind.i64 (Prod.fst (Prod.fst p)), Value.int IntKind.i64 (Prod.fst (Prod.snd (Prod.fst p))), Value.int IntKind.i64 (Prod.fst (Prod.snd (Prod.snd (Prod.fst p)))), Value.int IntKind.i64 (Prod.fst (Prod.snd (Prod.snd (Prod.snd (Prod.fst p))))), Value.int IntKind.u8 (Prod.snd (Prod.snd (Prod.snd (Prod.snd (Prod.fst p)))))] ∧ RdTo I' G G'_1 kb (Prod.snd p)) (true = true ∧ true = true ∧ ∃ (G'_1 : Mem), PutG G' (some (Addr.mk kb (0 : Nat) none)) (1 : Nat) [Value.bool (decide ((255 : Int) < n_4))] G'_1 ∧ Wr IntKind.u8 n_4 fun (c : Int) => Value.agg #[Value.int IntKind.i64 n, Value.int IntKind.i64 n_1, Value.int IntKind.i64 n_2, Value.int IntKind.i64 n_3, Value.int IntKind.u8 c] = Value.agg #[Value.int IntKind.i64 (Prod.fst (Prod.fst p)), Value.int IntKind.i64 (Prod.fst (Prod.snd (Prod.fst p))), Value.int IntKind.i64 (Prod.fst (Prod.snd (Prod.snd (Prod.fst p)))), Value.int IntKind.i64 (Prod.fst (Prod.snd (Prod.snd (Prod.snd (Prod.fst p))))), Value.int IntKind.u8 (Prod.snd (Prod.snd (Prod.snd (Prod.snd (Prod.fst p)))))] ∧ RdTo I' G G'_1 kb (Prod.snd p))) (by kernel_rfl) ?_
  refine (ct37 s _ rfl kb I G h).mono fun v I1 G1 l1 ⟨hv, h1⟩ => ⟨_, hv, (ct37 _ _ rfl kb I1 G1 h1.1).mono fun v I2 G2 l2 ⟨hv, h2⟩ => ⟨_, hv, (ct37 _ _ rfl kb I2 G2 h2.1).mono fun v I3 G3 l3 ⟨hv, h3⟩ => ⟨_, hv, (ct37 _ _ rfl kb I3 G3 h3.1).mono fun v I4 G4 l4 ⟨hv, h4⟩ => ⟨_, hv, (ct37 _ _ rfl kb I4 G4 h4.1).mono fun v I5 G5 l5 ⟨hv, h5⟩ => ⟨_, hv, rfl, rfl, _, h5.1.bad, Br.mk (fun hb => ?_) (fun hb => ?_)⟩⟩⟩⟩⟩
  · obtain ⟨G6, g1, g2⟩ := setBad h5.1 true
    refine ⟨rfl, rfl, G6, g1, _, rfl, ?_⟩
    rw [hp, hdQ, hb, Bool.true_or]
    exact ⟨rfl, h1.trans (h2.trans (h3.trans (h4.trans (h5.trans g2))))⟩
  · obtain ⟨G6, g1, g2⟩ := setBad h5.1 (decide (255 < (numQ (numQ (numQ (numQ (numQ s).2).2).2).2).1))
    refine ⟨rfl, rfl, G6, g1, _, rfl, ?_⟩
    rw [hp, hdQ, hb, Bool.false_or]
    exact ⟨rfl, h1.trans (h2.trans (h3.trans (h4.trans (h5.trans g2))))⟩
/-- A string of bytes. -/
def strB (bs : List Int) : ByteArray := ⟨(u8s bs).toArray⟩
abbrev PtT := Int × List Int × Int
def szQ (s : RS) : Int × RS := numQ (numQ (numQ s).2).2
def portQ (s : RS) : PtT × RS :=
  if (szQ s).2.2 = true ∨ ((szQ s).2.1.length : Int) < (szQ s).1 then ((0, [], 0), ((szQ s).2.1, true))
  else (((numQ s).1, (szQ s).2.1.take (szQ s).1.toNat, (numQ (numQ s).2).1), ((szQ s).2.1.drop (szQ s).1.toNat, false))
theorem numQ_nn {s : RS} (hb : byteL s.1) (h : (numQ s).2.2 = false) : 0 ≤ (numQ s).1 := by
  have hr := nextR_range hb
  simp only [numQ, Bool.or_eq_false_iff, decide_eq_false_iff_not] at h ⊢
  rw [IntWalk.i64_in _ ⟨by omega, by omega⟩]
  exact hr.1
theorem ct51 (s : RS) (p : PtT × RS) (hp : p = portQ s) (kb : Nat) (I G : Mem) (h : Rd I G kb s) :
    CtH Try.prog (fnv 51) #[.pointer (some ⟨kb, 0, none⟩)] I G (fun v I' G' => v = .agg #[.int .i64 p.1.1, .string (strB p.1.2.1), .int .i64 p.1.2.2] ∧ RdTo I' G G' kb p.2) := by
  refine viaR (ctG_via (A := { calls := [(8, .g), (10, .g), (12, .g), (17, .g), (23, .g), (28, .st), (32, .g), (37, .g), (45, .g), (49, .st)] }) Try.func51 rfl Try.call51 rfl rfl) (CtH Try.prog (Value.func (Fn.func (37 : Nat)) #[] #[]) #[Value.pointer (some (Addr.mk kb (0 : Nat) none))] I G fun (v : Value) (I' G' : Mem) => ∃ (n : Int), v = Value.int IntKind.i64 n ∧ CtH Try.prog (Value.func (Fn.func (37 : Nat)) #[] #[]) #[Value.pointer (some (Addr.mk kb (0 : Nat) none))] I' G' fun (v : Value) (I' G' : Mem) => ∃ (n_1 : Int), v = Value.int IntKind.i64 n_1 ∧ CtH Try.prog (Value.func (Fn.func (37 : Nat)) #[] #[]) #[Value.pointer (some (Addr.mk kb (0 : Nat) none))] I' G' fun (v : Value) (I' G' : Mem) => ∃ (n_2 : Int), v = Value.int IntKind.i64 n_2 ∧ true = true ∧ true = true ∧ ∃ (b : Bool), atI G' (some (Addr.mk kb (0 : Nat) none)) (1 : Nat) = some (Value.bool b) ∧ Br b (true = true ∧ true = true ∧ ∃ (G'_1 : Mem), PutG G' (some (Addr.mk kb (0 : Nat) none)) (1 : Nat) [Value.bool true] G'_1 ∧ true = true ∧ true = true ∧ ∃ (b : Bool), atI G'_1 (some (Addr.mk kb (0 : Nat) none)) (1 : Nat) = some (Value.bool b) ∧ Br b (Value.agg #[Value.int IntKind.i64 (0 : Int), Value.string (ByteArray.mk #[]), Value.int IntKind.i64 (0 : Int)] = Value.agg #[Value.int IntKind.i64 (Prod.fst (Prod.fst p)), Value.string (strB (Prod.fst (Prod.snd (Prod.fst p)))), Value.int IntKind.i64 (Prod.snd (Prod.snd (Prod.fst p)))] ∧ RdTo I' G G'_1 kb (Prod.snd p)) (true = true ∧ true = true ∧ ∃ (a : Option Addr), ∃ (n_3 : Nat), ∃ (c : Nat), atI G'_1 (some (Addr.mk kb (0 : Nat) none)) (0 : Nat) = some (Value.slice a n_3 c) ∧ (0 : Int) ≤ n_2 ∧ n_2 ≤ (↑c : Int) ∧ ∃ (q : List UInt8), List.length q = Int.toNat n_2 ∧ (a = none → Int.toNat n_2 = (0 : Nat)) ∧ (∀ (j : Nat) (b : UInt8), q[j]? = some b → atI I' a j = some (Value.int IntKind.u8 (↑(UInt8.toNat b) : Int))) ∧ true = true ∧ true = true ∧ ∃ (a : Option Addr), ∃ (n_4 : Nat), ∃ (c : Nat), atI G'_1 (some (Addr.mk kb (0 : Nat) none)) (0 : Nat) = some (Value.slice a n_4 c) ∧ (0 : Int) ≤ n_2 ∧ n_2 ≤ (↑n_4 : Int) ∧ true = true ∧ true = true ∧ ∃ (G' : Mem), PutG G'_1 (some (Addr.mk kb (0 : Nat) none)) (0 : Nat) [Value.slice (sladdr a c (Int.toNat n_2) (1 : Nat)) (n_4 - Int.toNat n_2) (c - Int.toNat n_2)] G' ∧ Value.agg #[Value.int IntKind.i64 n, Value.string (ByteArray.mk (List.toArray q)), Value.int IntKind.i64 n_1] = Value.agg #[Value.int IntKind.i64 (Prod.fst (Prod.fst p)), Value.string (strB (Prod.fst (Prod.snd (Prod.fst p)))), Value.int IntKind.i64 (Prod.snd (Prod.snd (Prod.fst p)))] ∧ RdTo I' G G' kb (Prod.snd p))) (true = true ∧ true = true ∧ ∃ (a : Option Addr), ∃ (n_3 : Nat), ∃ (c : Nat), atI G' (some (Addr.mk kb (0 : Nat) none)) (0 : Nat) = some (Value.slice a n_3 c) ∧ true = true ∧ true = true ∧ ∃ (G'_1 : Mem), PutG G' (some (Addr.mk kb (0 : Nat) none)) (1 : Nat) [Value.bool (decide ((↑n_3 : Int) < n_2))] G'_1 ∧ true = true ∧ true = true ∧ ∃ (b : Bool), atI G'_1 (some (Addr.mk kb (0 : Nat) none)) (1 : Nat) = some (Value.bool b) ∧ Br b (Value.agg #[Value.int IntKind.i64 (0 : Int), Value.string (ByteArray.mk #[]), Value.int IntKind.i64 (0 : Int)] = Value.agg #[Value.int IntKind.i64 (Prod.fst (Prod.fst p)), Value.string (strB (Prod.fst (Prod.snd (Prod.fst p)))), Value.int IntKind.i64 (Prod.snd (Prod.snd (Prod.fst p)))] ∧ RdTo I' G G'_1 kb (Prod.snd p)) (true = true ∧ true = true ∧ ∃ (a : Option Addr), ∃ (n_4 : Nat), ∃ (c : Nat), atI G'_1 (some (Addr.mk kb (0 : Nat) none)) (0 : Nat) = some (Value.slice a n_4 c) ∧ (0 : Int) ≤ n_2 ∧ n_2 ≤ (↑c : Int) ∧ ∃ (q : List UInt8), List.length q = Int.toNat n_2 ∧ (a = none → Int.toNat n_2 = (0 : Nat)) ∧ (∀ (j : Nat) (b : UInt8), q[j]? = some b → atI I' a j = some (Value.int IntKind.u8 (↑(UInt8.toNat b) : Int))) ∧ true = true ∧ true = true ∧ ∃ (a : Option Addr), ∃ (n_5 : Nat), ∃ (c : Nat), atI G'_1 (some (Addr.mk kb (0 : Nat) none)) (0 : Nat) = some (Value.slice a n_5 c) ∧ (0 : Int) ≤ n_2 ∧ n_2 ≤ (↑n_5 : Int) ∧ true = true ∧ true = true ∧ ∃ (G' : Mem), PutG G'_1 (some (Addr.mk kb (0 : Nat) none)) (0 : Nat) [Value.slice (sladdr a c (Int.toNat n_2) (1 : Nat)) (n_5 - Int.toNat n_2) (c - Int.toNat n_2)] G' ∧ Value.agg #[Value.int IntKind.i64 n, Value.string (ByteArray.mk (List.toArray q)), Value.int IntKind.i64 n_1] = Value.agg #[Value.int IntKind.i64 (Prod.fst (Prod.fst p)), Value.string (strB (Prod.fst (Prod.snd (Prod.fst p)))), Value.int IntKind.i64 (Prod.snd (Prod.snd (Prod.fst p)))] ∧ RdTo I' G G' kb (Prod.snd p)))) (by kernel_rfl) ?_
  refine (ct37 s _ rfl kb I G h).mono fun v I1 G1 l1 ⟨hv, h1⟩ => ⟨_, hv, (ct37 _ _ rfl kb I1 G1 h1.1).mono fun v I2 G2 l2 ⟨hv, h2⟩ => ⟨_, hv, (ct37 _ _ rfl kb I2 G2 h2.1).mono fun v I3 G3 l3 ⟨hv, h3⟩ => ⟨_, hv, rfl, rfl, _, h3.1.bad, ?_⟩⟩⟩
  have h3 : RdTo I3 G2 G3 kb (szQ s).2 := h3
  have hb2 := byte_rd h2.1
  have hnn : (szQ s).2.2 = false → 0 ≤ (szQ s).1 := numQ_nn hb2
  have hz : (numQ (numQ (numQ s).2).2) = szQ s := rfl
  rw [hz]
  have h03 : ∀ {G4 : Mem} {t : RS}, RdTo I3 G3 G4 kb t → RdTo I3 G G4 kb t := fun g => h1.trans (h2.trans (h3.trans g))
  obtain ⟨⟨a, n, c, hG, hs, hc, hm, hbb, hn⟩, hx⟩ := id h3
  have hln := hs.numLen
  have R : ∀ {b : Bool}, RdTo I3 G3 (addB G3 kb (.cells #[.slice a n c, .bool b] 97 (0, 0))) kb ((szQ s).2.1, b) := fun {b} => ⟨⟨a, n, c, addB_eq .., hs, hc, hm, hbb, hn⟩, fun x hxk => addB_ne _ _ hxk⟩
  refine Br.mk (fun hb => ?_) (fun hb => ⟨rfl, rfl, _, _, _, atC hG rfl, rfl, rfl, _, put1 hG, rfl, rfl, _, atC (addB_eq ..) rfl, Br.mk (fun hlt => ?_) (fun hge => ?_)⟩)
  · refine ⟨rfl, rfl, _, put1 hG, rfl, rfl, _, atC (addB_eq ..) rfl, Br.t rfl ?_⟩
    rw [hp, portQ, if_pos (.inl hb)]
    exact ⟨rfl, h03 R⟩
  · rw [hlt]
    have hlt := of_decide_eq_true hlt
    rw [hp, portQ, if_pos (.inr (by omega))]
    exact ⟨rfl, h03 R⟩
  · have hge' := of_decide_eq_false hge
    have h0 := hnn hb
    have hs2 := sl_take hs (k := (szQ s).1.toNat) (by omega)
    obtain ⟨q1, q2, q3⟩ := u8s_at (fun z hz => hbb z (List.mem_of_mem_take hz)) hs2
    have hsub := sl_sub hs (f := (szQ s).1.toNat) (t := n) (by omega) (by omega) hc
    rw [List.take_of_length_le (by rw [List.length_drop]; omega)] at hsub
    refine ⟨rfl, rfl, _, _, _, atC (addB_eq ..) rfl, h0, by omega, _, q1, q2, q3, rfl, rfl, _, _, _, atC (addB_eq ..) rfl, h0, by omega, rfl, rfl, _, put0 (addB_eq ..), ?_⟩
    rw [hp, portQ, if_neg (by rw [hb]; simp; omega)]
    refine ⟨rfl, h03 ?_⟩
    rw [hge]
    exact rdTo_mk hsub (by omega) (by omega) (fun z hz => hbb z (List.mem_of_mem_drop hz)) (by omega)
open Go Go.Proofs Go.SE Go.RowKit
set_option linter.unusedVariables false
theorem join_comm {A B : Mem} (h : A.apart B) : join A B = join B A := by
  funext b
  cases hA : A b with
  | some o =>
    have hB := (h b).resolve_left (by rw [hA]; simp)
    rw [join_some hA, join_none hB, hA]
  | none =>
    rw [join_none hA]
    cases hB : B b with
    | some o => rw [join_some hB]
    | none => rw [join_none hB, hA]
theorem apart_comm {A B : Mem} (h : A.apart B) : B.apart A := fun b => (h b).symm
/-- All that is taken, until nothing is left, or it was bad. -/
def runAll {α : Type} (take : RS → α × RS) : Nat → RS → List α × RS
  | 0, s => ([], s)
  | k + 1, s => if s.1 = [] ∨ s.2 = true then ([], s) else ((take s).1 :: (runAll take k (take s).2).1, (runAll take k (take s).2).2)
theorem runAll_done {α : Type} {take : RS → α × RS} {s : RS} (h : s.1 = [] ∨ s.2 = true) : ∀ k, runAll take k s = ([], s)
  | 0 => rfl
  | k + 1 => by rw [runAll, if_pos h]
theorem runAll_step {α : Type} {take : RS → α × RS} {k : Nat} {s : RS} (h : ¬ (s.1 = [] ∨ s.2 = true)) : runAll take (k + 1) s = ((take s).1 :: (runAll take k (take s).2).1, (runAll take k (take s).2).2) := by rw [runAll, if_neg h]
/-- What a taker does to the reader. -/
def TakeOk {α : Type} (take : RS → α × RS) (enc : α → Value) (tv : Value) (X : Mem) (kb : Nat) (I : Mem) : Prop :=
  ∀ (s : RS) (I' G : Mem), I.le I' → X.le G → Rd I' G kb s → CtH Try.prog tv #[] I' G (fun v I2 G2 => v = enc (take s).1 ∧ RdTo I2 G G2 kb (take s).2)
def Dec {α : Type} (take : RS → α × RS) : Prop := ∀ s : RS, byteL s.1 → s.1 ≠ [] → s.2 = false → (take s).2.1.length < s.1.length
def encA {α : Type} (enc : α → Value) (l : List α) (k : Nat) (args : Array Value) (_ : Mem) : Prop := ∃ x, l[k]? = some x ∧ args = #[enc x]
def R0A (X : Mem) (kb : Nat) (I : Mem) (s : RS) (G : Mem) : Prop := Rd I G kb s ∧ X.le G
def R1A (X : Mem) (kb : Nat) (s : RS) (I G : Mem) : Prop := Rd I G kb s ∧ X.le G
/-- What is known where a round begins. -/
def invA {α : Type} (take : RS → α × RS) (N : Nat) (s : RS) (J : Nat → Mem → Mem → Prop) (X : Mem) (kb : Nat) (j : Nat) (I' G' : Mem) : Prop :=
  ∃ (t : RS) (pre : List α) (Gc Gr : Mem), G' = join Gc Gr ∧ Gc.apart Gr ∧ J pre.length I' Gc ∧ Rd I' Gr kb t ∧ X.le Gr ∧ t.1.length ≤ j ∧ runAll take N s = (pre ++ (runAll take j t).1, (runAll take j t).2)
theorem le_rd {I G G' : Mem} {kb : Nat} {s : RS} {X : Mem} (hX : X.le G) (hk : X kb = none) (h : RdTo I G G' kb s) : X.le G' := fun b o hb => by
  by_cases hbk : b = kb
  · subst hbk; rw [hk] at hb; cases hb
  · rw [h.2 b hbk]; exact hX b o hb

theorem gives77 (take : RS → Int × RS) (hd : Dec take) (s : RS) (kb k1 k2 : Nat) (f : FuncId) (fa fb : Array Value) (X : Mem) (hX : X kb = none) (I : Mem) (h1 : I k1 = some (.cells #[.pointer (some ⟨kb, 0, none⟩)] 95)) (h2 : I k2 = some (.cells #[.func (.func f) fa fb] 98))
    (T : TakeOk take (fun x => .int .i64 x) (.func (.func f) fa fb) X kb I) :
    GivesR Try.prog (.func (.func 77) #[] #[.pointer (some ⟨k1, 0, none⟩), .pointer (some ⟨k2, 0, none⟩)]) I (runAll take s.1.length s).1.length (encA (fun x => .int .i64 x) (runAll take s.1.length s).1) (R0A X kb I s) (R1A X kb (runAll take s.1.length s).2) := by
  refine ⟨fun Y W => ⟨77, _, run_semV_func.trans (Try.call77 _ _)⟩, fun Y J D I0 Gc Gr hI0 hJ0 hR0 hap hJ hD hY => ?_⟩
  refine viaR (ctG_via (A := { gloops := [(0, ⟨[(0, .keep), (1, .keep), (2, .keep)], [], [], fun _ _ _ _ => True, fun _ _ => 0⟩, fun j _ _ I' G' => invA take s.1.length s J X kb j I' G')], calls := [(8, .g), (15, .g), (19, .g), (22, .g)] }) Try.func77 rfl Try.call77 rfl rfl) ((SV.v Y = SV.v Y ∧ SV.v (Value.pointer (some (Addr.mk k1 (0 : Nat) none))) = SV.v (Value.pointer (some (Addr.mk k1 (0 : Nat) none))) ∧ SV.v (Value.pointer (some (Addr.mk k2 (0 : Nat) none))) = SV.v (Value.pointer (some (Addr.mk k2 (0 : Nat) none))) ∧ ∃ (j : Nat), invA take (List.length (Prod.fst s)) s J X kb j I0 (join Gc Gr)) ∧ ∀ (I' G' : Mem), Mem.le I0 I' → ∀ (j : Nat), invA take (List.length (Prod.fst s)) s J X kb j I' G' → ∃ (a : Option Addr), atI I' (some (Addr.mk k1 (0 : Nat) none)) (0 : Nat) = some (Value.pointer a) ∧ Option.isSome a = true ∧ Option.isSome a = true ∧ ∃ (a_1 : Option Addr), ∃ (n : Nat), ∃ (c : Nat), atI G' a (0 : Nat) = some (Value.slice a_1 n c) ∧ Br (decide ((0 : Int) < (↑n : Int))) (∃ (a : Option Addr), atI I' (some (Addr.mk k1 (0 : Nat) none)) (0 : Nat) = some (Value.pointer a) ∧ Option.isSome a = true ∧ Option.isSome a = true ∧ ∃ (b : Bool), atI G' a (1 : Nat) = some (Value.bool b) ∧ Br (!b) (∃ (x : Value), atI I' (some (Addr.mk k2 (0 : Nat) none)) (0 : Nat) = some x ∧ CtH Try.prog x #[] I' G' fun (v : Value) (I' G' : Mem) => ∃ (n : Int), v = Value.int IntKind.i64 n ∧ CtH Try.prog Y #[Value.int IntKind.i64 n] I' G' fun (v : Value) (I' G' : Mem) => ∃ (b : Bool), v = Value.bool b ∧ Br (!b) (∃ (Gc' : Mem), ∃ (Gr' : Mem), G' = join Gc' Gr' ∧ (∀ (b : Nat), Gc' b = none ∨ Gr' b = none) ∧ (J (List.length (Prod.fst (runAll take (List.length (Prod.fst s)) s))) I' Gc' ∧ R1A X kb (Prod.snd (runAll take (List.length (Prod.fst s)) s)) I' Gr' ∨ D I' Gc')) (SV.v Y = SV.v Y ∧ SV.v (Value.pointer (some (Addr.mk k1 (0 : Nat) none))) = SV.v (Value.pointer (some (Addr.mk k1 (0 : Nat) none))) ∧ SV.v (Value.pointer (some (Addr.mk k2 (0 : Nat) none))) = SV.v (Value.pointer (some (Addr.mk k2 (0 : Nat) none))) ∧ ∃ (j' : Nat), j' < j ∧ invA take (List.length (Prod.fst s)) s J X kb j' I' G')) (∃ (Gc' : Mem), ∃ (Gr' : Mem), G' = join Gc' Gr' ∧ (∀ (b : Nat), Gc' b = none ∨ Gr' b = none) ∧ (J (List.length (Prod.fst (runAll take (List.length (Prod.fst s)) s))) I' Gc' ∧ R1A X kb (Prod.snd (runAll take (List.length (Prod.fst s)) s)) I' Gr' ∨ D I' Gc'))) (∃ (Gc' : Mem), ∃ (Gr' : Mem), G' = join Gc' Gr' ∧ (∀ (b : Nat), Gc' b = none ∨ Gr' b = none) ∧ (J (List.length (Prod.fst (runAll take (List.length (Prod.fst s)) s))) I' Gc' ∧ R1A X kb (Prod.snd (runAll take (List.length (Prod.fst s)) s)) I' Gr' ∨ D I' Gc'))) (by kernel_rfl) ?_
  have hmx : maxLen = 9223372036854775807 := by decide
  refine ⟨⟨rfl, rfl, rfl, s.1.length, s, [], Gc, Gr, rfl, hap, hJ0, hR0.1.mono hI0, hR0.2, Nat.le_refl _, rfl⟩, ?_⟩
  intro I1 G1 l1 j ⟨t, pre, Gc1, Gr1, hG, hap1, hJ1, hrd, hXG, hlen, hrun⟩
  subst hG
  have c1 : atI I1 (some ⟨k1, 0, none⟩) 0 = some (.pointer (some ⟨kb, 0, none⟩)) := atC (l1 _ _ (hI0 _ _ h1)) rfl
  have c2 : atI I1 (some ⟨k2, 0, none⟩) 0 = some (.func (.func f) fa fb) := atC (l1 _ _ (hI0 _ _ h2)) rfl
  obtain ⟨a, n, c, hGr, hs, hc, hm, hb, hn⟩ := id hrd
  have hGj := join_right hap1 hGr
  have hln := hs.numLen
  have done : (t.1 = [] ∨ t.2 = true) → ∃ Gc' Gr', join Gc1 Gr1 = join Gc' Gr' ∧ Gc'.apart Gr' ∧ ((J (runAll take s.1.length s).1.length I1 Gc' ∧ R1A X kb (runAll take s.1.length s).2 I1 Gr') ∨ D I1 Gc') := fun he => by
    rw [runAll_done he, List.append_nil] at hrun
    rw [hrun]
    exact ⟨Gc1, Gr1, rfl, hap1, .inl ⟨hJ1, hrd, hXG⟩⟩
  refine ⟨_, c1, rfl, rfl, _, _, _, atC hGj rfl, Br.mk (fun hpos => ?_) (fun hzero => ?_)⟩
  rotate_left
  · have hzero := of_decide_eq_false hzero
    exact done (.inl (List.eq_nil_of_length_eq_zero (by omega)))
  have hpos := of_decide_eq_true hpos
  refine ⟨_, c1, rfl, rfl, _, atC hGj rfl, Br.mk (fun hnb => ?_) (fun hbad => ?_)⟩
  rotate_left
  · exact done (.inr (by simpa using hbad))
  have hnb : t.2 = false := by simpa using hnb
  have hne : t.1 ≠ [] := fun h => by rw [h] at hln; simp at hln; omega
  have hgo : ¬ (t.1 = [] ∨ t.2 = true) := by rw [hnb]; simpa using hne
  obtain ⟨j', rfl⟩ : ∃ j', j = j' + 1 := ⟨j - 1, by omega⟩
  rw [runAll_step hgo] at hrun
  refine ⟨_, c2, ?_⟩
  rw [join_comm hap1]
  refine ((T t I1 Gr1 (Mem.le_trans hI0 l1) hXG hrd).frame (apart_comm hap1)).mono ?_
  rintro v I2 G2 l2 ⟨Gr2, rfl, hap2, hv, hto⟩
  refine ⟨_, hv, ?_⟩
  rw [join_comm hap2]
  have hk := hd t hb hne hnb
  have hget : (runAll take s.1.length s).1[pre.length]? = some (take t).1 := by rw [hrun]; simp
  have hlt : pre.length < (runAll take s.1.length s).1.length := (List.getElem?_eq_some_iff.1 hget).1
  refine ((hY pre.length I2 Gc1 _ hlt (Mem.le_trans l1 l2) (hJ _ _ _ _ hJ1 l2) ⟨_, hget, rfl⟩).frame (apart_comm hap2)).mono ?_
  rintro v I3 G3 l3 ⟨Gc3, rfl, hap3, hv⟩
  rcases hv with ⟨hv, hj⟩ | ⟨hv, hdd⟩
  · refine ⟨true, hv, Br.f rfl ⟨rfl, rfl, rfl, j', Nat.lt_succ_self _, (take t).2, pre ++ [(take t).1], Gc3, Gr2, rfl, hap3, by rw [List.length_append]; exact hj, hto.1.mono l3, le_rd hXG hX hto, by omega, ?_⟩⟩
    rw [hrun, List.append_assoc]; rfl
  · exact ⟨false, hv, Br.t rfl ⟨Gc3, Gr2, rfl, hap3, .inr hdd⟩⟩
theorem ct40 (kb : Nat) (f : FuncId) (fa fb : Array Value) (I : Mem) :
    Ct Try.prog (fnv 40) #[.pointer (some ⟨kb, 0, none⟩), .func (.func f) fa fb] I (fun v I' => ∃ k1 k2, v = .func (.func 77) #[] #[.pointer (some ⟨k1, 0, none⟩), .pointer (some ⟨k2, 0, none⟩)] ∧ I' k1 = some (.cells #[.pointer (some ⟨kb, 0, none⟩)] 95) ∧ I' k2 = some (.cells #[.func (.func f) fa fb] 98)) := by
  refine viaR (ct_via (A := {}) Try.func40 rfl Try.call40 rfl rfl) (∀ (b : Nat) (I' : Mem), Mem.le I I' → I' b = some (Obj.cells #[Value.pointer (some (Addr.mk kb (0 : Nat) none))] (95 : Nat)) → ∀ (b_1 : Nat) (I'_1 : Mem), Mem.le I' I'_1 → I'_1 b_1 = some (Obj.cells #[Value.func (Fn.func f) fa fb] (98 : Nat)) → ∃ (k1 : Nat), ∃ (k2 : Nat), Value.func (Fn.func (77 : Nat)) #[] #[Value.pointer (some (Addr.mk b (0 : Nat) none)), Value.pointer (some (Addr.mk b_1 (0 : Nat) none))] = Value.func (Fn.func (77 : Nat)) #[] #[Value.pointer (some (Addr.mk k1 (0 : Nat) none)), Value.pointer (some (Addr.mk k2 (0 : Nat) none))] ∧ I'_1 k1 = some (Obj.cells #[Value.pointer (some (Addr.mk kb (0 : Nat) none))] (95 : Nat)) ∧ I'_1 k2 = some (Obj.cells #[Value.func (Fn.func f) fa fb] (98 : Nat))) (by kernel_rfl) ?_
  exact fun b I1 l1 h1 b1 I2 l2 h2 => ⟨b, b1, rfl, l2 _ _ h1, h2⟩

theorem gives79 (take : RS → Int × RS) (hd : Dec take) (s : RS) (kb k1 k2 : Nat) (f : FuncId) (fa fb : Array Value) (X : Mem) (hX : X kb = none) (I : Mem) (h1 : I k1 = some (.cells #[.pointer (some ⟨kb, 0, none⟩)] 95)) (h2 : I k2 = some (.cells #[.func (.func f) fa fb] 110))
    (T : TakeOk take (fun x => .int .i64 x) (.func (.func f) fa fb) X kb I) :
    GivesR Try.prog (.func (.func 79) #[] #[.pointer (some ⟨k1, 0, none⟩), .pointer (some ⟨k2, 0, none⟩)]) I (runAll take s.1.length s).1.length (encA (fun x => .int .i64 x) (runAll take s.1.length s).1) (R0A X kb I s) (R1A X kb (runAll take s.1.length s).2) := by
  refine ⟨fun Y W => ⟨79, _, run_semV_func.trans (Try.call79 _ _)⟩, fun Y J D I0 Gc Gr hI0 hJ0 hR0 hap hJ hD hY => ?_⟩
  refine viaR (ctG_via (A := { gloops := [(0, ⟨[(0, .keep), (1, .keep), (2, .keep)], [], [], fun _ _ _ _ => True, fun _ _ => 0⟩, fun j _ _ I' G' => invA take s.1.length s J X kb j I' G')], calls := [(8, .g), (15, .g), (19, .g), (22, .g)] }) Try.func79 rfl Try.call79 rfl rfl) ((SV.v Y = SV.v Y ∧ SV.v (Value.pointer (some (Addr.mk k1 (0 : Nat) none))) = SV.v (Value.pointer (some (Addr.mk k1 (0 : Nat) none))) ∧ SV.v (Value.pointer (some (Addr.mk k2 (0 : Nat) none))) = SV.v (Value.pointer (some (Addr.mk k2 (0 : Nat) none))) ∧ ∃ (j : Nat), invA take (List.length (Prod.fst s)) s J X kb j I0 (join Gc Gr)) ∧ ∀ (I' G' : Mem), Mem.le I0 I' → ∀ (j : Nat), invA take (List.length (Prod.fst s)) s J X kb j I' G' → ∃ (a : Option Addr), atI I' (some (Addr.mk k1 (0 : Nat) none)) (0 : Nat) = some (Value.pointer a) ∧ Option.isSome a = true ∧ Option.isSome a = true ∧ ∃ (a_1 : Option Addr), ∃ (n : Nat), ∃ (c : Nat), atI G' a (0 : Nat) = some (Value.slice a_1 n c) ∧ Br (decide ((0 : Int) < (↑n : Int))) (∃ (a : Option Addr), atI I' (some (Addr.mk k1 (0 : Nat) none)) (0 : Nat) = some (Value.pointer a) ∧ Option.isSome a = true ∧ Option.isSome a = true ∧ ∃ (b : Bool), atI G' a (1 : Nat) = some (Value.bool b) ∧ Br (!b) (∃ (x : Value), atI I' (some (Addr.mk k2 (0 : Nat) none)) (0 : Nat) = some x ∧ CtH Try.prog x #[] I' G' fun (v : Value) (I' G' : Mem) => ∃ (n : Int), v = Value.int IntKind.i64 n ∧ CtH Try.prog Y #[Value.int IntKind.i64 n] I' G' fun (v : Value) (I' G' : Mem) => ∃ (b : Bool), v = Value.bool b ∧ Br (!b) (∃ (Gc' : Mem), ∃ (Gr' : Mem), G' = join Gc' Gr' ∧ (∀ (b : Nat), Gc' b = none ∨ Gr' b = none) ∧ (J (List.length (Prod.fst (runAll take (List.length (Prod.fst s)) s))) I' Gc' ∧ R1A X kb (Prod.snd (runAll take (List.length (Prod.fst s)) s)) I' Gr' ∨ D I' Gc')) (SV.v Y = SV.v Y ∧ SV.v (Value.pointer (some (Addr.mk k1 (0 : Nat) none))) = SV.v (Value.pointer (some (Addr.mk k1 (0 : Nat) none))) ∧ SV.v (Value.pointer (some (Addr.mk k2 (0 : Nat) none))) = SV.v (Value.pointer (some (Addr.mk k2 (0 : Nat) none))) ∧ ∃ (j' : Nat), j' < j ∧ invA take (List.length (Prod.fst s)) s J X kb j' I' G')) (∃ (Gc' : Mem), ∃ (Gr' : Mem), G' = join Gc' Gr' ∧ (∀ (b : Nat), Gc' b = none ∨ Gr' b = none) ∧ (J (List.length (Prod.fst (runAll take (List.length (Prod.fst s)) s))) I' Gc' ∧ R1A X kb (Prod.snd (runAll take (List.length (Prod.fst s)) s)) I' Gr' ∨ D I' Gc'))) (∃ (Gc' : Mem), ∃ (Gr' : Mem), G' = join Gc' Gr' ∧ (∀ (b : Nat), Gc' b = none ∨ Gr' b = none) ∧ (J (List.length (Prod.fst (runAll take (List.length (Prod.fst s)) s))) I' Gc' ∧ R1A X kb (Prod.snd (runAll take (List.length (Prod.fst s)) s)) I' Gr' ∨ D I' Gc'))) (by kernel_rfl) ?_
  have hmx : maxLen = 9223372036854775807 := by decide
  refine ⟨⟨rfl, rfl, rfl, s.1.length, s, [], Gc, Gr, rfl, hap, hJ0, hR0.1.mono hI0, hR0.2, Nat.le_refl _, rfl⟩, ?_⟩
  intro I1 G1 l1 j ⟨t, pre, Gc1, Gr1, hG, hap1, hJ1, hrd, hXG, hlen, hrun⟩
  subst hG
  have c1 : atI I1 (some ⟨k1, 0, none⟩) 0 = some (.pointer (some ⟨kb, 0, none⟩)) := atC (l1 _ _ (hI0 _ _ h1)) rfl
  have c2 : atI I1 (some ⟨k2, 0, none⟩) 0 = some (.func (.func f) fa fb) := atC (l1 _ _ (hI0 _ _ h2)) rfl
  obtain ⟨a, n, c, hGr, hs, hc, hm, hb, hn⟩ := id hrd
  have hGj := join_right hap1 hGr
  have hln := hs.numLen
  have done : (t.1 = [] ∨ t.2 = true) → ∃ Gc' Gr', join Gc1 Gr1 = join Gc' Gr' ∧ Gc'.apart Gr' ∧ ((J (runAll take s.1.length s).1.length I1 Gc' ∧ R1A X kb (runAll take s.1.length s).2 I1 Gr') ∨ D I1 Gc') := fun he => by
    rw [runAll_done he, List.append_nil] at hrun
    rw [hrun]
    exact ⟨Gc1, Gr1, rfl, hap1, .inl ⟨hJ1, hrd, hXG⟩⟩
  refine ⟨_, c1, rfl, rfl, _, _, _, atC hGj rfl, Br.mk (fun hpos => ?_) (fun hzero => ?_)⟩
  rotate_left
  · have hzero := of_decide_eq_false hzero
    exact done (.inl (List.eq_nil_of_length_eq_zero (by omega)))
  have hpos := of_decide_eq_true hpos
  refine ⟨_, c1, rfl, rfl, _, atC hGj rfl, Br.mk (fun hnb => ?_) (fun hbad => ?_)⟩
  rotate_left
  · exact done (.inr (by simpa using hbad))
  have hnb : t.2 = false := by simpa using hnb
  have hne : t.1 ≠ [] := fun h => by rw [h] at hln; simp at hln; omega
  have hgo : ¬ (t.1 = [] ∨ t.2 = true) := by rw [hnb]; simpa using hne
  obtain ⟨j', rfl⟩ : ∃ j', j = j' + 1 := ⟨j - 1, by omega⟩
  rw [runAll_step hgo] at hrun
  refine ⟨_, c2, ?_⟩
  rw [join_comm hap1]
  refine ((T t I1 Gr1 (Mem.le_trans hI0 l1) hXG hrd).frame (apart_comm hap1)).mono ?_
  rintro v I2 G2 l2 ⟨Gr2, rfl, hap2, hv, hto⟩
  refine ⟨_, hv, ?_⟩
  rw [join_comm hap2]
  have hk := hd t hb hne hnb
  have hget : (runAll take s.1.length s).1[pre.length]? = some (take t).1 := by rw [hrun]; simp
  have hlt : pre.length < (runAll take s.1.length s).1.length := (List.getElem?_eq_some_iff.1 hget).1
  refine ((hY pre.length I2 Gc1 _ hlt (Mem.le_trans l1 l2) (hJ _ _ _ _ hJ1 l2) ⟨_, hget, rfl⟩).frame (apart_comm hap2)).mono ?_
  rintro v I3 G3 l3 ⟨Gc3, rfl, hap3, hv⟩
  rcases hv with ⟨hv, hj⟩ | ⟨hv, hdd⟩
  · refine ⟨true, hv, Br.f rfl ⟨rfl, rfl, rfl, j', Nat.lt_succ_self _, (take t).2, pre ++ [(take t).1], Gc3, Gr2, rfl, hap3, by rw [List.length_append]; exact hj, hto.1.mono l3, le_rd hXG hX hto, by omega, ?_⟩⟩
    rw [hrun, List.append_assoc]; rfl
  · exact ⟨false, hv, Br.t rfl ⟨Gc3, Gr2, rfl, hap3, .inr hdd⟩⟩
theorem ct42 (kb : Nat) (f : FuncId) (fa fb : Array Value) (I : Mem) :
    Ct Try.prog (fnv 42) #[.pointer (some ⟨kb, 0, none⟩), .func (.func f) fa fb] I (fun v I' => ∃ k1 k2, v = .func (.func 79) #[] #[.pointer (some ⟨k1, 0, none⟩), .pointer (some ⟨k2, 0, none⟩)] ∧ I' k1 = some (.cells #[.pointer (some ⟨kb, 0, none⟩)] 95) ∧ I' k2 = some (.cells #[.func (.func f) fa fb] 110)) := by
  refine viaR (ct_via (A := {}) Try.func42 rfl Try.call42 rfl rfl) (∀ (b : Nat) (I' : Mem), Mem.le I I' → I' b = some (Obj.cells #[Value.pointer (some (Addr.mk kb (0 : Nat) none))] (95 : Nat)) → ∀ (b_1 : Nat) (I'_1 : Mem), Mem.le I' I'_1 → I'_1 b_1 = some (Obj.cells #[Value.func (Fn.func f) fa fb] (110 : Nat)) → ∃ (k1 : Nat), ∃ (k2 : Nat), Value.func (Fn.func (79 : Nat)) #[] #[Value.pointer (some (Addr.mk b (0 : Nat) none)), Value.pointer (some (Addr.mk b_1 (0 : Nat) none))] = Value.func (Fn.func (79 : Nat)) #[] #[Value.pointer (some (Addr.mk k1 (0 : Nat) none)), Value.pointer (some (Addr.mk k2 (0 : Nat) none))] ∧ I'_1 k1 = some (Obj.cells #[Value.pointer (some (Addr.mk kb (0 : Nat) none))] (95 : Nat)) ∧ I'_1 k2 = some (Obj.cells #[Value.func (Fn.func f) fa fb] (110 : Nat))) (by kernel_rfl) ?_
  exact fun b I1 l1 h1 b1 I2 l2 h2 => ⟨b, b1, rfl, l2 _ _ h1, h2⟩

theorem gives82 (take : RS → EvT × RS) (hd : Dec take) (s : RS) (kb k1 k2 : Nat) (f : FuncId) (fa fb : Array Value) (X : Mem) (hX : X kb = none) (I : Mem) (h1 : I k1 = some (.cells #[.pointer (some ⟨kb, 0, none⟩)] 95)) (h2 : I k2 = some (.cells #[.func (.func f) fa fb] 115))
    (T : TakeOk take (fun x => .agg #[.int .i64 x.1.1, .int .i64 x.1.2.1, .int .i64 x.1.2.2, .int .i64 x.2.1, .int .i64 x.2.2]) (.func (.func f) fa fb) X kb I) :
    GivesR Try.prog (.func (.func 82) #[] #[.pointer (some ⟨k1, 0, none⟩), .pointer (some ⟨k2, 0, none⟩)]) I (runAll take s.1.length s).1.length (encA (fun x => .agg #[.int .i64 x.1.1, .int .i64 x.1.2.1, .int .i64 x.1.2.2, .int .i64 x.2.1, .int .i64 x.2.2]) (runAll take s.1.length s).1) (R0A X kb I s) (R1A X kb (runAll take s.1.length s).2) := by
  refine ⟨fun Y W => ⟨82, _, run_semV_func.trans (Try.call82 _ _)⟩, fun Y J D I0 Gc Gr hI0 hJ0 hR0 hap hJ hD hY => ?_⟩
  refine viaR (ctG_via (A := { gloops := [(0, ⟨[(0, .keep), (1, .keep), (2, .keep)], [], [], fun _ _ _ _ => True, fun _ _ => 0⟩, fun j _ _ I' G' => invA take s.1.length s J X kb j I' G')], calls := [(8, .g), (15, .g), (19, .g), (22, .g)] }) Try.func82 rfl Try.call82 rfl rfl) ((SV.v Y = SV.v Y ∧ SV.v (Value.pointer (some (Addr.mk k1 (0 : Nat) none))) = SV.v (Value.pointer (some (Addr.mk k1 (0 : Nat) none))) ∧ SV.v (Value.pointer (some (Addr.mk k2 (0 : Nat) none))) = SV.v (Value.pointer (some (Addr.mk k2 (0 : Nat) none))) ∧ ∃ (j : Nat), invA take (List.length (Prod.fst s)) s J X kb j I0 (join Gc Gr)) ∧ ∀ (I' G' : Mem), Mem.le I0 I' → ∀ (j : Nat), invA take (List.length (Prod.fst s)) s J X kb j I' G' → ∃ (a : Option Addr), atI I' (some (Addr.mk k1 (0 : Nat) none)) (0 : Nat) = some (Value.pointer a) ∧ Option.isSome a = true ∧ Option.isSome a = true ∧ ∃ (a_1 : Option Addr), ∃ (n : Nat), ∃ (c : Nat), atI G' a (0 : Nat) = some (Value.slice a_1 n c) ∧ Br (decide ((0 : Int) < (↑n : Int))) (∃ (a : Option Addr), atI I' (some (Addr.mk k1 (0 : Nat) none)) (0 : Nat) = some (Value.pointer a) ∧ Option.isSome a = true ∧ Option.isSome a = true ∧ ∃ (b : Bool), atI G' a (1 : Nat) = some (Value.bool b) ∧ Br (!b) (∃ (x : Value), atI I' (some (Addr.mk k2 (0 : Nat) none)) (0 : Nat) = some x ∧ CtH Try.prog x #[] I' G' fun (v : Value) (I' G' : Mem) => ∃ (n : Int), ∃ (n_1 : Int), ∃ (n_2 : Int), ∃ (n_3 : Int), ∃ (n_4 : Int), v = Value.agg #[Value.int IntKind.i64 n, Value.int IntKind.i64 n_1, Value.int IntKind.i64 n_2, Value.int IntKind.i64 n_3, Value.int IntKind.i64 n_4] ∧ CtH Try.prog Y #[Value.agg #[Value.int IntKind.i64 n, Value.int IntKind.i64 n_1, Value.int IntKind.i64 n_2, Value.int IntKind.i64 n_3, Value.int IntKind.i64 n_4]] I' G' fun (v : Value) (I' G' : Mem) => ∃ (b : Bool), v = Value.bool b ∧ Br (!b) (∃ (Gc' : Mem), ∃ (Gr' : Mem), G' = join Gc' Gr' ∧ (∀ (b : Nat), Gc' b = none ∨ Gr' b = none) ∧ (J (List.length (Prod.fst (runAll take (List.length (Prod.fst s)) s))) I' Gc' ∧ R1A X kb (Prod.snd (runAll take (List.length (Prod.fst s)) s)) I' Gr' ∨ D I' Gc')) (SV.v Y = SV.v Y ∧ SV.v (Value.pointer (some (Addr.mk k1 (0 : Nat) none))) = SV.v (Value.pointer (some (Addr.mk k1 (0 : Nat) none))) ∧ SV.v (Value.pointer (some (Addr.mk k2 (0 : Nat) none))) = SV.v (Value.pointer (some (Addr.mk k2 (0 : Nat) none))) ∧ ∃ (j' : Nat), j' < j ∧ invA take (List.length (Prod.fst s)) s J X kb j' I' G')) (∃ (Gc' : Mem), ∃ (Gr' : Mem), G' = join Gc' Gr' ∧ (∀ (b : Nat), Gc' b = none ∨ Gr' b = none) ∧ (J (List.length (Prod.fst (runAll take (List.length (Prod.fst s)) s))) I' Gc' ∧ R1A X kb (Prod.snd (runAll take (List.length (Prod.fst s)) s)) I' Gr' ∨ D I' Gc'))) (∃ (Gc' : Mem), ∃ (Gr' : Mem), G' = join Gc' Gr' ∧ (∀ (b : Nat), Gc' b = none ∨ Gr' b = none) ∧ (J (List.length (Prod.fst (runAll take (List.length (Prod.fst s)) s))) I' Gc' ∧ R1A X kb (Prod.snd (runAll take (List.length (Prod.fst s)) s)) I' Gr' ∨ D I' Gc'))) (by kernel_rfl) ?_
  have hmx : maxLen = 9223372036854775807 := by decide
  refine ⟨⟨rfl, rfl, rfl, s.1.length, s, [], Gc, Gr, rfl, hap, hJ0, hR0.1.mono hI0, hR0.2, Nat.le_refl _, rfl⟩, ?_⟩
  intro I1 G1 l1 j ⟨t, pre, Gc1, Gr1, hG, hap1, hJ1, hrd, hXG, hlen, hrun⟩
  subst hG
  have c1 : atI I1 (some ⟨k1, 0, none⟩) 0 = some (.pointer (some ⟨kb, 0, none⟩)) := atC (l1 _ _ (hI0 _ _ h1)) rfl
  have c2 : atI I1 (some ⟨k2, 0, none⟩) 0 = some (.func (.func f) fa fb) := atC (l1 _ _ (hI0 _ _ h2)) rfl
  obtain ⟨a, n, c, hGr, hs, hc, hm, hb, hn⟩ := id hrd
  have hGj := join_right hap1 hGr
  have hln := hs.numLen
  have done : (t.1 = [] ∨ t.2 = true) → ∃ Gc' Gr', join Gc1 Gr1 = join Gc' Gr' ∧ Gc'.apart Gr' ∧ ((J (runAll take s.1.length s).1.length I1 Gc' ∧ R1A X kb (runAll take s.1.length s).2 I1 Gr') ∨ D I1 Gc') := fun he => by
    rw [runAll_done he, List.append_nil] at hrun
    rw [hrun]
    exact ⟨Gc1, Gr1, rfl, hap1, .inl ⟨hJ1, hrd, hXG⟩⟩
  refine ⟨_, c1, rfl, rfl, _, _, _, atC hGj rfl, Br.mk (fun hpos => ?_) (fun hzero => ?_)⟩
  rotate_left
  · have hzero := of_decide_eq_false hzero
    exact done (.inl (List.eq_nil_of_length_eq_zero (by omega)))
  have hpos := of_decide_eq_true hpos
  refine ⟨_, c1, rfl, rfl, _, atC hGj rfl, Br.mk (fun hnb => ?_) (fun hbad => ?_)⟩
  rotate_left
  · exact done (.inr (by simpa using hbad))
  have hnb : t.2 = false := by simpa using hnb
  have hne : t.1 ≠ [] := fun h => by rw [h] at hln; simp at hln; omega
  have hgo : ¬ (t.1 = [] ∨ t.2 = true) := by rw [hnb]; simpa using hne
  obtain ⟨j', rfl⟩ : ∃ j', j = j' + 1 := ⟨j - 1, by omega⟩
  rw [runAll_step hgo] at hrun
  refine ⟨_, c2, ?_⟩
  rw [join_comm hap1]
  refine ((T t I1 Gr1 (Mem.le_trans hI0 l1) hXG hrd).frame (apart_comm hap1)).mono ?_
  rintro v I2 G2 l2 ⟨Gr2, rfl, hap2, hv, hto⟩
  refine ⟨_, _, _, _, _, hv, ?_⟩
  rw [join_comm hap2]
  have hk := hd t hb hne hnb
  have hget : (runAll take s.1.length s).1[pre.length]? = some (take t).1 := by rw [hrun]; simp
  have hlt : pre.length < (runAll take s.1.length s).1.length := (List.getElem?_eq_some_iff.1 hget).1
  refine ((hY pre.length I2 Gc1 _ hlt (Mem.le_trans l1 l2) (hJ _ _ _ _ hJ1 l2) ⟨_, hget, rfl⟩).frame (apart_comm hap2)).mono ?_
  rintro v I3 G3 l3 ⟨Gc3, rfl, hap3, hv⟩
  rcases hv with ⟨hv, hj⟩ | ⟨hv, hdd⟩
  · refine ⟨true, hv, Br.f rfl ⟨rfl, rfl, rfl, j', Nat.lt_succ_self _, (take t).2, pre ++ [(take t).1], Gc3, Gr2, rfl, hap3, by rw [List.length_append]; exact hj, hto.1.mono l3, le_rd hXG hX hto, by omega, ?_⟩⟩
    rw [hrun, List.append_assoc]; rfl
  · exact ⟨false, hv, Br.t rfl ⟨Gc3, Gr2, rfl, hap3, .inr hdd⟩⟩
theorem ct47 (kb : Nat) (f : FuncId) (fa fb : Array Value) (I : Mem) :
    Ct Try.prog (fnv 47) #[.pointer (some ⟨kb, 0, none⟩), .func (.func f) fa fb] I (fun v I' => ∃ k1 k2, v = .func (.func 82) #[] #[.pointer (some ⟨k1, 0, none⟩), .pointer (some ⟨k2, 0, none⟩)] ∧ I' k1 = some (.cells #[.pointer (some ⟨kb, 0, none⟩)] 95) ∧ I' k2 = some (.cells #[.func (.func f) fa fb] 115)) := by
  refine viaR (ct_via (A := {}) Try.func47 rfl Try.call47 rfl rfl) (∀ (b : Nat) (I' : Mem), Mem.le I I' → I' b = some (Obj.cells #[Value.pointer (some (Addr.mk kb (0 : Nat) none))] (95 : Nat)) → ∀ (b_1 : Nat) (I'_1 : Mem), Mem.le I' I'_1 → I'_1 b_1 = some (Obj.cells #[Value.func (Fn.func f) fa fb] (115 : Nat)) → ∃ (k1 : Nat), ∃ (k2 : Nat), Value.func (Fn.func (82 : Nat)) #[] #[Value.pointer (some (Addr.mk b (0 : Nat) none)), Value.pointer (some (Addr.mk b_1 (0 : Nat) none))] = Value.func (Fn.func (82 : Nat)) #[] #[Value.pointer (some (Addr.mk k1 (0 : Nat) none)), Value.pointer (some (Addr.mk k2 (0 : Nat) none))] ∧ I'_1 k1 = some (Obj.cells #[Value.pointer (some (Addr.mk kb (0 : Nat) none))] (95 : Nat)) ∧ I'_1 k2 = some (Obj.cells #[Value.func (Fn.func f) fa fb] (115 : Nat))) (by kernel_rfl) ?_
  exact fun b I1 l1 h1 b1 I2 l2 h2 => ⟨b, b1, rfl, l2 _ _ h1, h2⟩

theorem gives84 (take : RS → PtT × RS) (hd : Dec take) (s : RS) (kb k1 k2 : Nat) (f : FuncId) (fa fb : Array Value) (X : Mem) (hX : X kb = none) (I : Mem) (h1 : I k1 = some (.cells #[.pointer (some ⟨kb, 0, none⟩)] 95)) (h2 : I k2 = some (.cells #[.func (.func f) fa fb] 120))
    (T : TakeOk take (fun x => .agg #[.int .i64 x.1, .string (strB x.2.1), .int .i64 x.2.2]) (.func (.func f) fa fb) X kb I) :
    GivesR Try.prog (.func (.func 84) #[] #[.pointer (some ⟨k1, 0, none⟩), .pointer (some ⟨k2, 0, none⟩)]) I (runAll take s.1.length s).1.length (encA (fun x => .agg #[.int .i64 x.1, .string (strB x.2.1), .int .i64 x.2.2]) (runAll take s.1.length s).1) (R0A X kb I s) (R1A X kb (runAll take s.1.length s).2) := by
  refine ⟨fun Y W => ⟨84, _, run_semV_func.trans (Try.call84 _ _)⟩, fun Y J D I0 Gc Gr hI0 hJ0 hR0 hap hJ hD hY => ?_⟩
  refine viaR (ctG_via (A := { gloops := [(0, ⟨[(0, .keep), (1, .keep), (2, .keep)], [], [], fun _ _ _ _ => True, fun _ _ => 0⟩, fun j _ _ I' G' => invA take s.1.length s J X kb j I' G')], calls := [(8, .g), (15, .g), (19, .g), (22, .g)] }) Try.func84 rfl Try.call84 rfl rfl) ((SV.v Y = SV.v Y ∧ SV.v (Value.pointer (some (Addr.mk k1 (0 : Nat) none))) = SV.v (Value.pointer (some (Addr.mk k1 (0 : Nat) none))) ∧ SV.v (Value.pointer (some (Addr.mk k2 (0 : Nat) none))) = SV.v (Value.pointer (some (Addr.mk k2 (0 : Nat) none))) ∧ ∃ (j : Nat), invA take (List.length (Prod.fst s)) s J X kb j I0 (join Gc Gr)) ∧ ∀ (I' G' : Mem), Mem.le I0 I' → ∀ (j : Nat), invA take (List.length (Prod.fst s)) s J X kb j I' G' → ∃ (a : Option Addr), atI I' (some (Addr.mk k1 (0 : Nat) none)) (0 : Nat) = some (Value.pointer a) ∧ Option.isSome a = true ∧ Option.isSome a = true ∧ ∃ (a_1 : Option Addr), ∃ (n : Nat), ∃ (c : Nat), atI G' a (0 : Nat) = some (Value.slice a_1 n c) ∧ Br (decide ((0 : Int) < (↑n : Int))) (∃ (a : Option Addr), atI I' (some (Addr.mk k1 (0 : Nat) none)) (0 : Nat) = some (Value.pointer a) ∧ Option.isSome a = true ∧ Option.isSome a = true ∧ ∃ (b : Bool), atI G' a (1 : Nat) = some (Value.bool b) ∧ Br (!b) (∃ (x : Value), atI I' (some (Addr.mk k2 (0 : Nat) none)) (0 : Nat) = some x ∧ CtH Try.prog x #[] I' G' fun (v : Value) (I' G' : Mem) => ∃ (n : Int), ∃ (q : ByteArray), ∃ (n_1 : Int), v = Value.agg #[Value.int IntKind.i64 n, Value.string q, Value.int IntKind.i64 n_1] ∧ CtH Try.prog Y #[Value.agg #[Value.int IntKind.i64 n, Value.string q, Value.int IntKind.i64 n_1]] I' G' fun (v : Value) (I' G' : Mem) => ∃ (b : Bool), v = Value.bool b ∧ Br (!b) (∃ (Gc' : Mem), ∃ (Gr' : Mem), G' = join Gc' Gr' ∧ (∀ (b : Nat), Gc' b = none ∨ Gr' b = none) ∧ (J (List.length (Prod.fst (runAll take (List.length (Prod.fst s)) s))) I' Gc' ∧ R1A X kb (Prod.snd (runAll take (List.length (Prod.fst s)) s)) I' Gr' ∨ D I' Gc')) (SV.v Y = SV.v Y ∧ SV.v (Value.pointer (some (Addr.mk k1 (0 : Nat) none))) = SV.v (Value.pointer (some (Addr.mk k1 (0 : Nat) none))) ∧ SV.v (Value.pointer (some (Addr.mk k2 (0 : Nat) none))) = SV.v (Value.pointer (some (Addr.mk k2 (0 : Nat) none))) ∧ ∃ (j' : Nat), j' < j ∧ invA take (List.length (Prod.fst s)) s J X kb j' I' G')) (∃ (Gc' : Mem), ∃ (Gr' : Mem), G' = join Gc' Gr' ∧ (∀ (b : Nat), Gc' b = none ∨ Gr' b = none) ∧ (J (List.length (Prod.fst (runAll take (List.length (Prod.fst s)) s))) I' Gc' ∧ R1A X kb (Prod.snd (runAll take (List.length (Prod.fst s)) s)) I' Gr' ∨ D I' Gc'))) (∃ (Gc' : Mem), ∃ (Gr' : Mem), G' = join Gc' Gr' ∧ (∀ (b : Nat), Gc' b = none ∨ Gr' b = none) ∧ (J (List.length (Prod.fst (runAll take (List.length (Prod.fst s)) s))) I' Gc' ∧ R1A X kb (Prod.snd (runAll take (List.length (Prod.fst s)) s)) I' Gr' ∨ D I' Gc'))) (by kernel_rfl) ?_
  have hmx : maxLen = 9223372036854775807 := by decide
  refine ⟨⟨rfl, rfl, rfl, s.1.length, s, [], Gc, Gr, rfl, hap, hJ0, hR0.1.mono hI0, hR0.2, Nat.le_refl _, rfl⟩, ?_⟩
  intro I1 G1 l1 j ⟨t, pre, Gc1, Gr1, hG, hap1, hJ1, hrd, hXG, hlen, hrun⟩
  subst hG
  have c1 : atI I1 (some ⟨k1, 0, none⟩) 0 = some (.pointer (some ⟨kb, 0, none⟩)) := atC (l1 _ _ (hI0 _ _ h1)) rfl
  have c2 : atI I1 (some ⟨k2, 0, none⟩) 0 = some (.func (.func f) fa fb) := atC (l1 _ _ (hI0 _ _ h2)) rfl
  obtain ⟨a, n, c, hGr, hs, hc, hm, hb, hn⟩ := id hrd
  have hGj := join_right hap1 hGr
  have hln := hs.numLen
  have done : (t.1 = [] ∨ t.2 = true) → ∃ Gc' Gr', join Gc1 Gr1 = join Gc' Gr' ∧ Gc'.apart Gr' ∧ ((J (runAll take s.1.length s).1.length I1 Gc' ∧ R1A X kb (runAll take s.1.length s).2 I1 Gr') ∨ D I1 Gc') := fun he => by
    rw [runAll_done he, List.append_nil] at hrun
    rw [hrun]
    exact ⟨Gc1, Gr1, rfl, hap1, .inl ⟨hJ1, hrd, hXG⟩⟩
  refine ⟨_, c1, rfl, rfl, _, _, _, atC hGj rfl, Br.mk (fun hpos => ?_) (fun hzero => ?_)⟩
  rotate_left
  · have hzero := of_decide_eq_false hzero
    exact done (.inl (List.eq_nil_of_length_eq_zero (by omega)))
  have hpos := of_decide_eq_true hpos
  refine ⟨_, c1, rfl, rfl, _, atC hGj rfl, Br.mk (fun hnb => ?_) (fun hbad => ?_)⟩
  rotate_left
  · exact done (.inr (by simpa using hbad))
  have hnb : t.2 = false := by simpa using hnb
  have hne : t.1 ≠ [] := fun h => by rw [h] at hln; simp at hln; omega
  have hgo : ¬ (t.1 = [] ∨ t.2 = true) := by rw [hnb]; simpa using hne
  obtain ⟨j', rfl⟩ : ∃ j', j = j' + 1 := ⟨j - 1, by omega⟩
  rw [runAll_step hgo] at hrun
  refine ⟨_, c2, ?_⟩
  rw [join_comm hap1]
  refine ((T t I1 Gr1 (Mem.le_trans hI0 l1) hXG hrd).frame (apart_comm hap1)).mono ?_
  rintro v I2 G2 l2 ⟨Gr2, rfl, hap2, hv, hto⟩
  refine ⟨_, _, _, hv, ?_⟩
  rw [join_comm hap2]
  have hk := hd t hb hne hnb
  have hget : (runAll take s.1.length s).1[pre.length]? = some (take t).1 := by rw [hrun]; simp
  have hlt : pre.length < (runAll take s.1.length s).1.length := (List.getElem?_eq_some_iff.1 hget).1
  refine ((hY pre.length I2 Gc1 _ hlt (Mem.le_trans l1 l2) (hJ _ _ _ _ hJ1 l2) ⟨_, hget, rfl⟩).frame (apart_comm hap2)).mono ?_
  rintro v I3 G3 l3 ⟨Gc3, rfl, hap3, hv⟩
  rcases hv with ⟨hv, hj⟩ | ⟨hv, hdd⟩
  · refine ⟨true, hv, Br.f rfl ⟨rfl, rfl, rfl, j', Nat.lt_succ_self _, (take t).2, pre ++ [(take t).1], Gc3, Gr2, rfl, hap3, by rw [List.length_append]; exact hj, hto.1.mono l3, le_rd hXG hX hto, by omega, ?_⟩⟩
    rw [hrun, List.append_assoc]; rfl
  · exact ⟨false, hv, Br.t rfl ⟨Gc3, Gr2, rfl, hap3, .inr hdd⟩⟩
theorem ct50 (kb : Nat) (f : FuncId) (fa fb : Array Value) (I : Mem) :
    Ct Try.prog (fnv 50) #[.pointer (some ⟨kb, 0, none⟩), .func (.func f) fa fb] I (fun v I' => ∃ k1 k2, v = .func (.func 84) #[] #[.pointer (some ⟨k1, 0, none⟩), .pointer (some ⟨k2, 0, none⟩)] ∧ I' k1 = some (.cells #[.pointer (some ⟨kb, 0, none⟩)] 95) ∧ I' k2 = some (.cells #[.func (.func f) fa fb] 120)) := by
  refine viaR (ct_via (A := {}) Try.func50 rfl Try.call50 rfl rfl) (∀ (b : Nat) (I' : Mem), Mem.le I I' → I' b = some (Obj.cells #[Value.pointer (some (Addr.mk kb (0 : Nat) none))] (95 : Nat)) → ∀ (b_1 : Nat) (I'_1 : Mem), Mem.le I' I'_1 → I'_1 b_1 = some (Obj.cells #[Value.func (Fn.func f) fa fb] (120 : Nat)) → ∃ (k1 : Nat), ∃ (k2 : Nat), Value.func (Fn.func (84 : Nat)) #[] #[Value.pointer (some (Addr.mk b (0 : Nat) none)), Value.pointer (some (Addr.mk b_1 (0 : Nat) none))] = Value.func (Fn.func (84 : Nat)) #[] #[Value.pointer (some (Addr.mk k1 (0 : Nat) none)), Value.pointer (some (Addr.mk k2 (0 : Nat) none))] ∧ I'_1 k1 = some (Obj.cells #[Value.pointer (some (Addr.mk kb (0 : Nat) none))] (95 : Nat)) ∧ I'_1 k2 = some (Obj.cells #[Value.func (Fn.func f) fa fb] (120 : Nat))) (by kernel_rfl) ?_
  exact fun b I1 l1 h1 b1 I2 l2 h2 => ⟨b, b1, rfl, l2 _ _ h1, h2⟩

theorem gives86 (take : RS → HdT × RS) (hd : Dec take) (s : RS) (kb k1 k2 : Nat) (f : FuncId) (fa fb : Array Value) (X : Mem) (hX : X kb = none) (I : Mem) (h1 : I k1 = some (.cells #[.pointer (some ⟨kb, 0, none⟩)] 95)) (h2 : I k2 = some (.cells #[.func (.func f) fa fb] 125))
    (T : TakeOk take (fun x => .agg #[.int .i64 x.1, .int .i64 x.2.1, .int .i64 x.2.2.1, .int .i64 x.2.2.2.1, .int .u8 x.2.2.2.2]) (.func (.func f) fa fb) X kb I) :
    GivesR Try.prog (.func (.func 86) #[] #[.pointer (some ⟨k1, 0, none⟩), .pointer (some ⟨k2, 0, none⟩)]) I (runAll take s.1.length s).1.length (encA (fun x => .agg #[.int .i64 x.1, .int .i64 x.2.1, .int .i64 x.2.2.1, .int .i64 x.2.2.2.1, .int .u8 x.2.2.2.2]) (runAll take s.1.length s).1) (R0A X kb I s) (R1A X kb (runAll take s.1.length s).2) := by
  refine ⟨fun Y W => ⟨86, _, run_semV_func.trans (Try.call86 _ _)⟩, fun Y J D I0 Gc Gr hI0 hJ0 hR0 hap hJ hD hY => ?_⟩
  refine viaR (ctG_via (A := { gloops := [(0, ⟨[(0, .keep), (1, .keep), (2, .keep)], [], [], fun _ _ _ _ => True, fun _ _ => 0⟩, fun j _ _ I' G' => invA take s.1.length s J X kb j I' G')], calls := [(8, .g), (15, .g), (19, .g), (22, .g)] }) Try.func86 rfl Try.call86 rfl rfl) ((SV.v Y = SV.v Y ∧ SV.v (Value.pointer (some (Addr.mk k1 (0 : Nat) none))) = SV.v (Value.pointer (some (Addr.mk k1 (0 : Nat) none))) ∧ SV.v (Value.pointer (some (Addr.mk k2 (0 : Nat) none))) = SV.v (Value.pointer (some (Addr.mk k2 (0 : Nat) none))) ∧ ∃ (j : Nat), invA take (List.length (Prod.fst s)) s J X kb j I0 (join Gc Gr)) ∧ ∀ (I' G' : Mem), Mem.le I0 I' → ∀ (j : Nat), invA take (List.length (Prod.fst s)) s J X kb j I' G' → ∃ (a : Option Addr), atI I' (some (Addr.mk k1 (0 : Nat) none)) (0 : Nat) = some (Value.pointer a) ∧ Option.isSome a = true ∧ Option.isSome a = true ∧ ∃ (a_1 : Option Addr), ∃ (n : Nat), ∃ (c : Nat), atI G' a (0 : Nat) = some (Value.slice a_1 n c) ∧ Br (decide ((0 : Int) < (↑n : Int))) (∃ (a : Option Addr), atI I' (some (Addr.mk k1 (0 : Nat) none)) (0 : Nat) = some (Value.pointer a) ∧ Option.isSome a = true ∧ Option.isSome a = true ∧ ∃ (b : Bool), atI G' a (1 : Nat) = some (Value.bool b) ∧ Br (!b) (∃ (x : Value), atI I' (some (Addr.mk k2 (0 : Nat) none)) (0 : Nat) = some x ∧ CtH Try.prog x #[] I' G' fun (v : Value) (I' G' : Mem) => ∃ (n : Int), ∃ (n_1 : Int), ∃ (n_2 : Int), ∃ (n_3 : Int), ∃ (n_4 : Int), v = Value.agg #[Value.int IntKind.i64 n, Value.int IntKind.i64 n_1, Value.int IntKind.i64 n_2, Value.int IntKind.i64 n_3, Value.int IntKind.u8 n_4] ∧ CtH Try.prog Y #[Value.agg #[Value.int IntKind.i64 n, Value.int IntKind.i64 n_1, Value.int IntKind.i64 n_2, Value.int IntKind.i64 n_3, Value.int IntKind.u8 n_4]] I' G' fun (v : Value) (I' G' : Mem) => ∃ (b : Bool), v = Value.bool b ∧ Br (!b) (∃ (Gc' : Mem), ∃ (Gr' : Mem), G' = join Gc' Gr' ∧ (∀ (b : Nat), Gc' b = none ∨ Gr' b = none) ∧ (J (List.length (Prod.fst (runAll take (List.length (Prod.fst s)) s))) I' Gc' ∧ R1A X kb (Prod.snd (runAll take (List.length (Prod.fst s)) s)) I' Gr' ∨ D I' Gc')) (SV.v Y = SV.v Y ∧ SV.v (Value.pointer (some (Addr.mk k1 (0 : Nat) none))) = SV.v (Value.pointer (some (Addr.mk k1 (0 : Nat) none))) ∧ SV.v (Value.pointer (some (Addr.mk k2 (0 : Nat) none))) = SV.v (Value.pointer (some (Addr.mk k2 (0 : Nat) none))) ∧ ∃ (j' : Nat), j' < j ∧ invA take (List.length (Prod.fst s)) s J X kb j' I' G')) (∃ (Gc' : Mem), ∃ (Gr' : Mem), G' = join Gc' Gr' ∧ (∀ (b : Nat), Gc' b = none ∨ Gr' b = none) ∧ (J (List.length (Prod.fst (runAll take (List.length (Prod.fst s)) s))) I' Gc' ∧ R1A X kb (Prod.snd (runAll take (List.length (Prod.fst s)) s)) I' Gr' ∨ D I' Gc'))) (∃ (Gc' : Mem), ∃ (Gr' : Mem), G' = join Gc' Gr' ∧ (∀ (b : Nat), Gc' b = none ∨ Gr' b = none) ∧ (J (List.length (Prod.fst (runAll take (List.length (Prod.fst s)) s))) I' Gc' ∧ R1A X kb (Prod.snd (runAll take (List.length (Prod.fst s)) s)) I' Gr' ∨ D I' Gc'))) (by kernel_rfl) ?_
  have hmx : maxLen = 9223372036854775807 := by decide
  refine ⟨⟨rfl, rfl, rfl, s.1.length, s, [], Gc, Gr, rfl, hap, hJ0, hR0.1.mono hI0, hR0.2, Nat.le_refl _, rfl⟩, ?_⟩
  intro I1 G1 l1 j ⟨t, pre, Gc1, Gr1, hG, hap1, hJ1, hrd, hXG, hlen, hrun⟩
  subst hG
  have c1 : atI I1 (some ⟨k1, 0, none⟩) 0 = some (.pointer (some ⟨kb, 0, none⟩)) := atC (l1 _ _ (hI0 _ _ h1)) rfl
  have c2 : atI I1 (some ⟨k2, 0, none⟩) 0 = some (.func (.func f) fa fb) := atC (l1 _ _ (hI0 _ _ h2)) rfl
  obtain ⟨a, n, c, hGr, hs, hc, hm, hb, hn⟩ := id hrd
  have hGj := join_right hap1 hGr
  have hln := hs.numLen
  have done : (t.1 = [] ∨ t.2 = true) → ∃ Gc' Gr', join Gc1 Gr1 = join Gc' Gr' ∧ Gc'.apart Gr' ∧ ((J (runAll take s.1.length s).1.length I1 Gc' ∧ R1A X kb (runAll take s.1.length s).2 I1 Gr') ∨ D I1 Gc') := fun he => by
    rw [runAll_done he, List.append_nil] at hrun
    rw [hrun]
    exact ⟨Gc1, Gr1, rfl, hap1, .inl ⟨hJ1, hrd, hXG⟩⟩
  refine ⟨_, c1, rfl, rfl, _, _, _, atC hGj rfl, Br.mk (fun hpos => ?_) (fun hzero => ?_)⟩
  rotate_left
  · have hzero := of_decide_eq_false hzero
    exact done (.inl (List.eq_nil_of_length_eq_zero (by omega)))
  have hpos := of_decide_eq_true hpos
  refine ⟨_, c1, rfl, rfl, _, atC hGj rfl, Br.mk (fun hnb => ?_) (fun hbad => ?_)⟩
  rotate_left
  · exact done (.inr (by simpa using hbad))
  have hnb : t.2 = false := by simpa using hnb
  have hne : t.1 ≠ [] := fun h => by rw [h] at hln; simp at hln; omega
  have hgo : ¬ (t.1 = [] ∨ t.2 = true) := by rw [hnb]; simpa using hne
  obtain ⟨j', rfl⟩ : ∃ j', j = j' + 1 := ⟨j - 1, by omega⟩
  rw [runAll_step hgo] at hrun
  refine ⟨_, c2, ?_⟩
  rw [join_comm hap1]
  refine ((T t I1 Gr1 (Mem.le_trans hI0 l1) hXG hrd).frame (apart_comm hap1)).mono ?_
  rintro v I2 G2 l2 ⟨Gr2, rfl, hap2, hv, hto⟩
  refine ⟨_, _, _, _, _, hv, ?_⟩
  rw [join_comm hap2]
  have hk := hd t hb hne hnb
  have hget : (runAll take s.1.length s).1[pre.length]? = some (take t).1 := by rw [hrun]; simp
  have hlt : pre.length < (runAll take s.1.length s).1.length := (List.getElem?_eq_some_iff.1 hget).1
  refine ((hY pre.length I2 Gc1 _ hlt (Mem.le_trans l1 l2) (hJ _ _ _ _ hJ1 l2) ⟨_, hget, rfl⟩).frame (apart_comm hap2)).mono ?_
  rintro v I3 G3 l3 ⟨Gc3, rfl, hap3, hv⟩
  rcases hv with ⟨hv, hj⟩ | ⟨hv, hdd⟩
  · refine ⟨true, hv, Br.f rfl ⟨rfl, rfl, rfl, j', Nat.lt_succ_self _, (take t).2, pre ++ [(take t).1], Gc3, Gr2, rfl, hap3, by rw [List.length_append]; exact hj, hto.1.mono l3, le_rd hXG hX hto, by omega, ?_⟩⟩
    rw [hrun, List.append_assoc]; rfl
  · exact ⟨false, hv, Br.t rfl ⟨Gc3, Gr2, rfl, hap3, .inr hdd⟩⟩
theorem ct53 (kb : Nat) (f : FuncId) (fa fb : Array Value) (I : Mem) :
    Ct Try.prog (fnv 53) #[.pointer (some ⟨kb, 0, none⟩), .func (.func f) fa fb] I (fun v I' => ∃ k1 k2, v = .func (.func 86) #[] #[.pointer (some ⟨k1, 0, none⟩), .pointer (some ⟨k2, 0, none⟩)] ∧ I' k1 = some (.cells #[.pointer (some ⟨kb, 0, none⟩)] 95) ∧ I' k2 = some (.cells #[.func (.func f) fa fb] 125)) := by
  refine viaR (ct_via (A := {}) Try.func53 rfl Try.call53 rfl rfl) (∀ (b : Nat) (I' : Mem), Mem.le I I' → I' b = some (Obj.cells #[Value.pointer (some (Addr.mk kb (0 : Nat) none))] (95 : Nat)) → ∀ (b_1 : Nat) (I'_1 : Mem), Mem.le I' I'_1 → I'_1 b_1 = some (Obj.cells #[Value.func (Fn.func f) fa fb] (125 : Nat)) → ∃ (k1 : Nat), ∃ (k2 : Nat), Value.func (Fn.func (86 : Nat)) #[] #[Value.pointer (some (Addr.mk b (0 : Nat) none)), Value.pointer (some (Addr.mk b_1 (0 : Nat) none))] = Value.func (Fn.func (86 : Nat)) #[] #[Value.pointer (some (Addr.mk k1 (0 : Nat) none)), Value.pointer (some (Addr.mk k2 (0 : Nat) none))] ∧ I'_1 k1 = some (Obj.cells #[Value.pointer (some (Addr.mk kb (0 : Nat) none))] (95 : Nat)) ∧ I'_1 k2 = some (Obj.cells #[Value.func (Fn.func f) fa fb] (125 : Nat))) (by kernel_rfl) ?_
  exact fun b I1 l1 h1 b1 I2 l2 h2 => ⟨b, b1, rfl, l2 _ _ h1, h2⟩
open Go Go.Proofs Go.SE Go.RowKit
set_option linter.unusedVariables false
theorem ctGF_via {P : Program} {f : FuncId} {fn : Func} {cd : Code} {A : Ann} (hf : P.funcs[f]? = some fn) (hb : fn.body = some cd)
    (hcall : ∀ (args : Array Value) (w : World), (callFunc f args).run P w = .ok (.enter f args) w)
    {args : List Value} {first cap given : Array Value} (hargs : (first ++ given ++ cap).toList = args) (hrd : A.rd = false) {I G : Mem} {post : Value → Mem → Mem → Prop}
    (h : se P A cd (initX (args.map .v) [] fn.ntmps I G) (endX (finF P fn post))) : CtH P (.func (.func f) first cap) given I G post :=
  ctGF_of_se hf hb hcall hargs h hrd
def cI (x : Int) : List Value := [.int .i64 x]
def cE (x : EvT) : List Value := [.int .i64 x.1.1, .int .i64 x.1.2.1, .int .i64 x.1.2.2, .int .i64 x.2.1, .int .i64 x.2.2]
def cP (x : PtT) : List Value := [.int .i64 x.1, .string (strB x.2.1), .int .i64 x.2.2]
def cH (x : HdT) : List Value := [.int .i64 x.1, .int .i64 x.2.1, .int .i64 x.2.2.1, .int .i64 x.2.2.2.1, .int .u8 x.2.2.2.2]
theorem fm_len {α : Type} {c : α → List Value} {k : Nat} (h : ∀ x, (c x).length = k) : ∀ l : List α, (l.flatMap c).length = l.length * k
  | [] => by simp
  | x :: l => by rw [List.flatMap_cons, List.length_append, h, fm_len h l, List.length_cons, Nat.succ_mul]; omega
theorem fm_snoc {α : Type} {c : α → List Value} {l : List α} {k : Nat} {x : α} (h : l[k]? = some x) : (l.take (k + 1)).flatMap c = (l.take k).flatMap c ++ c x := by
  rw [take_succ' h]; simp
/-- A list that has been made anew. -/
def LstN (sz : Nat) (I I' : Mem) (v : Value) (xs : List Value) : Prop := ∃ a n c, v = .slice a n c ∧ SlM I' a n sz xs ∧ n ≤ c ∧ c ≤ maxLen ∧ NewS sz I I' a c
theorem lstN_row {I I1 I' : Mem} {a : Option Addr} {cp sz n m : Nat} {xs : List Value} (hr : RowF I1 I' a cp sz xs) (hle : I.le I1) (hz : 0 < sz) (hl : xs.length = n * sz) (hm : m = n) : LstN sz I I' (.slice a m cp) xs := by
  subst hm
  have h1 := hr.row
  refine ⟨a, m, cp, rfl, h1.sl hz hl, ?_, h1.2.1, hr.newS.anti hle⟩
  have := h1.1
  rw [hl] at this
  exact Nat.le_of_mul_le_mul_right this hz

theorem ct76 (L : List Int) (hL : L.length ≤ 1000000) (it : Value) (I G : Mem) (R0 : Mem → Prop) (R1 : Mem → Mem → Prop) (hit : GivesR Try.prog it I L.length (encA (fun x => .int .i64 x) L) R0 R1) (hG : R0 G) :
    CtH Try.prog (fnv 76) #[.slice none 0 0, it] I G (fun v I' G' => LstN 1 I I' v (L.flatMap cI) ∧ ∃ I1, I1.le I' ∧ R1 I1 G') := by
  refine viaR (ctGF_via (A := { rfs := [(3, { n := L.length, enc := encA (fun x => .int .i64 x) L, ps := [.sh (.int .i64)], pre := [(2, 1, 3)], ents := [(0, .cells [.row 1]), (1, .row)], inv := (fun k vals xss I' _ => match xss with | [xs] => xs = (L.take k).flatMap cI | _ => False), jumps := [], gst := some (R0, R1) })] }) Try.func76 rfl Try.call76 rfl rfl) (∀ (b bd br : Nat) (rc : Loop),
        GivesR Try.prog it I (List.length L)
            (RF.enc
              (RF.mk (List.length L) (encA (fun (x : Int) => Value.int IntKind.i64 x) L) [PSh.sh (Sh.int IntKind.i64)] [((0 : Nat), EA.cells [TA.row (1 : Nat)]), ((1 : Nat), EA.row)]
                (fun (k : Nat) (vals : List Value) (xss : List (List Value)) (I' x : Mem) =>
                  match xss with
                  | [xs] => xs = List.flatMap cI (List.take k L)
                  | x => False)
                [((2 : Nat), (1 : Nat), (3 : TypeId))] [] (some (R0, R1))))
            (Prod.fst (R0, R1)) (Prod.snd (R0, R1)) ∧
          R0 G ∧ (∀ (k : Nat) (args : Array Value) (I : Mem), encA (fun (x : Int) => Value.int IntKind.i64 x) L k args I → psOk [PSh.sh (Sh.int IntKind.i64)] (Array.toList args) = true) ∧ (Ent.mk (EO.raw (Obj.deferred (some []))) (some bd) = Ent.mk (EO.raw (Obj.deferred (some []))) (some bd) ∧ Ent.mk (EO.raw (Obj.loop (Loop.mk LoopState.ready none (Loop.fn rc) (Loop.tmps rc) (Loop.params rc) (Loop.assign rc) (Loop.body rc) (Loop.defers rc)))) (some br) = Ent.mk (EO.raw (Obj.loop (Loop.mk LoopState.ready none (Loop.fn rc) (Loop.tmps rc) (Loop.params rc) (Loop.assign rc) (Loop.body rc) (Loop.defers rc)))) (some br) ∧ some b = some b ∧ (0 : Nat) = (0 : Nat) ∧ ((b = b ∧ bd = bd ∧ br = br ∧ True) ∧ Obj.loop (Loop.mk LoopState.ready none (Loop.fn rc) (Loop.tmps rc) (Loop.params rc) (Loop.assign rc) (Loop.body rc) (Loop.defers rc)) = Obj.loop (Loop.mk LoopState.ready none (Loop.fn rc) (Loop.tmps rc) (Loop.params rc) (Loop.assign rc) (Loop.body rc) (Loop.defers rc))) ∧ @List.nil Value = @List.nil Value) ∧ (∀ (k : Nat) (I' : Mem), k < List.length L → Mem.le I I' → ∀ (xs : List Value), xs = List.flatMap (fun (x : Int) => [Value.int IntKind.i64 x]) (List.take k L) → ∀ (I2 : Mem), Mem.le I' I2 → ∀ (n : Int), encA (fun (x : Int) => Value.int IntKind.i64 x) L k #[Value.int IntKind.i64 n] I2 → Obj.loop (Loop.mk LoopState.ready none (Loop.fn rc) (Loop.tmps rc) (Loop.params rc) (Loop.assign rc) (Loop.body rc) (Loop.defers rc)) = Obj.loop (Loop.mk LoopState.ready none (Loop.fn rc) (Loop.tmps rc) (Loop.params rc) (Loop.assign rc) (Loop.body rc) (Loop.defers rc)) ∧ some br = some br ∧ List.length xs = List.length xs * (1 : Nat) ∧ List.length xs + (1 : Nat) ≤ (9223372036854775807 : Nat) ∧ (List.length xs + (1 : Nat)) * (8 : Nat) ≤ (140737488355328 : Nat) ∧ Obj.loop (Loop.mk LoopState.busy none (Loop.fn rc) (Loop.tmps rc) (Loop.params rc) (Loop.assign rc) (Loop.body rc) (Loop.defers rc)) = Obj.loop (Loop.mk LoopState.busy none (Loop.fn rc) (Loop.tmps rc) (Loop.params rc) (Loop.assign rc) (Loop.body rc) (Loop.defers rc)) ∧ some br = some br ∧ Mem.emp = Mem.emp ∧ Ent.mk (EO.raw (Obj.deferred (some []))) (some bd) = Ent.mk (EO.raw (Obj.deferred (some []))) (some bd) ∧ Ent.mk (EO.raw (Obj.loop (Loop.mk LoopState.ready none (Loop.fn rc) (Loop.tmps rc) (Loop.params rc) (Loop.assign rc) (Loop.body rc) (Loop.defers rc)))) (some br) = Ent.mk (EO.raw (Obj.loop (Loop.mk LoopState.ready none (Loop.fn rc) (Loop.tmps rc) (Loop.params rc) (Loop.assign rc) (Loop.body rc) (Loop.defers rc)))) (some br) ∧ some b = some b ∧ List.length xs + (1 : Nat) = List.length (xs ++ [Value.int IntKind.i64 n]) ∧ ((b = b ∧ bd = bd ∧ br = br ∧ True) ∧ Obj.loop (Loop.mk LoopState.ready none (Loop.fn rc) (Loop.tmps rc) (Loop.params rc) (Loop.assign rc) (Loop.body rc) (Loop.defers rc)) = Obj.loop (Loop.mk LoopState.ready none (Loop.fn rc) (Loop.tmps rc) (Loop.params rc) (Loop.assign rc) (Loop.body rc) (Loop.defers rc))) ∧ xs ++ [Value.int IntKind.i64 n] = List.flatMap (fun (x : Int) => [Value.int IntKind.i64 x]) (List.take (k + (1 : Nat)) L)) ∧ (∀ (I' : Mem), Mem.le I I' → ∀ (xs : List Value), xs = List.flatMap (fun (x : Int) => [Value.int IntKind.i64 x]) (List.take (List.length L) L) → ∀ (I2 G2 : Mem), Mem.le I' I2 → R1 I2 G2 → ∀ (a : Option Addr) (cp : Nat) (I' : Mem), Mem.le I2 I' → RowF I2 I' a cp (1 : Nat) xs → LstN (1 : Nat) I I' (Value.slice a (List.length xs) cp) (List.flatMap (fun (x : Int) => [Value.int IntKind.i64 x]) L) ∧ ∃ (I1 : Mem), Mem.le I1 I' ∧ R1 I1 G2) ∧ True) (by kernel_rfl) ?_
  simp only [eq_self, true_and, and_true]
  intro b bd br rc
  have hc : ∀ x, (cI x).length = 1 := fun _ => rfl
  refine ⟨hit, hG, ?_, ?_, ?_⟩
  · rintro k args I2 ⟨x, _, rfl⟩; rfl
  · rintro k I1 hk l1 xs hxs I2 l2 n ⟨x, hx, he⟩
    cases he
    have hxl : xs.length = (L.take k).length * 1 := by rw [hxs]; exact fm_len hc _
    have hkl : (L.take k).length ≤ 1000000 := by rw [List.length_take]; omega
    refine ⟨by omega, by omega, by omega, by rw [List.length_append]; simp only [List.length_cons, List.length_nil] <;> omega, ?_⟩
    rw [hxs]
    exact (fm_snoc (c := cI) hx).symm
  · intro I1 l1 xs hxs I2 G2 l2 hR a cp I3 l3 hrow
    rw [List.take_length] at hxs
    have hxl : xs.length = L.length * 1 := by rw [hxs]; exact fm_len hc _
    subst hxs
    exact ⟨lstN_row hrow (Mem.le_trans l1 l2) (by omega) hxl (by omega), I2, l3, hR⟩
theorem ct39 (L : List Int) (hL : L.length ≤ 1000000) (it : Value) (I G : Mem) (R0 : Mem → Prop) (R1 : Mem → Mem → Prop) (hit : GivesR Try.prog it I L.length (encA (fun x => .int .i64 x) L) R0 R1) (hG : R0 G) :
    CtH Try.prog (fnv 39) #[it] I G (fun v I' G' => LstN 1 I I' v (L.flatMap cI) ∧ ∃ I1, I1.le I' ∧ R1 I1 G') := by
  refine viaR (ctG_via (A := { calls := [(4, .g)] }) Try.func39 rfl Try.call39 rfl rfl) (CtH Try.prog (Value.func (Fn.func (76 : Nat)) #[] #[]) #[Value.slice none (0 : Nat) (0 : Nat), it] I G fun (v : Value) (I' G' : Mem) => ∃ (a : Option Addr), ∃ (n : Nat), ∃ (c : Nat), v = Value.slice a n c ∧ LstN (1 : Nat) I I' (Value.slice a n c) (List.flatMap (fun (x : Int) => [Value.int IntKind.i64 x]) L) ∧ ∃ (I1 : Mem), Mem.le I1 I' ∧ R1 I1 G') (by kernel_rfl) ?_
  refine (ct76 L hL it I G R0 R1 hit hG).mono fun v I1 G1 l1 h => ?_
  obtain ⟨⟨a, n, c, rfl, h1⟩, h2⟩ := h
  exact ⟨_, _, _, rfl, ⟨a, n, c, rfl, h1⟩, h2⟩

theorem ct78 (L : List Int) (hL : L.length ≤ 1000000) (it : Value) (I G : Mem) (R0 : Mem → Prop) (R1 : Mem → Mem → Prop) (hit : GivesR Try.prog it I L.length (encA (fun x => .int .i64 x) L) R0 R1) (hG : R0 G) :
    CtH Try.prog (fnv 78) #[.slice none 0 0, it] I G (fun v I' G' => LstN 1 I I' v (L.flatMap cI) ∧ ∃ I1, I1.le I' ∧ R1 I1 G') := by
  refine viaR (ctGF_via (A := { rfs := [(3, { n := L.length, enc := encA (fun x => .int .i64 x) L, ps := [.sh (.int .i64)], pre := [(2, 1, 2)], ents := [(0, .cells [.row 1]), (1, .row)], inv := (fun k vals xss I' _ => match xss with | [xs] => xs = (L.take k).flatMap cI | _ => False), jumps := [], gst := some (R0, R1) })] }) Try.func78 rfl Try.call78 rfl rfl) (∀ (b bd br : Nat) (rc : Loop),
        GivesR Try.prog it I (List.length L)
            (RF.enc
              (RF.mk (List.length L) (encA (fun (x : Int) => Value.int IntKind.i64 x) L) [PSh.sh (Sh.int IntKind.i64)] [((0 : Nat), EA.cells [TA.row (1 : Nat)]), ((1 : Nat), EA.row)]
                (fun (k : Nat) (vals : List Value) (xss : List (List Value)) (I' x : Mem) =>
                  match xss with
                  | [xs] => xs = List.flatMap cI (List.take k L)
                  | x => False)
                [((2 : Nat), (1 : Nat), (2 : TypeId))] [] (some (R0, R1))))
            (Prod.fst (R0, R1)) (Prod.snd (R0, R1)) ∧
          R0 G ∧ (∀ (k : Nat) (args : Array Value) (I : Mem), encA (fun (x : Int) => Value.int IntKind.i64 x) L k args I → psOk [PSh.sh (Sh.int IntKind.i64)] (Array.toList args) = true) ∧ (Ent.mk (EO.raw (Obj.deferred (some []))) (some bd) = Ent.mk (EO.raw (Obj.deferred (some []))) (some bd) ∧ Ent.mk (EO.raw (Obj.loop (Loop.mk LoopState.ready none (Loop.fn rc) (Loop.tmps rc) (Loop.params rc) (Loop.assign rc) (Loop.body rc) (Loop.defers rc)))) (some br) = Ent.mk (EO.raw (Obj.loop (Loop.mk LoopState.ready none (Loop.fn rc) (Loop.tmps rc) (Loop.params rc) (Loop.assign rc) (Loop.body rc) (Loop.defers rc)))) (some br) ∧ some b = some b ∧ (0 : Nat) = (0 : Nat) ∧ ((b = b ∧ bd = bd ∧ br = br ∧ True) ∧ Obj.loop (Loop.mk LoopState.ready none (Loop.fn rc) (Loop.tmps rc) (Loop.params rc) (Loop.assign rc) (Loop.body rc) (Loop.defers rc)) = Obj.loop (Loop.mk LoopState.ready none (Loop.fn rc) (Loop.tmps rc) (Loop.params rc) (Loop.assign rc) (Loop.body rc) (Loop.defers rc))) ∧ @List.nil Value = @List.nil Value) ∧ (∀ (k : Nat) (I' : Mem), k < List.length L → Mem.le I I' → ∀ (xs : List Value), xs = List.flatMap (fun (x : Int) => [Value.int IntKind.i64 x]) (List.take k L) → ∀ (I2 : Mem), Mem.le I' I2 → ∀ (n : Int), encA (fun (x : Int) => Value.int IntKind.i64 x) L k #[Value.int IntKind.i64 n] I2 → Obj.loop (Loop.mk LoopState.ready none (Loop.fn rc) (Loop.tmps rc) (Loop.params rc) (Loop.assign rc) (Loop.body rc) (Loop.defers rc)) = Obj.loop (Loop.mk LoopState.ready none (Loop.fn rc) (Loop.tmps rc) (Loop.params rc) (Loop.assign rc) (Loop.body rc) (Loop.defers rc)) ∧ some br = some br ∧ List.length xs = List.length xs * (1 : Nat) ∧ List.length xs + (1 : Nat) ≤ (9223372036854775807 : Nat) ∧ (List.length xs + (1 : Nat)) * (8 : Nat) ≤ (140737488355328 : Nat) ∧ Obj.loop (Loop.mk LoopState.busy none (Loop.fn rc) (Loop.tmps rc) (Loop.params rc) (Loop.assign rc) (Loop.body rc) (Loop.defers rc)) = Obj.loop (Loop.mk LoopState.busy none (Loop.fn rc) (Loop.tmps rc) (Loop.params rc) (Loop.assign rc) (Loop.body rc) (Loop.defers rc)) ∧ some br = some br ∧ Mem.emp = Mem.emp ∧ Ent.mk (EO.raw (Obj.deferred (some []))) (some bd) = Ent.mk (EO.raw (Obj.deferred (some []))) (some bd) ∧ Ent.mk (EO.raw (Obj.loop (Loop.mk LoopState.ready none (Loop.fn rc) (Loop.tmps rc) (Loop.params rc) (Loop.assign rc) (Loop.body rc) (Loop.defers rc)))) (some br) = Ent.mk (EO.raw (Obj.loop (Loop.mk LoopState.ready none (Loop.fn rc) (Loop.tmps rc) (Loop.params rc) (Loop.assign rc) (Loop.body rc) (Loop.defers rc)))) (some br) ∧ some b = some b ∧ List.length xs + (1 : Nat) = List.length (xs ++ [Value.int IntKind.i64 n]) ∧ ((b = b ∧ bd = bd ∧ br = br ∧ True) ∧ Obj.loop (Loop.mk LoopState.ready none (Loop.fn rc) (Loop.tmps rc) (Loop.params rc) (Loop.assign rc) (Loop.body rc) (Loop.defers rc)) = Obj.loop (Loop.mk LoopState.ready none (Loop.fn rc) (Loop.tmps rc) (Loop.params rc) (Loop.assign rc) (Loop.body rc) (Loop.defers rc))) ∧ xs ++ [Value.int IntKind.i64 n] = List.flatMap (fun (x : Int) => [Value.int IntKind.i64 x]) (List.take (k + (1 : Nat)) L)) ∧ (∀ (I' : Mem), Mem.le I I' → ∀ (xs : List Value), xs = List.flatMap (fun (x : Int) => [Value.int IntKind.i64 x]) (List.take (List.length L) L) → ∀ (I2 G2 : Mem), Mem.le I' I2 → R1 I2 G2 → ∀ (a : Option Addr) (cp : Nat) (I' : Mem), Mem.le I2 I' → RowF I2 I' a cp (1 : Nat) xs → LstN (1 : Nat) I I' (Value.slice a (List.length xs) cp) (List.flatMap (fun (x : Int) => [Value.int IntKind.i64 x]) L) ∧ ∃ (I1 : Mem), Mem.le I1 I' ∧ R1 I1 G2) ∧ True) (by kernel_rfl) ?_
  simp only [eq_self, true_and, and_true]
  intro b bd br rc
  have hc : ∀ x, (cI x).length = 1 := fun _ => rfl
  refine ⟨hit, hG, ?_, ?_, ?_⟩
  · rintro k args I2 ⟨x, _, rfl⟩; rfl
  · rintro k I1 hk l1 xs hxs I2 l2 n ⟨x, hx, he⟩
    cases he
    have hxl : xs.length = (L.take k).length * 1 := by rw [hxs]; exact fm_len hc _
    have hkl : (L.take k).length ≤ 1000000 := by rw [List.length_take]; omega
    refine ⟨by omega, by omega, by omega, by rw [List.length_append]; simp only [List.length_cons, List.length_nil] <;> omega, ?_⟩
    rw [hxs]
    exact (fm_snoc (c := cI) hx).symm
  · intro I1 l1 xs hxs I2 G2 l2 hR a cp I3 l3 hrow
    rw [List.take_length] at hxs
    have hxl : xs.length = L.length * 1 := by rw [hxs]; exact fm_len hc _
    subst hxs
    exact ⟨lstN_row hrow (Mem.le_trans l1 l2) (by omega) hxl (by omega), I2, l3, hR⟩
theorem ct41 (L : List Int) (hL : L.length ≤ 1000000) (it : Value) (I G : Mem) (R0 : Mem → Prop) (R1 : Mem → Mem → Prop) (hit : GivesR Try.prog it I L.length (encA (fun x => .int .i64 x) L) R0 R1) (hG : R0 G) :
    CtH Try.prog (fnv 41) #[it] I G (fun v I' G' => LstN 1 I I' v (L.flatMap cI) ∧ ∃ I1, I1.le I' ∧ R1 I1 G') := by
  refine viaR (ctG_via (A := { calls := [(4, .g)] }) Try.func41 rfl Try.call41 rfl rfl) (CtH Try.prog (Value.func (Fn.func (78 : Nat)) #[] #[]) #[Value.slice none (0 : Nat) (0 : Nat), it] I G fun (v : Value) (I' G' : Mem) => ∃ (a : Option Addr), ∃ (n : Nat), ∃ (c : Nat), v = Value.slice a n c ∧ LstN (1 : Nat) I I' (Value.slice a n c) (List.flatMap (fun (x : Int) => [Value.int IntKind.i64 x]) L) ∧ ∃ (I1 : Mem), Mem.le I1 I' ∧ R1 I1 G') (by kernel_rfl) ?_
  refine (ct78 L hL it I G R0 R1 hit hG).mono fun v I1 G1 l1 h => ?_
  obtain ⟨⟨a, n, c, rfl, h1⟩, h2⟩ := h
  exact ⟨_, _, _, rfl, ⟨a, n, c, rfl, h1⟩, h2⟩

theorem ct81 (L : List EvT) (hL : L.length ≤ 1000000) (it : Value) (I G : Mem) (R0 : Mem → Prop) (R1 : Mem → Mem → Prop) (hit : GivesR Try.prog it I L.length (encA (fun x => .agg #[.int .i64 x.1.1, .int .i64 x.1.2.1, .int .i64 x.1.2.2, .int .i64 x.2.1, .int .i64 x.2.2]) L) R0 R1) (hG : R0 G) :
    CtH Try.prog (fnv 81) #[.slice none 0 0, it] I G (fun v I' G' => LstN 5 I I' v (L.flatMap cE) ∧ ∃ I1, I1.le I' ∧ R1 I1 G') := by
  refine viaR (ctGF_via (A := { rfs := [(3, { n := L.length, enc := encA (fun x => .agg #[.int .i64 x.1.1, .int .i64 x.1.2.1, .int .i64 x.1.2.2, .int .i64 x.2.1, .int .i64 x.2.2]) L, ps := [.agg [.int .i64, .int .i64, .int .i64, .int .i64, .int .i64]], pre := [(2, 5, 40)], ents := [(0, .cells [.row 1]), (1, .row)], inv := (fun k vals xss I' _ => match xss with | [xs] => xs = (L.take k).flatMap cE | _ => False), jumps := [], gst := some (R0, R1) })] }) Try.func81 rfl Try.call81 rfl rfl) (∀ (b bd br : Nat) (rc : Loop),
        GivesR Try.prog it I (List.length L)
            (RF.enc
              (RF.mk (List.length L) (encA (fun (x : EvT) => Value.agg #[Value.int IntKind.i64 (Prod.fst (Prod.fst x)), Value.int IntKind.i64 (Prod.fst (Prod.snd (Prod.fst x))), Value.int IntKind.i64 (Prod.snd (Prod.snd (Prod.fst x))), Value.int IntKind.i64 (Prod.fst (Prod.snd x)), Value.int IntKind.i64 (Prod.snd (Prod.snd x))]) L) [PSh.agg [Sh.int IntKind.i64, Sh.int IntKind.i64, Sh.int IntKind.i64, Sh.int IntKind.i64, Sh.int IntKind.i64]] [((0 : Nat), EA.cells [TA.row (1 : Nat)]), ((1 : Nat), EA.row)]
                (fun (k : Nat) (vals : List Value) (xss : List (List Value)) (I' x : Mem) =>
                  match xss with
                  | [xs] => xs = List.flatMap cE (List.take k L)
                  | x => False)
                [((2 : Nat), (5 : Nat), (40 : TypeId))] [] (some (R0, R1))))
            (Prod.fst (R0, R1)) (Prod.snd (R0, R1)) ∧
          R0 G ∧ (∀ (k : Nat) (args : Array Value) (I : Mem), encA (fun (x : EvT) => Value.agg #[Value.int IntKind.i64 (Prod.fst (Prod.fst x)), Value.int IntKind.i64 (Prod.fst (Prod.snd (Prod.fst x))), Value.int IntKind.i64 (Prod.snd (Prod.snd (Prod.fst x))), Value.int IntKind.i64 (Prod.fst (Prod.snd x)), Value.int IntKind.i64 (Prod.snd (Prod.snd x))]) L k args I → psOk [PSh.agg [Sh.int IntKind.i64, Sh.int IntKind.i64, Sh.int IntKind.i64, Sh.int IntKind.i64, Sh.int IntKind.i64]] (Array.toList args) = true) ∧ (Ent.mk (EO.raw (Obj.deferred (some []))) (some bd) = Ent.mk (EO.raw (Obj.deferred (some []))) (some bd) ∧ Ent.mk (EO.raw (Obj.loop (Loop.mk LoopState.ready none (Loop.fn rc) (Loop.tmps rc) (Loop.params rc) (Loop.assign rc) (Loop.body rc) (Loop.defers rc)))) (some br) = Ent.mk (EO.raw (Obj.loop (Loop.mk LoopState.ready none (Loop.fn rc) (Loop.tmps rc) (Loop.params rc) (Loop.assign rc) (Loop.body rc) (Loop.defers rc)))) (some br) ∧ some b = some b ∧ (0 : Nat) = (0 : Nat) ∧ ((b = b ∧ bd = bd ∧ br = br ∧ True) ∧ Obj.loop (Loop.mk LoopState.ready none (Loop.fn rc) (Loop.tmps rc) (Loop.params rc) (Loop.assign rc) (Loop.body rc) (Loop.defers rc)) = Obj.loop (Loop.mk LoopState.ready none (Loop.fn rc) (Loop.tmps rc) (Loop.params rc) (Loop.assign rc) (Loop.body rc) (Loop.defers rc))) ∧ @List.nil Value = @List.nil Value) ∧ (∀ (k : Nat) (I' : Mem), k < List.length L → Mem.le I I' → ∀ (xs : List Value), xs = List.flatMap (fun (x : EvT) => [Value.int IntKind.i64 (Prod.fst (Prod.fst x)), Value.int IntKind.i64 (Prod.fst (Prod.snd (Prod.fst x))), Value.int IntKind.i64 (Prod.snd (Prod.snd (Prod.fst x))), Value.int IntKind.i64 (Prod.fst (Prod.snd x)), Value.int IntKind.i64 (Prod.snd (Prod.snd x))]) (List.take k L) → ∀ (I2 : Mem), Mem.le I' I2 → ∀ (n n_1 n_2 n_3 n_4 : Int), encA (fun (x : EvT) => Value.agg #[Value.int IntKind.i64 (Prod.fst (Prod.fst x)), Value.int IntKind.i64 (Prod.fst (Prod.snd (Prod.fst x))), Value.int IntKind.i64 (Prod.snd (Prod.snd (Prod.fst x))), Value.int IntKind.i64 (Prod.fst (Prod.snd x)), Value.int IntKind.i64 (Prod.snd (Prod.snd x))]) L k #[Value.agg #[Value.int IntKind.i64 n, Value.int IntKind.i64 n_1, Value.int IntKind.i64 n_2, Value.int IntKind.i64 n_3, Value.int IntKind.i64 n_4]] I2 → Obj.loop (Loop.mk LoopState.ready none (Loop.fn rc) (Loop.tmps rc) (Loop.params rc) (Loop.assign rc) (Loop.body rc) (Loop.defers rc)) = Obj.loop (Loop.mk LoopState.ready none (Loop.fn rc) (Loop.tmps rc) (Loop.params rc) (Loop.assign rc) (Loop.body rc) (Loop.defers rc)) ∧ some br = some br ∧ List.length xs = List.length xs / (5 : Nat) * (5 : Nat) ∧ List.length xs / (5 : Nat) + (1 : Nat) ≤ (9223372036854775807 : Nat) ∧ (List.length xs / (5 : Nat) + (1 : Nat)) * (40 : Nat) ≤ (140737488355328 : Nat) ∧ Obj.loop (Loop.mk LoopState.busy none (Loop.fn rc) (Loop.tmps rc) (Loop.params rc) (Loop.assign rc) (Loop.body rc) (Loop.defers rc)) = Obj.loop (Loop.mk LoopState.busy none (Loop.fn rc) (Loop.tmps rc) (Loop.params rc) (Loop.assign rc) (Loop.body rc) (Loop.defers rc)) ∧ some br = some br ∧ Mem.emp = Mem.emp ∧ Ent.mk (EO.raw (Obj.deferred (some []))) (some bd) = Ent.mk (EO.raw (Obj.deferred (some []))) (some bd) ∧ Ent.mk (EO.raw (Obj.loop (Loop.mk LoopState.ready none (Loop.fn rc) (Loop.tmps rc) (Loop.params rc) (Loop.assign rc) (Loop.body rc) (Loop.defers rc)))) (some br) = Ent.mk (EO.raw (Obj.loop (Loop.mk LoopState.ready none (Loop.fn rc) (Loop.tmps rc) (Loop.params rc) (Loop.assign rc) (Loop.body rc) (Loop.defers rc)))) (some br) ∧ some b = some b ∧ List.length xs / (5 : Nat) + (1 : Nat) = List.length (xs ++ [Value.int IntKind.i64 n, Value.int IntKind.i64 n_1, Value.int IntKind.i64 n_2, Value.int IntKind.i64 n_3, Value.int IntKind.i64 n_4]) / (5 : Nat) ∧ ((b = b ∧ bd = bd ∧ br = br ∧ True) ∧ Obj.loop (Loop.mk LoopState.ready none (Loop.fn rc) (Loop.tmps rc) (Loop.params rc) (Loop.assign rc) (Loop.body rc) (Loop.defers rc)) = Obj.loop (Loop.mk LoopState.ready none (Loop.fn rc) (Loop.tmps rc) (Loop.params rc) (Loop.assign rc) (Loop.body rc) (Loop.defers rc))) ∧ xs ++ [Value.int IntKind.i64 n, Value.int IntKind.i64 n_1, Value.int IntKind.i64 n_2, Value.int IntKind.i64 n_3, Value.int IntKind.i64 n_4] = List.flatMap (fun (x : EvT) => [Value.int IntKind.i64 (Prod.fst (Prod.fst x)), Value.int IntKind.i64 (Prod.fst (Prod.snd (Prod.fst x))), Value.int IntKind.i64 (Prod.snd (Prod.snd (Prod.fst x))), Value.int IntKind.i64 (Prod.fst (Prod.snd x)), Value.int IntKind.i64 (Prod.snd (Prod.snd x))]) (List.take (k + (1 : Nat)) L)) ∧ (∀ (I' : Mem), Mem.le I I' → ∀ (xs : List Value), xs = List.flatMap (fun (x : EvT) => [Value.int IntKind.i64 (Prod.fst (Prod.fst x)), Value.int IntKind.i64 (Prod.fst (Prod.snd (Prod.fst x))), Value.int IntKind.i64 (Prod.snd (Prod.snd (Prod.fst x))), Value.int IntKind.i64 (Prod.fst (Prod.snd x)), Value.int IntKind.i64 (Prod.snd (Prod.snd x))]) (List.take (List.length L) L) → ∀ (I2 G2 : Mem), Mem.le I' I2 → R1 I2 G2 → ∀ (a : Option Addr) (cp : Nat) (I' : Mem), Mem.le I2 I' → RowF I2 I' a cp (5 : Nat) xs → LstN (5 : Nat) I I' (Value.slice a (List.length xs / (5 : Nat)) cp) (List.flatMap (fun (x : EvT) => [Value.int IntKind.i64 (Prod.fst (Prod.fst x)), Value.int IntKind.i64 (Prod.fst (Prod.snd (Prod.fst x))), Value.int IntKind.i64 (Prod.snd (Prod.snd (Prod.fst x))), Value.int IntKind.i64 (Prod.fst (Prod.snd x)), Value.int IntKind.i64 (Prod.snd (Prod.snd x))]) L) ∧ ∃ (I1 : Mem), Mem.le I1 I' ∧ R1 I1 G2) ∧ True) (by kernel_rfl) ?_
  simp only [eq_self, true_and, and_true]
  intro b bd br rc
  have hc : ∀ x, (cE x).length = 5 := fun _ => rfl
  refine ⟨hit, hG, ?_, ?_, ?_⟩
  · rintro k args I2 ⟨x, _, rfl⟩; rfl
  · rintro k I1 hk l1 xs hxs I2 l2 n1 n2 n3 n4 n5 ⟨x, hx, he⟩
    cases he
    have hxl : xs.length = (L.take k).length * 5 := by rw [hxs]; exact fm_len hc _
    have hkl : (L.take k).length ≤ 1000000 := by rw [List.length_take]; omega
    refine ⟨by omega, by omega, by omega, by rw [List.length_append]; simp only [List.length_cons, List.length_nil] <;> omega, ?_⟩
    rw [hxs]
    exact (fm_snoc (c := cE) hx).symm
  · intro I1 l1 xs hxs I2 G2 l2 hR a cp I3 l3 hrow
    rw [List.take_length] at hxs
    have hxl : xs.length = L.length * 5 := by rw [hxs]; exact fm_len hc _
    subst hxs
    exact ⟨lstN_row hrow (Mem.le_trans l1 l2) (by omega) hxl (by omega), I2, l3, hR⟩
theorem ct46 (L : List EvT) (hL : L.length ≤ 1000000) (it : Value) (I G : Mem) (R0 : Mem → Prop) (R1 : Mem → Mem → Prop) (hit : GivesR Try.prog it I L.length (encA (fun x => .agg #[.int .i64 x.1.1, .int .i64 x.1.2.1, .int .i64 x.1.2.2, .int .i64 x.2.1, .int .i64 x.2.2]) L) R0 R1) (hG : R0 G) :
    CtH Try.prog (fnv 46) #[it] I G (fun v I' G' => LstN 5 I I' v (L.flatMap cE) ∧ ∃ I1, I1.le I' ∧ R1 I1 G') := by
  refine viaR (ctG_via (A := { calls := [(4, .g)] }) Try.func46 rfl Try.call46 rfl rfl) (CtH Try.prog (Value.func (Fn.func (81 : Nat)) #[] #[]) #[Value.slice none (0 : Nat) (0 : Nat), it] I G fun (v : Value) (I' G' : Mem) => ∃ (a : Option Addr), ∃ (n : Nat), ∃ (c : Nat), v = Value.slice a n c ∧ LstN (5 : Nat) I I' (Value.slice a n c) (List.flatMap (fun (x : EvT) => [Value.int IntKind.i64 (Prod.fst (Prod.fst x)), Value.int IntKind.i64 (Prod.fst (Prod.snd (Prod.fst x))), Value.int IntKind.i64 (Prod.snd (Prod.snd (Prod.fst x))), Value.int IntKind.i64 (Prod.fst (Prod.snd x)), Value.int IntKind.i64 (Prod.snd (Prod.snd x))]) L) ∧ ∃ (I1 : Mem), Mem.le I1 I' ∧ R1 I1 G') (by kernel_rfl) ?_
  refine (ct81 L hL it I G R0 R1 hit hG).mono fun v I1 G1 l1 h => ?_
  obtain ⟨⟨a, n, c, rfl, h1⟩, h2⟩ := h
  exact ⟨_, _, _, rfl, ⟨a, n, c, rfl, h1⟩, h2⟩

theorem ct83 (L : List PtT) (hL : L.length ≤ 1000000) (it : Value) (I G : Mem) (R0 : Mem → Prop) (R1 : Mem → Mem → Prop) (hit : GivesR Try.prog it I L.length (encA (fun x => .agg #[.int .i64 x.1, .string (strB x.2.1), .int .i64 x.2.2]) L) R0 R1) (hG : R0 G) :
    CtH Try.prog (fnv 83) #[.slice none 0 0, it] I G (fun v I' G' => LstN 3 I I' v (L.flatMap cP) ∧ ∃ I1, I1.le I' ∧ R1 I1 G') := by
  refine viaR (ctGF_via (A := { rfs := [(3, { n := L.length, enc := encA (fun x => .agg #[.int .i64 x.1, .string (strB x.2.1), .int .i64 x.2.2]) L, ps := [.agg [.int .i64, .str, .int .i64]], pre := [(2, 3, 43)], ents := [(0, .cells [.row 1]), (1, .row)], inv := (fun k vals xss I' _ => match xss with | [xs] => xs = (L.take k).flatMap cP | _ => False), jumps := [], gst := some (R0, R1) })] }) Try.func83 rfl Try.call83 rfl rfl) (∀ (b bd br : Nat) (rc : Loop),
        GivesR Try.prog it I (List.length L)
            (RF.enc
              (RF.mk (List.length L) (encA (fun (x : PtT) => Value.agg #[Value.int IntKind.i64 (Prod.fst x), Value.string (strB (Prod.fst (Prod.snd x))), Value.int IntKind.i64 (Prod.snd (Prod.snd x))]) L) [PSh.agg [Sh.int IntKind.i64, Sh.str, Sh.int IntKind.i64]] [((0 : Nat), EA.cells [TA.row (1 : Nat)]), ((1 : Nat), EA.row)]
                (fun (k : Nat) (vals : List Value) (xss : List (List Value)) (I' x : Mem) =>
                  match xss with
                  | [xs] => xs = List.flatMap cP (List.take k L)
                  | x => False)
                [((2 : Nat), (3 : Nat), (43 : TypeId))] [] (some (R0, R1))))
            (Prod.fst (R0, R1)) (Prod.snd (R0, R1)) ∧
          R0 G ∧ (∀ (k : Nat) (args : Array Value) (I : Mem), encA (fun (x : PtT) => Value.agg #[Value.int IntKind.i64 (Prod.fst x), Value.string (strB (Prod.fst (Prod.snd x))), Value.int IntKind.i64 (Prod.snd (Prod.snd x))]) L k args I → psOk [PSh.agg [Sh.int IntKind.i64, Sh.str, Sh.int IntKind.i64]] (Array.toList args) = true) ∧ (Ent.mk (EO.raw (Obj.deferred (some []))) (some bd) = Ent.mk (EO.raw (Obj.deferred (some []))) (some bd) ∧ Ent.mk (EO.raw (Obj.loop (Loop.mk LoopState.ready none (Loop.fn rc) (Loop.tmps rc) (Loop.params rc) (Loop.assign rc) (Loop.body rc) (Loop.defers rc)))) (some br) = Ent.mk (EO.raw (Obj.loop (Loop.mk LoopState.ready none (Loop.fn rc) (Loop.tmps rc) (Loop.params rc) (Loop.assign rc) (Loop.body rc) (Loop.defers rc)))) (some br) ∧ some b = some b ∧ (0 : Nat) = (0 : Nat) ∧ ((b = b ∧ bd = bd ∧ br = br ∧ True) ∧ Obj.loop (Loop.mk LoopState.ready none (Loop.fn rc) (Loop.tmps rc) (Loop.params rc) (Loop.assign rc) (Loop.body rc) (Loop.defers rc)) = Obj.loop (Loop.mk LoopState.ready none (Loop.fn rc) (Loop.tmps rc) (Loop.params rc) (Loop.assign rc) (Loop.body rc) (Loop.defers rc))) ∧ @List.nil Value = @List.nil Value) ∧ (∀ (k : Nat) (I' : Mem), k < List.length L → Mem.le I I' → ∀ (xs : List Value), xs = List.flatMap (fun (x : PtT) => [Value.int IntKind.i64 (Prod.fst x), Value.string (strB (Prod.fst (Prod.snd x))), Value.int IntKind.i64 (Prod.snd (Prod.snd x))]) (List.take k L) → ∀ (I2 : Mem), Mem.le I' I2 → ∀ (n : Int) (q : ByteArray) (n_1 : Int), encA (fun (x : PtT) => Value.agg #[Value.int IntKind.i64 (Prod.fst x), Value.string (strB (Prod.fst (Prod.snd x))), Value.int IntKind.i64 (Prod.snd (Prod.snd x))]) L k #[Value.agg #[Value.int IntKind.i64 n, Value.string q, Value.int IntKind.i64 n_1]] I2 → Obj.loop (Loop.mk LoopState.ready none (Loop.fn rc) (Loop.tmps rc) (Loop.params rc) (Loop.assign rc) (Loop.body rc) (Loop.defers rc)) = Obj.loop (Loop.mk LoopState.ready none (Loop.fn rc) (Loop.tmps rc) (Loop.params rc) (Loop.assign rc) (Loop.body rc) (Loop.defers rc)) ∧ some br = some br ∧ List.length xs = List.length xs / (3 : Nat) * (3 : Nat) ∧ List.length xs / (3 : Nat) + (1 : Nat) ≤ (9223372036854775807 : Nat) ∧ (List.length xs / (3 : Nat) + (1 : Nat)) * (32 : Nat) ≤ (140737488355328 : Nat) ∧ Obj.loop (Loop.mk LoopState.busy none (Loop.fn rc) (Loop.tmps rc) (Loop.params rc) (Loop.assign rc) (Loop.body rc) (Loop.defers rc)) = Obj.loop (Loop.mk LoopState.busy none (Loop.fn rc) (Loop.tmps rc) (Loop.params rc) (Loop.assign rc) (Loop.body rc) (Loop.defers rc)) ∧ some br = some br ∧ Mem.emp = Mem.emp ∧ Ent.mk (EO.raw (Obj.deferred (some []))) (some bd) = Ent.mk (EO.raw (Obj.deferred (some []))) (some bd) ∧ Ent.mk (EO.raw (Obj.loop (Loop.mk LoopState.ready none (Loop.fn rc) (Loop.tmps rc) (Loop.params rc) (Loop.assign rc) (Loop.body rc) (Loop.defers rc)))) (some br) = Ent.mk (EO.raw (Obj.loop (Loop.mk LoopState.ready none (Loop.fn rc) (Loop.tmps rc) (Loop.params rc) (Loop.assign rc) (Loop.body rc) (Loop.defers rc)))) (some br) ∧ some b = some b ∧ List.length xs / (3 : Nat) + (1 : Nat) = List.length (xs ++ [Value.int IntKind.i64 n, Value.string q, Value.int IntKind.i64 n_1]) / (3 : Nat) ∧ ((b = b ∧ bd = bd ∧ br = br ∧ True) ∧ Obj.loop (Loop.mk LoopState.ready none (Loop.fn rc) (Loop.tmps rc) (Loop.params rc) (Loop.assign rc) (Loop.body rc) (Loop.defers rc)) = Obj.loop (Loop.mk LoopState.ready none (Loop.fn rc) (Loop.tmps rc) (Loop.params rc) (Loop.assign rc) (Loop.body rc) (Loop.defers rc))) ∧ xs ++ [Value.int IntKind.i64 n, Value.string q, Value.int IntKind.i64 n_1] = List.flatMap (fun (x : PtT) => [Value.int IntKind.i64 (Prod.fst x), Value.string (strB (Prod.fst (Prod.snd x))), Value.int IntKind.i64 (Prod.snd (Prod.snd x))]) (List.take (k + (1 : Nat)) L)) ∧ (∀ (I' : Mem), Mem.le I I' → ∀ (xs : List Value), xs = List.flatMap (fun (x : PtT) => [Value.int IntKind.i64 (Prod.fst x), Value.string (strB (Prod.fst (Prod.snd x))), Value.int IntKind.i64 (Prod.snd (Prod.snd x))]) (List.take (List.length L) L) → ∀ (I2 G2 : Mem), Mem.le I' I2 → R1 I2 G2 → ∀ (a : Option Addr) (cp : Nat) (I' : Mem), Mem.le I2 I' → RowF I2 I' a cp (3 : Nat) xs → LstN (3 : Nat) I I' (Value.slice a (List.length xs / (3 : Nat)) cp) (List.flatMap (fun (x : PtT) => [Value.int IntKind.i64 (Prod.fst x), Value.string (strB (Prod.fst (Prod.snd x))), Value.int IntKind.i64 (Prod.snd (Prod.snd x))]) L) ∧ ∃ (I1 : Mem), Mem.le I1 I' ∧ R1 I1 G2) ∧ True) (by kernel_rfl) ?_
  simp only [eq_self, true_and, and_true]
  intro b bd br rc
  have hc : ∀ x, (cP x).length = 3 := fun _ => rfl
  refine ⟨hit, hG, ?_, ?_, ?_⟩
  · rintro k args I2 ⟨x, _, rfl⟩; rfl
  · rintro k I1 hk l1 xs hxs I2 l2 n1 n2 n3 ⟨x, hx, he⟩
    cases he
    have hxl : xs.length = (L.take k).length * 3 := by rw [hxs]; exact fm_len hc _
    have hkl : (L.take k).length ≤ 1000000 := by rw [List.length_take]; omega
    refine ⟨by omega, by omega, by omega, by rw [List.length_append]; simp only [List.length_cons, List.length_nil] <;> omega, ?_⟩
    rw [hxs]
    exact (fm_snoc (c := cP) hx).symm
  · intro I1 l1 xs hxs I2 G2 l2 hR a cp I3 l3 hrow
    rw [List.take_length] at hxs
    have hxl : xs.length = L.length * 3 := by rw [hxs]; exact fm_len hc _
    subst hxs
    exact ⟨lstN_row hrow (Mem.le_trans l1 l2) (by omega) hxl (by omega), I2, l3, hR⟩
theorem ct49 (L : List PtT) (hL : L.length ≤ 1000000) (it : Value) (I G : Mem) (R0 : Mem → Prop) (R1 : Mem → Mem → Prop) (hit : GivesR Try.prog it I L.length (encA (fun x => .agg #[.int .i64 x.1, .string (strB x.2.1), .int .i64 x.2.2]) L) R0 R1) (hG : R0 G) :
    CtH Try.prog (fnv 49) #[it] I G (fun v I' G' => LstN 3 I I' v (L.flatMap cP) ∧ ∃ I1, I1.le I' ∧ R1 I1 G') := by
  refine viaR (ctG_via (A := { calls := [(4, .g)] }) Try.func49 rfl Try.call49 rfl rfl) (CtH Try.prog (Value.func (Fn.func (83 : Nat)) #[] #[]) #[Value.slice none (0 : Nat) (0 : Nat), it] I G fun (v : Value) (I' G' : Mem) => ∃ (a : Option Addr), ∃ (n : Nat), ∃ (c : Nat), v = Value.slice a n c ∧ LstN (3 : Nat) I I' (Value.slice a n c) (List.flatMap (fun (x : PtT) => [Value.int IntKind.i64 (Prod.fst x), Value.string (strB (Prod.fst (Prod.snd x))), Value.int IntKind.i64 (Prod.snd (Prod.snd x))]) L) ∧ ∃ (I1 : Mem), Mem.le I1 I' ∧ R1 I1 G') (by kernel_rfl) ?_
  refine (ct83 L hL it I G R0 R1 hit hG).mono fun v I1 G1 l1 h => ?_
  obtain ⟨⟨a, n, c, rfl, h1⟩, h2⟩ := h
  exact ⟨_, _, _, rfl, ⟨a, n, c, rfl, h1⟩, h2⟩

theorem ct85 (L : List HdT) (hL : L.length ≤ 1000000) (it : Value) (I G : Mem) (R0 : Mem → Prop) (R1 : Mem → Mem → Prop) (hit : GivesR Try.prog it I L.length (encA (fun x => .agg #[.int .i64 x.1, .int .i64 x.2.1, .int .i64 x.2.2.1, .int .i64 x.2.2.2.1, .int .u8 x.2.2.2.2]) L) R0 R1) (hG : R0 G) :
    CtH Try.prog (fnv 85) #[.slice none 0 0, it] I G (fun v I' G' => LstN 5 I I' v (L.flatMap cH) ∧ ∃ I1, I1.le I' ∧ R1 I1 G') := by
  refine viaR (ctGF_via (A := { rfs := [(3, { n := L.length, enc := encA (fun x => .agg #[.int .i64 x.1, .int .i64 x.2.1, .int .i64 x.2.2.1, .int .i64 x.2.2.2.1, .int .u8 x.2.2.2.2]) L, ps := [.agg [.int .i64, .int .i64, .int .i64, .int .i64, .int .u8]], pre := [(2, 5, 46)], ents := [(0, .cells [.row 1]), (1, .row)], inv := (fun k vals xss I' _ => match xss with | [xs] => xs = (L.take k).flatMap cH | _ => False), jumps := [], gst := some (R0, R1) })] }) Try.func85 rfl Try.call85 rfl rfl) (∀ (b bd br : Nat) (rc : Loop),
        GivesR Try.prog it I (List.length L)
            (RF.enc
              (RF.mk (List.length L) (encA (fun (x : HdT) => Value.agg #[Value.int IntKind.i64 (Prod.fst x), Value.int IntKind.i64 (Prod.fst (Prod.snd x)), Value.int IntKind.i64 (Prod.fst (Prod.snd (Prod.snd x))), Value.int IntKind.i64 (Prod.fst (Prod.snd (Prod.snd (Prod.snd x)))), Value.int IntKind.u8 (Prod.snd (Prod.snd (Prod.snd (Prod.snd x))))]) L) [PSh.agg [Sh.int IntKind.i64, Sh.int IntKind.i64, Sh.int IntKind.i64, Sh.int IntKind.i64, Sh.int IntKind.u8]] [((0 : Nat), EA.cells [TA.row (1 : Nat)]), ((1 : Nat), EA.row)]
                (fun (k : Nat) (vals : List Value) (xss : List (List Value)) (I' x : Mem) =>
                  match xss with
                  | [xs] => xs = List.flatMap cH (List.take k L)
                  | x => False)
                [((2 : Nat), (5 : Nat), (46 : TypeId))] [] (some (R0, R1))))
            (Prod.fst (R0, R1)) (Prod.snd (R0, R1)) ∧
          R0 G ∧ (∀ (k : Nat) (args : Array Value) (I : Mem), encA (fun (x : HdT) => Value.agg #[Value.int IntKind.i64 (Prod.fst x), Value.int IntKind.i64 (Prod.fst (Prod.snd x)), Value.int IntKind.i64 (Prod.fst (Prod.snd (Prod.snd x))), Value.int IntKind.i64 (Prod.fst (Prod.snd (Prod.snd (Prod.snd x)))), Value.int IntKind.u8 (Prod.snd (Prod.snd (Prod.snd (Prod.snd x))))]) L k args I → psOk [PSh.agg [Sh.int IntKind.i64, Sh.int IntKind.i64, Sh.int IntKind.i64, Sh.int IntKind.i64, Sh.int IntKind.u8]] (Array.toList args) = true) ∧ (Ent.mk (EO.raw (Obj.deferred (some []))) (some bd) = Ent.mk (EO.raw (Obj.deferred (some []))) (some bd) ∧ Ent.mk (EO.raw (Obj.loop (Loop.mk LoopState.ready none (Loop.fn rc) (Loop.tmps rc) (Loop.params rc) (Loop.assign rc) (Loop.body rc) (Loop.defers rc)))) (some br) = Ent.mk (EO.raw (Obj.loop (Loop.mk LoopState.ready none (Loop.fn rc) (Loop.tmps rc) (Loop.params rc) (Loop.assign rc) (Loop.body rc) (Loop.defers rc)))) (some br) ∧ some b = some b ∧ (0 : Nat) = (0 : Nat) ∧ ((b = b ∧ bd = bd ∧ br = br ∧ True) ∧ Obj.loop (Loop.mk LoopState.ready none (Loop.fn rc) (Loop.tmps rc) (Loop.params rc) (Loop.assign rc) (Loop.body rc) (Loop.defers rc)) = Obj.loop (Loop.mk LoopState.ready none (Loop.fn rc) (Loop.tmps rc) (Loop.params rc) (Loop.assign rc) (Loop.body rc) (Loop.defers rc))) ∧ @List.nil Value = @List.nil Value) ∧ (∀ (k : Nat) (I' : Mem), k < List.length L → Mem.le I I' → ∀ (xs : List Value), xs = List.flatMap (fun (x : HdT) => [Value.int IntKind.i64 (Prod.fst x), Value.int IntKind.i64 (Prod.fst (Prod.snd x)), Value.int IntKind.i64 (Prod.fst (Prod.snd (Prod.snd x))), Value.int IntKind.i64 (Prod.fst (Prod.snd (Prod.snd (Prod.snd x)))), Value.int IntKind.u8 (Prod.snd (Prod.snd (Prod.snd (Prod.snd x))))]) (List.take k L) → ∀ (I2 : Mem), Mem.le I' I2 → ∀ (n n_1 n_2 n_3 n_4 : Int), encA (fun (x : HdT) => Value.agg #[Value.int IntKind.i64 (Prod.fst x), Value.int IntKind.i64 (Prod.fst (Prod.snd x)), Value.int IntKind.i64 (Prod.fst (Prod.snd (Prod.snd x))), Value.int IntKind.i64 (Prod.fst (Prod.snd (Prod.snd (Prod.snd x)))), Value.int IntKind.u8 (Prod.snd (Prod.snd (Prod.snd (Prod.snd x))))]) L k #[Value.agg #[Value.int IntKind.i64 n, Value.int IntKind.i64 n_1, Value.int IntKind.i64 n_2, Value.int IntKind.i64 n_3, Value.int IntKind.u8 n_4]] I2 → Obj.loop (Loop.mk LoopState.ready none (Loop.fn rc) (Loop.tmps rc) (Loop.params rc) (Loop.assign rc) (Loop.body rc) (Loop.defers rc)) = Obj.loop (Loop.mk LoopState.ready none (Loop.fn rc) (Loop.tmps rc) (Loop.params rc) (Loop.assign rc) (Loop.body rc) (Loop.defers rc)) ∧ some br = some br ∧ List.length xs = List.length xs / (5 : Nat) * (5 : Nat) ∧ List.length xs / (5 : Nat) + (1 : Nat) ≤ (9223372036854775807 : Nat) ∧ (List.length xs / (5 : Nat) + (1 : Nat)) * (40 : Nat) ≤ (140737488355328 : Nat) ∧ Obj.loop (Loop.mk LoopState.busy none (Loop.fn rc) (Loop.tmps rc) (Loop.params rc) (Loop.assign rc) (Loop.body rc) (Loop.defers rc)) = Obj.loop (Loop.mk LoopState.busy none (Loop.fn rc) (Loop.tmps rc) (Loop.params rc) (Loop.assign rc) (Loop.body rc) (Loop.defers rc)) ∧ some br = some br ∧ Mem.emp = Mem.emp ∧ Ent.mk (EO.raw (Obj.deferred (some []))) (some bd) = Ent.mk (EO.raw (Obj.deferred (some []))) (some bd) ∧ Ent.mk (EO.raw (Obj.loop (Loop.mk LoopState.ready none (Loop.fn rc) (Loop.tmps rc) (Loop.params rc) (Loop.assign rc) (Loop.body rc) (Loop.defers rc)))) (some br) = Ent.mk (EO.raw (Obj.loop (Loop.mk LoopState.ready none (Loop.fn rc) (Loop.tmps rc) (Loop.params rc) (Loop.assign rc) (Loop.body rc) (Loop.defers rc)))) (some br) ∧ some b = some b ∧ List.length xs / (5 : Nat) + (1 : Nat) = List.length (xs ++ [Value.int IntKind.i64 n, Value.int IntKind.i64 n_1, Value.int IntKind.i64 n_2, Value.int IntKind.i64 n_3, Value.int IntKind.u8 n_4]) / (5 : Nat) ∧ ((b = b ∧ bd = bd ∧ br = br ∧ True) ∧ Obj.loop (Loop.mk LoopState.ready none (Loop.fn rc) (Loop.tmps rc) (Loop.params rc) (Loop.assign rc) (Loop.body rc) (Loop.defers rc)) = Obj.loop (Loop.mk LoopState.ready none (Loop.fn rc) (Loop.tmps rc) (Loop.params rc) (Loop.assign rc) (Loop.body rc) (Loop.defers rc))) ∧ xs ++ [Value.int IntKind.i64 n, Value.int IntKind.i64 n_1, Value.int IntKind.i64 n_2, Value.int IntKind.i64 n_3, Value.int IntKind.u8 n_4] = List.flatMap (fun (x : HdT) => [Value.int IntKind.i64 (Prod.fst x), Value.int IntKind.i64 (Prod.fst (Prod.snd x)), Value.int IntKind.i64 (Prod.fst (Prod.snd (Prod.snd x))), Value.int IntKind.i64 (Prod.fst (Prod.snd (Prod.snd (Prod.snd x)))), Value.int IntKind.u8 (Prod.snd (Prod.snd (Prod.snd (Prod.snd x))))]) (List.take (k + (1 : Nat)) L)) ∧ (∀ (I' : Mem), Mem.le I I' → ∀ (xs : List Value), xs = List.flatMap (fun (x : HdT) => [Value.int IntKind.i64 (Prod.fst x), Value.int IntKind.i64 (Prod.fst (Prod.snd x)), Value.int IntKind.i64 (Prod.fst (Prod.snd (Prod.snd x))), Value.int IntKind.i64 (Prod.fst (Prod.snd (Prod.snd (Prod.snd x)))), Value.int IntKind.u8 (Prod.snd (Prod.snd (Prod.snd (Prod.snd x))))]) (List.take (List.length L) L) → ∀ (I2 G2 : Mem), Mem.le I' I2 → R1 I2 G2 → ∀ (a : Option Addr) (cp : Nat) (I' : Mem), Mem.le I2 I' → RowF I2 I' a cp (5 : Nat) xs → LstN (5 : Nat) I I' (Value.slice a (List.length xs / (5 : Nat)) cp) (List.flatMap (fun (x : HdT) => [Value.int IntKind.i64 (Prod.fst x), Value.int IntKind.i64 (Prod.fst (Prod.snd x)), Value.int IntKind.i64 (Prod.fst (Prod.snd (Prod.snd x))), Value.int IntKind.i64 (Prod.fst (Prod.snd (Prod.snd (Prod.snd x)))), Value.int IntKind.u8 (Prod.snd (Prod.snd (Prod.snd (Prod.snd x))))]) L) ∧ ∃ (I1 : Mem), Mem.le I1 I' ∧ R1 I1 G2) ∧ True) (by kernel_rfl) ?_
  simp only [eq_self, true_and, and_true]
  intro b bd br rc
  have hc : ∀ x, (cH x).length = 5 := fun _ => rfl
  refine ⟨hit, hG, ?_, ?_, ?_⟩
  · rintro k args I2 ⟨x, _, rfl⟩; rfl
  · rintro k I1 hk l1 xs hxs I2 l2 n1 n2 n3 n4 n5 ⟨x, hx, he⟩
    cases he
    have hxl : xs.length = (L.take k).length * 5 := by rw [hxs]; exact fm_len hc _
    have hkl : (L.take k).length ≤ 1000000 := by rw [List.length_take]; omega
    refine ⟨by omega, by omega, by omega, by rw [List.length_append]; simp only [List.length_cons, List.length_nil] <;> omega, ?_⟩
    rw [hxs]
    exact (fm_snoc (c := cH) hx).symm
  · intro I1 l1 xs hxs I2 G2 l2 hR a cp I3 l3 hrow
    rw [List.take_length] at hxs
    have hxl : xs.length = L.length * 5 := by rw [hxs]; exact fm_len hc _
    subst hxs
    exact ⟨lstN_row hrow (Mem.le_trans l1 l2) (by omega) hxl (by omega), I2, l3, hR⟩
theorem ct52 (L : List HdT) (hL : L.length ≤ 1000000) (it : Value) (I G : Mem) (R0 : Mem → Prop) (R1 : Mem → Mem → Prop) (hit : GivesR Try.prog it I L.length (encA (fun x => .agg #[.int .i64 x.1, .int .i64 x.2.1, .int .i64 x.2.2.1, .int .i64 x.2.2.2.1, .int .u8 x.2.2.2.2]) L) R0 R1) (hG : R0 G) :
    CtH Try.prog (fnv 52) #[it] I G (fun v I' G' => LstN 5 I I' v (L.flatMap cH) ∧ ∃ I1, I1.le I' ∧ R1 I1 G') := by
  refine viaR (ctG_via (A := { calls := [(4, .g)] }) Try.func52 rfl Try.call52 rfl rfl) (CtH Try.prog (Value.func (Fn.func (85 : Nat)) #[] #[]) #[Value.slice none (0 : Nat) (0 : Nat), it] I G fun (v : Value) (I' G' : Mem) => ∃ (a : Option Addr), ∃ (n : Nat), ∃ (c : Nat), v = Value.slice a n c ∧ LstN (5 : Nat) I I' (Value.slice a n c) (List.flatMap (fun (x : HdT) => [Value.int IntKind.i64 (Prod.fst x), Value.int IntKind.i64 (Prod.fst (Prod.snd x)), Value.int IntKind.i64 (Prod.fst (Prod.snd (Prod.snd x))), Value.int IntKind.i64 (Prod.fst (Prod.snd (Prod.snd (Prod.snd x)))), Value.int IntKind.u8 (Prod.snd (Prod.snd (Prod.snd (Prod.snd x))))]) L) ∧ ∃ (I1 : Mem), Mem.le I1 I' ∧ R1 I1 G') (by kernel_rfl) ?_
  refine (ct85 L hL it I G R0 R1 hit hG).mono fun v I1 G1 l1 h => ?_
  obtain ⟨⟨a, n, c, rfl, h1⟩, h2⟩ := h
  exact ⟨_, _, _, rfl, ⟨a, n, c, rfl, h1⟩, h2⟩
open Go Go.Proofs Go.SE Go.RowKit
set_option linter.unusedVariables false
theorem CtH.capture {P : Program} {f : FuncId} {first args cap : Array Value} {I G : Mem} {post : Value → Mem → Mem → Prop} (h : CtH P (fnv f) (first ++ args ++ cap) I G post) : CtH P (.func (.func f) first cap) args I G post := by
  intro W hI hG hap
  have := h W hI hG hap
  unfold CallV fnv at *
  rw [run_semV_func] at *
  simpa using this
theorem next_len {s : RS} (hb : byteL s.1) : (nextR s).2.1.length ≤ s.1.length ∧ byteL (nextR s).2.1 ∧ (s.1 ≠ [] → s.2 = false → (nextR s).2.1.length < s.1.length) := by
  unfold nextR
  split
  · refine ⟨Nat.zero_le _, (fun z hz => by cases hz), fun h _ => List.length_pos_iff.2 h⟩
  · rename_i h
    simp only [not_or, Decidable.not_not] at h
    obtain ⟨g1, g2, g3, g4, g5, g6, g7⟩ := readN_back hb (x := (readN s.1 0).1) (n := (readN s.1 0).2.1) (at_ := 0) (Prod.ext rfl (Prod.ext rfl h.2))
    have := (formN_le _ g4).2
    simp only [List.length_drop]
    exact ⟨by omega, fun z hz => hb z (List.mem_of_mem_drop hz), fun _ _ => by omega⟩
theorem numQ_rest (s : RS) : (numQ s).2.1 = (nextR s).2.1 := rfl
theorem num_len {s : RS} (hb : byteL s.1) : (numQ s).2.1.length ≤ s.1.length ∧ byteL (numQ s).2.1 ∧ (s.1 ≠ [] → s.2 = false → (numQ s).2.1.length < s.1.length) := next_len hb
theorem key_len {s : RS} (hb : byteL s.1) : (keyQ s).2.1.length ≤ s.1.length ∧ byteL (keyQ s).2.1 ∧ (s.1 ≠ [] → s.2 = false → (keyQ s).2.1.length < s.1.length) := by
  obtain ⟨a1, a2, a3⟩ := num_len hb
  obtain ⟨b1, b2, _⟩ := num_len a2
  obtain ⟨c1, c2, _⟩ := num_len b2
  have e : (keyQ s).2 = (numQ (numQ (numQ s).2).2).2 := rfl
  rw [e]
  exact ⟨by omega, c2, fun h h' => by have := a3 h h'; omega⟩
theorem dec_num : Dec numQ := fun s hb h h' => (num_len hb).2.2 h h'
theorem dec_val : Dec valQ := fun s hb h h' => (next_len hb).2.2 h h'
theorem dec_ev : Dec evQ := fun s hb h h' => by
  obtain ⟨a1, a2, a3⟩ := key_len hb
  obtain ⟨b1, b2, _⟩ := num_len a2
  obtain ⟨c1, c2, _⟩ := next_len b2
  have e : (evQ s).2 = (nextR (numQ (keyQ s).2).2).2 := rfl
  rw [e]
  have := a3 h h'
  omega
def hdT (p1 p2 p3 p4 p5 : Int × RS) : HdT × RS := ((p1.1, p2.1, p3.1, p4.1, IntKind.u8.wrap p5.1), (p5.2.1, p5.2.2 || decide (255 < p5.1)))
theorem hd_eq (s : RS) : hdQ s = hdT (numQ s) (numQ (numQ s).2) (numQ (numQ (numQ s).2).2) (numQ (numQ (numQ (numQ s).2).2).2) (numQ (numQ (numQ (numQ (numQ s).2).2).2).2) := by rw [hdQ, hdT]
theorem hdT_rest (p1 p2 p3 p4 p5 : Int × RS) : (hdT p1 p2 p3 p4 p5).2.1 = p5.2.1 := rfl
theorem hd_rest {s s1 s2 s3 s4 : RS} (h1 : (numQ s).2 = s1) (h2 : (numQ s1).2 = s2) (h3 : (numQ s2).2 = s3) (h4 : (numQ s3).2 = s4) : (hdQ s).2.1 = (numQ s4).2.1 := by
  have e := congrArg (fun p : HdT × RS => p.2.1) (hd_eq s)
  simp only [h1, h2, h3, h4] at e
  exact e.trans (hdT_rest _ _ _ _ _)
theorem dec_hd : Dec hdQ := fun s hb h h' => by
  obtain ⟨a1, a2, a3⟩ := num_len hb
  have a3 := a3 h h'
  obtain ⟨s1, h1⟩ : ∃ s1, (numQ s).2 = s1 := ⟨_, rfl⟩
  rw [h1] at a1 a2 a3
  obtain ⟨b1, b2, _⟩ := num_len a2
  obtain ⟨s2, h2⟩ : ∃ s2, (numQ s1).2 = s2 := ⟨_, rfl⟩
  rw [h2] at b1 b2
  obtain ⟨c1, c2, _⟩ := num_len b2
  obtain ⟨s3, h3⟩ : ∃ s3, (numQ s2).2 = s3 := ⟨_, rfl⟩
  rw [h3] at c1 c2
  obtain ⟨d1, d2, _⟩ := num_len c2
  obtain ⟨s4, h4⟩ : ∃ s4, (numQ s3).2 = s4 := ⟨_, rfl⟩
  rw [h4] at d1 d2
  obtain ⟨e1, _⟩ := num_len d2
  rw [hd_rest h1 h2 h3 h4]
  omega
theorem dec_port : Dec portQ := fun s hb h h' => by
  obtain ⟨a1, a2, a3⟩ := num_len hb
  obtain ⟨b1, b2, _⟩ := num_len a2
  obtain ⟨c1, c2, _⟩ := num_len b2
  have e : (portQ s).2.1.length ≤ (szQ s).2.1.length := by
    unfold portQ
    split
    · exact Nat.le_refl _
    · simp only [List.length_drop]; omega
  have e2 : (szQ s).2.1 = (numQ (numQ (numQ s).2).2).2.1 := rfl
  rw [e2] at e
  have := a3 h h'
  omega
theorem runAll_len {α : Type} {take : RS → α × RS} : ∀ (k : Nat) (s : RS), (runAll take k s).1.length ≤ k
  | 0, s => Nat.le_refl 0
  | k + 1, s => by
    rw [runAll]
    split
    · exact Nat.zero_le _
    · simp only [List.length_cons]
      have := runAll_len (take := take) k (take s).2
      omega
structure Rs where
  num : Int
  code : Int
  ser : Int
  port : Int
  time : Int
  kind : Int
  more : Bool
  key : Int × Int × Int
  counts : List Int
  cells : List Int
  events : List EvT
  ports : List PtT
  handles : List HdT
/-- Where a response's lists lie. -/
structure Ys where
  c : Value
  l : Value
  e : Value
  p : Value
  h : Value
def rsV (r : Rs) (y : Ys) : List Value := [.int .i64 r.num, .int .i64 r.code, .int .i64 r.ser, .int .i64 r.port, .int .i64 r.time, .int .u8 r.kind, .bool r.more, .int .i64 r.key.1, .int .i64 r.key.2.1, .int .i64 r.key.2.2, y.c, y.l, y.e, y.p, y.h]
def LstM (sz : Nat) (I : Mem) (v : Value) (xs : List Value) : Prop := ∃ a n c, v = .slice a n c ∧ SlM I a n sz xs ∧ n ≤ c ∧ c ≤ maxLen
theorem LstM.mono {sz : Nat} {I J : Mem} {v : Value} {xs : List Value} (h : LstM sz I v xs) (hle : I.le J) : LstM sz J v xs := by
  obtain ⟨a, n, c, h1, h2, h3⟩ := h
  exact ⟨a, n, c, h1, h2.mono hle, h3⟩
theorem LstN.lst {sz : Nat} {I I' : Mem} {v : Value} {xs : List Value} (h : LstN sz I I' v xs) : LstM sz I' v xs := by
  obtain ⟨a, n, c, h1, h2, h3, h4, _⟩ := h
  exact ⟨a, n, c, h1, h2, h3, h4⟩
structure RsM (I : Mem) (r : Rs) (y : Ys) : Prop where
  c : LstM 1 I y.c (r.counts.flatMap cI)
  l : LstM 1 I y.l (r.cells.flatMap cI)
  e : LstM 5 I y.e (r.events.flatMap cE)
  p : LstM 3 I y.p (r.ports.flatMap cP)
  h : LstM 5 I y.h (r.handles.flatMap cH)
theorem RsM.mono {I J : Mem} {r : Rs} {y : Ys} (h : RsM I r y) (hle : I.le J) : RsM J r y := ⟨h.c.mono hle, h.l.mono hle, h.e.mono hle, h.p.mono hle, h.h.mono hle⟩
/-- What is new of a list. -/
def NewL (sz : Nat) (I0 I : Mem) (v : Value) : Prop := ∀ a n c, v = .slice a n c → NewS sz I0 I a c
structure NewY (I0 I : Mem) (y : Ys) : Prop where
  c : NewL 1 I0 I y.c
  l : NewL 1 I0 I y.l
  e : NewL 5 I0 I y.e
  p : NewL 3 I0 I y.p
  h : NewL 5 I0 I y.h
theorem NewL.mono {sz : Nat} {I0 I J : Mem} {v : Value} (h : NewL sz I0 I v) (hle : I.le J) : NewL sz I0 J v := fun a n c hv => (h a n c hv).mono hle
theorem NewL.anti {sz : Nat} {I0 J0 I : Mem} {v : Value} (h : NewL sz I0 I v) (hle : J0.le I0) : NewL sz J0 I v := fun a n c hv => (h a n c hv).anti hle
theorem NewY.mono {I0 I J : Mem} {y : Ys} (h : NewY I0 I y) (hle : I.le J) : NewY I0 J y := ⟨h.c.mono hle, h.l.mono hle, h.e.mono hle, h.p.mono hle, h.h.mono hle⟩
theorem LstN.new {sz : Nat} {I I' : Mem} {v : Value} {xs : List Value} (h : LstN sz I I' v xs) : NewL sz I I' v := by
  obtain ⟨a, n, c, rfl, _, _, _, h4⟩ := h
  intro a' n' c' hv
  cases hv
  exact h4
/-- What a field sets, and what is left of its bytes. -/
def takeS (r : Rs) (t : Int) (bs : List Int) : Rs × RS :=
  if t = 1 then ({ r with num := (numQ (bs, false)).1 }, (numQ (bs, false)).2)
  else if t = 2 then ({ r with kind := IntKind.u8.wrap (imin (numQ (bs, false)).1 255) }, (numQ (bs, false)).2)
  else if t = 3 then ({ r with code := (numQ (bs, false)).1 }, (numQ (bs, false)).2)
  else if t = 4 then ({ r with ser := (numQ (bs, false)).1 }, (numQ (bs, false)).2)
  else if t = 5 then ({ r with port := (numQ (bs, false)).1 }, (numQ (bs, false)).2)
  else if t = 6 then ({ r with time := (numQ (bs, false)).1 }, (numQ (bs, false)).2)
  else if t = 7 then ({ r with more := true }, (bs, false))
  else if t = 8 then ({ r with key := (keyQ (bs, false)).1 }, (keyQ (bs, false)).2)
  else if t = 9 then ({ r with counts := (runAll numQ bs.length (bs, false)).1 }, (runAll numQ bs.length (bs, false)).2)
  else if t = 10 then ({ r with cells := (runAll valQ bs.length (bs, false)).1 }, (runAll valQ bs.length (bs, false)).2)
  else if t = 11 then ({ r with events := (runAll evQ bs.length (bs, false)).1 }, (runAll evQ bs.length (bs, false)).2)
  else if t = 12 then ({ r with ports := (runAll portQ bs.length (bs, false)).1 }, (runAll portQ bs.length (bs, false)).2)
  else if t = 13 then ({ r with handles := (runAll hdQ bs.length (bs, false)).1 }, (runAll hdQ bs.length (bs, false)).2)
  else (r, ([], true))
theorem rdB {I G : Mem} {kb : Nat} {s : RS} (h : Rd I G kb s) : ∃ a n c, atI G (some ⟨kb, 0, none⟩) 0 = some (.slice a n c) ∧ atI G (some ⟨kb, 0, none⟩) 1 = some (.bool s.2) ∧ n = s.1.length := by
  obtain ⟨a, n, c, hG, hs, _⟩ := h
  exact ⟨a, n, c, atC hG rfl, atC hG rfl, hs.numLen⟩
/-- The memory that holds a pointer to the reader. -/
def ptrX (kv kb : Nat) : Mem := fun x => if x = kv then some (.cells #[.pointer (some ⟨kb, 0, none⟩)] 95 (0, 0)) else none
theorem ptrX_le {kv kb : Nat} {G : Mem} (h : G kv = some (.cells #[.pointer (some ⟨kb, 0, none⟩)] 95 (0, 0))) : (ptrX kv kb).le G := fun b o hb => by
  unfold ptrX at hb
  split at hb
  · rename_i e
    rw [e, h, ← hb]
  · cases hb
theorem ptrX_at {kv kb : Nat} {G : Mem} (h : (ptrX kv kb).le G) : G kv = some (.cells #[.pointer (some ⟨kb, 0, none⟩)] 95 (0, 0)) := h _ _ (if_pos rfl)
theorem ptrX_no {kv kb : Nat} (h : kb ≠ kv) : ptrX kv kb kb = none := if_neg h
theorem tk_num (kv kb : Nat) (I : Mem) : TakeOk numQ (fun x => .int .i64 x) (.func (.func 37) #[.pointer (some ⟨kb, 0, none⟩)] #[]) (ptrX kv kb) kb I := fun s I' G _ _ h => CtH.capture (ct37 s _ rfl kb I' G h)
theorem tk_ev (kv kb : Nat) (I : Mem) : TakeOk evQ (fun x => .agg #[.int .i64 x.1.1, .int .i64 x.1.2.1, .int .i64 x.1.2.2, .int .i64 x.2.1, .int .i64 x.2.2]) (.func (.func 48) #[.pointer (some ⟨kb, 0, none⟩)] #[]) (ptrX kv kb) kb I := fun s I' G _ _ h => CtH.capture (ct48 s _ rfl kb I' G h)
theorem tk_port (kv kb : Nat) (I : Mem) : TakeOk portQ (fun x => .agg #[.int .i64 x.1, .string (strB x.2.1), .int .i64 x.2.2]) (.func (.func 51) #[.pointer (some ⟨kb, 0, none⟩)] #[]) (ptrX kv kb) kb I := fun s I' G _ _ h => CtH.capture (ct51 s _ rfl kb I' G h)
theorem tk_hd (kv kb : Nat) (I : Mem) : TakeOk hdQ (fun x => .agg #[.int .i64 x.1, .int .i64 x.2.1, .int .i64 x.2.2.1, .int .i64 x.2.2.2.1, .int .u8 x.2.2.2.2]) (.func (.func 54) #[.pointer (some ⟨kb, 0, none⟩)] #[]) (ptrX kv kb) kb I := fun s I' G _ _ h => CtH.capture (ct54 s _ rfl kb I' G h)
theorem tk_val (kv kb : Nat) (I : Mem) : TakeOk valQ (fun x => .int .i64 x) (.func (.func 43) #[] #[.pointer (some ⟨kv, 0, none⟩)]) (ptrX kv kb) kb I := fun s I' G _ hX h => CtH.capture (ct43 s _ rfl kb kv 95 I' G h (ptrX_at hX))
def okS (s : RS) : Bool := !s.2 && decide (s.1 = [])
def TakeP (r : Rs) (y : Ys) (t : Int) (bs : List Int) (kb : Nat) (I I0 : Mem) (sv : SV) (H' : List Ent) (I' : Mem) : Prop :=
  ∃ y', sv = .v (.bool (okS (takeS r t bs).2)) ∧ H' = [⟨.cells ((rsV (takeS r t bs).1 y').map .v) 37, some kb⟩] ∧ (RsM I r y → RsM I' (takeS r t bs).1 y') ∧ (NewY I0 I y → I0.le I → NewY I0 I' y')
theorem eqv {w c : Int} (h : (w == c) = true) : w = c := by simpa using h
theorem nev {w c : Int} (h : (w == c) = false) : w ≠ c := by simpa using h
theorem takeP_mk {r r' : Rs} {y y' : Ys} {t : Int} {bs : List Int} {kb : Nat} {I I0 I' : Mem} {st : RS} {ok : Bool} (hT : takeS r t bs = (r', st)) (hok : ok = okS st) (hM : RsM I r y → RsM I' r' y') (hN : NewY I0 I y → I0.le I → NewY I0 I' y') :
    TakeP r y t bs kb I I0 (.v (.bool ok)) [⟨.cells ((rsV r' y').map .v) 37, some kb⟩] I' := by
  refine ⟨y', ?_, ?_, ?_, hN⟩
  · rw [hT, hok]
  · rw [hT]
  · rw [hT]; exact hM
theorem cs20 (t : Int) (kb : Nat) (r : Rs) (y : Ys) (bs : List Int) (hb : byteL bs) (b : Option Addr) (m d : Nat) (I0 I : Mem) (hs : SlM I b m 1 (ints .u8 bs)) (hd : m ≤ d) (hm : d ≤ maxLen) (hn : m ≤ 1000000) :
    CtS Try.prog (.v (fnv 20)) [.ptr 0 0, .v (.agg #[.int .i64 t, .slice b m d])] [⟨.cells ((rsV r y).map .v) 37, some kb⟩] I (TakeP r y t bs kb I I0) := by
  refine viaR (ctS_via (A := { gives := [(2, [3])], calls := [(16, .g), (17, .g), (22, .g), (23, .g), (33, .g), (34, .g), (40, .g), (41, .g), (47, .g), (48, .g), (54, .g), (55, .g), (66, .g), (67, .g), (73, .g), (74, .g), (77, .g), (83, .g), (86, .g), (92, .g), (93, .g), (96, .g), (102, .g), (103, .g), (106, .g), (112, .g), (113, .g), (116, .g), (119, .g), (122, .g), (125, .g), (128, .g)] }) Try.func20 rfl Try.call20 [0] rfl) (∀ (b_1 : Nat), I b_1 = none → @none Obj = @none Obj → ∀ (b_2 : Nat), I b_2 = none → (if b_2 = b_1 then some (Obj.cells #[Value.slice b m d, Value.bool false] (97 : Nat)) else none) = none → Br (t == (1 : Int)) (∃ (a : Option Addr), atI (addB (addB Mem.emp b_1 (Obj.cells #[Value.slice b m d, Value.bool false] (97 : Nat))) b_2 (Obj.cells #[Value.pointer (some (Addr.mk b_1 (0 : Nat) none))] (95 : Nat))) (some (Addr.mk b_2 (0 : Nat) none)) (0 : Nat) = some (Value.pointer a) ∧ CtH Try.prog (Value.func (Fn.func (37 : Nat)) #[] #[]) #[Value.pointer a] I (addB (addB Mem.emp b_1 (Obj.cells #[Value.slice b m d, Value.bool false] (97 : Nat))) b_2 (Obj.cells #[Value.pointer (some (Addr.mk b_1 (0 : Nat) none))] (95 : Nat))) fun (v : Value) (I' G' : Mem) => ∃ (n : Int), v = Value.int IntKind.i64 n ∧ ∃ (a : Option Addr), atI G' (some (Addr.mk b_2 (0 : Nat) none)) (0 : Nat) = some (Value.pointer a) ∧ Option.isSome a = true ∧ Option.isSome a = true ∧ ∃ (b : Bool), atI G' a (1 : Nat) = some (Value.bool b) ∧ Br (!b) (∃ (a : Option Addr), atI G' (some (Addr.mk b_2 (0 : Nat) none)) (0 : Nat) = some (Value.pointer a) ∧ Option.isSome a = true ∧ Option.isSome a = true ∧ ∃ (a_1 : Option Addr), ∃ (n_1 : Nat), ∃ (c : Nat), atI G' a (0 : Nat) = some (Value.slice a_1 n_1 c) ∧ TakeP r y t bs kb I I0 (SV.v (Value.bool ((↑n_1 : Int) == (0 : Int)))) [Ent.mk (EO.cells [SV.v (Value.int IntKind.i64 n), SV.v (Value.int IntKind.i64 (Rs.code r)), SV.v (Value.int IntKind.i64 (Rs.ser r)), SV.v (Value.int IntKind.i64 (Rs.port r)), SV.v (Value.int IntKind.i64 (Rs.time r)), SV.v (Value.int IntKind.u8 (Rs.kind r)), SV.v (Value.bool (Rs.more r)), SV.v (Value.int IntKind.i64 (Prod.fst (Rs.key r))), SV.v (Value.int IntKind.i64 (Prod.fst (Prod.snd (Rs.key r)))), SV.v (Value.int IntKind.i64 (Prod.snd (Prod.snd (Rs.key r)))), SV.v (Ys.c y), SV.v (Ys.l y), SV.v (Ys.e y), SV.v (Ys.p y), SV.v (Ys.h y)] (37 : Nat)) (some kb)] I') (TakeP r y t bs kb I I0 (SV.v (Value.bool false)) [Ent.mk (EO.cells [SV.v (Value.int IntKind.i64 n), SV.v (Value.int IntKind.i64 (Rs.code r)), SV.v (Value.int IntKind.i64 (Rs.ser r)), SV.v (Value.int IntKind.i64 (Rs.port r)), SV.v (Value.int IntKind.i64 (Rs.time r)), SV.v (Value.int IntKind.u8 (Rs.kind r)), SV.v (Value.bool (Rs.more r)), SV.v (Value.int IntKind.i64 (Prod.fst (Rs.key r))), SV.v (Value.int IntKind.i64 (Prod.fst (Prod.snd (Rs.key r)))), SV.v (Value.int IntKind.i64 (Prod.snd (Prod.snd (Rs.key r)))), SV.v (Ys.c y), SV.v (Ys.l y), SV.v (Ys.e y), SV.v (Ys.p y), SV.v (Ys.h y)] (37 : Nat)) (some kb)] I')) (Br (t == (2 : Int)) (∃ (a : Option Addr), atI (addB (addB Mem.emp b_1 (Obj.cells #[Value.slice b m d, Value.bool false] (97 : Nat))) b_2 (Obj.cells #[Value.pointer (some (Addr.mk b_1 (0 : Nat) none))] (95 : Nat))) (some (Addr.mk b_2 (0 : Nat) none)) (0 : Nat) = some (Value.pointer a) ∧ CtH Try.prog (Value.func (Fn.func (37 : Nat)) #[] #[]) #[Value.pointer a] I (addB (addB Mem.emp b_1 (Obj.cells #[Value.slice b m d, Value.bool false] (97 : Nat))) b_2 (Obj.cells #[Value.pointer (some (Addr.mk b_1 (0 : Nat) none))] (95 : Nat))) fun (v : Value) (I' G' : Mem) => ∃ (n : Int), v = Value.int IntKind.i64 n ∧ Wr IntKind.u8 (bif false then imax n (255 : Int) else imin n (255 : Int)) fun (c : Int) => ∃ (a : Option Addr), atI G' (some (Addr.mk b_2 (0 : Nat) none)) (0 : Nat) = some (Value.pointer a) ∧ Option.isSome a = true ∧ Option.isSome a = true ∧ ∃ (b : Bool), atI G' a (1 : Nat) = some (Value.bool b) ∧ Br (!b) (∃ (a : Option Addr), atI G' (some (Addr.mk b_2 (0 : Nat) none)) (0 : Nat) = some (Value.pointer a) ∧ Option.isSome a = true ∧ Option.isSome a = true ∧ ∃ (a_1 : Option Addr), ∃ (n : Nat), ∃ (c_1 : Nat), atI G' a (0 : Nat) = some (Value.slice a_1 n c_1) ∧ TakeP r y t bs kb I I0 (SV.v (Value.bool ((↑n : Int) == (0 : Int)))) [Ent.mk (EO.cells [SV.v (Value.int IntKind.i64 (Rs.num r)), SV.v (Value.int IntKind.i64 (Rs.code r)), SV.v (Value.int IntKind.i64 (Rs.ser r)), SV.v (Value.int IntKind.i64 (Rs.port r)), SV.v (Value.int IntKind.i64 (Rs.time r)), SV.v (Value.int IntKind.u8 c), SV.v (Value.bool (Rs.more r)), SV.v (Value.int IntKind.i64 (Prod.fst (Rs.key r))), SV.v (Value.int IntKind.i64 (Prod.fst (Prod.snd (Rs.key r)))), SV.v (Value.int IntKind.i64 (Prod.snd (Prod.snd (Rs.key r)))), SV.v (Ys.c y), SV.v (Ys.l y), SV.v (Ys.e y), SV.v (Ys.p y), SV.v (Ys.h y)] (37 : Nat)) (some kb)] I') (TakeP r y t bs kb I I0 (SV.v (Value.bool false)) [Ent.mk (EO.cells [SV.v (Value.int IntKind.i64 (Rs.num r)), SV.v (Value.int IntKind.i64 (Rs.code r)), SV.v (Value.int IntKind.i64 (Rs.ser r)), SV.v (Value.int IntKind.i64 (Rs.port r)), SV.v (Value.int IntKind.i64 (Rs.time r)), SV.v (Value.int IntKind.u8 c), SV.v (Value.bool (Rs.more r)), SV.v (Value.int IntKind.i64 (Prod.fst (Rs.key r))), SV.v (Value.int IntKind.i64 (Prod.fst (Prod.snd (Rs.key r)))), SV.v (Value.int IntKind.i64 (Prod.snd (Prod.snd (Rs.key r)))), SV.v (Ys.c y), SV.v (Ys.l y), SV.v (Ys.e y), SV.v (Ys.p y), SV.v (Ys.h y)] (37 : Nat)) (some kb)] I')) (Br (t == (3 : Int)) (∃ (a : Option Addr), atI (addB (addB Mem.emp b_1 (Obj.cells #[Value.slice b m d, Value.bool false] (97 : Nat))) b_2 (Obj.cells #[Value.pointer (some (Addr.mk b_1 (0 : Nat) none))] (95 : Nat))) (some (Addr.mk b_2 (0 : Nat) none)) (0 : Nat) = some (Value.pointer a) ∧ CtH Try.prog (Value.func (Fn.func (37 : Nat)) #[] #[]) #[Value.pointer a] I (addB (addB Mem.emp b_1 (Obj.cells #[Value.slice b m d, Value.bool false] (97 : Nat))) b_2 (Obj.cells #[Value.pointer (some (Addr.mk b_1 (0 : Nat) none))] (95 : Nat))) fun (v : Value) (I' G' : Mem) => ∃ (n : Int), v = Value.int IntKind.i64 n ∧ ∃ (a : Option Addr), atI G' (some (Addr.mk b_2 (0 : Nat) none)) (0 : Nat) = some (Value.pointer a) ∧ Option.isSome a = true ∧ Option.isSome a = true ∧ ∃ (b : Bool), atI G' a (1 : Nat) = some (Value.bool b) ∧ Br (!b) (∃ (a : Option Addr), atI G' (some (Addr.mk b_2 (0 : Nat) none)) (0 : Nat) = some (Value.pointer a) ∧ Option.isSome a = true ∧ Option.isSome a = true ∧ ∃ (a_1 : Option Addr), ∃ (n_1 : Nat), ∃ (c : Nat), atI G' a (0 : Nat) = some (Value.slice a_1 n_1 c) ∧ TakeP r y t bs kb I I0 (SV.v (Value.bool ((↑n_1 : Int) == (0 : Int)))) [Ent.mk (EO.cells [SV.v (Value.int IntKind.i64 (Rs.num r)), SV.v (Value.int IntKind.i64 n), SV.v (Value.int IntKind.i64 (Rs.ser r)), SV.v (Value.int IntKind.i64 (Rs.port r)), SV.v (Value.int IntKind.i64 (Rs.time r)), SV.v (Value.int IntKind.u8 (Rs.kind r)), SV.v (Value.bool (Rs.more r)), SV.v (Value.int IntKind.i64 (Prod.fst (Rs.key r))), SV.v (Value.int IntKind.i64 (Prod.fst (Prod.snd (Rs.key r)))), SV.v (Value.int IntKind.i64 (Prod.snd (Prod.snd (Rs.key r)))), SV.v (Ys.c y), SV.v (Ys.l y), SV.v (Ys.e y), SV.v (Ys.p y), SV.v (Ys.h y)] (37 : Nat)) (some kb)] I') (TakeP r y t bs kb I I0 (SV.v (Value.bool false)) [Ent.mk (EO.cells [SV.v (Value.int IntKind.i64 (Rs.num r)), SV.v (Value.int IntKind.i64 n), SV.v (Value.int IntKind.i64 (Rs.ser r)), SV.v (Value.int IntKind.i64 (Rs.port r)), SV.v (Value.int IntKind.i64 (Rs.time r)), SV.v (Value.int IntKind.u8 (Rs.kind r)), SV.v (Value.bool (Rs.more r)), SV.v (Value.int IntKind.i64 (Prod.fst (Rs.key r))), SV.v (Value.int IntKind.i64 (Prod.fst (Prod.snd (Rs.key r)))), SV.v (Value.int IntKind.i64 (Prod.snd (Prod.snd (Rs.key r)))), SV.v (Ys.c y), SV.v (Ys.l y), SV.v (Ys.e y), SV.v (Ys.p y), SV.v (Ys.h y)] (37 : Nat)) (some kb)] I')) (Br (t == (4 : Int)) (∃ (a : Option Addr), atI (addB (addB Mem.emp b_1 (Obj.cells #[Value.slice b m d, Value.bool false] (97 : Nat))) b_2 (Obj.cells #[Value.pointer (some (Addr.mk b_1 (0 : Nat) none))] (95 : Nat))) (some (Addr.mk b_2 (0 : Nat) none)) (0 : Nat) = some (Value.pointer a) ∧ CtH Try.prog (Value.func (Fn.func (37 : Nat)) #[] #[]) #[Value.pointer a] I (addB (addB Mem.emp b_1 (Obj.cells #[Value.slice b m d, Value.bool false] (97 : Nat))) b_2 (Obj.cells #[Value.pointer (some (Addr.mk b_1 (0 : Nat) none))] (95 : Nat))) fun (v : Value) (I' G' : Mem) => ∃ (n : Int), v = Value.int IntKind.i64 n ∧ ∃ (a : Option Addr), atI G' (some (Addr.mk b_2 (0 : Nat) none)) (0 : Nat) = some (Value.pointer a) ∧ Option.isSome a = true ∧ Option.isSome a = true ∧ ∃ (b : Bool), atI G' a (1 : Nat) = some (Value.bool b) ∧ Br (!b) (∃ (a : Option Addr), atI G' (some (Addr.mk b_2 (0 : Nat) none)) (0 : Nat) = some (Value.pointer a) ∧ Option.isSome a = true ∧ Option.isSome a = true ∧ ∃ (a_1 : Option Addr), ∃ (n_1 : Nat), ∃ (c : Nat), atI G' a (0 : Nat) = some (Value.slice a_1 n_1 c) ∧ TakeP r y t bs kb I I0 (SV.v (Value.bool ((↑n_1 : Int) == (0 : Int)))) [Ent.mk (EO.cells [SV.v (Value.int IntKind.i64 (Rs.num r)), SV.v (Value.int IntKind.i64 (Rs.code r)), SV.v (Value.int IntKind.i64 n), SV.v (Value.int IntKind.i64 (Rs.port r)), SV.v (Value.int IntKind.i64 (Rs.time r)), SV.v (Value.int IntKind.u8 (Rs.kind r)), SV.v (Value.bool (Rs.more r)), SV.v (Value.int IntKind.i64 (Prod.fst (Rs.key r))), SV.v (Value.int IntKind.i64 (Prod.fst (Prod.snd (Rs.key r)))), SV.v (Value.int IntKind.i64 (Prod.snd (Prod.snd (Rs.key r)))), SV.v (Ys.c y), SV.v (Ys.l y), SV.v (Ys.e y), SV.v (Ys.p y), SV.v (Ys.h y)] (37 : Nat)) (some kb)] I') (TakeP r y t bs kb I I0 (SV.v (Value.bool false)) [Ent.mk (EO.cells [SV.v (Value.int IntKind.i64 (Rs.num r)), SV.v (Value.int IntKind.i64 (Rs.code r)), SV.v (Value.int IntKind.i64 n), SV.v (Value.int IntKind.i64 (Rs.port r)), SV.v (Value.int IntKind.i64 (Rs.time r)), SV.v (Value.int IntKind.u8 (Rs.kind r)), SV.v (Value.bool (Rs.more r)), SV.v (Value.int IntKind.i64 (Prod.fst (Rs.key r))), SV.v (Value.int IntKind.i64 (Prod.fst (Prod.snd (Rs.key r)))), SV.v (Value.int IntKind.i64 (Prod.snd (Prod.snd (Rs.key r)))), SV.v (Ys.c y), SV.v (Ys.l y), SV.v (Ys.e y), SV.v (Ys.p y), SV.v (Ys.h y)] (37 : Nat)) (some kb)] I')) (Br (t == (5 : Int)) (∃ (a : Option Addr), atI (addB (addB Mem.emp b_1 (Obj.cells #[Value.slice b m d, Value.bool false] (97 : Nat))) b_2 (Obj.cells #[Value.pointer (some (Addr.mk b_1 (0 : Nat) none))] (95 : Nat))) (some (Addr.mk b_2 (0 : Nat) none)) (0 : Nat) = some (Value.pointer a) ∧ CtH Try.prog (Value.func (Fn.func (37 : Nat)) #[] #[]) #[Value.pointer a] I (addB (addB Mem.emp b_1 (Obj.cells #[Value.slice b m d, Value.bool false] (97 : Nat))) b_2 (Obj.cells #[Value.pointer (some (Addr.mk b_1 (0 : Nat) none))] (95 : Nat))) fun (v : Value) (I' G' : Mem) => ∃ (n : Int), v = Value.int IntKind.i64 n ∧ ∃ (a : Option Addr), atI G' (some (Addr.mk b_2 (0 : Nat) none)) (0 : Nat) = some (Value.pointer a) ∧ Option.isSome a = true ∧ Option.isSome a = true ∧ ∃ (b : Bool), atI G' a (1 : Nat) = some (Value.bool b) ∧ Br (!b) (∃ (a : Option Addr), atI G' (some (Addr.mk b_2 (0 : Nat) none)) (0 : Nat) = some (Value.pointer a) ∧ Option.isSome a = true ∧ Option.isSome a = true ∧ ∃ (a_1 : Option Addr), ∃ (n_1 : Nat), ∃ (c : Nat), atI G' a (0 : Nat) = some (Value.slice a_1 n_1 c) ∧ TakeP r y t bs kb I I0 (SV.v (Value.bool ((↑n_1 : Int) == (0 : Int)))) [Ent.mk (EO.cells [SV.v (Value.int IntKind.i64 (Rs.num r)), SV.v (Value.int IntKind.i64 (Rs.code r)), SV.v (Value.int IntKind.i64 (Rs.ser r)), SV.v (Value.int IntKind.i64 n), SV.v (Value.int IntKind.i64 (Rs.time r)), SV.v (Value.int IntKind.u8 (Rs.kind r)), SV.v (Value.bool (Rs.more r)), SV.v (Value.int IntKind.i64 (Prod.fst (Rs.key r))), SV.v (Value.int IntKind.i64 (Prod.fst (Prod.snd (Rs.key r)))), SV.v (Value.int IntKind.i64 (Prod.snd (Prod.snd (Rs.key r)))), SV.v (Ys.c y), SV.v (Ys.l y), SV.v (Ys.e y), SV.v (Ys.p y), SV.v (Ys.h y)] (37 : Nat)) (some kb)] I') (TakeP r y t bs kb I I0 (SV.v (Value.bool false)) [Ent.mk (EO.cells [SV.v (Value.int IntKind.i64 (Rs.num r)), SV.v (Value.int IntKind.i64 (Rs.code r)), SV.v (Value.int IntKind.i64 (Rs.ser r)), SV.v (Value.int IntKind.i64 n), SV.v (Value.int IntKind.i64 (Rs.time r)), SV.v (Value.int IntKind.u8 (Rs.kind r)), SV.v (Value.bool (Rs.more r)), SV.v (Value.int IntKind.i64 (Prod.fst (Rs.key r))), SV.v (Value.int IntKind.i64 (Prod.fst (Prod.snd (Rs.key r)))), SV.v (Value.int IntKind.i64 (Prod.snd (Prod.snd (Rs.key r)))), SV.v (Ys.c y), SV.v (Ys.l y), SV.v (Ys.e y), SV.v (Ys.p y), SV.v (Ys.h y)] (37 : Nat)) (some kb)] I')) (Br (t == (6 : Int)) (∃ (a : Option Addr), atI (addB (addB Mem.emp b_1 (Obj.cells #[Value.slice b m d, Value.bool false] (97 : Nat))) b_2 (Obj.cells #[Value.pointer (some (Addr.mk b_1 (0 : Nat) none))] (95 : Nat))) (some (Addr.mk b_2 (0 : Nat) none)) (0 : Nat) = some (Value.pointer a) ∧ CtH Try.prog (Value.func (Fn.func (37 : Nat)) #[] #[]) #[Value.pointer a] I (addB (addB Mem.emp b_1 (Obj.cells #[Value.slice b m d, Value.bool false] (97 : Nat))) b_2 (Obj.cells #[Value.pointer (some (Addr.mk b_1 (0 : Nat) none))] (95 : Nat))) fun (v : Value) (I' G' : Mem) => ∃ (n : Int), v = Value.int IntKind.i64 n ∧ ∃ (a : Option Addr), atI G' (some (Addr.mk b_2 (0 : Nat) none)) (0 : Nat) = some (Value.pointer a) ∧ Option.isSome a = true ∧ Option.isSome a = true ∧ ∃ (b : Bool), atI G' a (1 : Nat) = some (Value.bool b) ∧ Br (!b) (∃ (a : Option Addr), atI G' (some (Addr.mk b_2 (0 : Nat) none)) (0 : Nat) = some (Value.pointer a) ∧ Option.isSome a = true ∧ Option.isSome a = true ∧ ∃ (a_1 : Option Addr), ∃ (n_1 : Nat), ∃ (c : Nat), atI G' a (0 : Nat) = some (Value.slice a_1 n_1 c) ∧ TakeP r y t bs kb I I0 (SV.v (Value.bool ((↑n_1 : Int) == (0 : Int)))) [Ent.mk (EO.cells [SV.v (Value.int IntKind.i64 (Rs.num r)), SV.v (Value.int IntKind.i64 (Rs.code r)), SV.v (Value.int IntKind.i64 (Rs.ser r)), SV.v (Value.int IntKind.i64 (Rs.port r)), SV.v (Value.int IntKind.i64 n), SV.v (Value.int IntKind.u8 (Rs.kind r)), SV.v (Value.bool (Rs.more r)), SV.v (Value.int IntKind.i64 (Prod.fst (Rs.key r))), SV.v (Value.int IntKind.i64 (Prod.fst (Prod.snd (Rs.key r)))), SV.v (Value.int IntKind.i64 (Prod.snd (Prod.snd (Rs.key r)))), SV.v (Ys.c y), SV.v (Ys.l y), SV.v (Ys.e y), SV.v (Ys.p y), SV.v (Ys.h y)] (37 : Nat)) (some kb)] I') (TakeP r y t bs kb I I0 (SV.v (Value.bool false)) [Ent.mk (EO.cells [SV.v (Value.int IntKind.i64 (Rs.num r)), SV.v (Value.int IntKind.i64 (Rs.code r)), SV.v (Value.int IntKind.i64 (Rs.ser r)), SV.v (Value.int IntKind.i64 (Rs.port r)), SV.v (Value.int IntKind.i64 n), SV.v (Value.int IntKind.u8 (Rs.kind r)), SV.v (Value.bool (Rs.more r)), SV.v (Value.int IntKind.i64 (Prod.fst (Rs.key r))), SV.v (Value.int IntKind.i64 (Prod.fst (Prod.snd (Rs.key r)))), SV.v (Value.int IntKind.i64 (Prod.snd (Prod.snd (Rs.key r)))), SV.v (Ys.c y), SV.v (Ys.l y), SV.v (Ys.e y), SV.v (Ys.p y), SV.v (Ys.h y)] (37 : Nat)) (some kb)] I')) (Br (t == (7 : Int)) (∃ (a : Option Addr), atI (addB (addB Mem.emp b_1 (Obj.cells #[Value.slice b m d, Value.bool false] (97 : Nat))) b_2 (Obj.cells #[Value.pointer (some (Addr.mk b_1 (0 : Nat) none))] (95 : Nat))) (some (Addr.mk b_2 (0 : Nat) none)) (0 : Nat) = some (Value.pointer a) ∧ Option.isSome a = true ∧ Option.isSome a = true ∧ ∃ (b_3 : Bool), atI (addB (addB Mem.emp b_1 (Obj.cells #[Value.slice b m d, Value.bool false] (97 : Nat))) b_2 (Obj.cells #[Value.pointer (some (Addr.mk b_1 (0 : Nat) none))] (95 : Nat))) a (1 : Nat) = some (Value.bool b_3) ∧ Br (!b_3) (∃ (a : Option Addr), atI (addB (addB Mem.emp b_1 (Obj.cells #[Value.slice b m d, Value.bool false] (97 : Nat))) b_2 (Obj.cells #[Value.pointer (some (Addr.mk b_1 (0 : Nat) none))] (95 : Nat))) (some (Addr.mk b_2 (0 : Nat) none)) (0 : Nat) = some (Value.pointer a) ∧ Option.isSome a = true ∧ Option.isSome a = true ∧ ∃ (a_1 : Option Addr), ∃ (n : Nat), ∃ (c : Nat), atI (addB (addB Mem.emp b_1 (Obj.cells #[Value.slice b m d, Value.bool false] (97 : Nat))) b_2 (Obj.cells #[Value.pointer (some (Addr.mk b_1 (0 : Nat) none))] (95 : Nat))) a (0 : Nat) = some (Value.slice a_1 n c) ∧ TakeP r y t bs kb I I0 (SV.v (Value.bool ((↑n : Int) == (0 : Int)))) [Ent.mk (EO.cells [SV.v (Value.int IntKind.i64 (Rs.num r)), SV.v (Value.int IntKind.i64 (Rs.code r)), SV.v (Value.int IntKind.i64 (Rs.ser r)), SV.v (Value.int IntKind.i64 (Rs.port r)), SV.v (Value.int IntKind.i64 (Rs.time r)), SV.v (Value.int IntKind.u8 (Rs.kind r)), SV.v (Value.bool true), SV.v (Value.int IntKind.i64 (Prod.fst (Rs.key r))), SV.v (Value.int IntKind.i64 (Prod.fst (Prod.snd (Rs.key r)))), SV.v (Value.int IntKind.i64 (Prod.snd (Prod.snd (Rs.key r)))), SV.v (Ys.c y), SV.v (Ys.l y), SV.v (Ys.e y), SV.v (Ys.p y), SV.v (Ys.h y)] (37 : Nat)) (some kb)] I) (TakeP r y t bs kb I I0 (SV.v (Value.bool false)) [Ent.mk (EO.cells [SV.v (Value.int IntKind.i64 (Rs.num r)), SV.v (Value.int IntKind.i64 (Rs.code r)), SV.v (Value.int IntKind.i64 (Rs.ser r)), SV.v (Value.int IntKind.i64 (Rs.port r)), SV.v (Value.int IntKind.i64 (Rs.time r)), SV.v (Value.int IntKind.u8 (Rs.kind r)), SV.v (Value.bool true), SV.v (Value.int IntKind.i64 (Prod.fst (Rs.key r))), SV.v (Value.int IntKind.i64 (Prod.fst (Prod.snd (Rs.key r)))), SV.v (Value.int IntKind.i64 (Prod.snd (Prod.snd (Rs.key r)))), SV.v (Ys.c y), SV.v (Ys.l y), SV.v (Ys.e y), SV.v (Ys.p y), SV.v (Ys.h y)] (37 : Nat)) (some kb)] I)) (Br (t == (8 : Int)) (∃ (a : Option Addr), atI (addB (addB Mem.emp b_1 (Obj.cells #[Value.slice b m d, Value.bool false] (97 : Nat))) b_2 (Obj.cells #[Value.pointer (some (Addr.mk b_1 (0 : Nat) none))] (95 : Nat))) (some (Addr.mk b_2 (0 : Nat) none)) (0 : Nat) = some (Value.pointer a) ∧ CtH Try.prog (Value.func (Fn.func (38 : Nat)) #[] #[]) #[Value.pointer a] I (addB (addB Mem.emp b_1 (Obj.cells #[Value.slice b m d, Value.bool false] (97 : Nat))) b_2 (Obj.cells #[Value.pointer (some (Addr.mk b_1 (0 : Nat) none))] (95 : Nat))) fun (v : Value) (I' G' : Mem) => ∃ (n : Int), ∃ (n_1 : Int), ∃ (n_2 : Int), v = Value.agg #[Value.int IntKind.i64 n, Value.int IntKind.i64 n_1, Value.int IntKind.i64 n_2] ∧ ∃ (a : Option Addr), atI G' (some (Addr.mk b_2 (0 : Nat) none)) (0 : Nat) = some (Value.pointer a) ∧ Option.isSome a = true ∧ Option.isSome a = true ∧ ∃ (b : Bool), atI G' a (1 : Nat) = some (Value.bool b) ∧ Br (!b) (∃ (a : Option Addr), atI G' (some (Addr.mk b_2 (0 : Nat) none)) (0 : Nat) = some (Value.pointer a) ∧ Option.isSome a = true ∧ Option.isSome a = true ∧ ∃ (a_1 : Option Addr), ∃ (n_3 : Nat), ∃ (c : Nat), atI G' a (0 : Nat) = some (Value.slice a_1 n_3 c) ∧ TakeP r y t bs kb I I0 (SV.v (Value.bool ((↑n_3 : Int) == (0 : Int)))) [Ent.mk (EO.cells [SV.v (Value.int IntKind.i64 (Rs.num r)), SV.v (Value.int IntKind.i64 (Rs.code r)), SV.v (Value.int IntKind.i64 (Rs.ser r)), SV.v (Value.int IntKind.i64 (Rs.port r)), SV.v (Value.int IntKind.i64 (Rs.time r)), SV.v (Value.int IntKind.u8 (Rs.kind r)), SV.v (Value.bool (Rs.more r)), SV.v (Value.int IntKind.i64 n), SV.v (Value.int IntKind.i64 n_1), SV.v (Value.int IntKind.i64 n_2), SV.v (Ys.c y), SV.v (Ys.l y), SV.v (Ys.e y), SV.v (Ys.p y), SV.v (Ys.h y)] (37 : Nat)) (some kb)] I') (TakeP r y t bs kb I I0 (SV.v (Value.bool false)) [Ent.mk (EO.cells [SV.v (Value.int IntKind.i64 (Rs.num r)), SV.v (Value.int IntKind.i64 (Rs.code r)), SV.v (Value.int IntKind.i64 (Rs.ser r)), SV.v (Value.int IntKind.i64 (Rs.port r)), SV.v (Value.int IntKind.i64 (Rs.time r)), SV.v (Value.int IntKind.u8 (Rs.kind r)), SV.v (Value.bool (Rs.more r)), SV.v (Value.int IntKind.i64 n), SV.v (Value.int IntKind.i64 n_1), SV.v (Value.int IntKind.i64 n_2), SV.v (Ys.c y), SV.v (Ys.l y), SV.v (Ys.e y), SV.v (Ys.p y), SV.v (Ys.h y)] (37 : Nat)) (some kb)] I')) (Br (t == (9 : Int)) (∃ (a : Option Addr), atI (addB (addB Mem.emp b_1 (Obj.cells #[Value.slice b m d, Value.bool false] (97 : Nat))) b_2 (Obj.cells #[Value.pointer (some (Addr.mk b_1 (0 : Nat) none))] (95 : Nat))) (some (Addr.mk b_2 (0 : Nat) none)) (0 : Nat) = some (Value.pointer a) ∧ ∃ (a_1 : Option Addr), atI (addB (addB Mem.emp b_1 (Obj.cells #[Value.slice b m d, Value.bool false] (97 : Nat))) b_2 (Obj.cells #[Value.pointer (some (Addr.mk b_1 (0 : Nat) none))] (95 : Nat))) (some (Addr.mk b_2 (0 : Nat) none)) (0 : Nat) = some (Value.pointer a_1) ∧ Ct Try.prog (Value.func (Fn.func (40 : Nat)) #[] #[]) #[Value.pointer a, Value.func (Fn.func (37 : Nat)) #[Value.pointer a_1] #[]] I fun (v : Value) (I' : Mem) => ∃ (x : Value), v = x ∧ CtH Try.prog (Value.func (Fn.func (39 : Nat)) #[] #[]) #[x] I' (addB (addB Mem.emp b_1 (Obj.cells #[Value.slice b m d, Value.bool false] (97 : Nat))) b_2 (Obj.cells #[Value.pointer (some (Addr.mk b_1 (0 : Nat) none))] (95 : Nat))) fun (v : Value) (I' G' : Mem) => ∃ (a : Option Addr), ∃ (n : Nat), ∃ (c : Nat), v = Value.slice a n c ∧ ∃ (a_2 : Option Addr), atI G' (some (Addr.mk b_2 (0 : Nat) none)) (0 : Nat) = some (Value.pointer a_2) ∧ Option.isSome a_2 = true ∧ Option.isSome a_2 = true ∧ ∃ (b : Bool), atI G' a_2 (1 : Nat) = some (Value.bool b) ∧ Br (!b) (∃ (a_3 : Option Addr), atI G' (some (Addr.mk b_2 (0 : Nat) none)) (0 : Nat) = some (Value.pointer a_3) ∧ Option.isSome a_3 = true ∧ Option.isSome a_3 = true ∧ ∃ (a_4 : Option Addr), ∃ (n_1 : Nat), ∃ (c_1 : Nat), atI G' a_3 (0 : Nat) = some (Value.slice a_4 n_1 c_1) ∧ TakeP r y t bs kb I I0 (SV.v (Value.bool ((↑n_1 : Int) == (0 : Int)))) [Ent.mk (EO.cells [SV.v (Value.int IntKind.i64 (Rs.num r)), SV.v (Value.int IntKind.i64 (Rs.code r)), SV.v (Value.int IntKind.i64 (Rs.ser r)), SV.v (Value.int IntKind.i64 (Rs.port r)), SV.v (Value.int IntKind.i64 (Rs.time r)), SV.v (Value.int IntKind.u8 (Rs.kind r)), SV.v (Value.bool (Rs.more r)), SV.v (Value.int IntKind.i64 (Prod.fst (Rs.key r))), SV.v (Value.int IntKind.i64 (Prod.fst (Prod.snd (Rs.key r)))), SV.v (Value.int IntKind.i64 (Prod.snd (Prod.snd (Rs.key r)))), SV.v (Value.slice a n c), SV.v (Ys.l y), SV.v (Ys.e y), SV.v (Ys.p y), SV.v (Ys.h y)] (37 : Nat)) (some kb)] I') (TakeP r y t bs kb I I0 (SV.v (Value.bool false)) [Ent.mk (EO.cells [SV.v (Value.int IntKind.i64 (Rs.num r)), SV.v (Value.int IntKind.i64 (Rs.code r)), SV.v (Value.int IntKind.i64 (Rs.ser r)), SV.v (Value.int IntKind.i64 (Rs.port r)), SV.v (Value.int IntKind.i64 (Rs.time r)), SV.v (Value.int IntKind.u8 (Rs.kind r)), SV.v (Value.bool (Rs.more r)), SV.v (Value.int IntKind.i64 (Prod.fst (Rs.key r))), SV.v (Value.int IntKind.i64 (Prod.fst (Prod.snd (Rs.key r)))), SV.v (Value.int IntKind.i64 (Prod.snd (Prod.snd (Rs.key r)))), SV.v (Value.slice a n c), SV.v (Ys.l y), SV.v (Ys.e y), SV.v (Ys.p y), SV.v (Ys.h y)] (37 : Nat)) (some kb)] I')) (Br (t == (10 : Int)) (∃ (a : Option Addr), atI (addB (addB Mem.emp b_1 (Obj.cells #[Value.slice b m d, Value.bool false] (97 : Nat))) b_2 (Obj.cells #[Value.pointer (some (Addr.mk b_1 (0 : Nat) none))] (95 : Nat))) (some (Addr.mk b_2 (0 : Nat) none)) (0 : Nat) = some (Value.pointer a) ∧ Ct Try.prog (Value.func (Fn.func (42 : Nat)) #[] #[]) #[Value.pointer a, Value.func (Fn.func (43 : Nat)) #[] #[Value.pointer (some (Addr.mk b_2 (0 : Nat) none))]] I fun (v : Value) (I' : Mem) => ∃ (x : Value), v = x ∧ CtH Try.prog (Value.func (Fn.func (41 : Nat)) #[] #[]) #[x] I' (addB (addB Mem.emp b_1 (Obj.cells #[Value.slice b m d, Value.bool false] (97 : Nat))) b_2 (Obj.cells #[Value.pointer (some (Addr.mk b_1 (0 : Nat) none))] (95 : Nat))) fun (v : Value) (I' G' : Mem) => ∃ (a : Option Addr), ∃ (n : Nat), ∃ (c : Nat), v = Value.slice a n c ∧ ∃ (a_1 : Option Addr), atI G' (some (Addr.mk b_2 (0 : Nat) none)) (0 : Nat) = some (Value.pointer a_1) ∧ Option.isSome a_1 = true ∧ Option.isSome a_1 = true ∧ ∃ (b : Bool), atI G' a_1 (1 : Nat) = some (Value.bool b) ∧ Br (!b) (∃ (a_2 : Option Addr), atI G' (some (Addr.mk b_2 (0 : Nat) none)) (0 : Nat) = some (Value.pointer a_2) ∧ Option.isSome a_2 = true ∧ Option.isSome a_2 = true ∧ ∃ (a_3 : Option Addr), ∃ (n_1 : Nat), ∃ (c_1 : Nat), atI G' a_2 (0 : Nat) = some (Value.slice a_3 n_1 c_1) ∧ TakeP r y t bs kb I I0 (SV.v (Value.bool ((↑n_1 : Int) == (0 : Int)))) [Ent.mk (EO.cells [SV.v (Value.int IntKind.i64 (Rs.num r)), SV.v (Value.int IntKind.i64 (Rs.code r)), SV.v (Value.int IntKind.i64 (Rs.ser r)), SV.v (Value.int IntKind.i64 (Rs.port r)), SV.v (Value.int IntKind.i64 (Rs.time r)), SV.v (Value.int IntKind.u8 (Rs.kind r)), SV.v (Value.bool (Rs.more r)), SV.v (Value.int IntKind.i64 (Prod.fst (Rs.key r))), SV.v (Value.int IntKind.i64 (Prod.fst (Prod.snd (Rs.key r)))), SV.v (Value.int IntKind.i64 (Prod.snd (Prod.snd (Rs.key r)))), SV.v (Ys.c y), SV.v (Value.slice a n c), SV.v (Ys.e y), SV.v (Ys.p y), SV.v (Ys.h y)] (37 : Nat)) (some kb)] I') (TakeP r y t bs kb I I0 (SV.v (Value.bool false)) [Ent.mk (EO.cells [SV.v (Value.int IntKind.i64 (Rs.num r)), SV.v (Value.int IntKind.i64 (Rs.code r)), SV.v (Value.int IntKind.i64 (Rs.ser r)), SV.v (Value.int IntKind.i64 (Rs.port r)), SV.v (Value.int IntKind.i64 (Rs.time r)), SV.v (Value.int IntKind.u8 (Rs.kind r)), SV.v (Value.bool (Rs.more r)), SV.v (Value.int IntKind.i64 (Prod.fst (Rs.key r))), SV.v (Value.int IntKind.i64 (Prod.fst (Prod.snd (Rs.key r)))), SV.v (Value.int IntKind.i64 (Prod.snd (Prod.snd (Rs.key r)))), SV.v (Ys.c y), SV.v (Value.slice a n c), SV.v (Ys.e y), SV.v (Ys.p y), SV.v (Ys.h y)] (37 : Nat)) (some kb)] I')) (Br (t == (11 : Int)) (∃ (a : Option Addr), atI (addB (addB Mem.emp b_1 (Obj.cells #[Value.slice b m d, Value.bool false] (97 : Nat))) b_2 (Obj.cells #[Value.pointer (some (Addr.mk b_1 (0 : Nat) none))] (95 : Nat))) (some (Addr.mk b_2 (0 : Nat) none)) (0 : Nat) = some (Value.pointer a) ∧ ∃ (a_1 : Option Addr), atI (addB (addB Mem.emp b_1 (Obj.cells #[Value.slice b m d, Value.bool false] (97 : Nat))) b_2 (Obj.cells #[Value.pointer (some (Addr.mk b_1 (0 : Nat) none))] (95 : Nat))) (some (Addr.mk b_2 (0 : Nat) none)) (0 : Nat) = some (Value.pointer a_1) ∧ Ct Try.prog (Value.func (Fn.func (47 : Nat)) #[] #[]) #[Value.pointer a, Value.func (Fn.func (48 : Nat)) #[Value.pointer a_1] #[]] I fun (v : Value) (I' : Mem) => ∃ (x : Value), v = x ∧ CtH Try.prog (Value.func (Fn.func (46 : Nat)) #[] #[]) #[x] I' (addB (addB Mem.emp b_1 (Obj.cells #[Value.slice b m d, Value.bool false] (97 : Nat))) b_2 (Obj.cells #[Value.pointer (some (Addr.mk b_1 (0 : Nat) none))] (95 : Nat))) fun (v : Value) (I' G' : Mem) => ∃ (a : Option Addr), ∃ (n : Nat), ∃ (c : Nat), v = Value.slice a n c ∧ ∃ (a_2 : Option Addr), atI G' (some (Addr.mk b_2 (0 : Nat) none)) (0 : Nat) = some (Value.pointer a_2) ∧ Option.isSome a_2 = true ∧ Option.isSome a_2 = true ∧ ∃ (b : Bool), atI G' a_2 (1 : Nat) = some (Value.bool b) ∧ Br (!b) (∃ (a_3 : Option Addr), atI G' (some (Addr.mk b_2 (0 : Nat) none)) (0 : Nat) = some (Value.pointer a_3) ∧ Option.isSome a_3 = true ∧ Option.isSome a_3 = true ∧ ∃ (a_4 : Option Addr), ∃ (n_1 : Nat), ∃ (c_1 : Nat), atI G' a_3 (0 : Nat) = some (Value.slice a_4 n_1 c_1) ∧ TakeP r y t bs kb I I0 (SV.v (Value.bool ((↑n_1 : Int) == (0 : Int)))) [Ent.mk (EO.cells [SV.v (Value.int IntKind.i64 (Rs.num r)), SV.v (Value.int IntKind.i64 (Rs.code r)), SV.v (Value.int IntKind.i64 (Rs.ser r)), SV.v (Value.int IntKind.i64 (Rs.port r)), SV.v (Value.int IntKind.i64 (Rs.time r)), SV.v (Value.int IntKind.u8 (Rs.kind r)), SV.v (Value.bool (Rs.more r)), SV.v (Value.int IntKind.i64 (Prod.fst (Rs.key r))), SV.v (Value.int IntKind.i64 (Prod.fst (Prod.snd (Rs.key r)))), SV.v (Value.int IntKind.i64 (Prod.snd (Prod.snd (Rs.key r)))), SV.v (Ys.c y), SV.v (Ys.l y), SV.v (Value.slice a n c), SV.v (Ys.p y), SV.v (Ys.h y)] (37 : Nat)) (some kb)] I') (TakeP r y t bs kb I I0 (SV.v (Value.bool false)) [Ent.mk (EO.cells [SV.v (Value.int IntKind.i64 (Rs.num r)), SV.v (Value.int IntKind.i64 (Rs.code r)), SV.v (Value.int IntKind.i64 (Rs.ser r)), SV.v (Value.int IntKind.i64 (Rs.port r)), SV.v (Value.int IntKind.i64 (Rs.time r)), SV.v (Value.int IntKind.u8 (Rs.kind r)), SV.v (Value.bool (Rs.more r)), SV.v (Value.int IntKind.i64 (Prod.fst (Rs.key r))), SV.v (Value.int IntKind.i64 (Prod.fst (Prod.snd (Rs.key r)))), SV.v (Value.int IntKind.i64 (Prod.snd (Prod.snd (Rs.key r)))), SV.v (Ys.c y), SV.v (Ys.l y), SV.v (Value.slice a n c), SV.v (Ys.p y), SV.v (Ys.h y)] (37 : Nat)) (some kb)] I')) (Br (t == (12 : Int)) (∃ (a : Option Addr), atI (addB (addB Mem.emp b_1 (Obj.cells #[Value.slice b m d, Value.bool false] (97 : Nat))) b_2 (Obj.cells #[Value.pointer (some (Addr.mk b_1 (0 : Nat) none))] (95 : Nat))) (some (Addr.mk b_2 (0 : Nat) none)) (0 : Nat) = some (Value.pointer a) ∧ ∃ (a_1 : Option Addr), atI (addB (addB Mem.emp b_1 (Obj.cells #[Value.slice b m d, Value.bool false] (97 : Nat))) b_2 (Obj.cells #[Value.pointer (some (Addr.mk b_1 (0 : Nat) none))] (95 : Nat))) (some (Addr.mk b_2 (0 : Nat) none)) (0 : Nat) = some (Value.pointer a_1) ∧ Ct Try.prog (Value.func (Fn.func (50 : Nat)) #[] #[]) #[Value.pointer a, Value.func (Fn.func (51 : Nat)) #[Value.pointer a_1] #[]] I fun (v : Value) (I' : Mem) => ∃ (x : Value), v = x ∧ CtH Try.prog (Value.func (Fn.func (49 : Nat)) #[] #[]) #[x] I' (addB (addB Mem.emp b_1 (Obj.cells #[Value.slice b m d, Value.bool false] (97 : Nat))) b_2 (Obj.cells #[Value.pointer (some (Addr.mk b_1 (0 : Nat) none))] (95 : Nat))) fun (v : Value) (I' G' : Mem) => ∃ (a : Option Addr), ∃ (n : Nat), ∃ (c : Nat), v = Value.slice a n c ∧ ∃ (a_2 : Option Addr), atI G' (some (Addr.mk b_2 (0 : Nat) none)) (0 : Nat) = some (Value.pointer a_2) ∧ Option.isSome a_2 = true ∧ Option.isSome a_2 = true ∧ ∃ (b : Bool), atI G' a_2 (1 : Nat) = some (Value.bool b) ∧ Br (!b) (∃ (a_3 : Option Addr), atI G' (some (Addr.mk b_2 (0 : Nat) none)) (0 : Nat) = some (Value.pointer a_3) ∧ Option.isSome a_3 = true ∧ Option.isSome a_3 = true ∧ ∃ (a_4 : Option Addr), ∃ (n_1 : Nat), ∃ (c_1 : Nat), atI G' a_3 (0 : Nat) = some (Value.slice a_4 n_1 c_1) ∧ TakeP r y t bs kb I I0 (SV.v (Value.bool ((↑n_1 : Int) == (0 : Int)))) [Ent.mk (EO.cells [SV.v (Value.int IntKind.i64 (Rs.num r)), SV.v (Value.int IntKind.i64 (Rs.code r)), SV.v (Value.int IntKind.i64 (Rs.ser r)), SV.v (Value.int IntKind.i64 (Rs.port r)), SV.v (Value.int IntKind.i64 (Rs.time r)), SV.v (Value.int IntKind.u8 (Rs.kind r)), SV.v (Value.bool (Rs.more r)), SV.v (Value.int IntKind.i64 (Prod.fst (Rs.key r))), SV.v (Value.int IntKind.i64 (Prod.fst (Prod.snd (Rs.key r)))), SV.v (Value.int IntKind.i64 (Prod.snd (Prod.snd (Rs.key r)))), SV.v (Ys.c y), SV.v (Ys.l y), SV.v (Ys.e y), SV.v (Value.slice a n c), SV.v (Ys.h y)] (37 : Nat)) (some kb)] I') (TakeP r y t bs kb I I0 (SV.v (Value.bool false)) [Ent.mk (EO.cells [SV.v (Value.int IntKind.i64 (Rs.num r)), SV.v (Value.int IntKind.i64 (Rs.code r)), SV.v (Value.int IntKind.i64 (Rs.ser r)), SV.v (Value.int IntKind.i64 (Rs.port r)), SV.v (Value.int IntKind.i64 (Rs.time r)), SV.v (Value.int IntKind.u8 (Rs.kind r)), SV.v (Value.bool (Rs.more r)), SV.v (Value.int IntKind.i64 (Prod.fst (Rs.key r))), SV.v (Value.int IntKind.i64 (Prod.fst (Prod.snd (Rs.key r)))), SV.v (Value.int IntKind.i64 (Prod.snd (Prod.snd (Rs.key r)))), SV.v (Ys.c y), SV.v (Ys.l y), SV.v (Ys.e y), SV.v (Value.slice a n c), SV.v (Ys.h y)] (37 : Nat)) (some kb)] I')) (Br (t == (13 : Int)) (∃ (a : Option Addr), atI (addB (addB Mem.emp b_1 (Obj.cells #[Value.slice b m d, Value.bool false] (97 : Nat))) b_2 (Obj.cells #[Value.pointer (some (Addr.mk b_1 (0 : Nat) none))] (95 : Nat))) (some (Addr.mk b_2 (0 : Nat) none)) (0 : Nat) = some (Value.pointer a) ∧ ∃ (a_1 : Option Addr), atI (addB (addB Mem.emp b_1 (Obj.cells #[Value.slice b m d, Value.bool false] (97 : Nat))) b_2 (Obj.cells #[Value.pointer (some (Addr.mk b_1 (0 : Nat) none))] (95 : Nat))) (some (Addr.mk b_2 (0 : Nat) none)) (0 : Nat) = some (Value.pointer a_1) ∧ Ct Try.prog (Value.func (Fn.func (53 : Nat)) #[] #[]) #[Value.pointer a, Value.func (Fn.func (54 : Nat)) #[Value.pointer a_1] #[]] I fun (v : Value) (I' : Mem) => ∃ (x : Value), v = x ∧ CtH Try.prog (Value.func (Fn.func (52 : Nat)) #[] #[]) #[x] I' (addB (addB Mem.emp b_1 (Obj.cells #[Value.slice b m d, Value.bool false] (97 : Nat))) b_2 (Obj.cells #[Value.pointer (some (Addr.mk b_1 (0 : Nat) none))] (95 : Nat))) fun (v : Value) (I' G' : Mem) => ∃ (a : Option Addr), ∃ (n : Nat), ∃ (c : Nat), v = Value.slice a n c ∧ ∃ (a_2 : Option Addr), atI G' (some (Addr.mk b_2 (0 : Nat) none)) (0 : Nat) = some (Value.pointer a_2) ∧ Option.isSome a_2 = true ∧ Option.isSome a_2 = true ∧ ∃ (b : Bool), atI G' a_2 (1 : Nat) = some (Value.bool b) ∧ Br (!b) (∃ (a_3 : Option Addr), atI G' (some (Addr.mk b_2 (0 : Nat) none)) (0 : Nat) = some (Value.pointer a_3) ∧ Option.isSome a_3 = true ∧ Option.isSome a_3 = true ∧ ∃ (a_4 : Option Addr), ∃ (n_1 : Nat), ∃ (c_1 : Nat), atI G' a_3 (0 : Nat) = some (Value.slice a_4 n_1 c_1) ∧ TakeP r y t bs kb I I0 (SV.v (Value.bool ((↑n_1 : Int) == (0 : Int)))) [Ent.mk (EO.cells [SV.v (Value.int IntKind.i64 (Rs.num r)), SV.v (Value.int IntKind.i64 (Rs.code r)), SV.v (Value.int IntKind.i64 (Rs.ser r)), SV.v (Value.int IntKind.i64 (Rs.port r)), SV.v (Value.int IntKind.i64 (Rs.time r)), SV.v (Value.int IntKind.u8 (Rs.kind r)), SV.v (Value.bool (Rs.more r)), SV.v (Value.int IntKind.i64 (Prod.fst (Rs.key r))), SV.v (Value.int IntKind.i64 (Prod.fst (Prod.snd (Rs.key r)))), SV.v (Value.int IntKind.i64 (Prod.snd (Prod.snd (Rs.key r)))), SV.v (Ys.c y), SV.v (Ys.l y), SV.v (Ys.e y), SV.v (Ys.p y), SV.v (Value.slice a n c)] (37 : Nat)) (some kb)] I') (TakeP r y t bs kb I I0 (SV.v (Value.bool false)) [Ent.mk (EO.cells [SV.v (Value.int IntKind.i64 (Rs.num r)), SV.v (Value.int IntKind.i64 (Rs.code r)), SV.v (Value.int IntKind.i64 (Rs.ser r)), SV.v (Value.int IntKind.i64 (Rs.port r)), SV.v (Value.int IntKind.i64 (Rs.time r)), SV.v (Value.int IntKind.u8 (Rs.kind r)), SV.v (Value.bool (Rs.more r)), SV.v (Value.int IntKind.i64 (Prod.fst (Rs.key r))), SV.v (Value.int IntKind.i64 (Prod.fst (Prod.snd (Rs.key r)))), SV.v (Value.int IntKind.i64 (Prod.snd (Prod.snd (Rs.key r)))), SV.v (Ys.c y), SV.v (Ys.l y), SV.v (Ys.e y), SV.v (Ys.p y), SV.v (Value.slice a n c)] (37 : Nat)) (some kb)] I')) (TakeP r y t bs kb I I0 (SV.v (Value.bool false)) [Ent.mk (EO.cells [SV.v (Value.int IntKind.i64 (Rs.num r)), SV.v (Value.int IntKind.i64 (Rs.code r)), SV.v (Value.int IntKind.i64 (Rs.ser r)), SV.v (Value.int IntKind.i64 (Rs.port r)), SV.v (Value.int IntKind.i64 (Rs.time r)), SV.v (Value.int IntKind.u8 (Rs.kind r)), SV.v (Value.bool (Rs.more r)), SV.v (Value.int IntKind.i64 (Prod.fst (Rs.key r))), SV.v (Value.int IntKind.i64 (Prod.fst (Prod.snd (Rs.key r)))), SV.v (Value.int IntKind.i64 (Prod.snd (Prod.snd (Rs.key r)))), SV.v (Ys.c y), SV.v (Ys.l y), SV.v (Ys.e y), SV.v (Ys.p y), SV.v (Ys.h y)] (37 : Nat)) (some kb)] I)))))))))))))) (by kernel_rfl) ?_
  have hrd0 : ∀ b1 b2, b1 ≠ b2 → Rd I (addB (addB Mem.emp b1 (.cells #[.slice b m d, .bool false] 97 (0, 0))) b2 (.cells #[.pointer (some ⟨b1, 0, none⟩)] 95 (0, 0))) b1 (bs, false) := fun b1 b2 hne => ⟨b, m, d, by rw [addB_ne _ _ hne]; exact addB_eq .., hs, hd, hm, hb, hn⟩
  have hln := hs.numLen
  intro b1 _ _ b2 _ hbb
  have hne' : b1 ≠ b2 := fun e => by rw [e, if_pos rfl] at hbb; cases hbb
  have hne := Ne.symm hne'
  have hrd := hrd0 b1 b2 hne'
  have hv0 : (addB (addB Mem.emp b1 (.cells #[.slice b m d, .bool false] 97 (0, 0))) b2 (.cells #[.pointer (some ⟨b1, 0, none⟩)] 95 (0, 0))) b2 = some (.cells #[.pointer (some ⟨b1, 0, none⟩)] 95 (0, 0)) := addB_eq ..
  have fin : ∀ {I' G' : Mem} {st : RS} {H : List Ent}, Rd I' G' b1 st → G' b2 = some (.cells #[.pointer (some ⟨b1, 0, none⟩)] 95 (0, 0)) → (∀ ok, ok = okS st → TakeP r y t bs kb I I0 (.v (.bool ok)) H I') →
      ∃ a, atI G' (some ⟨b2, 0, none⟩) 0 = some (.pointer a) ∧ a.isSome = true ∧ a.isSome = true ∧ ∃ b, atI G' a 1 = some (.bool b) ∧ Br (!b) (∃ a, atI G' (some ⟨b2, 0, none⟩) 0 = some (.pointer a) ∧ a.isSome = true ∧ a.isSome = true ∧ ∃ a_1 n c, atI G' a 0 = some (.slice a_1 n c) ∧ TakeP r y t bs kb I I0 (.v (.bool (((n : Nat) : Int) == 0))) H I') (TakeP r y t bs kb I I0 (.v (.bool false)) H I') := by
    intro I' G' st H h1 h2 h3
    obtain ⟨a, n, c, g1, g2, g3⟩ := rdB h1
    refine ⟨_, atC h2 rfl, rfl, rfl, _, g2, Br.mk (fun hb => ⟨_, atC h2 rfl, rfl, rfl, a, n, c, g1, h3 _ ?_⟩) (fun hb => h3 _ ?_)⟩
    · rw [okS, hb, Bool.true_and, g3]
      by_cases hz : st.1 = []
      · rw [hz]; rfl
      · rw [decide_eq_false hz]
        have := List.length_pos_iff.2 hz
        simp; exact hz
    · rw [okS, hb]; rfl
  generalize addB (addB Mem.emp b1 (.cells #[.slice b m d, .bool false] 97 (0, 0))) b2 (.cells #[.pointer (some ⟨b1, 0, none⟩)] 95 (0, 0)) = G0 at hrd hv0 ⊢
  refine Br.mk (fun e => ?_) (fun e1 => Br.mk (fun e => ?_) (fun e2 => Br.mk (fun e => ?_) (fun e3 => Br.mk (fun e => ?_) (fun e4 => Br.mk (fun e => ?_) (fun e5 => Br.mk (fun e => ?_) (fun e6 => Br.mk (fun e => ?_) (fun e7 => Br.mk (fun e => ?_) (fun e8 => Br.mk (fun e => ?_) (fun e9 => Br.mk (fun e => ?_) (fun e10 => Br.mk (fun e => ?_) (fun e11 => Br.mk (fun e => ?_) (fun e12 => Br.mk (fun e => ?_) (fun e13 => ?_)))))))))))))
  · have e := eqv e
    subst e
    have hT : takeS r 1 bs = (_, _) := rfl
    refine ⟨_, atC hv0 rfl, (ct37 (bs, false) _ rfl b1 I _ hrd).mono fun v I1 G1 l1 ⟨hv, h1⟩ => ⟨_, hv, fin h1.1 ((h1.2 _ hne).trans hv0) fun ok hok => takeP_mk hT hok (fun h => ⟨h.c.mono l1, h.l.mono l1, h.e.mono l1, h.p.mono l1, h.h.mono l1⟩) (fun h _ => h.mono l1)⟩⟩
  · have e := eqv e
    subst e
    have hT : takeS r 2 bs = (_, _) := rfl
    refine ⟨_, atC hv0 rfl, (ct37 (bs, false) _ rfl b1 I _ hrd).mono fun v I1 G1 l1 ⟨hv, h1⟩ => ⟨_, hv, ⟨_, rfl, fin h1.1 ((h1.2 _ hne).trans hv0) fun ok hok => takeP_mk hT hok (fun h => ⟨h.c.mono l1, h.l.mono l1, h.e.mono l1, h.p.mono l1, h.h.mono l1⟩) (fun h _ => h.mono l1)⟩⟩⟩
  · have e := eqv e
    subst e
    have hT : takeS r 3 bs = (_, _) := rfl
    refine ⟨_, atC hv0 rfl, (ct37 (bs, false) _ rfl b1 I _ hrd).mono fun v I1 G1 l1 ⟨hv, h1⟩ => ⟨_, hv, fin h1.1 ((h1.2 _ hne).trans hv0) fun ok hok => takeP_mk hT hok (fun h => ⟨h.c.mono l1, h.l.mono l1, h.e.mono l1, h.p.mono l1, h.h.mono l1⟩) (fun h _ => h.mono l1)⟩⟩
  · have e := eqv e
    subst e
    have hT : takeS r 4 bs = (_, _) := rfl
    refine ⟨_, atC hv0 rfl, (ct37 (bs, false) _ rfl b1 I _ hrd).mono fun v I1 G1 l1 ⟨hv, h1⟩ => ⟨_, hv, fin h1.1 ((h1.2 _ hne).trans hv0) fun ok hok => takeP_mk hT hok (fun h => ⟨h.c.mono l1, h.l.mono l1, h.e.mono l1, h.p.mono l1, h.h.mono l1⟩) (fun h _ => h.mono l1)⟩⟩
  · have e := eqv e
    subst e
    have hT : takeS r 5 bs = (_, _) := rfl
    refine ⟨_, atC hv0 rfl, (ct37 (bs, false) _ rfl b1 I _ hrd).mono fun v I1 G1 l1 ⟨hv, h1⟩ => ⟨_, hv, fin h1.1 ((h1.2 _ hne).trans hv0) fun ok hok => takeP_mk hT hok (fun h => ⟨h.c.mono l1, h.l.mono l1, h.e.mono l1, h.p.mono l1, h.h.mono l1⟩) (fun h _ => h.mono l1)⟩⟩
  · have e := eqv e
    subst e
    have hT : takeS r 6 bs = (_, _) := rfl
    refine ⟨_, atC hv0 rfl, (ct37 (bs, false) _ rfl b1 I _ hrd).mono fun v I1 G1 l1 ⟨hv, h1⟩ => ⟨_, hv, fin h1.1 ((h1.2 _ hne).trans hv0) fun ok hok => takeP_mk hT hok (fun h => ⟨h.c.mono l1, h.l.mono l1, h.e.mono l1, h.p.mono l1, h.h.mono l1⟩) (fun h _ => h.mono l1)⟩⟩
  · have e := eqv e
    subst e
    have hT : takeS r 7 bs = (_, _) := rfl
    exact fin hrd hv0 fun ok hok => takeP_mk hT hok (fun h => ⟨h.c, h.l, h.e, h.p, h.h⟩) (fun h _ => h)
  · have e := eqv e
    subst e
    have hT : takeS r 8 bs = (_, _) := rfl
    refine ⟨_, atC hv0 rfl, (ct38 (bs, false) _ rfl b1 I _ hrd).mono fun v I1 G1 l1 ⟨hv, h1⟩ => ⟨_, _, _, hv, fin h1.1 ((h1.2 _ hne).trans hv0) fun ok hok => takeP_mk hT hok (fun h => ⟨h.c.mono l1, h.l.mono l1, h.e.mono l1, h.p.mono l1, h.h.mono l1⟩) (fun h _ => h.mono l1)⟩⟩
  · have e := eqv e
    subst e
    have hT : takeS r 9 bs = (_, _) := rfl
    refine ⟨_, atC hv0 rfl, _, atC hv0 rfl, (ct40 b1 37 #[.pointer (some ⟨b1, 0, none⟩)] #[] I).mono fun v I1 l1 ⟨k1, k2, hv, g1, g2⟩ => ⟨_, hv, ?_⟩⟩
    refine (ct39 (runAll numQ bs.length (bs, false)).1 (Nat.le_trans (runAll_len _ _) (by omega)) _ I1 _ _ _ (gives77 numQ dec_num (bs, false) b1 k1 k2 37 #[.pointer (some ⟨b1, 0, none⟩)] #[] (ptrX b2 b1) (ptrX_no hne') I1 g1 g2 (tk_num b2 b1 I1)) ⟨hrd.mono l1, ptrX_le hv0⟩).mono fun v I2 G2 l2 hL => ?_
    obtain ⟨hL, I3, l3, h1⟩ := hL
    have hL' := hL
    obtain ⟨a2, n2, c2, rfl, _⟩ := hL'
    refine ⟨_, _, _, rfl, fin (h1.1.mono l3) (ptrX_at h1.2) fun ok hok => takeP_mk (r' := { r with counts := (runAll numQ bs.length (bs, false)).1 }) (y' := { y with c := .slice a2 n2 c2 }) hT hok (fun h => ?_) (fun h h0 => ?_)⟩
    · have h := h.mono (Mem.le_trans l1 l2)
      exact { h with c := hL.lst }
    · have h := h.mono (Mem.le_trans l1 l2)
      exact { h with c := hL.new.anti (Mem.le_trans h0 l1) }
  · have e := eqv e
    subst e
    have hT : takeS r 10 bs = (_, _) := rfl
    refine ⟨_, atC hv0 rfl, (ct42 b1 43 #[] #[.pointer (some ⟨b2, 0, none⟩)] I).mono fun v I1 l1 ⟨k1, k2, hv, g1, g2⟩ => ⟨_, hv, ?_⟩⟩
    refine (ct41 (runAll valQ bs.length (bs, false)).1 (Nat.le_trans (runAll_len _ _) (by omega)) _ I1 _ _ _ (gives79 valQ dec_val (bs, false) b1 k1 k2 43 #[] #[.pointer (some ⟨b2, 0, none⟩)] (ptrX b2 b1) (ptrX_no hne') I1 g1 g2 (tk_val b2 b1 I1)) ⟨hrd.mono l1, ptrX_le hv0⟩).mono fun v I2 G2 l2 hL => ?_
    obtain ⟨hL, I3, l3, h1⟩ := hL
    have hL' := hL
    obtain ⟨a2, n2, c2, rfl, _⟩ := hL'
    refine ⟨_, _, _, rfl, fin (h1.1.mono l3) (ptrX_at h1.2) fun ok hok => takeP_mk (r' := { r with cells := (runAll valQ bs.length (bs, false)).1 }) (y' := { y with l := .slice a2 n2 c2 }) hT hok (fun h => ?_) (fun h h0 => ?_)⟩
    · have h := h.mono (Mem.le_trans l1 l2)
      exact { h with l := hL.lst }
    · have h := h.mono (Mem.le_trans l1 l2)
      exact { h with l := hL.new.anti (Mem.le_trans h0 l1) }
  · have e := eqv e
    subst e
    have hT : takeS r 11 bs = (_, _) := rfl
    refine ⟨_, atC hv0 rfl, _, atC hv0 rfl, (ct47 b1 48 #[.pointer (some ⟨b1, 0, none⟩)] #[] I).mono fun v I1 l1 ⟨k1, k2, hv, g1, g2⟩ => ⟨_, hv, ?_⟩⟩
    refine (ct46 (runAll evQ bs.length (bs, false)).1 (Nat.le_trans (runAll_len _ _) (by omega)) _ I1 _ _ _ (gives82 evQ dec_ev (bs, false) b1 k1 k2 48 #[.pointer (some ⟨b1, 0, none⟩)] #[] (ptrX b2 b1) (ptrX_no hne') I1 g1 g2 (tk_ev b2 b1 I1)) ⟨hrd.mono l1, ptrX_le hv0⟩).mono fun v I2 G2 l2 hL => ?_
    obtain ⟨hL, I3, l3, h1⟩ := hL
    have hL' := hL
    obtain ⟨a2, n2, c2, rfl, _⟩ := hL'
    refine ⟨_, _, _, rfl, fin (h1.1.mono l3) (ptrX_at h1.2) fun ok hok => takeP_mk (r' := { r with events := (runAll evQ bs.length (bs, false)).1 }) (y' := { y with e := .slice a2 n2 c2 }) hT hok (fun h => ?_) (fun h h0 => ?_)⟩
    · have h := h.mono (Mem.le_trans l1 l2)
      exact { h with e := hL.lst }
    · have h := h.mono (Mem.le_trans l1 l2)
      exact { h with e := hL.new.anti (Mem.le_trans h0 l1) }
  · have e := eqv e
    subst e
    have hT : takeS r 12 bs = (_, _) := rfl
    refine ⟨_, atC hv0 rfl, _, atC hv0 rfl, (ct50 b1 51 #[.pointer (some ⟨b1, 0, none⟩)] #[] I).mono fun v I1 l1 ⟨k1, k2, hv, g1, g2⟩ => ⟨_, hv, ?_⟩⟩
    refine (ct49 (runAll portQ bs.length (bs, false)).1 (Nat.le_trans (runAll_len _ _) (by omega)) _ I1 _ _ _ (gives84 portQ dec_port (bs, false) b1 k1 k2 51 #[.pointer (some ⟨b1, 0, none⟩)] #[] (ptrX b2 b1) (ptrX_no hne') I1 g1 g2 (tk_port b2 b1 I1)) ⟨hrd.mono l1, ptrX_le hv0⟩).mono fun v I2 G2 l2 hL => ?_
    obtain ⟨hL, I3, l3, h1⟩ := hL
    have hL' := hL
    obtain ⟨a2, n2, c2, rfl, _⟩ := hL'
    refine ⟨_, _, _, rfl, fin (h1.1.mono l3) (ptrX_at h1.2) fun ok hok => takeP_mk (r' := { r with ports := (runAll portQ bs.length (bs, false)).1 }) (y' := { y with p := .slice a2 n2 c2 }) hT hok (fun h => ?_) (fun h h0 => ?_)⟩
    · have h := h.mono (Mem.le_trans l1 l2)
      exact { h with p := hL.lst }
    · have h := h.mono (Mem.le_trans l1 l2)
      exact { h with p := hL.new.anti (Mem.le_trans h0 l1) }
  · have e := eqv e
    subst e
    have hT : takeS r 13 bs = (_, _) := rfl
    refine ⟨_, atC hv0 rfl, _, atC hv0 rfl, (ct53 b1 54 #[.pointer (some ⟨b1, 0, none⟩)] #[] I).mono fun v I1 l1 ⟨k1, k2, hv, g1, g2⟩ => ⟨_, hv, ?_⟩⟩
    refine (ct52 (runAll hdQ bs.length (bs, false)).1 (Nat.le_trans (runAll_len _ _) (by omega)) _ I1 _ _ _ (gives86 hdQ dec_hd (bs, false) b1 k1 k2 54 #[.pointer (some ⟨b1, 0, none⟩)] #[] (ptrX b2 b1) (ptrX_no hne') I1 g1 g2 (tk_hd b2 b1 I1)) ⟨hrd.mono l1, ptrX_le hv0⟩).mono fun v I2 G2 l2 hL => ?_
    obtain ⟨hL, I3, l3, h1⟩ := hL
    have hL' := hL
    obtain ⟨a2, n2, c2, rfl, _⟩ := hL'
    refine ⟨_, _, _, rfl, fin (h1.1.mono l3) (ptrX_at h1.2) fun ok hok => takeP_mk (r' := { r with handles := (runAll hdQ bs.length (bs, false)).1 }) (y' := { y with h := .slice a2 n2 c2 }) hT hok (fun h => ?_) (fun h h0 => ?_)⟩
    · have h := h.mono (Mem.le_trans l1 l2)
      exact { h with h := hL.lst }
    · have h := h.mono (Mem.le_trans l1 l2)
      exact { h with h := hL.new.anti (Mem.le_trans h0 l1) }
  · have hT : takeS r t bs = (r, ([], true)) := by
      rw [takeS, if_neg (nev e1), if_neg (nev e2), if_neg (nev e3), if_neg (nev e4), if_neg (nev e5), if_neg (nev e6), if_neg (nev e7), if_neg (nev e8), if_neg (nev e9), if_neg (nev e10), if_neg (nev e11), if_neg (nev e12), if_neg (nev e13)]
    exact takeP_mk hT rfl (fun h => h) (fun h _ => h)
open Go Go.Proofs Go.SE Go.RowKit
set_option linter.unusedVariables false
theorem ct88 (x : Int) (I : Mem) : Ct Try.prog (fnv 88) #[.int .i64 x] I (fun v _ => v = .bool (decide (x < 0))) := by
  refine viaR (ct_via (A := { }) Try.func88 rfl Try.call88 rfl rfl) (Value.bool (decide (x < (0 : Int))) = Value.bool (decide (x < (0 : Int)))) (by kernel_rfl) ?_
  rfl
def negL (l : List Int) : Bool := l.any fun x => decide (x < 0)
theorem any_upto {p : Int → Bool} {l : List Int} {j : Nat} {x : Int} (h : (l.take j).any p = false) (hx : l[j]? = some x) (hp : p x = false) : (l.take (j + 1)).any p = false := by
  rw [take_succ' hx, List.any_append, h]; simp [hp]
theorem any_at {p : Int → Bool} {l : List Int} {j : Nat} {x : Int} (hx : l[j]? = some x) (hp : p x = true) : l.any p = true := List.any_eq_true.2 ⟨x, List.mem_of_getElem? hx, hp⟩
theorem ct91 (l : List Int) (a : Option Addr) (n c : Nat) (I : Mem) (h : SlM I a n 1 (ints .i64 l)) (hn : n ≤ 1000000) :
    Ct Try.prog (fnv 91) #[.slice a n c, fnv 88] I (fun v _ => ∃ i : Int, v = .int .i64 i ∧ decide (0 ≤ i) = negL l) := by
  refine viaR (ct_via (A := { loops := [(2, ⟨[(0, .keep), (1, .keep), (7, .keep), (8, .sh (.int .i64))], [], [], fun vals _ _ _ => match vals with | [.int .i64 j] => 0 ≤ j ∧ j ≤ n ∧ (l.take j.toNat).any (fun x => decide (x < 0)) = false | _ => False, fun vals _ => match vals with | [.int .i64 j] => (n - j).toNat | _ => 0⟩)] }) Try.func91 rfl Try.call91 rfl rfl) ((SV.v (Value.slice a n c) = SV.v (Value.slice a n c) ∧ SV.v (Value.func (Fn.func (88 : Nat)) #[] #[]) = SV.v (Value.func (Fn.func (88 : Nat)) #[] #[]) ∧ SV.v (Value.int IntKind.i64 (↑n : Int)) = SV.v (Value.int IntKind.i64 (↑n : Int)) ∧ (0 : Int) ≤ (0 : Int) ∧ (0 : Int) ≤ (↑n : Int) ∧ false = false) ∧ ∀ (I' G' : Mem), Mem.le I I' → ∀ (n_1 : Int), (0 : Int) ≤ n_1 ∧ n_1 ≤ (↑n : Int) ∧ (List.any (List.take (Int.toNat n_1) l) fun (x : Int) => decide (x < (0 : Int))) = false → Br (decide (n_1 < (↑n : Int))) ((0 : Int) ≤ n_1 ∧ n_1 < (↑n : Int) ∧ Option.isSome a = true ∧ ∃ (n_2 : Int), atI I' a (Int.toNat n_1 * (1 : Nat) + (0 : Nat)) = some (Value.int IntKind.i64 n_2) ∧ Ct Try.prog (Value.func (Fn.func (88 : Nat)) #[] #[]) #[Value.int IntKind.i64 n_2] I' fun (v : Value) (I' : Mem) => ∃ (b : Bool), v = Value.bool b ∧ Br b (∃ (i : Int), Value.int IntKind.i64 n_1 = Value.int IntKind.i64 i ∧ decide ((0 : Int) ≤ i) = negL l) (Wr IntKind.i64 (n_1 + (1 : Int)) fun (c_1 : Int) => SV.v (Value.slice a n c) = SV.v (Value.slice a n c) ∧ SV.v (Value.func (Fn.func (88 : Nat)) #[] #[]) = SV.v (Value.func (Fn.func (88 : Nat)) #[] #[]) ∧ SV.v (Value.int IntKind.i64 (↑n : Int)) = SV.v (Value.int IntKind.i64 (↑n : Int)) ∧ ((0 : Int) ≤ c_1 ∧ c_1 ≤ (↑n : Int) ∧ (List.any (List.take (Int.toNat c_1) l) fun (x : Int) => decide (x < (0 : Int))) = false) ∧ Int.toNat ((↑n : Int) - c_1) < Int.toNat ((↑n : Int) - n_1))) (∃ (i : Int), Value.int IntKind.i64 (-1 : Int) = Value.int IntKind.i64 i ∧ decide ((0 : Int) ≤ i) = negL l)) (by kernel_rfl) ?_
  have hln := h.numLen
  refine ⟨⟨rfl, rfl, rfl, by omega, by omega, rfl⟩, fun I1 _ l1 j ⟨j0, j1, hj⟩ => Br.mk (fun hlt => ?_) (fun hge => ?_)⟩
  · have hlt := of_decide_eq_true hlt
    obtain ⟨x, hx, e⟩ := (h.mono l1).intAt j0 hlt
    refine ⟨j0, hlt, h.isSome (by omega), x, e, (ct88 x I1).mono fun v I2 l2 hv => ⟨_, hv, Br.mk (fun hb => ?_) (fun hb => ?_)⟩⟩
    · exact ⟨_, rfl, by rw [decide_eq_true j0]; exact (any_at hx hb).symm⟩
    · refine wr_i64 (by omega) (by omega) ⟨rfl, rfl, rfl, ⟨by omega, by omega, ?_⟩, by omega⟩
      rw [show (j + 1).toNat = j.toNat + 1 by omega]
      exact any_upto hj hx hb
  · have hge := of_decide_eq_false hge
    rw [List.take_of_length_le (by omega)] at hj
    exact ⟨_, rfl, by rw [negL, hj]; rfl⟩
theorem ct55 (l : List Int) (a : Option Addr) (n c : Nat) (I : Mem) (h : SlM I a n 1 (ints .i64 l)) (hn : n ≤ 1000000) :
    Ct Try.prog (fnv 55) #[.slice a n c] I (fun v _ => v = .bool (!negL l)) := by
  have C : Ct Try.prog (fnv 87) #[.slice a n c, fnv 88] I (fun v _ => v = .bool (negL l)) := by
    refine viaR (ct_via (A := { }) Try.func87 rfl Try.call87 rfl rfl) (Ct Try.prog (Value.func (Fn.func (91 : Nat)) #[] #[]) #[Value.slice a n c, Value.func (Fn.func (88 : Nat)) #[] #[]] I fun (v : Value) (I' : Mem) => ∃ (n : Int), v = Value.int IntKind.i64 n ∧ Value.bool (decide ((0 : Int) ≤ n)) = Value.bool (negL l)) (by kernel_rfl) ?_
    exact (ct91 l a n c I h hn).mono fun v I1 l1 ⟨i, hv, hi⟩ => ⟨_, hv, by rw [hi]⟩
  refine viaR (ct_via (A := { }) Try.func55 rfl Try.call55 rfl rfl) (Ct Try.prog (Value.func (Fn.func (87 : Nat)) #[] #[]) #[Value.slice a n c, Value.func (Fn.func (88 : Nat)) #[] #[]] I fun (v : Value) (I' : Mem) => ∃ (b : Bool), v = Value.bool b ∧ (Value.bool !b) = Value.bool !negL l) (by kernel_rfl) ?_
  exact C.mono fun v I1 l1 hv => ⟨_, hv, rfl⟩
theorem ct93 (x : Int) (I : Mem) : Ct Try.prog (fnv 93) #[.int .u8 x] I (fun v _ => v = .bool (decide (15 < x))) := by
  refine viaR (ct_via (A := { }) Try.func93 rfl Try.call93 rfl rfl) (Value.bool (decide ((15 : Int) < x)) = Value.bool (decide ((15 : Int) < x))) (by kernel_rfl) ?_
  rfl
theorem ct57 (x : Int) (I : Mem) : Ct Try.prog (fnv 57) #[.int .u8 x] I (fun v _ => v = .bool (decide (x ≤ 15))) := by
  have C : ∀ (a : Option Addr) (J : Mem), SlM J a 1 1 [.int .u8 x] → Ct Try.prog (fnv 94) #[.slice a 1 1, fnv 93] J (fun v _ => ∃ i : Int, v = .int .i64 i ∧ decide (0 ≤ i) = decide (15 < x)) := fun a J h => by
    refine viaR (ct_via (A := { loops := [(2, ⟨[(0, .keep), (1, .keep), (7, .keep), (8, .sh (.int .i64))], [], [], fun vals _ _ _ => match vals with | [.int .i64 j] => 0 ≤ j ∧ j ≤ 1 ∧ (j = 1 → decide (15 < x) = false) | _ => False, fun vals _ => match vals with | [.int .i64 j] => (1 - j).toNat | _ => 0⟩)] }) Try.func94 rfl Try.call94 rfl rfl) ((SV.v (Value.slice a (1 : Nat) (1 : Nat)) = SV.v (Value.slice a (1 : Nat) (1 : Nat)) ∧ SV.v (Value.func (Fn.func (93 : Nat)) #[] #[]) = SV.v (Value.func (Fn.func (93 : Nat)) #[] #[]) ∧ SV.v (Value.int IntKind.i64 (1 : Int)) = SV.v (Value.int IntKind.i64 (1 : Int)) ∧ (0 : Int) ≤ (0 : Int) ∧ (0 : Int) ≤ (1 : Int) ∧ ((0 : Int) = (1 : Int) → decide ((15 : Int) < x) = false)) ∧ ∀ (I' G' : Mem), Mem.le J I' → ∀ (n : Int), (0 : Int) ≤ n ∧ n ≤ (1 : Int) ∧ (n = (1 : Int) → decide ((15 : Int) < x) = false) → Br (decide (n < (1 : Int))) ((0 : Int) ≤ n ∧ n < (1 : Int) ∧ Option.isSome a = true ∧ ∃ (n_1 : Int), atI I' a (Int.toNat n * (1 : Nat) + (0 : Nat)) = some (Value.int IntKind.u8 n_1) ∧ Ct Try.prog (Value.func (Fn.func (93 : Nat)) #[] #[]) #[Value.int IntKind.u8 n_1] I' fun (v : Value) (I' : Mem) => ∃ (b : Bool), v = Value.bool b ∧ Br b (∃ (i : Int), Value.int IntKind.i64 n = Value.int IntKind.i64 i ∧ decide ((0 : Int) ≤ i) = decide ((15 : Int) < x)) (Wr IntKind.i64 (n + (1 : Int)) fun (c : Int) => SV.v (Value.slice a (1 : Nat) (1 : Nat)) = SV.v (Value.slice a (1 : Nat) (1 : Nat)) ∧ SV.v (Value.func (Fn.func (93 : Nat)) #[] #[]) = SV.v (Value.func (Fn.func (93 : Nat)) #[] #[]) ∧ SV.v (Value.int IntKind.i64 (1 : Int)) = SV.v (Value.int IntKind.i64 (1 : Int)) ∧ ((0 : Int) ≤ c ∧ c ≤ (1 : Int) ∧ (c = (1 : Int) → decide ((15 : Int) < x) = false)) ∧ Int.toNat ((1 : Int) - c) < Int.toNat ((1 : Int) - n))) (∃ (i : Int), Value.int IntKind.i64 (-1 : Int) = Value.int IntKind.i64 i ∧ decide ((0 : Int) ≤ i) = decide ((15 : Int) < x))) (by kernel_rfl) ?_
    refine ⟨⟨rfl, rfl, rfl, by omega, by omega, fun h => by omega⟩, fun I1 _ l1 j ⟨j0, j1, hj⟩ => Br.mk (fun hlt => ?_) (fun hge => ?_)⟩
    · have hlt := of_decide_eq_true hlt
      obtain rfl : j = 0 := by omega
      refine ⟨by omega, by omega, h.isSome (by omega), x, (h.mono l1).at_ 0 _ rfl, (ct93 x I1).mono fun v I2 l2 hv => ⟨_, hv, Br.mk (fun hb => ?_) (fun hb => ?_)⟩⟩
      · exact ⟨_, rfl, by rw [hb]; rfl⟩
      · exact wr_i64 (by omega) (by omega) ⟨rfl, rfl, rfl, ⟨by omega, by omega, fun _ => hb⟩, by omega⟩
    · have hge := of_decide_eq_false hge
      exact ⟨_, rfl, by rw [hj (by omega)]; rfl⟩
  have C1 : ∀ (a : Option Addr) (J : Mem), SlM J a 1 1 [.int .u8 x] → Ct Try.prog (fnv 92) #[.slice a 1 1, fnv 93] J (fun v _ => v = .bool (decide (15 < x))) := fun a J h => by
    refine viaR (ct_via (A := { }) Try.func92 rfl Try.call92 rfl rfl) (Ct Try.prog (Value.func (Fn.func (94 : Nat)) #[] #[]) #[Value.slice a (1 : Nat) (1 : Nat), Value.func (Fn.func (93 : Nat)) #[] #[]] J fun (v : Value) (I' : Mem) => ∃ (n : Int), v = Value.int IntKind.i64 n ∧ Value.bool (decide ((0 : Int) ≤ n)) = Value.bool (decide ((15 : Int) < x))) (by kernel_rfl) ?_
    exact (C a J h).mono fun v I1 l1 ⟨i, hv, hi⟩ => ⟨_, hv, by rw [hi]⟩
  have C2 : ∀ (a : Option Addr) (J : Mem), SlM J a 1 1 [.int .u8 x] → Ct Try.prog (fnv 89) #[.slice a 1 1] J (fun v _ => v = .bool (!decide (15 < x))) := fun a J h => by
    refine viaR (ct_via (A := { }) Try.func89 rfl Try.call89 rfl rfl) (Ct Try.prog (Value.func (Fn.func (92 : Nat)) #[] #[]) #[Value.slice a (1 : Nat) (1 : Nat), Value.func (Fn.func (93 : Nat)) #[] #[]] J fun (v : Value) (I' : Mem) => ∃ (b : Bool), v = Value.bool b ∧ (Value.bool !b) = Value.bool !decide ((15 : Int) < x)) (by kernel_rfl) ?_
    exact (C1 a J h).mono fun v I1 l1 hv => ⟨_, hv, rfl⟩
  refine viaR (ct_via (A := { }) Try.func57 rfl Try.call57 rfl rfl) (∀ (b : Nat) (I' : Mem), Mem.le I I' → I' b = some (Obj.cells #[Value.int IntKind.u8 x] (44 : Nat)) → Ct Try.prog (Value.func (Fn.func (89 : Nat)) #[] #[]) #[Value.slice (some (Addr.mk b (0 : Nat) none)) (1 : Nat) (1 : Nat)] I' fun (v : Value) (I' : Mem) => ∃ (b : Bool), v = Value.bool b ∧ Value.bool b = Value.bool (decide (x ≤ (15 : Int)))) (by kernel_rfl) ?_
  intro b I1 l1 hb
  refine (C2 _ I1 (sl_cells hb rfl (by decide))).mono fun v I2 l2 hv => ⟨_, hv, ?_⟩
  by_cases hx : x ≤ 15
  · rw [decide_eq_true hx, decide_eq_false (by omega)]; rfl
  · rw [decide_eq_false hx, decide_eq_true (by omega)]; rfl
def strL (s : ByteArray) : List Int := s.data.toList.map fun b => (b.toNat : Int)
def nameStep (b c : Int) : Bool := if (97 ≤ c ∧ c ≤ 122) ∨ (48 ≤ c ∧ c ≤ 57) then true else if c = 45 then decide (b ≠ 46) else if c = 46 then decide (b ≠ 46) && decide (b ≠ 45) else false
def nameGo : List Int → Int → Option Int
  | [], b => some b
  | c :: r, b => if nameStep b c then nameGo r c else none
def nameEnd : Option Int → Bool
  | none => false
  | some b => decide (b ≠ 46) && decide (b ≠ 45)
def nameB (s : List Int) : Bool := decide (1 ≤ s.length) && (decide (s.length ≤ 32) && (decide (97 ≤ s.headD 0 ∧ s.headD 0 ≤ 122) && nameEnd (nameGo s 46)))
theorem strL_len (s : ByteArray) : (strL s).length = s.size := by rw [strL, List.length_map, Array.length_toList]; rfl
theorem strL_get {s : ByteArray} {j : Nat} {c : UInt8} (h : s.data.toList[j]? = some c) : (strL s)[j]? = some (c.toNat : Int) := by
  rw [strL, List.getElem?_map, h]; rfl
theorem str_at {s : ByteArray} {j : Int} (h0 : 0 ≤ j) (h1 : j < s.size) : ∃ c : UInt8, s.data.toList[j.toNat]? = some c := by
  have : j.toNat < s.data.toList.length := by
    rw [Array.length_toList]
    have e : s.size = s.data.size := rfl
    omega
  exact ⟨_, List.getElem?_eq_getElem this⟩
theorem ct56 (s : ByteArray) (I : Mem) : Ct Try.prog (fnv 56) #[.string s] I (fun v _ => v = .bool (nameB (strL s))) := by
  refine viaR (ct_via (A := { cuts := [(15, ⟨[(0, .keep), (2, .keep), (3, .sh .bool), (4, .kv), (5, .keep), (6, .kv), (26, .keep), (27, .keep)], [], [], fun vals _ _ _ => match vals with | [.bool ok, .int .u8 b, .int .u8 c] => ok = nameStep b c | _ => False, fun _ _ => 0⟩)], loops := [(6, ⟨[(0, .keep), (2, .keep), (3, .sh .bool), (4, .sh (.int .u8)), (26, .keep), (27, .sh (.int .i64))], [], [], fun vals _ _ _ => match vals with | [.bool ok, .int .u8 b, .int .i64 j] => 0 ≤ j ∧ j ≤ s.size ∧ ok = true ∧ nameGo (strL s) 46 = nameGo ((strL s).drop j.toNat) b | _ => False, fun vals _ => match vals with | [_, _, .int .i64 j] => (s.size - j).toNat | _ => 0⟩)] }) Try.func56 rfl Try.call56 rfl rfl) (Br (decide ((↑(ByteArray.size s) : Int) < (1 : Int))) (Value.bool false = Value.bool (nameB (strL s))) (Br (decide ((32 : Int) < (↑(ByteArray.size s) : Int))) (Value.bool false = Value.bool (nameB (strL s))) (∃ (c : UInt8), (Array.toList (ByteArray.data s))[(0 : Nat)]? = some c ∧ (0 : Int) ≤ (0 : Int) ∧ Br (decide ((↑(UInt8.toNat c) : Int) < (97 : Int))) (Value.bool false = Value.bool (nameB (strL s))) (∃ (c : UInt8), (Array.toList (ByteArray.data s))[(0 : Nat)]? = some c ∧ (0 : Int) ≤ (0 : Int) ∧ Br (decide ((122 : Int) < (↑(UInt8.toNat c) : Int))) (Value.bool false = Value.bool (nameB (strL s))) ((SV.v (Value.string s) = SV.v (Value.string s) ∧ SV.v (Value.bool false) = SV.v (Value.bool false) ∧ SV.v (Value.int IntKind.i64 (↑(ByteArray.size s) : Int)) = SV.v (Value.int IntKind.i64 (↑(ByteArray.size s) : Int)) ∧ (0 : Int) ≤ (0 : Int) ∧ (0 : Int) ≤ (↑(ByteArray.size s) : Int) ∧ true = true ∧ nameGo (strL s) (46 : Int) = nameGo (List.drop (0 : Nat) (strL s)) (46 : Int)) ∧ ∀ (I' G' : Mem), Mem.le I I' → ∀ (b : Bool) (n n_1 : Int), (0 : Int) ≤ n_1 ∧ n_1 ≤ (↑(ByteArray.size s) : Int) ∧ b = true ∧ nameGo (strL s) (46 : Int) = nameGo (List.drop (Int.toNat n_1) (strL s)) n → Br (decide (n_1 < (↑(ByteArray.size s) : Int))) (∃ (c : UInt8), (Array.toList (ByteArray.data s))[Int.toNat n_1]? = some c ∧ (0 : Int) ≤ n_1 ∧ Br (decide ((97 : Int) ≤ (↑(UInt8.toNat c) : Int))) (Br (decide ((↑(UInt8.toNat c) : Int) ≤ (122 : Int))) (SV.v (Value.string s) = SV.v (Value.string s) ∧ SV.v (Value.bool false) = SV.v (Value.bool false) ∧ SV.v (Value.int IntKind.u8 n) = SV.v (Value.int IntKind.u8 n) ∧ SV.v (Value.int IntKind.i64 n_1) = SV.v (Value.int IntKind.i64 n_1) ∧ SV.v (Value.int IntKind.u8 (↑(UInt8.toNat c) : Int)) = SV.v (Value.int IntKind.u8 (↑(UInt8.toNat c) : Int)) ∧ SV.v (Value.int IntKind.i64 (↑(ByteArray.size s) : Int)) = SV.v (Value.int IntKind.i64 (↑(ByteArray.size s) : Int)) ∧ SV.v (Value.int IntKind.i64 n_1) = SV.v (Value.int IntKind.i64 n_1) ∧ b = nameStep n (↑(UInt8.toNat c) : Int)) (Br (decide ((48 : Int) ≤ (↑(UInt8.toNat c) : Int))) (Br (decide ((↑(UInt8.toNat c) : Int) ≤ (57 : Int))) (SV.v (Value.string s) = SV.v (Value.string s) ∧ SV.v (Value.bool false) = SV.v (Value.bool false) ∧ SV.v (Value.int IntKind.u8 n) = SV.v (Value.int IntKind.u8 n) ∧ SV.v (Value.int IntKind.i64 n_1) = SV.v (Value.int IntKind.i64 n_1) ∧ SV.v (Value.int IntKind.u8 (↑(UInt8.toNat c) : Int)) = SV.v (Value.int IntKind.u8 (↑(UInt8.toNat c) : Int)) ∧ SV.v (Value.int IntKind.i64 (↑(ByteArray.size s) : Int)) = SV.v (Value.int IntKind.i64 (↑(ByteArray.size s) : Int)) ∧ SV.v (Value.int IntKind.i64 n_1) = SV.v (Value.int IntKind.i64 n_1) ∧ b = nameStep n (↑(UInt8.toNat c) : Int)) (Br ((↑(UInt8.toNat c) : Int) == (45 : Int)) (SV.v (Value.string s) = SV.v (Value.string s) ∧ SV.v (Value.bool false) = SV.v (Value.bool false) ∧ SV.v (Value.int IntKind.u8 n) = SV.v (Value.int IntKind.u8 n) ∧ SV.v (Value.int IntKind.i64 n_1) = SV.v (Value.int IntKind.i64 n_1) ∧ SV.v (Value.int IntKind.u8 (↑(UInt8.toNat c) : Int)) = SV.v (Value.int IntKind.u8 (↑(UInt8.toNat c) : Int)) ∧ SV.v (Value.int IntKind.i64 (↑(ByteArray.size s) : Int)) = SV.v (Value.int IntKind.i64 (↑(ByteArray.size s) : Int)) ∧ SV.v (Value.int IntKind.i64 n_1) = SV.v (Value.int IntKind.i64 n_1) ∧ (n != (46 : Int)) = nameStep n (↑(UInt8.toNat c) : Int)) (Br ((↑(UInt8.toNat c) : Int) == (46 : Int)) (Br (n != (46 : Int)) (SV.v (Value.string s) = SV.v (Value.string s) ∧ SV.v (Value.bool false) = SV.v (Value.bool false) ∧ SV.v (Value.int IntKind.u8 n) = SV.v (Value.int IntKind.u8 n) ∧ SV.v (Value.int IntKind.i64 n_1) = SV.v (Value.int IntKind.i64 n_1) ∧ SV.v (Value.int IntKind.u8 (↑(UInt8.toNat c) : Int)) = SV.v (Value.int IntKind.u8 (↑(UInt8.toNat c) : Int)) ∧ SV.v (Value.int IntKind.i64 (↑(ByteArray.size s) : Int)) = SV.v (Value.int IntKind.i64 (↑(ByteArray.size s) : Int)) ∧ SV.v (Value.int IntKind.i64 n_1) = SV.v (Value.int IntKind.i64 n_1) ∧ (n != (45 : Int)) = nameStep n (↑(UInt8.toNat c) : Int)) (SV.v (Value.string s) = SV.v (Value.string s) ∧ SV.v (Value.bool false) = SV.v (Value.bool false) ∧ SV.v (Value.int IntKind.u8 n) = SV.v (Value.int IntKind.u8 n) ∧ SV.v (Value.int IntKind.i64 n_1) = SV.v (Value.int IntKind.i64 n_1) ∧ SV.v (Value.int IntKind.u8 (↑(UInt8.toNat c) : Int)) = SV.v (Value.int IntKind.u8 (↑(UInt8.toNat c) : Int)) ∧ SV.v (Value.int IntKind.i64 (↑(ByteArray.size s) : Int)) = SV.v (Value.int IntKind.i64 (↑(ByteArray.size s) : Int)) ∧ SV.v (Value.int IntKind.i64 n_1) = SV.v (Value.int IntKind.i64 n_1) ∧ false = nameStep n (↑(UInt8.toNat c) : Int))) (SV.v (Value.string s) = SV.v (Value.string s) ∧ SV.v (Value.bool false) = SV.v (Value.bool false) ∧ SV.v (Value.int IntKind.u8 n) = SV.v (Value.int IntKind.u8 n) ∧ SV.v (Value.int IntKind.i64 n_1) = SV.v (Value.int IntKind.i64 n_1) ∧ SV.v (Value.int IntKind.u8 (↑(UInt8.toNat c) : Int)) = SV.v (Value.int IntKind.u8 (↑(UInt8.toNat c) : Int)) ∧ SV.v (Value.int IntKind.i64 (↑(ByteArray.size s) : Int)) = SV.v (Value.int IntKind.i64 (↑(ByteArray.size s) : Int)) ∧ SV.v (Value.int IntKind.i64 n_1) = SV.v (Value.int IntKind.i64 n_1) ∧ false = nameStep n (↑(UInt8.toNat c) : Int))))) (Br ((↑(UInt8.toNat c) : Int) == (45 : Int)) (SV.v (Value.string s) = SV.v (Value.string s) ∧ SV.v (Value.bool false) = SV.v (Value.bool false) ∧ SV.v (Value.int IntKind.u8 n) = SV.v (Value.int IntKind.u8 n) ∧ SV.v (Value.int IntKind.i64 n_1) = SV.v (Value.int IntKind.i64 n_1) ∧ SV.v (Value.int IntKind.u8 (↑(UInt8.toNat c) : Int)) = SV.v (Value.int IntKind.u8 (↑(UInt8.toNat c) : Int)) ∧ SV.v (Value.int IntKind.i64 (↑(ByteArray.size s) : Int)) = SV.v (Value.int IntKind.i64 (↑(ByteArray.size s) : Int)) ∧ SV.v (Value.int IntKind.i64 n_1) = SV.v (Value.int IntKind.i64 n_1) ∧ (n != (46 : Int)) = nameStep n (↑(UInt8.toNat c) : Int)) (Br ((↑(UInt8.toNat c) : Int) == (46 : Int)) (Br (n != (46 : Int)) (SV.v (Value.string s) = SV.v (Value.string s) ∧ SV.v (Value.bool false) = SV.v (Value.bool false) ∧ SV.v (Value.int IntKind.u8 n) = SV.v (Value.int IntKind.u8 n) ∧ SV.v (Value.int IntKind.i64 n_1) = SV.v (Value.int IntKind.i64 n_1) ∧ SV.v (Value.int IntKind.u8 (↑(UInt8.toNat c) : Int)) = SV.v (Value.int IntKind.u8 (↑(UInt8.toNat c) : Int)) ∧ SV.v (Value.int IntKind.i64 (↑(ByteArray.size s) : Int)) = SV.v (Value.int IntKind.i64 (↑(ByteArray.size s) : Int)) ∧ SV.v (Value.int IntKind.i64 n_1) = SV.v (Value.int IntKind.i64 n_1) ∧ (n != (45 : Int)) = nameStep n (↑(UInt8.toNat c) : Int)) (SV.v (Value.string s) = SV.v (Value.string s) ∧ SV.v (Value.bool false) = SV.v (Value.bool false) ∧ SV.v (Value.int IntKind.u8 n) = SV.v (Value.int IntKind.u8 n) ∧ SV.v (Value.int IntKind.i64 n_1) = SV.v (Value.int IntKind.i64 n_1) ∧ SV.v (Value.int IntKind.u8 (↑(UInt8.toNat c) : Int)) = SV.v (Value.int IntKind.u8 (↑(UInt8.toNat c) : Int)) ∧ SV.v (Value.int IntKind.i64 (↑(ByteArray.size s) : Int)) = SV.v (Value.int IntKind.i64 (↑(ByteArray.size s) : Int)) ∧ SV.v (Value.int IntKind.i64 n_1) = SV.v (Value.int IntKind.i64 n_1) ∧ false = nameStep n (↑(UInt8.toNat c) : Int))) (SV.v (Value.string s) = SV.v (Value.string s) ∧ SV.v (Value.bool false) = SV.v (Value.bool false) ∧ SV.v (Value.int IntKind.u8 n) = SV.v (Value.int IntKind.u8 n) ∧ SV.v (Value.int IntKind.i64 n_1) = SV.v (Value.int IntKind.i64 n_1) ∧ SV.v (Value.int IntKind.u8 (↑(UInt8.toNat c) : Int)) = SV.v (Value.int IntKind.u8 (↑(UInt8.toNat c) : Int)) ∧ SV.v (Value.int IntKind.i64 (↑(ByteArray.size s) : Int)) = SV.v (Value.int IntKind.i64 (↑(ByteArray.size s) : Int)) ∧ SV.v (Value.int IntKind.i64 n_1) = SV.v (Value.int IntKind.i64 n_1) ∧ false = nameStep n (↑(UInt8.toNat c) : Int)))))) (Br (decide ((48 : Int) ≤ (↑(UInt8.toNat c) : Int))) (Br (decide ((↑(UInt8.toNat c) : Int) ≤ (57 : Int))) (SV.v (Value.string s) = SV.v (Value.string s) ∧ SV.v (Value.bool false) = SV.v (Value.bool false) ∧ SV.v (Value.int IntKind.u8 n) = SV.v (Value.int IntKind.u8 n) ∧ SV.v (Value.int IntKind.i64 n_1) = SV.v (Value.int IntKind.i64 n_1) ∧ SV.v (Value.int IntKind.u8 (↑(UInt8.toNat c) : Int)) = SV.v (Value.int IntKind.u8 (↑(UInt8.toNat c) : Int)) ∧ SV.v (Value.int IntKind.i64 (↑(ByteArray.size s) : Int)) = SV.v (Value.int IntKind.i64 (↑(ByteArray.size s) : Int)) ∧ SV.v (Value.int IntKind.i64 n_1) = SV.v (Value.int IntKind.i64 n_1) ∧ b = nameStep n (↑(UInt8.toNat c) : Int)) (Br ((↑(UInt8.toNat c) : Int) == (45 : Int)) (SV.v (Value.string s) = SV.v (Value.string s) ∧ SV.v (Value.bool false) = SV.v (Value.bool false) ∧ SV.v (Value.int IntKind.u8 n) = SV.v (Value.int IntKind.u8 n) ∧ SV.v (Value.int IntKind.i64 n_1) = SV.v (Value.int IntKind.i64 n_1) ∧ SV.v (Value.int IntKind.u8 (↑(UInt8.toNat c) : Int)) = SV.v (Value.int IntKind.u8 (↑(UInt8.toNat c) : Int)) ∧ SV.v (Value.int IntKind.i64 (↑(ByteArray.size s) : Int)) = SV.v (Value.int IntKind.i64 (↑(ByteArray.size s) : Int)) ∧ SV.v (Value.int IntKind.i64 n_1) = SV.v (Value.int IntKind.i64 n_1) ∧ (n != (46 : Int)) = nameStep n (↑(UInt8.toNat c) : Int)) (Br ((↑(UInt8.toNat c) : Int) == (46 : Int)) (Br (n != (46 : Int)) (SV.v (Value.string s) = SV.v (Value.string s) ∧ SV.v (Value.bool false) = SV.v (Value.bool false) ∧ SV.v (Value.int IntKind.u8 n) = SV.v (Value.int IntKind.u8 n) ∧ SV.v (Value.int IntKind.i64 n_1) = SV.v (Value.int IntKind.i64 n_1) ∧ SV.v (Value.int IntKind.u8 (↑(UInt8.toNat c) : Int)) = SV.v (Value.int IntKind.u8 (↑(UInt8.toNat c) : Int)) ∧ SV.v (Value.int IntKind.i64 (↑(ByteArray.size s) : Int)) = SV.v (Value.int IntKind.i64 (↑(ByteArray.size s) : Int)) ∧ SV.v (Value.int IntKind.i64 n_1) = SV.v (Value.int IntKind.i64 n_1) ∧ (n != (45 : Int)) = nameStep n (↑(UInt8.toNat c) : Int)) (SV.v (Value.string s) = SV.v (Value.string s) ∧ SV.v (Value.bool false) = SV.v (Value.bool false) ∧ SV.v (Value.int IntKind.u8 n) = SV.v (Value.int IntKind.u8 n) ∧ SV.v (Value.int IntKind.i64 n_1) = SV.v (Value.int IntKind.i64 n_1) ∧ SV.v (Value.int IntKind.u8 (↑(UInt8.toNat c) : Int)) = SV.v (Value.int IntKind.u8 (↑(UInt8.toNat c) : Int)) ∧ SV.v (Value.int IntKind.i64 (↑(ByteArray.size s) : Int)) = SV.v (Value.int IntKind.i64 (↑(ByteArray.size s) : Int)) ∧ SV.v (Value.int IntKind.i64 n_1) = SV.v (Value.int IntKind.i64 n_1) ∧ false = nameStep n (↑(UInt8.toNat c) : Int))) (SV.v (Value.string s) = SV.v (Value.string s) ∧ SV.v (Value.bool false) = SV.v (Value.bool false) ∧ SV.v (Value.int IntKind.u8 n) = SV.v (Value.int IntKind.u8 n) ∧ SV.v (Value.int IntKind.i64 n_1) = SV.v (Value.int IntKind.i64 n_1) ∧ SV.v (Value.int IntKind.u8 (↑(UInt8.toNat c) : Int)) = SV.v (Value.int IntKind.u8 (↑(UInt8.toNat c) : Int)) ∧ SV.v (Value.int IntKind.i64 (↑(ByteArray.size s) : Int)) = SV.v (Value.int IntKind.i64 (↑(ByteArray.size s) : Int)) ∧ SV.v (Value.int IntKind.i64 n_1) = SV.v (Value.int IntKind.i64 n_1) ∧ false = nameStep n (↑(UInt8.toNat c) : Int))))) (Br ((↑(UInt8.toNat c) : Int) == (45 : Int)) (SV.v (Value.string s) = SV.v (Value.string s) ∧ SV.v (Value.bool false) = SV.v (Value.bool false) ∧ SV.v (Value.int IntKind.u8 n) = SV.v (Value.int IntKind.u8 n) ∧ SV.v (Value.int IntKind.i64 n_1) = SV.v (Value.int IntKind.i64 n_1) ∧ SV.v (Value.int IntKind.u8 (↑(UInt8.toNat c) : Int)) = SV.v (Value.int IntKind.u8 (↑(UInt8.toNat c) : Int)) ∧ SV.v (Value.int IntKind.i64 (↑(ByteArray.size s) : Int)) = SV.v (Value.int IntKind.i64 (↑(ByteArray.size s) : Int)) ∧ SV.v (Value.int IntKind.i64 n_1) = SV.v (Value.int IntKind.i64 n_1) ∧ (n != (46 : Int)) = nameStep n (↑(UInt8.toNat c) : Int)) (Br ((↑(UInt8.toNat c) : Int) == (46 : Int)) (Br (n != (46 : Int)) (SV.v (Value.string s) = SV.v (Value.string s) ∧ SV.v (Value.bool false) = SV.v (Value.bool false) ∧ SV.v (Value.int IntKind.u8 n) = SV.v (Value.int IntKind.u8 n) ∧ SV.v (Value.int IntKind.i64 n_1) = SV.v (Value.int IntKind.i64 n_1) ∧ SV.v (Value.int IntKind.u8 (↑(UInt8.toNat c) : Int)) = SV.v (Value.int IntKind.u8 (↑(UInt8.toNat c) : Int)) ∧ SV.v (Value.int IntKind.i64 (↑(ByteArray.size s) : Int)) = SV.v (Value.int IntKind.i64 (↑(ByteArray.size s) : Int)) ∧ SV.v (Value.int IntKind.i64 n_1) = SV.v (Value.int IntKind.i64 n_1) ∧ (n != (45 : Int)) = nameStep n (↑(UInt8.toNat c) : Int)) (SV.v (Value.string s) = SV.v (Value.string s) ∧ SV.v (Value.bool false) = SV.v (Value.bool false) ∧ SV.v (Value.int IntKind.u8 n) = SV.v (Value.int IntKind.u8 n) ∧ SV.v (Value.int IntKind.i64 n_1) = SV.v (Value.int IntKind.i64 n_1) ∧ SV.v (Value.int IntKind.u8 (↑(UInt8.toNat c) : Int)) = SV.v (Value.int IntKind.u8 (↑(UInt8.toNat c) : Int)) ∧ SV.v (Value.int IntKind.i64 (↑(ByteArray.size s) : Int)) = SV.v (Value.int IntKind.i64 (↑(ByteArray.size s) : Int)) ∧ SV.v (Value.int IntKind.i64 n_1) = SV.v (Value.int IntKind.i64 n_1) ∧ false = nameStep n (↑(UInt8.toNat c) : Int))) (SV.v (Value.string s) = SV.v (Value.string s) ∧ SV.v (Value.bool false) = SV.v (Value.bool false) ∧ SV.v (Value.int IntKind.u8 n) = SV.v (Value.int IntKind.u8 n) ∧ SV.v (Value.int IntKind.i64 n_1) = SV.v (Value.int IntKind.i64 n_1) ∧ SV.v (Value.int IntKind.u8 (↑(UInt8.toNat c) : Int)) = SV.v (Value.int IntKind.u8 (↑(UInt8.toNat c) : Int)) ∧ SV.v (Value.int IntKind.i64 (↑(ByteArray.size s) : Int)) = SV.v (Value.int IntKind.i64 (↑(ByteArray.size s) : Int)) ∧ SV.v (Value.int IntKind.i64 n_1) = SV.v (Value.int IntKind.i64 n_1) ∧ false = nameStep n (↑(UInt8.toNat c) : Int))))) ∧ ∀ (I'_1 G' : Mem), Mem.le I' I'_1 → ∀ (b : Bool), b = nameStep n (↑(UInt8.toNat c) : Int) → Br (!b) (Br b (Br (n != (46 : Int)) (Value.bool (n != (45 : Int)) = Value.bool (nameB (strL s))) (Value.bool false = Value.bool (nameB (strL s)))) (Value.bool false = Value.bool (nameB (strL s)))) (Wr IntKind.i64 (n_1 + (1 : Int)) fun (c_1 : Int) => SV.v (Value.string s) = SV.v (Value.string s) ∧ SV.v (Value.bool false) = SV.v (Value.bool false) ∧ SV.v (Value.int IntKind.i64 (↑(ByteArray.size s) : Int)) = SV.v (Value.int IntKind.i64 (↑(ByteArray.size s) : Int)) ∧ ((0 : Int) ≤ c_1 ∧ c_1 ≤ (↑(ByteArray.size s) : Int) ∧ b = true ∧ nameGo (strL s) (46 : Int) = nameGo (List.drop (Int.toNat c_1) (strL s)) (↑(UInt8.toNat c) : Int)) ∧ Int.toNat ((↑(ByteArray.size s) : Int) - c_1) < Int.toNat ((↑(ByteArray.size s) : Int) - n_1))) (Br b (Br (n != (46 : Int)) (Value.bool (n != (45 : Int)) = Value.bool (nameB (strL s))) (Value.bool false = Value.bool (nameB (strL s)))) (Value.bool false = Value.bool (nameB (strL s))))))))) (by kernel_rfl) ?_
  have hl := strL_len s
  refine Br.mk (fun h => ?_) (fun h1 => Br.mk (fun h => ?_) (fun h2 => ?_))
  · have h := of_decide_eq_true h
    rw [nameB, decide_eq_false (by omega), Bool.false_and]
  · have h := of_decide_eq_true h
    rw [nameB, decide_eq_false (p := (strL s).length ≤ 32) (by omega), Bool.false_and, Bool.and_false]
  have h1 := of_decide_eq_false h1
  have h2 := of_decide_eq_false h2
  obtain ⟨c0, hc0⟩ := str_at (s := s) (j := 0) (by omega) (by omega)
  have hc0' := strL_get hc0
  have hd : (strL s).headD 0 = (c0.toNat : Int) := by
    cases hq : strL s with
    | nil => rw [hq] at hc0'; cases hc0'
    | cons x r => rw [hq] at hc0'; exact Option.some.inj hc0'
  have hB : nameB (strL s) = (decide (97 ≤ (c0.toNat : Int) ∧ (c0.toNat : Int) ≤ 122) && nameEnd (nameGo (strL s) 46)) := by
    rw [nameB, decide_eq_true (by omega), decide_eq_true (p := (strL s).length ≤ 32) (by omega), hd, Bool.true_and, Bool.true_and]
  refine ⟨c0, hc0, by omega, Br.mk (fun h => ?_) (fun h3 => ⟨c0, hc0, by omega, Br.mk (fun h => ?_) (fun h4 => ?_)⟩)⟩
  · have h := of_decide_eq_true h
    rw [hB, decide_eq_false (by omega), Bool.false_and]
  · have h := of_decide_eq_true h
    rw [hB, decide_eq_false (by omega), Bool.false_and]
  have h3 := of_decide_eq_false h3
  have h4 := of_decide_eq_false h4
  have hB : nameB (strL s) = nameEnd (nameGo (strL s) 46) := by
    rw [hB, decide_eq_true (by omega), Bool.true_and]
  rw [hB]
  have fin : ∀ (ok : Bool) (b : Int), (if ok then nameEnd (some b) else false) = nameEnd (nameGo (strL s) 46) → Br ok (Br (b != 46) (Value.bool (b != 45) = Value.bool (nameEnd (nameGo (strL s) 46))) (Value.bool false = Value.bool (nameEnd (nameGo (strL s) 46)))) (Value.bool false = Value.bool (nameEnd (nameGo (strL s) 46))) := fun ok b h => by
    rw [← h]
    cases ok with
    | false => exact rfl
    | true =>
      refine Br.t rfl (Br.mk (fun g => ?_) (fun g => ?_))
      · have g : b ≠ 46 := fun e => by rw [e] at g; cases g
        simp only [nameEnd, if_true]
        rw [decide_eq_true g, Bool.true_and]
        congr 1
        by_cases h45 : b = 45 <;> simp [h45]
      · have g : b = 46 := by
          by_cases e : b = 46
          · exact e
          · rw [bne_iff_ne.2 e] at g; cases g
        subst g; rfl
  refine ⟨⟨rfl, rfl, rfl, by omega, by omega, rfl, rfl⟩, fun I1 _ l1 ok b j ⟨j0, j1, hok, hgo⟩ => Br.mk (fun hlt => ?_) (fun hge => ?_)⟩
  rotate_left
  · have hge := of_decide_eq_false hge
    refine fin ok b ?_
    rw [hgo, List.drop_eq_nil_of_le (by omega), hok]; rfl
  have hlt := of_decide_eq_true hlt
  obtain ⟨c, hc⟩ := str_at j0 hlt
  have hc' := strL_get hc
  rw [drop_cons hc', nameGo] at hgo
  refine ⟨c, hc, j0, ?_, fun I2 _ l2 ok2 hok2 => ?_⟩
  · rw [hok]
    generalize (c.toNat : Int) = x
    clear fin hgo
    repeat' refine Br.mk (fun _ => ?_) (fun _ => ?_)
    all_goals
      refine ⟨rfl, rfl, rfl, rfl, rfl, rfl, rfl, ?_⟩
      simp only [decide_eq_true_eq, decide_eq_false_iff_not, beq_iff_eq, beq_eq_false_iff_ne, bne_iff_ne, bne_eq_false_iff_eq, ne_eq] at *
      unfold nameStep
      repeat' split
      all_goals first
        | omega
        | rfl
        | (simp_all; done)
        | (by_cases e45 : b = 45 <;> by_cases e46 : b = 46 <;> simp_all <;> omega)
        | skip
  · rw [← hok2] at hgo
    refine Br.mk (fun h => fin ok2 b ?_) (fun h => ?_)
    · have h : ok2 = false := by simpa using h
      rw [h] at hgo ⊢
      rw [hgo]; rfl
    · have h : ok2 = true := by simpa using h
      rw [h, if_pos rfl] at hgo
      exact wr_i64 (by omega) (by omega) ⟨rfl, rfl, rfl, ⟨by omega, by omega, h, by rw [show (j + 1).toNat = j.toNat + 1 by omega]; exact hgo⟩, by omega⟩
