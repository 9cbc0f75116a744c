/- Part of a proof by the rules of the symbolic walk (see the law's own text): contracts of functions of the program. -/
import Derived.Test.YtnjbojekknpknaaLR29
open Go Go.Proofs Go.SE Go.RowKit
set_option linter.unusedVariables false
def PtrK (I : Mem) (p : Option Addr) (r : Rq) : Prop := ∃ k y, p = some ⟨k, 0, none⟩ ∧ I k = some (.cells (rqV r y).toArray 29)
def bentB (bs : List Int) (k : Int) : List Int := 1 :: k :: bs.drop 2
def sameT (P : Rq) (k : Int) (j : Nat) : Bool := (tagL k P.what).isSome && (decide ((tagsR P).length = ((tagL k P.what).getD []).length) && decide ((tagsR P).take j = ((tagL k P.what).getD []).take j))
theorem readR_err {bs : List Int} : (readR bs).2 = if accB bs then 0 else 341 := by
  unfold readR
  split <;> rfl
theorem acc_take {P : Rq} (hp : okRq P) (rp : rightR P = true) {k : Nat} (hk : k < (writeR P).length) : accB ((writeR P).take k) = false := by
  cases h : accB ((writeR P).take k) with
  | false => rfl
  | true =>
    obtain ⟨rok, rr, rw_, _⟩ := read_back (fun z hz => write_ok hp rp z (List.mem_of_mem_take hz)) h
    have := (write_pre rok hp rr rp (rest := (writeR P).drop k) (by rw [rw_, List.take_append_drop])).2
    have := congrArg List.length this
    rw [List.length_drop, List.length_nil] at this
    omega
theorem acc_more {P : Rq} (hp : okRq P) (rp : rightR P = true) {c : Int} (hc : 0 ≤ c ∧ c ≤ 255) : accB (writeR P ++ [c]) = false := by
  cases h : accB (writeR P ++ [c]) with
  | false => rfl
  | true =>
    obtain ⟨rok, rr, rw_, _⟩ := read_back (bytes_snoc (write_ok hp rp) (fun z hz => by have := List.mem_singleton.1 hz; omega)) h
    have := (write_pre hp rok rp rr (rest := [c]) rw_.symm).2
    cases this
theorem acc_first {P : Rq} (hp : okRq P) (rp : rightR P = true) (z : Int) : accB (z :: (writeR P).drop 1) = decide (z = 1) := by
  by_cases hz : z = 1
  · subst hz
    rw [decide_eq_true rfl]
    exact (read_writeR hp rp).1
  · rw [decide_eq_false hz, accB]
    have : decide ((z :: (writeR P).drop 1)[0]? = some 1) = false := decide_eq_false (fun h => hz (by simpa using h))
    rw [this, Bool.false_and, Bool.and_false]
def setK (P : Rq) (k : Int) : Rq := { P with kind := k }
theorem copy_kind (P h : Rq) (k t : Int) : copyT (setK P k) (setK h k) t = setK (copyT P h t) k := by
  unfold copyT
  by_cases h1 : t = 1
  · rw [if_pos h1, if_pos h1]; rfl
  rw [if_neg h1, if_neg h1]
  by_cases h2 : t = 2
  · rw [if_pos h2, if_pos h2]; rfl
  rw [if_neg h2, if_neg h2]
  by_cases h3 : t = 3
  · rw [if_pos h3, if_pos h3]; rfl
  rw [if_neg h3, if_neg h3]
  by_cases h4 : t = 4
  · rw [if_pos h4, if_pos h4]; rfl
  rw [if_neg h4, if_neg h4]
  by_cases h5 : t = 5
  · rw [if_pos h5, if_pos h5]; rfl
  rw [if_neg h5, if_neg h5]
  by_cases h6 : t = 6
  · rw [if_pos h6, if_pos h6]; rfl
  rw [if_neg h6, if_neg h6]
  by_cases h7 : t = 7
  · rw [if_pos h7, if_pos h7]; rfl
  rw [if_neg h7, if_neg h7]
  by_cases h8 : t = 8
  · rw [if_pos h8, if_pos h8]; rfl
  rw [if_neg h8, if_neg h8]
  by_cases h9 : t = 9
  · rw [if_pos h9, if_pos h9]; rfl
  rw [if_neg h9, if_neg h9]
  by_cases h10 : t = 10
  · rw [if_pos h10, if_pos h10]; rfl
  rw [if_neg h10, if_neg h10]
  rfl
theorem fold_kind (P : Rq) (k : Int) : ∀ (l : List Int) (h : Rq), l.foldl (copyT (setK P k)) (setK h k) = setK (l.foldl (copyT P) h) k
  | [], h => rfl
  | t :: l, h => by
    rw [List.foldl_cons, List.foldl_cons, copy_kind, fold_kind P k l]
theorem flds_fst (r : Rq) (l : List Int) : (fldsR r l).map (·.1) = l := by
  rw [fldsR, List.map_map]
  conv => rhs; rw [← List.map_id l]
  rfl
theorem flds_kind (P : Rq) (k : Int) (l : List Int) : fldsR (setK P k) l = fldsR P l := rfl
/-- A form with the byte of another kind is one just if both have the same fields. -/
theorem acc_bent {P : Rq} (hp : okRq P) (rp : rightR P = true) {k : Int} (hk : 0 ≤ k ∧ k ≤ 255) : accB (bentB (writeR P) k) = decide (tagL k P.what = some (tagsR P)) ∧ (accB (bentB (writeR P) k) = true → (readR (bentB (writeR P) k)).1.kind = k) := by
  have hbb : byteL (bentB (writeR P) k) := fun z hz => by
    rcases List.mem_cons.1 hz with rfl | hz
    · omega
    rcases List.mem_cons.1 hz with rfl | hz
    · exact hk
    exact write_ok hp rp z (List.mem_of_mem_drop hz)
  obtain ⟨hptag, hps1, hps2, _⟩ := right_tag rp
  have hkind : accB (bentB (writeR P) k) = true → (readR (bentB (writeR P) k)).1.kind = k := fun h => by
    obtain ⟨_, _, rw_, _⟩ := read_back hbb h
    exact (List.cons.inj (List.cons.inj rw_).2).1
  refine ⟨?_, hkind⟩
  by_cases ht : tagL k P.what = some (tagsR P)
  · rw [decide_eq_true ht]
    obtain ⟨ha, hf⟩ := right_run hp rp
    have hok : okRq (setK P k) := ⟨hk, hp.what, hp.p3, hp.p4, hp.p5, hp.p6, hp.p7, hp.p8, hp.p9, hp.val, hp.fed⟩
    have hr : rightR (setK P k) = true := by
      rw [right_eq hok]
      refine rightS_of (l := tagsR P) ht hps1 hps2 ha ?_
      have : had0 (setK P k) = setK (had0 P) k := rfl
      rw [this, fold_kind, hf]
    have hw : writeR (setK P k) = bentB (writeR P) k := by
      have : tagsR (setK P k) = tagsR P := by
        have ht : tagL (setK P k).kind (setK P k).what = some (tagsR P) := ht
        rw [tagsR, ht]; rfl
      rw [writeR, this]; rfl
    rw [← hw]
    exact (read_writeR hok hr).1
  · rw [decide_eq_false ht]
    cases h : accB (bentB (writeR P) k) with
    | false => rfl
    | true =>
      obtain ⟨rok, rr, rw_, _⟩ := read_back hbb h
      have hkk := hkind h
      generalize (readR (bentB (writeR P) k)).1 = R at *
      have e : writeF (fldsR R (tagsR R)) = writeF (fldsR P (tagsR P)) := (List.cons.inj (List.cons.inj rw_).2).2
      have e2 := read_write (right_flds rok rr)
      rw [e, read_write (right_flds hp rp)] at e2
      have e3 : fldsR P (tagsR P) = fldsR R (tagsR R) := (Prod.mk.inj e2).1
      have et : tagsR P = tagsR R := by rw [← flds_fst P (tagsR P), e3, flds_fst]
      have hrt := (right_tag rr).1
      rw [hkk, ← et] at hrt
      exact absurd (by
        rcases tag_seven hrt with ⟨h7, m, hm, he⟩ | ⟨h7, _, ha⟩
        · rcases tag_seven hptag with ⟨p7, _⟩ | ⟨_, hn, _⟩
          · rw [h7, ← p7]; exact hptag
          · exact absurd rfl (hn 1 (by rw [he]; simp))
        · exact ha _) ht
theorem sameT_end (P : Rq) (K : Int) : sameT P K (tagsR P).length = decide (tagL K P.what = some (tagsR P)) := by
  unfold sameT
  cases h : tagL K P.what with
  | none => simp
  | some m =>
    simp only [Option.isSome_some, Option.getD_some, Bool.true_and, List.take_length]
    by_cases hl : (tagsR P).length = m.length
    · rw [decide_eq_true hl, Bool.true_and, hl, List.take_length]
      apply decide_eq_decide.2
      exact ⟨fun h => by rw [h], fun h => (Option.some.inj h).symm⟩
    · rw [decide_eq_false hl, Bool.false_and]
      exact (decide_eq_false (fun h => hl (by rw [Option.some.inj h]))).symm
theorem sameT_next {P : Rq} {K : Int} {j : Nat} {t t' : Int} {m : List Int} (hm : tagL K P.what = some m) (ht : (tagsR P)[j]? = some t) (ht' : m[j]? = some t') (h : sameT P K j = true) : (t == t') = sameT P K (j + 1) := by
  unfold sameT at h ⊢
  rw [hm] at h ⊢
  simp only [Option.isSome_some, Option.getD_some, Bool.true_and, Bool.and_eq_true] at h ⊢
  have he := of_decide_eq_true h.2
  have hi : (tagsR P).take (j + 1) = m.take (j + 1) ↔ t = t' := by
    rw [take_succ' ht, take_succ' ht', he]
    simp
  rw [h.1, Bool.true_and]
  by_cases hc : t = t'
  · rw [decide_eq_true (hi.2 hc), hc]; simp
  · rw [decide_eq_false (fun hd => hc (hi.1 hd))]; simpa using hc
theorem sameT_no {P : Rq} {K : Int} {j : Nat} (h : sameT P K j = false) : false = sameT P K (j + 1) := by
  cases h2 : sameT P K (j + 1) with
  | false => rfl
  | true =>
    unfold sameT at h h2
    simp only [Bool.and_eq_true] at h2
    obtain ⟨g1, g2, g3⟩ := h2
    have := congrArg (List.take j) (of_decide_eq_true g3)
    rw [List.take_take, List.take_take, Nat.min_eq_left (by omega)] at this
    rw [g1, g2, decide_eq_true this] at h
    cases h
set_option maxRecDepth 100000 in
theorem ct9 (I : Mem) (x : Sm) (hx : okSm x) (w : Int) (hw : 0 ≤ w ∧ w ≤ 65535) (z : Int) (hz : 0 ≤ z ∧ z ≤ 255) (kd : Int) (hkd : 0 ≤ kd ∧ kd ≤ 255) : Ct Try.prog (fnv 9) #[.agg (smV x).toArray, .int .u16 w, .int .u8 z, .int .u8 kd] I (fun v I' => v = .bool true) := by
  refine viaR (ct_via (A := { loops := [(21, ⟨[(11, .keep), (17, .keep), (20, .keep), (21, .keep), (23, .keep), (25, .sh .bool), (128, .keep), (129, .sh (.int .i64))], [(1,.keep),(3,.keep)], [], fun vals _ _ _ => match vals with | [.bool b, .int .i64 j] => 0 ≤ j ∧ j ≤ (tagsR (madeR x)).length ∧ b = sameT (madeR x) (1 + kd % 9) j.toNat | _ => False, fun vals _ => match vals with | [.bool b, .int .i64 j] => ((tagsR (madeR x)).length - j).toNat | _ => 0⟩)], cuts := [(20, ⟨[(11, .keep), (17, .keep), (20, .keep), (21, .keep), (23, .keep), (25, .sh .bool)], [(1,.keep),(3,.keep)], [], fun vals _ _ _ => match vals with | [.bool b] => b = sameT (madeR x) (1 + kd % 9) 0 | _ => False, fun _ _ => 0⟩), (4, ⟨[(1,.keep),(2,.keep),(3,.keep),(9,.sh .ptr)],[],[], fun vals _ I' _ => match vals with | [.pointer p] => PtrR I' p (madeR x) | _ => False, fun _ _ => 0⟩), (9, ⟨[(1,.keep),(2,.keep),(3,.keep),(9,.keep),(10,.keep),(14,.sh (.int .i64))],[],[], fun vals _ I' _ => match vals with | [.int .i64 e] => e = 341 | _ => False, fun _ _ => 0⟩), (10, ⟨[(1,.keep),(2,.keep),(3,.keep),(9,.keep),(10,.keep),(14,.keep),(16,.sh (.int .i64))],[],[], fun vals _ I' _ => match vals with | [.int .i64 e] => e = 341 | _ => False, fun _ _ => 0⟩)], chands := [(4,[9])], calls := [(57, .lend [] (.row 0) [.row 1 5]), (65, .lend [] (.row 0) [.row 1 5]), (61, .ro), (71, .ro), (96, .ro)] }) Try.func9 rfl Try.call9 rfl rfl) (Ct Try.prog (Value.func (Fn.func (12 : Nat)) #[] #[]) #[] I fun (v : Value) (I' : Mem) => ∃ (b : Bool), v = Value.bool b ∧ Br (!b) (Value.bool false = Value.bool true) ((Ct Try.prog (Value.func (Fn.func (13 : Nat)) #[] #[]) #[Value.agg #[Value.int IntKind.u8 (Sm.kind x), Value.string (Sm.name x), Value.int IntKind.u32 (Sm.a x), Value.int IntKind.u32 (Sm.b x), Value.int IntKind.u32 (Sm.c x), Value.int IntKind.i64 (Sm.val x)]] I' fun (v : Value) (I' : Mem) => ∃ (n : Int), ∃ (n_1 : Int), ∃ (q : ByteArray), ∃ (n_2 : Int), ∃ (n_3 : Int), ∃ (n_4 : Int), ∃ (n_5 : Int), ∃ (n_6 : Int), ∃ (n_7 : Int), ∃ (n_8 : Int), ∃ (n_9 : Int), ∃ (a : Option Addr), ∃ (n_10 : Nat), ∃ (c : Nat), v = Value.agg #[Value.int IntKind.u8 n, Value.int IntKind.u8 n_1, Value.string q, Value.int IntKind.i64 n_2, Value.int IntKind.i64 n_3, Value.int IntKind.i64 n_4, Value.int IntKind.i64 n_5, Value.int IntKind.i64 n_6, Value.int IntKind.i64 n_7, Value.int IntKind.i64 n_8, Value.int IntKind.i64 n_9, Value.slice a n_10 c] ∧ ∀ (b : Nat) (I'_1 : Mem), Mem.le I' I'_1 → I'_1 b = some (Obj.cells #[Value.int IntKind.u8 n, Value.int IntKind.u8 n_1, Value.string q, Value.int IntKind.i64 n_2, Value.int IntKind.i64 n_3, Value.int IntKind.i64 n_4, Value.int IntKind.i64 n_5, Value.int IntKind.i64 n_6, Value.int IntKind.i64 n_7, Value.int IntKind.i64 n_8, Value.int IntKind.i64 n_9, Value.slice a n_10 c] (29 : Nat)) → SV.v (Value.int IntKind.u16 w) = SV.v (Value.int IntKind.u16 w) ∧ SV.v (Value.int IntKind.u8 z) = SV.v (Value.int IntKind.u8 z) ∧ SV.v (Value.int IntKind.u8 kd) = SV.v (Value.int IntKind.u8 kd) ∧ PtrR I'_1 (some (Addr.mk b (0 : Nat) none)) (madeR x)) ∧ ∀ (I'_1 G' : Mem), Mem.le I' I'_1 → ∀ (a : Option Addr), PtrR I'_1 a (madeR x) → (12 : Nat) = (12 : Nat) ∧ ∃ (n : Int), atI I'_1 a (0 : Nat) = some (Value.int IntKind.u8 n) ∧ ∃ (n_1 : Int), atI I'_1 a (1 : Nat) = some (Value.int IntKind.u8 n_1) ∧ ∃ (q : ByteArray), atI I'_1 a (2 : Nat) = some (Value.string q) ∧ ∃ (n_2 : Int), atI I'_1 a (3 : Nat) = some (Value.int IntKind.i64 n_2) ∧ ∃ (n_3 : Int), atI I'_1 a (4 : Nat) = some (Value.int IntKind.i64 n_3) ∧ ∃ (n_4 : Int), atI I'_1 a (5 : Nat) = some (Value.int IntKind.i64 n_4) ∧ ∃ (n_5 : Int), atI I'_1 a (6 : Nat) = some (Value.int IntKind.i64 n_5) ∧ ∃ (n_6 : Int), atI I'_1 a (7 : Nat) = some (Value.int IntKind.i64 n_6) ∧ ∃ (n_7 : Int), atI I'_1 a (8 : Nat) = some (Value.int IntKind.i64 n_7) ∧ ∃ (n_8 : Int), atI I'_1 a (9 : Nat) = some (Value.int IntKind.i64 n_8) ∧ ∃ (n_9 : Int), atI I'_1 a (10 : Nat) = some (Value.int IntKind.i64 n_9) ∧ ∃ (a_2 : Option Addr), ∃ (n_10 : Nat), ∃ (c : Nat), atI I'_1 a (11 : Nat) = some (Value.slice a_2 n_10 c) ∧ Ct Try.prog (Value.func (Fn.func (14 : Nat)) #[] #[]) #[Value.agg #[Value.int IntKind.u8 n, Value.int IntKind.u8 n_1, Value.string q, Value.int IntKind.i64 n_2, Value.int IntKind.i64 n_3, Value.int IntKind.i64 n_4, Value.int IntKind.i64 n_5, Value.int IntKind.i64 n_6, Value.int IntKind.i64 n_7, Value.int IntKind.i64 n_8, Value.int IntKind.i64 n_9, Value.slice a_2 n_10 c]] I'_1 fun (v : Value) (I' : Mem) => ∃ (a_3 : Option Addr), ∃ (n : Nat), ∃ (c : Nat), ∃ (n_11 : Int), v = Value.tuple #[Value.slice a_3 n c, Value.int IntKind.i64 n_11] ∧ Br (n_11 != (0 : Int)) (Value.bool false = Value.bool true) (Br (decide ((↑n : Int) < (2 : Int))) (Value.bool false = Value.bool true) (Wr IntKind.i64 w fun (c_1 : Int) => (↑n : Int) ≠ (0 : Int) ∧ ((0 : Int) ≤ Int.tmod c_1 (↑n : Int) ∧ Int.tmod c_1 (↑n : Int) ≤ (↑c : Int) ∧ Ct Try.prog (Value.func (Fn.func (16 : Nat)) #[] #[]) #[Value.slice a_3 (Int.toNat (Int.tmod c_1 (↑n : Int))) c] I' fun (v : Value) (I' : Mem) => ∃ (n_12 : Int), ∃ (n_13 : Int), ∃ (q : ByteArray), ∃ (n_14 : Int), ∃ (n_15 : Int), ∃ (n_16 : Int), ∃ (n_17 : Int), ∃ (n_18 : Int), ∃ (n_19 : Int), ∃ (n_20 : Int), ∃ (n_21 : Int), ∃ (a_4 : Option Addr), ∃ (n_22 : Nat), ∃ (c_2 : Nat), ∃ (n_23 : Int), v = Value.tuple #[Value.agg #[Value.int IntKind.u8 n_12, Value.int IntKind.u8 n_13, Value.string q, Value.int IntKind.i64 n_14, Value.int IntKind.i64 n_15, Value.int IntKind.i64 n_16, Value.int IntKind.i64 n_17, Value.int IntKind.i64 n_18, Value.int IntKind.i64 n_19, Value.int IntKind.i64 n_20, Value.int IntKind.i64 n_21, Value.slice a_4 n_22 c_2], Value.int IntKind.i64 n_23] ∧ SV.v (Value.int IntKind.u16 w) = SV.v (Value.int IntKind.u16 w) ∧ SV.v (Value.int IntKind.u8 z) = SV.v (Value.int IntKind.u8 z) ∧ SV.v (Value.int IntKind.u8 kd) = SV.v (Value.int IntKind.u8 kd) ∧ SV.v (Value.pointer a) = SV.v (Value.pointer a) ∧ SV.v (Value.slice a_3 n c) = SV.v (Value.slice a_3 n c) ∧ n_23 = (341 : Int)) ∧ ∀ (I'_2 G' : Mem), Mem.le I' I'_2 → ∀ (n_12 : Int), n_12 = (341 : Int) → (CtS Try.prog (SV.v (Value.func (Fn.func (25 : Nat)) #[] #[])) [SV.v (Value.slice a_3 n c)] [] I'_2 fun (sv : SV) (H' : List Ent) (I' : Mem) => ∃ (n_13 : Nat), ∃ (xs : List Value), sv = SV.rsl (0 : Nat) n_13 ∧ H' = [Ent.mk (EO.row xs (1 : Nat) (5 : Nat)) none] ∧ List.length xs = n_13 * (1 : Nat) ∧ n_13 + (1 : Nat) ≤ (9223372036854775807 : Nat) ∧ (n_13 + (1 : Nat)) * (1 : Nat) ≤ (140737488355328 : Nat) ∧ ∀ (a_6 : Option Addr) (cp : Nat) (I'_3 : Mem), Mem.le I' I'_3 → RowM I'_3 a_6 cp (1 : Nat) (xs ++ [Value.int IntKind.u8 z]) → Ct Try.prog (Value.func (Fn.func (16 : Nat)) #[] #[]) #[Value.slice a_6 (n_13 + (1 : Nat)) cp] I'_3 fun (v : Value) (x : Mem) => ∃ (n_14 : Int), ∃ (n_15 : Int), ∃ (q : ByteArray), ∃ (n_16 : Int), ∃ (n_17 : Int), ∃ (n_18 : Int), ∃ (n_19 : Int), ∃ (n_20 : Int), ∃ (n_21 : Int), ∃ (n_22 : Int), ∃ (n_23 : Int), ∃ (a_9 : Option Addr), ∃ (n_24 : Nat), ∃ (c_2 : Nat), ∃ (n_25 : Int), v = Value.tuple #[Value.agg #[Value.int IntKind.u8 n_14, Value.int IntKind.u8 n_15, Value.string q, Value.int IntKind.i64 n_16, Value.int IntKind.i64 n_17, Value.int IntKind.i64 n_18, Value.int IntKind.i64 n_19, Value.int IntKind.i64 n_20, Value.int IntKind.i64 n_21, Value.int IntKind.i64 n_22, Value.int IntKind.i64 n_23, Value.slice a_9 n_24 c_2], Value.int IntKind.i64 n_25] ∧ SV.v (Value.int IntKind.u16 w) = SV.v (Value.int IntKind.u16 w) ∧ SV.v (Value.int IntKind.u8 z) = SV.v (Value.int IntKind.u8 z) ∧ SV.v (Value.int IntKind.u8 kd) = SV.v (Value.int IntKind.u8 kd) ∧ SV.v (Value.pointer a) = SV.v (Value.pointer a) ∧ SV.v (Value.slice a_3 n c) = SV.v (Value.slice a_3 n c) ∧ SV.v (Value.int IntKind.i64 n_12) = SV.v (Value.int IntKind.i64 n_12) ∧ n_25 = (341 : Int)) ∧ ∀ (I' G' : Mem), Mem.le I'_2 I' → ∀ (n_13 : Int), n_13 = (341 : Int) → CtS Try.prog (SV.v (Value.func (Fn.func (25 : Nat)) #[] #[])) [SV.v (Value.slice a_3 n c)] [] I' fun (sv : SV) (H' : List Ent) (I' : Mem) => ∃ (n : Nat), ∃ (xs : List Value), sv = SV.rsl (0 : Nat) n ∧ H' = [Ent.mk (EO.row xs (1 : Nat) (5 : Nat)) none] ∧ (0 : Int) ≤ (0 : Int) ∧ (0 : Int) < (↑n : Int) ∧ n * (1 : Nat) ≤ List.length xs ∧ (1 : Nat) ≤ List.length xs ∧ (0 : Nat) < (1 : Nat) ∧ ∀ (a_8 : Option Addr) (cp : Nat) (I'_3 : Mem), Mem.le I' I'_3 → RowM I'_3 a_8 cp (1 : Nat) (splice xs (0 : Nat) [Value.int IntKind.u8 z]) → Ct Try.prog (Value.func (Fn.func (16 : Nat)) #[] #[]) #[Value.slice a_8 n cp] I'_3 fun (v : Value) (x_1 : Mem) => ∃ (n_14 : Int), ∃ (n_15 : Int), ∃ (q : ByteArray), ∃ (n_16 : Int), ∃ (n_17 : Int), ∃ (n_18 : Int), ∃ (n_19 : Int), ∃ (n_20 : Int), ∃ (n_21 : Int), ∃ (n_22 : Int), ∃ (n_23 : Int), ∃ (a_11 : Option Addr), ∃ (n_24 : Nat), ∃ (c : Nat), ∃ (n_25 : Int), v = Value.tuple #[Value.agg #[Value.int IntKind.u8 n_14, Value.int IntKind.u8 n_15, Value.string q, Value.int IntKind.i64 n_16, Value.int IntKind.i64 n_17, Value.int IntKind.i64 n_18, Value.int IntKind.i64 n_19, Value.int IntKind.i64 n_20, Value.int IntKind.i64 n_21, Value.int IntKind.i64 n_22, Value.int IntKind.i64 n_23, Value.slice a_11 n_24 c], Value.int IntKind.i64 n_25] ∧ Br (n_12 != (341 : Int)) (Value.bool false = Value.bool true) (Br (n_13 != (341 : Int)) (Value.bool false = Value.bool true) (Br (!(n_25 == (0 : Int)) == (z == (1 : Int))) (Value.bool false = Value.bool true) ((9 : Int) ≠ (0 : Int) ∧ Wr IntKind.u8 ((1 : Int) + Int.tmod kd (9 : Int)) fun (c : Int) => (0 : Int) ≤ (0 : Int) ∧ (0 : Int) < (↑n : Int) ∧ n * (1 : Nat) ≤ List.length (splice xs (0 : Nat) [Value.int IntKind.u8 z]) ∧ (1 : Nat) ≤ List.length (splice xs (0 : Nat) [Value.int IntKind.u8 z]) ∧ (0 : Nat) < (1 : Nat) ∧ (0 : Int) ≤ (1 : Int) ∧ (1 : Int) < (↑n : Int) ∧ n * (1 : Nat) ≤ List.length (splice (splice xs (0 : Nat) [Value.int IntKind.u8 z]) (0 : Nat) [Value.int IntKind.u8 (1 : Int)]) ∧ (2 : Nat) ≤ List.length (splice (splice xs (0 : Nat) [Value.int IntKind.u8 z]) (0 : Nat) [Value.int IntKind.u8 (1 : Int)]) ∧ (0 : Nat) < (1 : Nat) ∧ ∀ (a_12 : Option Addr) (cp : Nat) (I'_4 : Mem), Mem.le I' I'_4 → RowM I'_4 a_12 cp (1 : Nat) (splice (splice (splice xs (0 : Nat) [Value.int IntKind.u8 z]) (0 : Nat) [Value.int IntKind.u8 (1 : Int)]) (1 : Nat) [Value.int IntKind.u8 c]) → Ct Try.prog (Value.func (Fn.func (16 : Nat)) #[] #[]) #[Value.slice a_12 n cp] I'_4 fun (v : Value) (x_2 : Mem) => ∃ (n_26 : Int), ∃ (n_27 : Int), ∃ (q : ByteArray), ∃ (n_28 : Int), ∃ (n_29 : Int), ∃ (n_30 : Int), ∃ (n_31 : Int), ∃ (n_32 : Int), ∃ (n_33 : Int), ∃ (n_34 : Int), ∃ (n_35 : Int), ∃ (a_15 : Option Addr), ∃ (n_36 : Nat), ∃ (c_2 : Nat), ∃ (n_37 : Int), v = Value.tuple #[Value.agg #[Value.int IntKind.u8 n_26, Value.int IntKind.u8 n_27, Value.string q, Value.int IntKind.i64 n_28, Value.int IntKind.i64 n_29, Value.int IntKind.i64 n_30, Value.int IntKind.i64 n_31, Value.int IntKind.i64 n_32, Value.int IntKind.i64 n_33, Value.int IntKind.i64 n_34, Value.int IntKind.i64 n_35, Value.slice a_15 n_36 c_2], Value.int IntKind.i64 n_37] ∧ Option.isSome a = true ∧ ∃ (n_38 : Int), atI I' a (0 : Nat) = some (Value.int IntKind.u8 n_38) ∧ Option.isSome a = true ∧ ∃ (n_39 : Int), atI I' a (1 : Nat) = some (Value.int IntKind.u8 n_39) ∧ Ct Try.prog (Value.func (Fn.func (21 : Nat)) #[] #[]) #[Value.int IntKind.u8 n_38, Value.int IntKind.u8 n_39] I' fun (v : Value) (I' : Mem) => ∃ (a_16 : Option Addr), ∃ (n_40 : Nat), ∃ (c_3 : Nat), ∃ (b : Bool), v = Value.tuple #[Value.slice a_16 n_40 c_3, Value.bool b] ∧ (0 : Int) ≤ (1 : Int) ∧ (1 : Int) < (↑n : Int) ∧ n * (1 : Nat) ≤ List.length (splice (splice (splice xs (0 : Nat) [Value.int IntKind.u8 z]) (0 : Nat) [Value.int IntKind.u8 (1 : Int)]) (1 : Nat) [Value.int IntKind.u8 c]) ∧ ∃ (n_41 : Int), (splice (splice (splice xs (0 : Nat) [Value.int IntKind.u8 z]) (0 : Nat) [Value.int IntKind.u8 (1 : Int)]) (1 : Nat) [Value.int IntKind.u8 c])[(1 : Nat)]? = some (Value.int IntKind.u8 n_41) ∧ Option.isSome a = true ∧ ∃ (n_42 : Int), atI I' a (1 : Nat) = some (Value.int IntKind.u8 n_42) ∧ Ct Try.prog (Value.func (Fn.func (21 : Nat)) #[] #[]) #[Value.int IntKind.u8 n_41, Value.int IntKind.u8 n_42] I' fun (v : Value) (I' : Mem) => ∃ (a : Option Addr), ∃ (n_43 : Nat), ∃ (c_4 : Nat), ∃ (b_1 : Bool), v = Value.tuple #[Value.slice a n_43 c_4, Value.bool b_1] ∧ Br b (Br b_1 (Ent.mk (EO.row (splice (splice (splice xs (0 : Nat) [Value.int IntKind.u8 z]) (0 : Nat) [Value.int IntKind.u8 (1 : Int)]) (1 : Nat) [Value.int IntKind.u8 c]) (1 : Nat) (5 : Nat)) none = Ent.mk (EO.row (splice (splice (splice xs (0 : Nat) [Value.int IntKind.u8 z]) (0 : Nat) [Value.int IntKind.u8 (1 : Int)]) (1 : Nat) [Value.int IntKind.u8 c]) (1 : Nat) (5 : Nat)) none ∧ Ent.mk (EO.cells [SV.v (Value.int IntKind.u8 n_26), SV.v (Value.int IntKind.u8 n_27), SV.v (Value.string q), SV.v (Value.int IntKind.i64 n_28), SV.v (Value.int IntKind.i64 n_29), SV.v (Value.int IntKind.i64 n_30), SV.v (Value.int IntKind.i64 n_31), SV.v (Value.int IntKind.i64 n_32), SV.v (Value.int IntKind.i64 n_33), SV.v (Value.int IntKind.i64 n_34), SV.v (Value.int IntKind.i64 n_35), SV.v (Value.slice a_15 n_36 c_2)] (29 : Nat)) none = Ent.mk (EO.cells [SV.v (Value.int IntKind.u8 n_26), SV.v (Value.int IntKind.u8 n_27), SV.v (Value.string q), SV.v (Value.int IntKind.i64 n_28), SV.v (Value.int IntKind.i64 n_29), SV.v (Value.int IntKind.i64 n_30), SV.v (Value.int IntKind.i64 n_31), SV.v (Value.int IntKind.i64 n_32), SV.v (Value.int IntKind.i64 n_33), SV.v (Value.int IntKind.i64 n_34), SV.v (Value.int IntKind.i64 n_35), SV.v (Value.slice a_15 n_36 c_2)] (29 : Nat)) none ∧ SV.v (Value.int IntKind.i64 n_37) = SV.v (Value.int IntKind.i64 n_37) ∧ SV.rsl (1 : Nat) n = SV.rsl (1 : Nat) n ∧ SV.ptr (3 : Nat) (0 : Nat) = SV.ptr (3 : Nat) (0 : Nat) ∧ SV.v (Value.slice a_16 n_40 c_3) = SV.v (Value.slice a_16 n_40 c_3) ∧ SV.v (Value.slice a n_43 c_4) = SV.v (Value.slice a n_43 c_4) ∧ ((↑n_40 : Int) == (↑n_43 : Int)) = sameT (madeR x) ((1 : Int) + kd % (9 : Int)) (0 : Nat)) (Ent.mk (EO.row (splice (splice (splice xs (0 : Nat) [Value.int IntKind.u8 z]) (0 : Nat) [Value.int IntKind.u8 (1 : Int)]) (1 : Nat) [Value.int IntKind.u8 c]) (1 : Nat) (5 : Nat)) none = Ent.mk (EO.row (splice (splice (splice xs (0 : Nat) [Value.int IntKind.u8 z]) (0 : Nat) [Value.int IntKind.u8 (1 : Int)]) (1 : Nat) [Value.int IntKind.u8 c]) (1 : Nat) (5 : Nat)) none ∧ Ent.mk (EO.cells [SV.v (Value.int IntKind.u8 n_26), SV.v (Value.int IntKind.u8 n_27), SV.v (Value.string q), SV.v (Value.int IntKind.i64 n_28), SV.v (Value.int IntKind.i64 n_29), SV.v (Value.int IntKind.i64 n_30), SV.v (Value.int IntKind.i64 n_31), SV.v (Value.int IntKind.i64 n_32), SV.v (Value.int IntKind.i64 n_33), SV.v (Value.int IntKind.i64 n_34), SV.v (Value.int IntKind.i64 n_35), SV.v (Value.slice a_15 n_36 c_2)] (29 : Nat)) none = Ent.mk (EO.cells [SV.v (Value.int IntKind.u8 n_26), SV.v (Value.int IntKind.u8 n_27), SV.v (Value.string q), SV.v (Value.int IntKind.i64 n_28), SV.v (Value.int IntKind.i64 n_29), SV.v (Value.int IntKind.i64 n_30), SV.v (Value.int IntKind.i64 n_31), SV.v (Value.int IntKind.i64 n_32), SV.v (Value.int IntKind.i64 n_33), SV.v (Value.int IntKind.i64 n_34), SV.v (Value.int IntKind.i64 n_35), SV.v (Value.slice a_15 n_36 c_2)] (29 : Nat)) none ∧ SV.v (Value.int IntKind.i64 n_37) = SV.v (Value.int IntKind.i64 n_37) ∧ SV.rsl (1 : Nat) n = SV.rsl (1 : Nat) n ∧ SV.ptr (3 : Nat) (0 : Nat) = SV.ptr (3 : Nat) (0 : Nat) ∧ SV.v (Value.slice a_16 n_40 c_3) = SV.v (Value.slice a_16 n_40 c_3) ∧ SV.v (Value.slice a n_43 c_4) = SV.v (Value.slice a n_43 c_4) ∧ false = sameT (madeR x) ((1 : Int) + kd % (9 : Int)) (0 : Nat))) (Ent.mk (EO.row (splice (splice (splice xs (0 : Nat) [Value.int IntKind.u8 z]) (0 : Nat) [Value.int IntKind.u8 (1 : Int)]) (1 : Nat) [Value.int IntKind.u8 c]) (1 : Nat) (5 : Nat)) none = Ent.mk (EO.row (splice (splice (splice xs (0 : Nat) [Value.int IntKind.u8 z]) (0 : Nat) [Value.int IntKind.u8 (1 : Int)]) (1 : Nat) [Value.int IntKind.u8 c]) (1 : Nat) (5 : Nat)) none ∧ Ent.mk (EO.cells [SV.v (Value.int IntKind.u8 n_26), SV.v (Value.int IntKind.u8 n_27), SV.v (Value.string q), SV.v (Value.int IntKind.i64 n_28), SV.v (Value.int IntKind.i64 n_29), SV.v (Value.int IntKind.i64 n_30), SV.v (Value.int IntKind.i64 n_31), SV.v (Value.int IntKind.i64 n_32), SV.v (Value.int IntKind.i64 n_33), SV.v (Value.int IntKind.i64 n_34), SV.v (Value.int IntKind.i64 n_35), SV.v (Value.slice a_15 n_36 c_2)] (29 : Nat)) none = Ent.mk (EO.cells [SV.v (Value.int IntKind.u8 n_26), SV.v (Value.int IntKind.u8 n_27), SV.v (Value.string q), SV.v (Value.int IntKind.i64 n_28), SV.v (Value.int IntKind.i64 n_29), SV.v (Value.int IntKind.i64 n_30), SV.v (Value.int IntKind.i64 n_31), SV.v (Value.int IntKind.i64 n_32), SV.v (Value.int IntKind.i64 n_33), SV.v (Value.int IntKind.i64 n_34), SV.v (Value.int IntKind.i64 n_35), SV.v (Value.slice a_15 n_36 c_2)] (29 : Nat)) none ∧ SV.v (Value.int IntKind.i64 n_37) = SV.v (Value.int IntKind.i64 n_37) ∧ SV.rsl (1 : Nat) n = SV.rsl (1 : Nat) n ∧ SV.ptr (3 : Nat) (0 : Nat) = SV.ptr (3 : Nat) (0 : Nat) ∧ SV.v (Value.slice a_16 n_40 c_3) = SV.v (Value.slice a_16 n_40 c_3) ∧ SV.v (Value.slice a n_43 c_4) = SV.v (Value.slice a n_43 c_4) ∧ false = sameT (madeR x) ((1 : Int) + kd % (9 : Int)) (0 : Nat)) ∧ ∀ (I'_5 G' : Mem), Mem.le I' I'_5 → ∀ (b : Bool), b = sameT (madeR x) ((1 : Int) + kd % (9 : Int)) (0 : Nat) → (Ent.mk (EO.row (splice (splice (splice xs (0 : Nat) [Value.int IntKind.u8 z]) (0 : Nat) [Value.int IntKind.u8 (1 : Int)]) (1 : Nat) [Value.int IntKind.u8 c]) (1 : Nat) (5 : Nat)) none = Ent.mk (EO.row (splice (splice (splice xs (0 : Nat) [Value.int IntKind.u8 z]) (0 : Nat) [Value.int IntKind.u8 (1 : Int)]) (1 : Nat) [Value.int IntKind.u8 c]) (1 : Nat) (5 : Nat)) none ∧ Ent.mk (EO.cells [SV.v (Value.int IntKind.u8 n_26), SV.v (Value.int IntKind.u8 n_27), SV.v (Value.string q), SV.v (Value.int IntKind.i64 n_28), SV.v (Value.int IntKind.i64 n_29), SV.v (Value.int IntKind.i64 n_30), SV.v (Value.int IntKind.i64 n_31), SV.v (Value.int IntKind.i64 n_32), SV.v (Value.int IntKind.i64 n_33), SV.v (Value.int IntKind.i64 n_34), SV.v (Value.int IntKind.i64 n_35), SV.v (Value.slice a_15 n_36 c_2)] (29 : Nat)) none = Ent.mk (EO.cells [SV.v (Value.int IntKind.u8 n_26), SV.v (Value.int IntKind.u8 n_27), SV.v (Value.string q), SV.v (Value.int IntKind.i64 n_28), SV.v (Value.int IntKind.i64 n_29), SV.v (Value.int IntKind.i64 n_30), SV.v (Value.int IntKind.i64 n_31), SV.v (Value.int IntKind.i64 n_32), SV.v (Value.int IntKind.i64 n_33), SV.v (Value.int IntKind.i64 n_34), SV.v (Value.int IntKind.i64 n_35), SV.v (Value.slice a_15 n_36 c_2)] (29 : Nat)) none ∧ SV.v (Value.int IntKind.i64 n_37) = SV.v (Value.int IntKind.i64 n_37) ∧ SV.rsl (1 : Nat) n = SV.rsl (1 : Nat) n ∧ SV.ptr (3 : Nat) (0 : Nat) = SV.ptr (3 : Nat) (0 : Nat) ∧ SV.v (Value.slice a_16 n_40 c_3) = SV.v (Value.slice a_16 n_40 c_3) ∧ SV.v (Value.slice a n_43 c_4) = SV.v (Value.slice a n_43 c_4) ∧ SV.v (Value.int IntKind.i64 (↑n_40 : Int)) = SV.v (Value.int IntKind.i64 (↑n_40 : Int)) ∧ (0 : Int) ≤ (0 : Int) ∧ (0 : Int) ≤ (↑(List.length (tagsR (madeR x))) : Int) ∧ b = sameT (madeR x) ((1 : Int) + kd % (9 : Int)) (0 : Nat)) ∧ ∀ (I' G' : Mem), Mem.le I'_5 I' → ∀ (b : Bool) (n_44 : Int), (0 : Int) ≤ n_44 ∧ n_44 ≤ (↑(List.length (tagsR (madeR x))) : Int) ∧ b = sameT (madeR x) ((1 : Int) + kd % (9 : Int)) (Int.toNat n_44) → Br (decide (n_44 < (↑n_40 : Int))) (Br b ((0 : Int) ≤ n_44 ∧ n_44 < (↑n_40 : Int) ∧ Option.isSome a_16 = true ∧ ∃ (n_45 : Int), atI I' a_16 (Int.toNat n_44 * (1 : Nat) + (0 : Nat)) = some (Value.int IntKind.i64 n_45) ∧ (0 : Int) ≤ n_44 ∧ n_44 < (↑n_43 : Int) ∧ Option.isSome a = true ∧ ∃ (n_46 : Int), atI I' a (Int.toNat n_44 * (1 : Nat) + (0 : Nat)) = some (Value.int IntKind.i64 n_46) ∧ Wr IntKind.i64 (n_44 + (1 : Int)) fun (c_5 : Int) => Ent.mk (EO.row (splice (splice (splice xs (0 : Nat) [Value.int IntKind.u8 z]) (0 : Nat) [Value.int IntKind.u8 (1 : Int)]) (1 : Nat) [Value.int IntKind.u8 c]) (1 : Nat) (5 : Nat)) none = Ent.mk (EO.row (splice (splice (splice xs (0 : Nat) [Value.int IntKind.u8 z]) (0 : Nat) [Value.int IntKind.u8 (1 : Int)]) (1 : Nat) [Value.int IntKind.u8 c]) (1 : Nat) (5 : Nat)) none ∧ Ent.mk (EO.cells [SV.v (Value.int IntKind.u8 n_26), SV.v (Value.int IntKind.u8 n_27), SV.v (Value.string q), SV.v (Value.int IntKind.i64 n_28), SV.v (Value.int IntKind.i64 n_29), SV.v (Value.int IntKind.i64 n_30), SV.v (Value.int IntKind.i64 n_31), SV.v (Value.int IntKind.i64 n_32), SV.v (Value.int IntKind.i64 n_33), SV.v (Value.int IntKind.i64 n_34), SV.v (Value.int IntKind.i64 n_35), SV.v (Value.slice a_15 n_36 c_2)] (29 : Nat)) none = Ent.mk (EO.cells [SV.v (Value.int IntKind.u8 n_26), SV.v (Value.int IntKind.u8 n_27), SV.v (Value.string q), SV.v (Value.int IntKind.i64 n_28), SV.v (Value.int IntKind.i64 n_29), SV.v (Value.int IntKind.i64 n_30), SV.v (Value.int IntKind.i64 n_31), SV.v (Value.int IntKind.i64 n_32), SV.v (Value.int IntKind.i64 n_33), SV.v (Value.int IntKind.i64 n_34), SV.v (Value.int IntKind.i64 n_35), SV.v (Value.slice a_15 n_36 c_2)] (29 : Nat)) none ∧ SV.v (Value.int IntKind.i64 n_37) = SV.v (Value.int IntKind.i64 n_37) ∧ SV.rsl (1 : Nat) n = SV.rsl (1 : Nat) n ∧ SV.ptr (3 : Nat) (0 : Nat) = SV.ptr (3 : Nat) (0 : Nat) ∧ SV.v (Value.slice a_16 n_40 c_3) = SV.v (Value.slice a_16 n_40 c_3) ∧ SV.v (Value.slice a n_43 c_4) = SV.v (Value.slice a n_43 c_4) ∧ SV.v (Value.int IntKind.i64 (↑n_40 : Int)) = SV.v (Value.int IntKind.i64 (↑n_40 : Int)) ∧ ((0 : Int) ≤ c_5 ∧ c_5 ≤ (↑(List.length (tagsR (madeR x))) : Int) ∧ (n_45 == n_46) = sameT (madeR x) ((1 : Int) + kd % (9 : Int)) (Int.toNat c_5)) ∧ Int.toNat ((↑(List.length (tagsR (madeR x))) : Int) - c_5) < Int.toNat ((↑(List.length (tagsR (madeR x))) : Int) - n_44)) (Wr IntKind.i64 (n_44 + (1 : Int)) fun (c_5 : Int) => Ent.mk (EO.row (splice (splice (splice xs (0 : Nat) [Value.int IntKind.u8 z]) (0 : Nat) [Value.int IntKind.u8 (1 : Int)]) (1 : Nat) [Value.int IntKind.u8 c]) (1 : Nat) (5 : Nat)) none = Ent.mk (EO.row (splice (splice (splice xs (0 : Nat) [Value.int IntKind.u8 z]) (0 : Nat) [Value.int IntKind.u8 (1 : Int)]) (1 : Nat) [Value.int IntKind.u8 c]) (1 : Nat) (5 : Nat)) none ∧ Ent.mk (EO.cells [SV.v (Value.int IntKind.u8 n_26), SV.v (Value.int IntKind.u8 n_27), SV.v (Value.string q), SV.v (Value.int IntKind.i64 n_28), SV.v (Value.int IntKind.i64 n_29), SV.v (Value.int IntKind.i64 n_30), SV.v (Value.int IntKind.i64 n_31), SV.v (Value.int IntKind.i64 n_32), SV.v (Value.int IntKind.i64 n_33), SV.v (Value.int IntKind.i64 n_34), SV.v (Value.int IntKind.i64 n_35), SV.v (Value.slice a_15 n_36 c_2)] (29 : Nat)) none = Ent.mk (EO.cells [SV.v (Value.int IntKind.u8 n_26), SV.v (Value.int IntKind.u8 n_27), SV.v (Value.string q), SV.v (Value.int IntKind.i64 n_28), SV.v (Value.int IntKind.i64 n_29), SV.v (Value.int IntKind.i64 n_30), SV.v (Value.int IntKind.i64 n_31), SV.v (Value.int IntKind.i64 n_32), SV.v (Value.int IntKind.i64 n_33), SV.v (Value.int IntKind.i64 n_34), SV.v (Value.int IntKind.i64 n_35), SV.v (Value.slice a_15 n_36 c_2)] (29 : Nat)) none ∧ SV.v (Value.int IntKind.i64 n_37) = SV.v (Value.int IntKind.i64 n_37) ∧ SV.rsl (1 : Nat) n = SV.rsl (1 : Nat) n ∧ SV.ptr (3 : Nat) (0 : Nat) = SV.ptr (3 : Nat) (0 : Nat) ∧ SV.v (Value.slice a_16 n_40 c_3) = SV.v (Value.slice a_16 n_40 c_3) ∧ SV.v (Value.slice a n_43 c_4) = SV.v (Value.slice a n_43 c_4) ∧ SV.v (Value.int IntKind.i64 (↑n_40 : Int)) = SV.v (Value.int IntKind.i64 (↑n_40 : Int)) ∧ ((0 : Int) ≤ c_5 ∧ c_5 ≤ (↑(List.length (tagsR (madeR x))) : Int) ∧ false = sameT (madeR x) ((1 : Int) + kd % (9 : Int)) (Int.toNat c_5)) ∧ Int.toNat ((↑(List.length (tagsR (madeR x))) : Int) - c_5) < Int.toNat ((↑(List.length (tagsR (madeR x))) : Int) - n_44))) (Br ((n_37 == (0 : Int)) == b) (Br (!b) (Value.bool true = Value.bool true) ((0 : Int) ≤ (1 : Int) ∧ (1 : Int) < (↑n : Int) ∧ n * (1 : Nat) ≤ List.length (splice (splice (splice xs (0 : Nat) [Value.int IntKind.u8 z]) (0 : Nat) [Value.int IntKind.u8 (1 : Int)]) (1 : Nat) [Value.int IntKind.u8 c]) ∧ ∃ (n : Int), (splice (splice (splice xs (0 : Nat) [Value.int IntKind.u8 z]) (0 : Nat) [Value.int IntKind.u8 (1 : Int)]) (1 : Nat) [Value.int IntKind.u8 c])[(1 : Nat)]? = some (Value.int IntKind.u8 n) ∧ Value.bool (n_26 == n) = Value.bool true)) (Value.bool false = Value.bool true))))))))) (by kernel_rfl) ?_
  refine (ct12 I).mono fun v I1 l1 hv => ⟨_, hv, Br.f rfl ⟨?_, ?_⟩⟩
  · refine made_call x hx _ (fun ya yn yc J l hX => ⟨_, _, _, _, _, _, _, _, _, _, _, _, _, _, rfl, fun b J2 l2 hb => ⟨rfl, rfl, rfl, ptr_new hb (hX.mono l2)⟩⟩)
  rintro J1 _ k1 p ⟨kp, yp, rfl, hkp, hyp⟩
  obtain ⟨pok, ps1, ps2, pr⟩ := made_shape x hx
  generalize madeR x = P at *
  obtain ⟨ht, _, _, _, _⟩ := right_tag pr
  obtain ⟨hlt1, hl4⟩ := tagL_ok ht
  obtain ⟨pa, pn, pc, rfl, hp1, hp2, hp3⟩ := hyp
  have hmx : maxLen = 9223372036854775807 := by decide
  refine ⟨rfl, _, atC hkp rfl, _, atC hkp rfl, _, atC hkp rfl, _, atC hkp rfl, _, atC hkp rfl, _, atC hkp rfl, _, atC hkp rfl, _, atC hkp rfl, _, atC hkp rfl, _, atC hkp rfl, _, atC hkp rfl, _, _, _, atC hkp rfl, ?_⟩
  refine (ct14 P pok (by omega) _ J1 ⟨_, _, _, rfl, hp1, hp2, hp3⟩ (by omega)).mono fun v J2 k2 ⟨fa, fn, fc, hv, hf1, hf2, hf3⟩ => ?_
  rw [pr] at hv hf1
  simp only [if_true] at hv hf1
  refine ⟨_, _, _, _, hv, ?_⟩
  have hwl := write_lenR pok pr
  have hfl := hf1.numLen
  have hwb := write_ok pok pr
  obtain ⟨D, hD⟩ : ∃ D, writeR P = 1 :: P.kind :: D := ⟨_, rfl⟩
  have hD2 : (writeR P).length = D.length + 2 := by rw [hD]; rfl
  have hmod : 0 ≤ w.tmod fn ∧ w.tmod fn < fn := by
    rw [Int.tmod_eq_emod_of_nonneg hw.1]
    exact ⟨Int.emod_nonneg _ (by omega), Int.emod_lt_of_pos _ (by omega)⟩
  refine Br.f rfl (Br.f (decide_eq_false (by omega)) (wr_i64 (by omega) (by omega) ⟨by omega, ⟨by omega, by omega, ?_⟩, ?_⟩))
  · have hs := sl_take hf1 (k := (w.tmod fn).toNat) (by omega)
    refine (ct16 _ (fun z hz => hwb z (List.mem_of_mem_take hz)) fa (w.tmod fn).toNat fc J2 hs (by omega) (by omega) hf3).mono fun v J3 k3 ⟨yb, hv, hyb, _⟩ => ?_
    obtain ⟨ba, bn, bc, rfl, _⟩ := hyb
    exact ⟨_, _, _, _, _, _, _, _, _, _, _, _, _, _, _, hv, rfl, rfl, rfl, rfl, rfl, by rw [readR_err, acc_take pok pr (by omega)]; rfl⟩
  rintro J3 _ k3 _ rfl
  refine ⟨?_, ?_⟩
  · refine (cs25 (writeR P) fa fn fc J3 (hf1.mono k3) (by omega)).mono fun sv H' J4 k4 ⟨hsv, hH⟩ => ⟨_, _, hsv, hH, by rw [ints, List.length_map]; omega, by omega, by omega, fun ca cp J5 k5 hrow => ?_⟩
    have hrow2 : RowM J5 ca cp 1 (ints .u8 (writeR P ++ [z])) := by simpa [ints] using hrow
    have hrl := hrow2.1
    have hb2 : byteL (writeR P ++ [z]) := bytes_snoc hwb (fun y hy => by have := List.mem_singleton.1 hy; omega)
    obtain ⟨_, _, _, e, g1, g2, g3⟩ := row_bysl hrow2 (n := fn + 1) (by rw [List.length_append]; simp; omega)
    cases e
    refine (ct16 _ hb2 ca (fn + 1) cp J5 g1 (by omega) g2 g3).mono fun v J6 k6 ⟨yb, hv, hyb, _⟩ => ?_
    obtain ⟨ba, bn, bc, rfl, _⟩ := hyb
    exact ⟨_, _, _, _, _, _, _, _, _, _, _, _, _, _, _, hv, rfl, rfl, rfl, rfl, rfl, rfl, by rw [readR_err, acc_more pok pr hz]; rfl⟩
  rintro J4 _ k4 _ rfl
  refine (cs25 (writeR P) fa fn fc J4 (hf1.mono (Mem.le_trans k3 k4)) (by omega)).mono fun sv H' J5 k5 ⟨hsv, hH⟩ => ?_
  rw [hD] at hH
  have hil : (ints .u8 (1 :: P.kind :: D)).length = fn := by rw [ints, List.length_map, ← hD]; omega
  have hl3 : ∀ a b : Int, (ints .u8 (a :: b :: D)).length = fn := fun a b => by rw [ints, List.length_map]; simp; omega
  refine ⟨_, _, hsv, hH, by omega, by omega, by rw [hil]; omega, by rw [hil]; omega, by omega, fun ca cp J6 k6 hrow => ?_⟩
  have hs1 : splice (ints .u8 (1 :: P.kind :: D)) 0 [.int .u8 z] = ints .u8 (z :: P.kind :: D) := rfl
  have hbD : byteL D := fun y hy => hwb y (by rw [hD]; simp [hy])
  have hdrop : (writeR P).drop 1 = P.kind :: D := by rw [hD]; rfl
  rw [hs1] at hrow ⊢
  obtain ⟨_, _, _, e, g1, g2, g3⟩ := row_bysl hrow (n := fn) (by simp; omega)
  cases e
  have hb3 : byteL (z :: P.kind :: D) := fun y hy => by
    rcases List.mem_cons.1 hy with rfl | hy
    · exact hz
    rcases List.mem_cons.1 hy with rfl | hy
    · exact pok.kind
    exact hbD y hy
  refine (ct16 _ hb3 ca fn cp J6 g1 (by omega) g2 g3).mono fun v J7 k7 ⟨yb, hv, hyb, _⟩ => ?_
  obtain ⟨ba, bn, bc, rfl, _⟩ := hyb
  refine ⟨_, _, _, _, _, _, _, _, _, _, _, _, _, _, _, hv, Br.f rfl (Br.f rfl (Br.f ?_ ?_))⟩
  · have := acc_first pok pr z
    rw [hdrop] at this
    rw [readR_err, this]
    by_cases hz1 : z = 1
    · rw [decide_eq_true hz1, hz1]; rfl
    · rw [decide_eq_false hz1]
      have : (z == 1) = false := by simpa using hz1
      rw [this]; rfl
  have t9 : kd.tmod 9 = kd % 9 := Int.tmod_eq_emod_of_nonneg hkd.1
  rw [t9]
  have hK : 0 ≤ 1 + kd % 9 ∧ 1 + kd % 9 ≤ 255 := by omega
  generalize 1 + kd % 9 = K at hK ⊢
  refine ⟨by decide, _, IntWalk.u8_in _ hK, ?_⟩
  have hs2 : splice (splice (ints .u8 (z :: P.kind :: D)) 0 [.int .u8 1]) 1 [.int .u8 K] = ints .u8 (bentB (writeR P) K) := by rw [hD]; rfl
  have hs3 : splice (ints .u8 (z :: P.kind :: D)) 0 [.int .u8 1] = ints .u8 (1 :: P.kind :: D) := rfl
  dsimp only
  rw [hs2, hs3]
  have hbl : (ints .u8 (bentB (writeR P) K)).length = fn := by rw [ints, List.length_map, bentB, hD]; simp; omega
  have hbb : byteL (bentB (writeR P) K) := fun y hy => by
    rcases List.mem_cons.1 hy with rfl | hy
    · omega
    rcases List.mem_cons.1 hy with rfl | hy
    · exact hK
    exact hwb y (List.mem_of_mem_drop hy)
  refine ⟨by omega, by omega, by rw [hl3]; omega, by rw [hl3]; omega, by omega, by omega, by omega, by rw [hil]; omega, by rw [hil]; omega, by omega, fun da dp J8 k8 hrow2 => ?_⟩
  obtain ⟨_, _, _, e, g4, g5, g6⟩ := row_bysl hrow2 (n := fn) (by rw [bentB, hD]; simp; omega)
  cases e
  refine (ct16 _ hbb da fn dp J8 g4 (by omega) g5 g6).mono fun v J9 k9 ⟨yb, hv, hyb, _⟩ => ?_
  obtain ⟨bb, bm, bd, rfl, _⟩ := hyb
  have k25 := Mem.le_trans (Mem.le_trans k3 k4) k5
  have hkp5 := k25 _ _ (k2 _ _ hkp)
  refine ⟨_, _, _, _, _, _, _, _, _, _, _, _, _, _, _, hv, rfl, _, atC hkp5 rfl, rfl, _, atC hkp5 rfl, ?_⟩
  refine (ct21 P.kind P.what J5).mono fun v J10 k10 ⟨ta, tn, tc, hv, hta, _, _, _⟩ => ?_
  rw [ht] at hv hta
  have hkp10 := k10 _ _ hkp5
  refine ⟨_, _, _, _, hv, by omega, by omega, by rw [hbl]; omega, K, by rw [hD]; rfl, rfl, _, atC hkp10 rfl, ?_⟩
  refine (ct21 K P.what J10).mono fun v J11 k11 ⟨ua, un, uc, hv, hua, _, _, _⟩ => ?_
  have htl := hta.numLen
  have hul := hua.numLen
  simp only [Option.getD_some] at htl hta
  have hta := hta.mono k11
  refine ⟨_, _, _, _, hv, ?_, ?_⟩
  · refine Br.t rfl ?_
    cases hq : tagL K P.what with
    | none =>
      refine Br.f rfl ⟨rfl, rfl, rfl, rfl, rfl, rfl, rfl, ?_⟩
      unfold sameT
      rw [hq]; rfl
    | some m =>
      rw [hq, Option.getD_some] at hul
      refine Br.t rfl ⟨rfl, rfl, rfl, rfl, rfl, rfl, rfl, ?_⟩
      unfold sameT
      rw [hq]
      simp only [Option.isSome_some, Option.getD_some, Bool.true_and, List.take_zero, decide_true, Bool.and_true]
      by_cases hh : (tagsR P).length = m.length
      · rw [decide_eq_true hh]; simp; omega
      · rw [decide_eq_false hh]; simp; omega
  rintro J12 _ k12 _ rfl
  refine ⟨⟨rfl, rfl, rfl, rfl, rfl, rfl, rfl, rfl, by omega, by omega, rfl⟩, ?_⟩
  rintro J13 _ k13 _ j ⟨h0, h1, rfl⟩
  have hta := hta.mono (Mem.le_trans k12 k13)
  have hua := hua.mono (Mem.le_trans k12 k13)
  have hjn : (j + 1).toNat = j.toNat + 1 := by omega
  refine Br.mk (fun hlt => ?_) (fun hge => ?_)
  · have hlt := of_decide_eq_true hlt
    refine Br.mk (fun hs => ?_) (fun hs => ?_)
    · obtain ⟨m, hm, hml⟩ : ∃ m, tagL K P.what = some m ∧ (tagsR P).length = m.length := by
        have hs := hs
        unfold sameT at hs
        simp only [Bool.and_eq_true] at hs
        obtain ⟨m, hm⟩ := Option.isSome_iff_exists.1 hs.1
        refine ⟨m, hm, ?_⟩
        have := of_decide_eq_true hs.2.1
        rw [hm] at this
        exact this
      rw [hm, Option.getD_some] at hua hul
      obtain ⟨t, ht1, hat1⟩ := hta.intAt h0 hlt
      obtain ⟨u, hu1, hau1⟩ := hua.intAt h0 (by omega)
      have so : ∀ {a : Option Addr} {n : Nat} {l : List Int}, SlM J13 a n 1 (ints .i64 l) → 0 < n → a.isSome = true := fun {a n l} h hn => by
        cases ha : a with
        | none => have := h.nil ha; omega
        | some _ => rfl
      refine ⟨h0, hlt, so hta (by omega), t, hat1, h0, by omega, so hua (by omega), u, hau1, wr_i64 (by omega) (by omega) ⟨rfl, rfl, rfl, rfl, rfl, rfl, rfl, rfl, ⟨by omega, by omega, ?_⟩, by omega⟩⟩
      rw [hjn]
      exact sameT_next hm ht1 hu1 hs
    · refine wr_i64 (by omega) (by omega) ⟨rfl, rfl, rfl, rfl, rfl, rfl, rfl, rfl, ⟨by omega, by omega, ?_⟩, by omega⟩
      rw [hjn]
      exact sameT_no hs
  · have hge := of_decide_eq_false hge
    obtain ⟨a1, a2⟩ := acc_bent pok pr hK
    rw [show j.toNat = (tagsR P).length by omega, sameT_end, ← a1, readR_err]
    cases hacc : accB (bentB (writeR P) K) with
    | false => exact Br.t rfl (Br.t rfl rfl)
    | true =>
      refine Br.t rfl (Br.f rfl ⟨by omega, by omega, by rw [hbl]; omega, K, by rw [hD]; rfl, ?_⟩)
      rw [a2 hacc]; simp
