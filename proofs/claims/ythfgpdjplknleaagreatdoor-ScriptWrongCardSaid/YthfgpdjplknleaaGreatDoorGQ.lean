/- Part of a proof by the rules of the symbolic walk (see the law's own text): contracts of functions of the program. -/
import Derived.Test.YthfgpdjplknleaaGreatDoorGP
open Go Go.Proofs Go.SE Go.RowKit
set_option linter.unusedVariables false
set_option maxRecDepth 100000
def sameR (r q : Rq) : Bool := decide (r.fed = q.fed ∧ r.kind = q.kind ∧ r.what = q.what ∧ r.name = q.name ∧ r.val = q.val ∧ r.p3 = q.p3 ∧ r.p4 = q.p4 ∧ r.p5 = q.p5 ∧ r.p6 = q.p6 ∧ r.p7 = q.p7 ∧ r.p8 = q.p8 ∧ r.p9 = q.p9)

theorem ptr_at {I : Mem} {k kb : Nat} (h : I kb = some (.cells (ptrV k).toArray 107)) {n : Int} (h0 : 0 ≤ n) (h1 : n < 12) :
    atI I (some ⟨kb, 0, none⟩) (n.toNat * 1 + 0) = some (.pointer (if 3 ≤ n ∧ n ≤ 9 then some ⟨k, n.toNat, none⟩ else none)) := by
  rcases (by omega : n = 0 ∨ n = 1 ∨ n = 2 ∨ n = 3 ∨ n = 4 ∨ n = 5 ∨ n = 6 ∨ n = 7 ∨ n = 8 ∨ n = 9 ∨ n = 10 ∨ n = 11) with rfl | rfl | rfl | rfl | rfl | rfl | rfl | rfl | rfl | rfl | rfl | rfl
  all_goals exact atC h rfl
theorem num_at {I : Mem} {k : Nat} {r : Rq} {y : Value} (h : I k = some (.cells (rqV r y).toArray 26)) {n : Int} (h0 : 3 ≤ n) (h1 : n ≤ 9) :
    atI I (some ⟨k, n.toNat, none⟩) 0 = some (.int .i64 (numR r n)) := by
  rcases (by omega : n = 3 ∨ n = 4 ∨ n = 5 ∨ n = 6 ∨ n = 7 ∨ n = 8 ∨ n = 9) with rfl | rfl | rfl | rfl | rfl | rfl | rfl
  all_goals exact atC h rfl
theorem same_num {r q : Rq} (h : sameR r q = true) (t : Int) : numR r t = numR q t := by
  have h := of_decide_eq_true h
  obtain ⟨_, _, _, _, _, h3, h4, h5, h6, h7, h8, h9⟩ := h
  simp only [numR, h3, h4, h5, h6, h7, h8, h9]
theorem same_no {r q : Rq} {Q : Prop} (h : ¬ Q) (hq : sameR r q = true → Q) : Value.bool false = Value.bool (sameR r q) := by
  cases hs : sameR r q with
  | false => rfl
  | true => exact absurd (hq hs) h
theorem ct24 (r q : Rq) (hr : okRq r) (hq : okRq q) (y z : Value) (I : Mem) (hy : BySl I y r.fed) (hz : BySl I z q.fed) :
    Ct Tryz.prog (fnv 24) #[.agg (rqV r y).toArray, .agg (rqV q z).toArray] I (fun v I' => v = .bool (sameR r q)) := by
  obtain ⟨a1, n1, c1, rfl, hs1, _⟩ := hy
  obtain ⟨a2, n2, c2, rfl, hs2, _⟩ := hz
  refine viaR (ct_via (A := { befores := [(4, [2, 3])], loops := [(5, ⟨[(5, .keep), (6, .keep), (44, .sh (.int .i64))], [], [], fun vals _ _ _ => match vals with | [.int .i64 j] => 0 ≤ j ∧ j ≤ 12 ∧ ∀ i : Int, 3 ≤ i → i ≤ 9 → i < j → numR r i = numR q i | _ => False, fun vals _ => match vals with | [.int .i64 j] => (12 - j).toNat | _ => 0⟩)] }) Tryz.func24 rfl Tryz.call24 rfl rfl) (Ct Tryz.prog (.func (.func 43) #[] #[]) #[.slice a1 n1 c1, .slice a2 n2 c2] I fun v a => ∃ b, v = .bool b ∧ Br (!b) (Value.bool false = .bool (sameR r q)) (Br (r.kind != q.kind) (Value.bool false = .bool (sameR r q)) (Br (r.what != q.what) (Value.bool false = .bool (sameR r q)) (Br (!(r.name.toList == q.name.toList)) (Value.bool false = .bool (sameR r q)) (Br (r.val != q.val) (Value.bool false = .bool (sameR r q)) (∀ (c : Nat) (d : Mem), a.le d → d c = some (.cells #[.int .u8 r.kind, .int .u8 r.what, .string r.name, .int .i64 r.p3, .int .i64 r.p4, .int .i64 r.p5, .int .i64 r.p6, .int .i64 r.p7, .int .i64 r.p8, .int .i64 r.p9, .int .i64 r.val, .slice a1 n1 c1] 26 (0, 0)) → Ct Tryz.prog (.func (.func 62) #[] #[]) #[.pointer (some ⟨c, 0, none⟩)] d fun e f => ∃ g h i j k l m n o p s t, e = .agg #[.pointer g, .pointer h, .pointer i, .pointer j, .pointer k, .pointer l, .pointer m, .pointer n, .pointer o, .pointer p, .pointer s, .pointer t] ∧ ∀ (u : Nat) (w : Mem), f.le w → w u = some (.cells #[.int .u8 q.kind, .int .u8 q.what, .string q.name, .int .i64 q.p3, .int .i64 q.p4, .int .i64 q.p5, .int .i64 q.p6, .int .i64 q.p7, .int .i64 q.p8, .int .i64 q.p9, .int .i64 q.val, .slice a2 n2 c2] 26 (0, 0)) → Ct Tryz.prog (.func (.func 62) #[] #[]) #[.pointer (some ⟨u, 0, none⟩)] w fun x y => ∃ z a3 a4 a5 a6 a7 a8 a9 a10 a11 a12 a13, x = .agg #[.pointer z, .pointer a3, .pointer a4, .pointer a5, .pointer a6, .pointer a7, .pointer a8, .pointer a9, .pointer a10, .pointer a11, .pointer a12, .pointer a13] ∧ ∀ (b1 : Nat) (I1 : Mem), y.le I1 → I1 b1 = some (.cells #[.pointer g, .pointer h, .pointer i, .pointer j, .pointer k, .pointer l, .pointer m, .pointer n, .pointer o, .pointer p, .pointer s, .pointer t] 107 (0, 0)) → ∀ (b2 : Nat) (I2 : Mem), I1.le I2 → I2 b2 = some (.cells #[.pointer z, .pointer a3, .pointer a4, .pointer a5, .pointer a6, .pointer a7, .pointer a8, .pointer a9, .pointer a10, .pointer a11, .pointer a12, .pointer a13] 107 (0, 0)) → (Rf (SV.v (.pointer (some ⟨b1, 0, none⟩))) ∧ Rf (SV.v (.pointer (some ⟨b2, 0, none⟩))) ∧ (0 : Int) ≤ 0 ∧ (0 : Int) ≤ 12 ∧ ∀ (i1 : Int), 3 ≤ i1 → i1 ≤ 9 → i1 < 0 → numR r i1 = numR q i1) ∧ ∀ (I3 : Mem), Mem → I2.le I3 → ∀ (n3 : Int), 0 ≤ n3 ∧ n3 ≤ 12 ∧ (∀ (i1 : Int), 3 ≤ i1 → i1 ≤ 9 → i1 < n3 → numR r i1 = numR q i1) → Br (decide (n3 < 12)) (0 ≤ n3 ∧ n3 < 12 ∧ true = true ∧ ∃ a14, atI I3 (some ⟨b1, 0, none⟩) (n3.toNat * 1 + 0) = some (.pointer a14) ∧ Br (!a14.isNone) (0 ≤ n3 ∧ n3 < 12 ∧ true = true ∧ ∃ a15, atI I3 (some ⟨b1, 0, none⟩) (n3.toNat * 1 + 0) = some (.pointer a15) ∧ a15.isSome = true ∧ ∃ n4, atI I3 a15 0 = some (.int .i64 n4) ∧ 0 ≤ n3 ∧ n3 < 12 ∧ true = true ∧ ∃ a16, atI I3 (some ⟨b2, 0, none⟩) (n3.toNat * 1 + 0) = some (.pointer a16) ∧ a16.isSome = true ∧ ∃ n5, atI I3 a16 0 = some (.int .i64 n5) ∧ Br (n4 != n5) (Value.bool false = .bool (sameR r q)) (Wr .i64 (n3 + 1) (fun c3 => Rf (SV.v (.pointer (some ⟨b1, 0, none⟩))) ∧ Rf (SV.v (.pointer (some ⟨b2, 0, none⟩))) ∧ (0 ≤ c3 ∧ c3 ≤ 12 ∧ ∀ (i1 : Int), 3 ≤ i1 → i1 ≤ 9 → i1 < c3 → numR r i1 = numR q i1) ∧ Int.toNat (12 - c3) < Int.toNat (12 - n3)))) (Wr .i64 (n3 + 1) (fun c3 => Rf (SV.v (.pointer (some ⟨b1, 0, none⟩))) ∧ Rf (SV.v (.pointer (some ⟨b2, 0, none⟩))) ∧ (0 ≤ c3 ∧ c3 ≤ 12 ∧ ∀ (i1 : Int), 3 ≤ i1 → i1 ≤ 9 → i1 < c3 → numR r i1 = numR q i1) ∧ Int.toNat (12 - c3) < Int.toNat (12 - n3)))) (Value.bool true = .bool (sameR r q)))))))) (by kernel_rfl) ?_
  simp only [eq_self, true_and]
  refine (ct43 r.fed q.fed hr.fed hq.fed a1 a2 n1 c1 n2 c2 I hs1 hs2).mono fun v I1 l1 hv => ⟨_, hv, Br.mk (fun h => ?_) (fun e1 => Br.mk (fun h => ?_) (fun e2 => Br.mk (fun h => ?_) (fun e3 => Br.mk (fun h => ?_) (fun e4 => Br.mk (fun h => ?_) (fun e5 => ?_)))))⟩
  · have h : ¬ r.fed = q.fed := by simpa using h
    exact same_no h fun hs => (of_decide_eq_true hs).1
  · have h : ¬ r.kind = q.kind := by simpa using h
    exact same_no h fun hs => (of_decide_eq_true hs).2.1
  · have h : ¬ r.what = q.what := by simpa using h
    exact same_no h fun hs => (of_decide_eq_true hs).2.2.1
  · rw [str_eq] at h
    have h : ¬ r.name = q.name := by simpa using h
    exact same_no h fun hs => (of_decide_eq_true hs).2.2.2.1
  · have h : ¬ r.val = q.val := by simpa using h
    exact same_no h fun hs => (of_decide_eq_true hs).2.2.2.2.1
  have e1 : r.fed = q.fed := by simpa using e1
  have e2 : r.kind = q.kind := by simpa using e2
  have e3 : r.what = q.what := by simpa using e3
  rw [str_eq] at e4
  have e4 : r.name = q.name := by simpa using e4
  have e5 : r.val = q.val := by simpa using e5
  intro b1 I2 l2 hb1
  refine (ct62 b1 I2).mono fun v I3 l3 hv => ⟨_, _, _, _, _, _, _, _, _, _, _, _, hv, fun b2 I4 l4 hb2 => ?_⟩
  refine (ct62 b2 I4).mono fun v I5 l5 hv => ⟨_, _, _, _, _, _, _, _, _, _, _, _, hv, fun b3 I6 l6 hb3 b4 I7 l7 hb4 => ?_⟩
  refine ⟨⟨by omega, by omega, fun i h3 h9 h => by omega⟩, fun I8 _ l8 n ⟨n0, nle, hn⟩ => Br.mk (fun hlt => ?_) (fun hge => ?_)⟩
  · have hlt := of_decide_eq_true hlt
    have l48 := Mem.le_trans l5 (Mem.le_trans l6 (Mem.le_trans l7 l8))
    have p1 := ptr_at (k := b1) ((Mem.le_trans l7 l8) _ _ hb3) n0 hlt
    have p2 := ptr_at (k := b2) (l8 _ _ hb4) n0 hlt
    by_cases hr39 : 3 ≤ n ∧ n ≤ 9
    · rw [if_pos hr39] at p1 p2
      have v1 := num_at (r := r) (y := .slice a1 n1 c1) ((Mem.le_trans l3 (Mem.le_trans l4 l48)) _ _ hb1) hr39.1 hr39.2
      have v2 := num_at (r := q) (y := .slice a2 n2 c2) (l48 _ _ hb2) hr39.1 hr39.2
      refine ⟨n0, hlt, _, p1, Br.t rfl ⟨n0, hlt, _, p1, rfl, _, v1, n0, hlt, _, p2, rfl, _, v2, Br.mk (fun h => ?_) (fun h => ?_)⟩⟩
      · have h : ¬ numR r n = numR q n := by simpa using h
        exact same_no h fun hs => same_num hs n
      · have h : numR r n = numR q n := by simpa using h
        refine wr_i64 (by omega) (by omega) ⟨⟨by omega, by omega, fun i g3 g9 gi => ?_⟩, by omega⟩
        by_cases hin : i = n
        · rw [hin]; exact h
        · exact hn i g3 g9 (by omega)
    · rw [if_neg hr39] at p1
      exact ⟨n0, hlt, _, p1, Br.f rfl (wr_i64 (by omega) (by omega) ⟨⟨by omega, by omega, fun i g3 g9 gi => hn i g3 g9 (by omega)⟩, by omega⟩)⟩
  · have hge := of_decide_eq_false hge
    have g := fun i h3 h9 => hn i h3 h9 (by omega)
    have : sameR r q = true := decide_eq_true ⟨e1, e2, e3, e4, e5, g 3 (by omega) (by omega), g 4 (by omega) (by omega), g 5 (by omega) (by omega), g 6 (by omega) (by omega), g 7 (by omega) (by omega), g 8 (by omega) (by omega), g 9 (by omega) (by omega)⟩
    rw [this]

def had0 (r : Rq) : Rq := { kind := r.kind, what := 0, name := ⟨#[]⟩, p3 := 0, p4 := 0, p5 := 0, p6 := 0, p7 := 0, p8 := 0, p9 := 0, val := 0, fed := [] }
def preR (r h : Rq) (t : Int) : Rq := if t = 1 then { h with what := r.what } else h
/-- What is made of a request's fields, one by one; whether all say something. -/
def runR (r : Rq) : Rq → List Int → Rq × Bool
  | h, [] => (h, true)
  | h, t :: l => if takeB (preR r h t) t (bytesR r t) then runR r (takeR (preR r h t) t (bytesR r t)) l else (h, false)
def rightR (r : Rq) : Bool := match tagL r.kind r.what with
  | none => false
  | some l => decide (r.name.size ≤ 255) && (decide (r.fed.length ≤ 15000) && ((runR r (had0 r) l).2 && sameR (runR r (had0 r) l).1 r))
def cellsE : List RSh := [.sh (.int .u8), .sh (.int .u8), .sh .str, .sh (.int .i64), .sh (.int .i64), .sh (.int .i64), .sh (.int .i64), .sh (.int .i64), .sh (.int .i64), .sh (.int .i64), .sh (.int .i64), .sh .sl]
def cellsA : List TA := [.sh (.int .u8), .sh (.int .u8), .sh .str, .sh (.int .i64), .sh (.int .i64), .sh (.int .i64), .sh (.int .i64), .sh (.int .i64), .sh (.int .i64), .sh (.int .i64), .sh (.int .i64), .sh .sl]
theorem cs_agg {P : Program} {fv : SV} {x : SV} {a b : Value} {H : List Ent} {I : Mem} {post : SV → List Ent → Mem → Prop} (h : CtS P fv [x, .v (.agg #[a, b])] H I post) : CtS P fv [x, .agg [.v a, .v b]] H I post :=
  fun e hp hO => h e hp hO
theorem tagL_ok {k w : Int} {l : List Int} (h : tagL k w = some l) : (∀ t ∈ l, 1 ≤ t ∧ t ≤ 11) ∧ l.length ≤ 4 := by
  have ha : ∀ {l : List Int}, askL w = some l → (∀ t ∈ l, 1 ≤ t ∧ t ≤ 11) ∧ l.length ≤ 3 := fun {l} h => by
    unfold askL at h
    repeat' split at h
    all_goals first | (cases h; simp) | cases h
  unfold tagL at h
  repeat' split at h
  all_goals first
    | (cases h; simp)
    | (cases h; done)
    | (cases hq : askL w with
       | none => rw [hq] at h; cases h
       | some m =>
         rw [hq] at h
         cases h
         obtain ⟨h1, h2⟩ := ha hq
         refine ⟨fun t ht => ?_, by simp only [List.length_cons]; omega⟩
         rcases List.mem_cons.1 ht with rfl | ht
         · omega
         · exact h1 t ht)
theorem bytesR_len {r : Rq} (hr : okRq r) (hn : r.name.size ≤ 1000000) (hf : r.fed.length ≤ 1000000) (t : Int) : (bytesR r t).length ≤ 1000000 := by
  have hw := hr.what
  have hv := foldZ_range hr.val
  have hx := w64_range (numR r t)
  have fl : ∀ {x : Nat}, x < 256 ^ 8 → (formN x).length ≤ 1000000 := fun h => by have := (formN_le _ h).1; omega
  unfold bytesR
  split
  · exact fl (by omega)
  split
  · simpa [strL] using hn
  split
  · exact fl (by omega)
  split
  · exact hf
  · exact fl (by omega)
theorem i64_wrap (x : Int) : i64R (IntKind.i64.wrap x) := by
  rw [IntKind.wrap_i64]
  unfold i64R
  omega
theorem unfoldZ_range {y : Int} (h : 0 ≤ y ∧ y ≤ 18446744073709551615) : i64R (unfoldZ y) := by
  unfold unfoldZ i64R
  split <;> omega
theorem okRq_take {r : Rq} (h : okRq r) (t : Int) {bs : List Int} (hb : byteL bs) : okRq (takeR r t bs) := by
  have hu := unfoldZ_range (last_range hb)
  have hw := i64_wrap (lastN bs).1
  obtain ⟨h1, h2, h3, h4, h5, h6, h7, h8, h9, h10, h11⟩ := h
  unfold takeR
  repeat' split
  all_goals constructor <;> assumption
theorem okRq_pre {r h : Rq} (hr : okRq r) (hh : okRq h) (t : Int) : okRq (preR r h t) := by
  have h2' := hr.what
  obtain ⟨h1, h2, h3, h4, h5, h6, h7, h8, h9, h10, h11⟩ := hh
  unfold preR
  split
  all_goals constructor <;> assumption
theorem okRq_had {r : Rq} (hr : okRq r) : okRq (had0 r) := by
  have h1 := hr.kind
  refine ⟨h1, by simp [had0], ?_, ?_, ?_, ?_, ?_, ?_, ?_, ?_, fun z hz => by cases hz⟩
  all_goals simp [had0, i64R]
theorem ct52 (r : Rq) (hr : okRq r) (hnm : r.name.size ≤ 1000000) (y : Value) (I : Mem) (hy : BySl I y r.fed) (hfl : r.fed.length ≤ 1000000) :
    Ct Tryz.prog (fnv 52) #[.agg (rqV r y).toArray] I (fun v I' => v = .bool (rightR r)) := by
  obtain ⟨a1, n1, c1, rfl, hs1, hc1, hm1⟩ := hy
  refine viaR (ct_via (A := { calls := [(43, .lend [2] (.sh .bool) [.cells cellsE 26])], rfs := [(7, { n := ((tagL r.kind r.what).getD []).length, enc := encR r ((tagL r.kind r.what).getD []), ps := [.agg [.int .i64, .sl]], ents := [(0, .keep), (1, .keep), (2, .cells cellsA)], inv := (fun k vals _ I' _ => ∃ h y, vals = rqV h y ∧ okRq h ∧ BySl I' y h.fed ∧ runR r (had0 r) ((tagL r.kind r.what).getD []) = runR r h (((tagL r.kind r.what).getD []).drop k)), jumps := [(.ret, [(1, .cells [.sh .bool])], fun vals _ _ _ => vals = [.bool false] ∧ (runR r (had0 r) ((tagL r.kind r.what).getD [])).2 = false)] })] }) Tryz.func52 rfl Tryz.call52 rfl rfl) (Ct Tryz.prog (.func (.func 28) #[] #[]) #[.int .u8 r.kind, .int .u8 r.what] I fun v a => ∃ b n c d, v = .tuple #[.slice b n c, .bool d] ∧ Br (!d) (Value.bool false = .bool (rightR r)) (Br (decide (255 < (r.name.size : Int))) (Value.bool false = .bool (rightR r)) (Br (decide (15000 < (n1 : Int))) (Value.bool false = .bool (rightR r)) (Ct Tryz.prog (.func (.func 102) #[] #[]) #[.agg #[.int .u8 r.kind, .int .u8 r.what, .string r.name, .int .i64 r.p3, .int .i64 r.p4, .int .i64 r.p5, .int .i64 r.p6, .int .i64 r.p7, .int .i64 r.p8, .int .i64 r.p9, .int .i64 r.val, .slice a1 n1 c1], .slice b n c] a (fun e f => ∃ x, e = x ∧ ∀ (g h i j k : Nat) (l : Loop), Gives Tryz.prog x f ((tagL r.kind r.what).getD ([] : List Int)).length (RF.mk ((tagL r.kind r.what).getD ([] : List Int)).length (encR r ((tagL r.kind r.what).getD ([] : List Int))) [.agg [.int .i64, .sl]] [(0, .keep), (1, .keep), (2, .cells cellsA)] (fun m o p q s => ∃ t y, o = rqV t y ∧ okRq t ∧ BySl q y t.fed ∧ runR r (had0 r) ((tagL r.kind r.what).getD ([] : List Int)) = runR r t (List.drop m ((tagL r.kind r.what).getD ([] : List Int)))) [] [(.ret, [(1, .cells [.sh .bool])], fun m o p q => m = [.bool false] ∧ (runR r (had0 r) ((tagL r.kind r.what).getD ([] : List Int))).2 = false)] none).enc ∧ (∀ (m : Nat) (o : Array Value) (p : Mem), encR r ((tagL r.kind r.what).getD ([] : List Int)) m o p → psOk [.agg [.int .i64, .sl]] o.toList = true) ∧ (Rf (Ent.mk (.cells [.v (.int .u8 r.kind), .v (.int .u8 r.what), .v (.string r.name), .v (.int .i64 r.p3), .v (.int .i64 r.p4), .v (.int .i64 r.p5), .v (.int .i64 r.p6), .v (.int .i64 r.p7), .v (.int .i64 r.p8), .v (.int .i64 r.p9), .v (.int .i64 r.val), .v (.slice a1 n1 c1)] 26) (some g)) ∧ Rf (Ent.mk (.cells [.v (.bool false)] 4) (some h)) ∧ Rf (Ent.mk (.raw (.deferred (some []))) (some j)) ∧ Rf (Ent.mk (.raw (.loop ⟨.ready, none, l.fn, l.tmps, l.params, l.assign, l.body, l.defers⟩)) (some k)) ∧ Rf (some i) ∧ ((g = g ∧ h = h ∧ i = i ∧ j = j ∧ k = k ∧ True) ∧ Rf (Obj.loop ⟨.ready, none, l.fn, l.tmps, l.params, l.assign, l.body, l.defers⟩)) ∧ ∃ m y, [Value.int .u8 r.kind, .int .u8 0, .string ⟨#[]⟩, .int .i64 0, .int .i64 0, .int .i64 0, .int .i64 0, .int .i64 0, .int .i64 0, .int .i64 0, .int .i64 0, .slice none 0 0] = [.int .u8 m.kind, .int .u8 m.what, .string m.name, .int .i64 m.p3, .int .i64 m.p4, .int .i64 m.p5, .int .i64 m.p6, .int .i64 m.p7, .int .i64 m.p8, .int .i64 m.p9, .int .i64 m.val, y] ∧ okRq m ∧ (∃ o p q, y = .slice o p q ∧ SlM f o p 1 (List.map (Value.int .u8) m.fed) ∧ p ≤ q ∧ q ≤ 9223372036854775807) ∧ runR r ⟨r.kind, 0, ⟨#[]⟩, 0, 0, 0, 0, 0, 0, 0, 0, []⟩ ((tagL r.kind r.what).getD ([] : List Int)) = runR r m (List.drop 0 ((tagL r.kind r.what).getD ([] : List Int)))) ∧ (∀ (m : Nat) (o : Mem), Mem → m < ((tagL r.kind r.what).getD ([] : List Int)).length → f.le o → ∀ (p q : Int) (s : ByteArray) (t u w y z n2 n3 n4 : Int) (a2 : Option Addr) (n5 c2 : Nat), (∃ h1 y1, [Value.int .u8 p, .int .u8 q, .string s, .int .i64 t, .int .i64 u, .int .i64 w, .int .i64 y, .int .i64 z, .int .i64 n2, .int .i64 n3, .int .i64 n4, .slice a2 n5 c2] = [.int .u8 h1.kind, .int .u8 h1.what, .string h1.name, .int .i64 h1.p3, .int .i64 h1.p4, .int .i64 h1.p5, .int .i64 h1.p6, .int .i64 h1.p7, .int .i64 h1.p8, .int .i64 h1.p9, .int .i64 h1.val, y1] ∧ okRq h1 ∧ (∃ b1 m1 c3, y1 = .slice b1 m1 c3 ∧ SlM o b1 m1 1 (List.map (Value.int .u8) h1.fed) ∧ m1 ≤ c3 ∧ c3 ≤ 9223372036854775807) ∧ runR r ⟨r.kind, 0, ⟨#[]⟩, 0, 0, 0, 0, 0, 0, 0, 0, []⟩ ((tagL r.kind r.what).getD ([] : List Int)) = runR r h1 (List.drop m ((tagL r.kind r.what).getD ([] : List Int)))) → ∀ (I1 : Mem), o.le I1 → ∀ (n6 : Int) (a3 : Option Addr) (n7 c3 : Nat), encR r ((tagL r.kind r.what).getD ([] : List Int)) m #[.agg #[.int .i64 n6, .slice a3 n7 c3]] I1 → Rf (Obj.loop ⟨.ready, none, l.fn, l.tmps, l.params, l.assign, l.body, l.defers⟩) ∧ Rf (some k) ∧ Br (n6 == 1) (CtS Tryz.prog (.v (.func (.func 61) #[] #[])) [.ptr 0 0, .agg [.v (.int .i64 n6), .v (.slice a3 n7 c3)]] [⟨.cells [.v (.int .u8 p), .v (.int .u8 r.what), .v (.string s), .v (.int .i64 t), .v (.int .i64 u), .v (.int .i64 w), .v (.int .i64 y), .v (.int .i64 z), .v (.int .i64 n2), .v (.int .i64 n3), .v (.int .i64 n4), .v (.slice a2 n5 c2)] 26, some i⟩] I1 (fun s1 H I2 => ∃ b1 n8 n9 q1 n10 n11 n12 n13 n14 n15 n16 n17 a4 n18 c4, s1 = .v (.bool b1) ∧ H = [⟨.cells [.v (.int .u8 n8), .v (.int .u8 n9), .v (.string q1), .v (.int .i64 n10), .v (.int .i64 n11), .v (.int .i64 n12), .v (.int .i64 n13), .v (.int .i64 n14), .v (.int .i64 n15), .v (.int .i64 n16), .v (.int .i64 n17), .v (.slice a4 n18 c4)] 26, some i⟩] ∧ Br (!b1) (Rf (Obj.loop ⟨.busy, none, l.fn, l.tmps, l.params, l.assign, l.body, l.defers⟩) ∧ Rf (some k) ∧ Rf (Ent.mk (.raw (.deferred (some []))) (some j)) ∧ Rf (Ent.mk (.raw (.loop ⟨.done, some .ret, l.fn, l.tmps, l.params, l.assign, l.body, l.defers⟩)) (some k)) ∧ Rf (some h) ∧ ((h = h ∧ j = j ∧ k = k ∧ True) ∧ Rf (Obj.loop ⟨.done, some .ret, l.fn, l.tmps, l.params, l.assign, l.body, l.defers⟩)) ∧ Rf [Value.bool false] ∧ (runR r ⟨r.kind, 0, ⟨#[]⟩, 0, 0, 0, 0, 0, 0, 0, 0, []⟩ ((tagL r.kind r.what).getD ([] : List Int))).2 = false) (Rf (Obj.loop ⟨.busy, none, l.fn, l.tmps, l.params, l.assign, l.body, l.defers⟩) ∧ Rf (some k) ∧ Rf (Ent.mk (.cells [.v (.int .u8 r.kind), .v (.int .u8 r.what), .v (.string r.name), .v (.int .i64 r.p3), .v (.int .i64 r.p4), .v (.int .i64 r.p5), .v (.int .i64 r.p6), .v (.int .i64 r.p7), .v (.int .i64 r.p8), .v (.int .i64 r.p9), .v (.int .i64 r.val), .v (.slice a1 n1 c1)] 26) (some g)) ∧ Rf (Ent.mk (.cells [.v (.bool false)] 4) (some h)) ∧ Rf (Ent.mk (.raw (.deferred (some []))) (some j)) ∧ Rf (Ent.mk (.raw (.loop ⟨.ready, none, l.fn, l.tmps, l.params, l.assign, l.body, l.defers⟩)) (some k)) ∧ Rf (some i) ∧ ((g = g ∧ h = h ∧ i = i ∧ j = j ∧ k = k ∧ True) ∧ Rf (Obj.loop ⟨.ready, none, l.fn, l.tmps, l.params, l.assign, l.body, l.defers⟩)) ∧ ∃ h1 y1, [Value.int .u8 n8, .int .u8 n9, .string q1, .int .i64 n10, .int .i64 n11, .int .i64 n12, .int .i64 n13, .int .i64 n14, .int .i64 n15, .int .i64 n16, .int .i64 n17, .slice a4 n18 c4] = [.int .u8 h1.kind, .int .u8 h1.what, .string h1.name, .int .i64 h1.p3, .int .i64 h1.p4, .int .i64 h1.p5, .int .i64 h1.p6, .int .i64 h1.p7, .int .i64 h1.p8, .int .i64 h1.p9, .int .i64 h1.val, y1] ∧ okRq h1 ∧ (∃ b2 m1 c5, y1 = .slice b2 m1 c5 ∧ SlM I2 b2 m1 1 (List.map (Value.int .u8) h1.fed) ∧ m1 ≤ c5 ∧ c5 ≤ 9223372036854775807) ∧ runR r ⟨r.kind, 0, ⟨#[]⟩, 0, 0, 0, 0, 0, 0, 0, 0, []⟩ ((tagL r.kind r.what).getD ([] : List Int)) = runR r h1 (List.drop (m + 1) ((tagL r.kind r.what).getD ([] : List Int)))))) (CtS Tryz.prog (.v (.func (.func 61) #[] #[])) [.ptr 0 0, .agg [.v (.int .i64 n6), .v (.slice a3 n7 c3)]] [⟨.cells [.v (.int .u8 p), .v (.int .u8 q), .v (.string s), .v (.int .i64 t), .v (.int .i64 u), .v (.int .i64 w), .v (.int .i64 y), .v (.int .i64 z), .v (.int .i64 n2), .v (.int .i64 n3), .v (.int .i64 n4), .v (.slice a2 n5 c2)] 26, some i⟩] I1 (fun s1 H I2 => ∃ b1 n8 n9 q1 n10 n11 n12 n13 n14 n15 n16 n17 a4 n18 c4, s1 = .v (.bool b1) ∧ H = [⟨.cells [.v (.int .u8 n8), .v (.int .u8 n9), .v (.string q1), .v (.int .i64 n10), .v (.int .i64 n11), .v (.int .i64 n12), .v (.int .i64 n13), .v (.int .i64 n14), .v (.int .i64 n15), .v (.int .i64 n16), .v (.int .i64 n17), .v (.slice a4 n18 c4)] 26, some i⟩] ∧ Br (!b1) (Rf (Obj.loop ⟨.busy, none, l.fn, l.tmps, l.params, l.assign, l.body, l.defers⟩) ∧ Rf (some k) ∧ Rf (Ent.mk (.raw (.deferred (some []))) (some j)) ∧ Rf (Ent.mk (.raw (.loop ⟨.done, some .ret, l.fn, l.tmps, l.params, l.assign, l.body, l.defers⟩)) (some k)) ∧ Rf (some h) ∧ ((h = h ∧ j = j ∧ k = k ∧ True) ∧ Rf (Obj.loop ⟨.done, some .ret, l.fn, l.tmps, l.params, l.assign, l.body, l.defers⟩)) ∧ Rf [Value.bool false] ∧ (runR r ⟨r.kind, 0, ⟨#[]⟩, 0, 0, 0, 0, 0, 0, 0, 0, []⟩ ((tagL r.kind r.what).getD ([] : List Int))).2 = false) (Rf (Obj.loop ⟨.busy, none, l.fn, l.tmps, l.params, l.assign, l.body, l.defers⟩) ∧ Rf (some k) ∧ Rf (Ent.mk (.cells [.v (.int .u8 r.kind), .v (.int .u8 r.what), .v (.string r.name), .v (.int .i64 r.p3), .v (.int .i64 r.p4), .v (.int .i64 r.p5), .v (.int .i64 r.p6), .v (.int .i64 r.p7), .v (.int .i64 r.p8), .v (.int .i64 r.p9), .v (.int .i64 r.val), .v (.slice a1 n1 c1)] 26) (some g)) ∧ Rf (Ent.mk (.cells [.v (.bool false)] 4) (some h)) ∧ Rf (Ent.mk (.raw (.deferred (some []))) (some j)) ∧ Rf (Ent.mk (.raw (.loop ⟨.ready, none, l.fn, l.tmps, l.params, l.assign, l.body, l.defers⟩)) (some k)) ∧ Rf (some i) ∧ ((g = g ∧ h = h ∧ i = i ∧ j = j ∧ k = k ∧ True) ∧ Rf (Obj.loop ⟨.ready, none, l.fn, l.tmps, l.params, l.assign, l.body, l.defers⟩)) ∧ ∃ h1 y1, [Value.int .u8 n8, .int .u8 n9, .string q1, .int .i64 n10, .int .i64 n11, .int .i64 n12, .int .i64 n13, .int .i64 n14, .int .i64 n15, .int .i64 n16, .int .i64 n17, .slice a4 n18 c4] = [.int .u8 h1.kind, .int .u8 h1.what, .string h1.name, .int .i64 h1.p3, .int .i64 h1.p4, .int .i64 h1.p5, .int .i64 h1.p6, .int .i64 h1.p7, .int .i64 h1.p8, .int .i64 h1.p9, .int .i64 h1.val, y1] ∧ okRq h1 ∧ (∃ b2 m1 c5, y1 = .slice b2 m1 c5 ∧ SlM I2 b2 m1 1 (List.map (Value.int .u8) h1.fed) ∧ m1 ≤ c5 ∧ c5 ≤ 9223372036854775807) ∧ runR r ⟨r.kind, 0, ⟨#[]⟩, 0, 0, 0, 0, 0, 0, 0, 0, []⟩ ((tagL r.kind r.what).getD ([] : List Int)) = runR r h1 (List.drop (m + 1) ((tagL r.kind r.what).getD ([] : List Int))))))) ∧ (∀ (m : Mem), Mem → f.le m → ∀ (o p : Int) (q : ByteArray) (s t u w y z n2 n3 : Int) (a2 : Option Addr) (n4 c2 : Nat), (∃ h1 y1, [Value.int .u8 o, .int .u8 p, .string q, .int .i64 s, .int .i64 t, .int .i64 u, .int .i64 w, .int .i64 y, .int .i64 z, .int .i64 n2, .int .i64 n3, .slice a2 n4 c2] = [.int .u8 h1.kind, .int .u8 h1.what, .string h1.name, .int .i64 h1.p3, .int .i64 h1.p4, .int .i64 h1.p5, .int .i64 h1.p6, .int .i64 h1.p7, .int .i64 h1.p8, .int .i64 h1.p9, .int .i64 h1.val, y1] ∧ okRq h1 ∧ (∃ b1 m1 c3, y1 = .slice b1 m1 c3 ∧ SlM m b1 m1 1 (List.map (Value.int .u8) h1.fed) ∧ m1 ≤ c3 ∧ c3 ≤ 9223372036854775807) ∧ runR r ⟨r.kind, 0, ⟨#[]⟩, 0, 0, 0, 0, 0, 0, 0, 0, []⟩ ((tagL r.kind r.what).getD ([] : List Int)) = runR r h1 (List.drop ((tagL r.kind r.what).getD ([] : List Int)).length ((tagL r.kind r.what).getD ([] : List Int)))) → ∀ (I1 : Mem), m.le I1 → Ct Tryz.prog (.func (.func 24) #[] #[]) #[.agg #[.int .u8 o, .int .u8 p, .string q, .int .i64 s, .int .i64 t, .int .i64 u, .int .i64 w, .int .i64 y, .int .i64 z, .int .i64 n2, .int .i64 n3, .slice a2 n4 c2], .agg #[.int .u8 r.kind, .int .u8 r.what, .string r.name, .int .i64 r.p3, .int .i64 r.p4, .int .i64 r.p5, .int .i64 r.p6, .int .i64 r.p7, .int .i64 r.p8, .int .i64 r.p9, .int .i64 r.val, .slice a1 n1 c1]] I1 fun v1 I2 => ∃ b1, v1 = .bool b1 ∧ Value.bool b1 = .bool (rightR r)) ∧ ∀ (m : Mem), Mem → f.le m → ∀ (o : Bool), [Value.bool o] = [.bool false] ∧ (runR r ⟨r.kind, 0, ⟨#[]⟩, 0, 0, 0, 0, 0, 0, 0, 0, []⟩ ((tagL r.kind r.what).getD ([] : List Int))).2 = false → ∀ (p : Mem), m.le p → Value.bool o = .bool (rightR r)))))) (by kernel_rfl) ?_
  simp only [eq_self, true_and, and_true]
  have hmx : maxLen = 9223372036854775807 := by decide
  have hy0 : BySl I (.slice a1 n1 c1) r.fed := ⟨a1, n1, c1, rfl, hs1, hc1, hm1⟩
  have hnl := hs1.numLen
  refine (ct28 r.kind r.what I).mono fun v I1 l1 ⟨a, n, c, hv, hs, hn, hc, _⟩ => ⟨_, _, _, _, hv, Br.mk (fun h => ?_) (fun h => ?_)⟩
  · have h : tagL r.kind r.what = none := by simpa using h
    rw [rightR, h]
  obtain ⟨l, htl⟩ : ∃ l, tagL r.kind r.what = some l := by
    cases hq : tagL r.kind r.what with
    | none => rw [hq] at h; cases h
    | some l => exact ⟨l, rfl⟩
  obtain ⟨hl1, hl2⟩ := tagL_ok htl
  have hright : rightR r = (decide (r.name.size ≤ 255) && (decide (r.fed.length ≤ 15000) && ((runR r (had0 r) l).2 && sameR (runR r (had0 r) l).1 r))) := by rw [rightR, htl]
  rw [htl, Option.getD_some] at hs ⊢
  refine Br.mk (fun h2 => ?_) (fun h2 => Br.mk (fun h3 => ?_) (fun h3 => ?_))
  · have h2 := of_decide_eq_true h2
    rw [hright, decide_eq_false (by omega)]; rfl
  · have h3 := of_decide_eq_true h3
    rw [hright, decide_eq_false (p := r.fed.length ≤ 15000) (by omega), Bool.false_and, Bool.and_false]
  have h2 := of_decide_eq_false h2
  have h3 := of_decide_eq_false h3
  have hnn := hs.numLen
  rw [decide_eq_true (p := r.name.size ≤ 255) (by omega), decide_eq_true (p := r.fed.length ≤ 15000) (by omega), Bool.true_and, Bool.true_and] at hright
  refine (ct102 r (.slice a1 n1 c1) a n c I1).mono fun v I2 l2 ⟨k1, k2, k3, hv, g1, g2, g3⟩ => ⟨_, rfl, fun b b1 b2 bd br rc => ⟨?_, ?_, ?_, ?_, ?_, ?_⟩⟩
  · rw [hv]
    exact gives63 r hr hnm _ l hl1 k1 k2 k3 a n c I2 g1 (hs.mono l2) (by omega) g2 (hy0.mono (Mem.le_trans l1 l2)) g3
  · rintro k args I3 ⟨t, b', m, c', _, rfl, _⟩; rfl
  · exact ⟨had0 r, .slice none 0 0, rfl, okRq_had hr, ⟨none, 0, 0, rfl, sl_nil _ _, by omega, by omega⟩, by rw [List.drop_zero]; rfl⟩
  · rintro k I3 G3 hk l3 x0 x1 q x3 x4 x5 x6 x7 x8 x9 x10 ah nh ch ⟨h, yy, heq, hok, hyy, hrun⟩ I4 l4 t b' m' c' ⟨t', bb, mm, cc, ht, hargs, hsl, hmc, hcm⟩
    cases hargs
    simp only [List.cons.injEq, Value.int.injEq, Value.string.injEq, true_and, and_true] at heq
    obtain ⟨rfl, rfl, rfl, rfl, rfl, rfl, rfl, rfl, rfl, rfl, rfl, rfl⟩ := heq
    have htr := hl1 t (List.mem_of_getElem? ht)
    have hml := hsl.numLen
    have hbl := bytesR_len hr hnm hfl t
    have hok2 := okRq_pre hr hok t
    have hyy : BySl I3 (.slice ah nh ch) h.fed := hyy
    have C := cs61 t htr b2 (preR r h t) hok2 (.slice ah nh ch) (bytesR r t) (bytesR_ok hr t) b' m' c' I4 hsl (by omega)
    rw [drop_cons ht, runR] at hrun
    have hrun : runR r (had0 r) l = if takeB (preR r h t) t (bytesR r t) = true then runR r (takeR (preR r h t) t (bytesR r t)) (List.drop (k + 1) l) else (h, false) := by
      exact hrun
    refine Br.mk (fun e1 => ?_) (fun e1 => ?_)
    · have e1 := eqv e1
      subst e1
      have hp : preR r h 1 = { h with what := r.what } := rfl
      rw [hp] at C hrun hok2
      refine (cs_agg C).mono fun sv H' I5 l5 ⟨y', hv, hH, hy', _⟩ => ?_
      obtain ⟨b5, m5, c5, rfl, q1, q2, q3⟩ := hy' (hyy.mono (Mem.le_trans l4 l5))
      refine ⟨_, _, _, _, _, _, _, _, _, _, _, _, _, _, _, hv, hH, Br.mk (fun hb => ?_) (fun hb => ?_)⟩
      · have hb : takeB { h with what := r.what } 1 (bytesR r 1) = false := by simpa using hb
        rw [hb] at hrun
        exact congrArg Prod.snd hrun
      · have hb : takeB { h with what := r.what } 1 (bytesR r 1) = true := by simpa using hb
        rw [if_pos hb] at hrun
        exact ⟨_, _, rfl, okRq_take hok2 1 (bytesR_ok hr 1), ⟨_, _, _, rfl, q1, q2, q3⟩, hrun⟩
    · have hp : preR r h t = h := if_neg (nev e1)
      rw [hp] at C hrun hok2
      refine (cs_agg C).mono fun sv H' I5 l5 ⟨y', hv, hH, hy', _⟩ => ?_
      obtain ⟨b5, m5, c5, rfl, q1, q2, q3⟩ := hy' (hyy.mono (Mem.le_trans l4 l5))
      refine ⟨_, _, _, _, _, _, _, _, _, _, _, _, _, _, _, hv, hH, Br.mk (fun hb => ?_) (fun hb => ?_)⟩
      · have hb : takeB h t (bytesR r t) = false := by simpa using hb
        rw [hb] at hrun
        exact congrArg Prod.snd hrun
      · have hb : takeB h t (bytesR r t) = true := by simpa using hb
        rw [if_pos hb] at hrun
        exact ⟨_, _, rfl, okRq_take hok2 t (bytesR_ok hr t), ⟨_, _, _, rfl, q1, q2, q3⟩, hrun⟩
  · rintro I3 G3 l3 x0 x1 q x3 x4 x5 x6 x7 x8 x9 x10 ah nh ch ⟨h, yy, heq, hok, hyy, hrun⟩ I4 l4
    simp only [List.cons.injEq, Value.int.injEq, Value.string.injEq, true_and, and_true] at heq
    obtain ⟨rfl, rfl, rfl, rfl, rfl, rfl, rfl, rfl, rfl, rfl, rfl, rfl⟩ := heq
    have hyy : BySl I3 (.slice ah nh ch) h.fed := hyy
    rw [List.drop_length, runR] at hrun
    have hrun : runR r (had0 r) l = (h, true) := hrun
    refine (ct24 h r hok hr (.slice ah nh ch) (.slice a1 n1 c1) I4 (hyy.mono l4) (hy0.mono (Mem.le_trans l1 (Mem.le_trans l2 (Mem.le_trans l3 l4))))).mono fun v I5 l5 hv => ⟨_, hv, ?_⟩
    rw [hright, hrun, Bool.true_and]
  · rintro I3 G3 l3 bb ⟨hb, hr2⟩ I4 l4
    have hr2 : (runR r (had0 r) l).2 = false := hr2
    simp only [List.cons.injEq, and_true] at hb
    rw [hb, hright, hr2, Bool.false_and]

def tagsR (r : Rq) : List Int := (tagL r.kind r.what).getD []
def writeR (r : Rq) : List Int := 1 :: r.kind :: writeF (fldsR r (tagsR r))
theorem right_tag {r : Rq} (h : rightR r = true) : tagL r.kind r.what = some (tagsR r) ∧ r.name.size ≤ 255 ∧ r.fed.length ≤ 15000 ∧ (runR r (had0 r) (tagsR r)).2 = true ∧ sameR (runR r (had0 r) (tagsR r)).1 r = true := by
  unfold rightR at h
  unfold tagsR
  cases hq : tagL r.kind r.what with
  | none => rw [hq] at h; cases h
  | some l =>
    rw [hq] at h
    simp only [Bool.and_eq_true, decide_eq_true_eq] at h
    exact ⟨rfl, h.1, h.2.1, h.2.2.1, h.2.2.2⟩
def shapesL : List (List Int) := [[11], [2, 3], [4, 5, 6], [4], [4, 7, 10], [7], [1], [1, 4], [1, 7, 8, 9], [1, 2], [8, 9], []]
theorem tagL_shape {k w : Int} {l : List Int} (h : tagL k w = some l) : l ∈ shapesL := by
  have ha : ∀ {l : List Int}, askL w = some l → 1 :: l ∈ shapesL := fun {l} h => by
    unfold askL at h
    repeat' split at h
    all_goals first | (cases h; simp [shapesL]; done) | (cases h; done)
  unfold tagL at h
  repeat' split at h
  all_goals first
    | (cases h; simp [shapesL]; done)
    | (cases h; done)
    | (cases hq : askL w with
       | none => rw [hq] at h; cases h
       | some m =>
         rw [hq] at h
         cases h
         exact ha hq)
theorem right_flds {r : Rq} (hr : okRq r) (h : rightR r = true) : rightF (fldsR r (tagsR r)) = true := by
  obtain ⟨h1, h2, h3, _⟩ := right_tag h
  generalize tagsR r = l at h1
  have hw := hr.what
  have hv := foldZ_range hr.val
  have fl : ∀ {x : Nat}, x < 256 ^ 8 → (formN x).length ≤ 255 := fun h => by have := (formN_le _ h).1; omega
  have hb : ∀ t, t ≠ 11 → ((bytesR r t).length : Int) ≤ 255 := fun t ht => by
    have hx := w64_range (numR r t)
    unfold bytesR
    split
    · have := fl (x := r.what.toNat) (by omega); omega
    split
    · have : (strL r.name).length = r.name.size := by simp [strL]
      omega
    split
    · have := fl (x := (foldZ r.val).toNat) (by omega); omega
    · skip
      have := fl (x := (IntKind.u64.wrap (numR r t)).toNat) (by omega); omega
  have h11 : ((bytesR r 11).length : Int) ≤ 15000 := by
    have : bytesR r 11 = r.fed := rfl
    rw [this]; omega
  have b1 := hb 1 (by decide)
  have b2 := hb 2 (by decide)
  have b3 := hb 3 (by decide)
  have b4 := hb 4 (by decide)
  have b5 := hb 5 (by decide)
  have b6 := hb 6 (by decide)
  have b7 := hb 7 (by decide)
  have b8 := hb 8 (by decide)
  have b9 := hb 9 (by decide)
  have b10 := hb 10 (by decide)
  rw [right_split]
  have hsh := tagL_shape h1
  simp only [shapesL, List.mem_cons, List.not_mem_nil, or_false] at hsh
  rcases hsh with rfl | rfl | rfl | rfl | rfl | rfl | rfl | rfl | rfl | rfl | rfl | rfl
  all_goals
    simp only [fldsR, List.map_cons, List.map_nil, List.length_cons, List.length_nil, chainT, sumL]
    simp
    try omega
theorem ct51 (r : Rq) (hr : okRq r) (hnm : r.name.size ≤ 1000000) (y : Value) (I : Mem) (hy : BySl I y r.fed) (hfl : r.fed.length ≤ 1000000) :
    Ct Tryz.prog (fnv 51) #[.agg (rqV r y).toArray] I (fun v I' => ∃ a' n' c', v = .tuple #[.slice a' n' c', .int .i64 (if rightR r then 0 else 340)] ∧ SlM I' a' n' 1 (ints .u8 (if rightR r then writeR r else [])) ∧ n' ≤ c' ∧ c' ≤ maxLen) := by
  obtain ⟨a1, n1, c1, rfl, hs1, hc1, hm1⟩ := hy
  refine viaR (ct_via (A := { }) Tryz.func51 rfl Tryz.call51 rfl rfl) (Ct Tryz.prog (.func (.func 52) #[] #[]) #[.agg #[.int .u8 r.kind, .int .u8 r.what, .string r.name, .int .i64 r.p3, .int .i64 r.p4, .int .i64 r.p5, .int .i64 r.p6, .int .i64 r.p7, .int .i64 r.p8, .int .i64 r.p9, .int .i64 r.val, .slice a1 n1 c1]] I fun v a => ∃ b, v = .bool b ∧ Br (!b) (∃ c n d, Value.tuple #[.slice none 0 0, .int .i64 340] = .tuple #[.slice c n d, .int .i64 (if rightR r = true then 0 else 340)] ∧ SlM a c n 1 (List.map (Value.int .u8) (if rightR r = true then (1 : Int) :: r.kind :: writeF (fldsR r (tagsR r)) else ([] : List Int))) ∧ n ≤ d ∧ d ≤ 9223372036854775807) (Ct Tryz.prog (.func (.func 28) #[] #[]) #[.int .u8 r.kind, .int .u8 r.what] a (fun c d => ∃ e n f g, c = .tuple #[.slice e n f, .bool g] ∧ Ct Tryz.prog (.func (.func 102) #[] #[]) #[.agg #[.int .u8 r.kind, .int .u8 r.what, .string r.name, .int .i64 r.p3, .int .i64 r.p4, .int .i64 r.p5, .int .i64 r.p6, .int .i64 r.p7, .int .i64 r.p8, .int .i64 r.p9, .int .i64 r.val, .slice a1 n1 c1], .slice e n f] d fun h i => ∃ x, h = x ∧ Ct Tryz.prog (.func (.func 101) #[] #[]) #[x] i fun j k => ∃ l m o, j = .slice l m o ∧ Ct Tryz.prog (.func (.func 100) #[] #[]) #[.slice l m o] k fun p q => ∃ s t u w, p = .tuple #[.slice s t u, .int .i64 w] ∧ Br (w != 0) (∃ y z c2, Value.tuple #[.slice none 0 0, .int .i64 340] = .tuple #[.slice y z c2, .int .i64 (if rightR r = true then 0 else 340)] ∧ SlM q y z 1 (List.map (Value.int .u8) (if rightR r = true then (1 : Int) :: r.kind :: writeF (fldsR r (tagsR r)) else ([] : List Int))) ∧ z ≤ c2 ∧ c2 ≤ 9223372036854775807) (∃ y, y.length = t * 1 ∧ (s = none → t = 0) ∧ (∀ (z : Nat) (v1 : Value), y[z]? = some v1 → atI q s z = some v1) ∧ (∀ (z : Value), Membership.mem y z → z.oneCell' = true) ∧ (2 : Nat) = 2 ∧ 2 + t ≤ 9223372036854775807 ∧ (2 + t) * 1 ≤ 140737488355328 ∧ ∀ (z : Option Addr) (c2 : Nat) (I1 : Mem), q.le I1 → RowM I1 z c2 1 (.int .u8 1 :: .int .u8 r.kind :: y) → ∃ a2 n2 c3, Value.tuple #[.slice z (2 + t) c2, .int .i64 0] = .tuple #[.slice a2 n2 c3, .int .i64 (if rightR r = true then 0 else 340)] ∧ SlM I1 a2 n2 1 (List.map (Value.int .u8) (if rightR r = true then (1 : Int) :: r.kind :: writeF (fldsR r (tagsR r)) else ([] : List Int))) ∧ n2 ≤ c3 ∧ c3 ≤ 9223372036854775807)))) (by kernel_rfl) ?_
  have hy0 : BySl I (.slice a1 n1 c1) r.fed := ⟨a1, n1, c1, rfl, hs1, hc1, hm1⟩
  refine (ct52 r hr hnm _ I hy0 hfl).mono fun v I1 l1 hv => ⟨_, hv, Br.mk (fun h => ?_) (fun h => ?_)⟩
  · have h : rightR r = false := by simpa using h
    rw [h]
    exact ⟨none, 0, 0, rfl, sl_nil _ _, by omega, by omega⟩
  have h : rightR r = true := by simpa using h
  obtain ⟨ht, h2, h3, _⟩ := right_tag h
  obtain ⟨hl1, hl2⟩ := tagL_ok ht
  have hF := right_flds hr h
  refine (ct28 r.kind r.what I1).mono fun v I2 l2 ⟨a, n, c, hv, hs, hn, hc, _⟩ => ⟨_, _, _, _, hv, ?_⟩
  rw [ht, Option.getD_some] at hs
  have hnn := hs.numLen
  have hy2 := hy0.mono (Mem.le_trans l1 l2)
  refine (ct102 r (.slice a1 n1 c1) a n c I2).mono fun v I3 l3 ⟨k1, k2, k3, hv, g1, g2, g3⟩ => ⟨_, rfl, ?_⟩
  subst hv
  refine (ct101 r hr (tagsR r) hl1 (by omega) _ I3 (gives63 r hr hnm _ (tagsR r) hl1 k1 k2 k3 a n c I3 g1 (hs.mono l3) (by omega) g2 (hy2.mono l3) g3)).mono fun v I4 l4 ⟨a4, n4, c4, hv, hF4, _, _⟩ => ⟨_, _, _, hv, ?_⟩
  have hl4 := hF4.len
  have hl5 : (fldsR r (tagsR r)).length = (tagsR r).length := by simp [fldsR]
  refine (ct100 _ a4 n4 c4 I4 hF4 (by omega)).mono fun v I5 l5 ⟨a5, n5, c5, hv, hw, hn5, hc5⟩ => ⟨_, _, _, _, hv, ?_⟩
  rw [if_pos hF] at hw
  have hl6 := hw.numLen
  have hwl := write_len hF
  rw [if_pos hF, h]
  refine Br.f rfl ⟨_, hw.len, hw.nil, hw.at_, one_ints, rfl, by omega, by omega, fun a6 cp I6 l6 hrow => ⟨a6, 2 + n5, cp, rfl, ?_⟩⟩
  have hrow : RowM I6 a6 cp 1 (ints .u8 (writeR r)) := hrow
  have hlw : (writeR r).length = 2 + n5 := by rw [writeR, List.length_cons, List.length_cons]; omega
  have h1 := hrow.1
  rw [ints_len] at h1
  exact ⟨hrow.sl (by omega) (by rw [ints_len]; omega), by omega, hrow.2.1⟩

def zeroRq : Rq := { kind := 0, what := 0, name := ⟨#[]⟩, p3 := 0, p4 := 0, p5 := 0, p6 := 0, p7 := 0, p8 := 0, p9 := 0, val := 0, fed := [] }
/-- What is made of fields that should have these tags. -/
def tryT : Rq → List Int → List (Int × List Int) → Rq × Bool
  | h, t :: ts, f :: fs => if f.1 = t then (if takeB h t f.2 then tryT (takeR h t f.2) ts fs else (h, false)) else (h, false)
  | h, [], [] => (h, true)
  | h, _, _ => (h, false)
def kindB (bs : List Int) : Int := (bs[1]?).getD 0
def flB (bs : List Int) : List (Int × List Int) := (readF (bs.drop 2)).1
def whatL (k : Int) : List (Int × List Int) → Int
  | [] => 0
  | f :: _ => if k = 7 ∧ (lastN f.2).2.2 = 0 ∧ (lastN f.2).1 < 256 then (lastN f.2).1 else 0
def whatB (bs : List Int) : Int := whatL (kindB bs) (flB bs)
def startQ (bs : List Int) : Rq := { zeroRq with kind := kindB bs, what := whatB bs }
def tagB (bs : List Int) : Option (List Int) := tagL (kindB bs) (whatB bs)
def runB (bs : List Int) : Rq × Bool := tryT (startQ bs) ((tagB bs).getD []) (flB bs)
def accB (bs : List Int) : Bool := decide (2 ≤ bs.length) && (decide (bs[0]? = some 1) && (decide ((readF (bs.drop 2)).2.2 = 0) && ((tagB bs).isSome && ((runB bs).2 && rightR (runB bs).1))))
def readR (bs : List Int) : Rq × Int := if accB bs then ((runB bs).1, 0) else (zeroRq, 341)
theorem tryT_len : ∀ (ts : List Int) (fs : List (Int × List Int)) (h : Rq), (tryT h ts fs).2 = true → ts.length = fs.length
  | [], [], _, _ => rfl
  | [], _ :: _, h, hc => by simp [tryT] at hc
  | _ :: _, [], h, hc => by simp [tryT] at hc
  | t :: ts, f :: fs, h, hc => by
    rw [tryT] at hc
    split at hc
    · split at hc
      · have := tryT_len ts fs _ hc
        simp only [List.length_cons, this]
      · cases hc
    · cases hc
theorem size_take {h : Rq} {t : Int} {bs : List Int} {B : Nat} (h1 : h.name.size ≤ B) (h2 : h.fed.length ≤ B) (hb : bs.length ≤ B) : (takeR h t bs).name.size ≤ B ∧ (takeR h t bs).fed.length ≤ B := by
  have hs : (strB bs).size = bs.length := by simp [strB, u8s, ByteArray.size]
  unfold takeR
  repeat' split
  all_goals exact ⟨by first | exact h1 | (simp only [hs]; exact hb), by first | exact h2 | exact hb⟩
theorem okRq_start {k w : Int} (hk : 0 ≤ k ∧ k ≤ 255) (hw : 0 ≤ w ∧ w ≤ 255) : okRq { zeroRq with kind := k, what := w } := by
  refine ⟨hk, hw, ?_, ?_, ?_, ?_, ?_, ?_, ?_, ?_, fun z hz => by cases hz⟩
  all_goals simp [zeroRq, i64R]
theorem ct23 (bs : List Int) (hbs : byteL bs) (a : Option Addr) (n c : Nat) (I : Mem) (h : SlM I a n 1 (ints .u8 bs)) (hn : n ≤ 1000000) (hc : n ≤ c) (hm : c ≤ maxLen) :
    Ct Tryz.prog (fnv 23) #[.slice a n c] I (fun v I' => ∃ y, v = .tuple #[.agg (rqV (readR bs).1 y).toArray, .int .i64 (readR bs).2] ∧ BySl I' y (readR bs).1.fed ∧ NewB I I' y) := by
  refine viaR (ctF_via (A := { calls := [(97, .lend [1] (.sh .bool) [.cells cellsE 26])], cuts := [(11, ⟨[(2, .keep), (4, .keep), (7, .keep)], [(0, .keep), (1, .cells cellsA)], [], fun vals _ _ _ => vals = rqV (startQ bs) (.slice none 0 0), fun _ _ => 0⟩), (13, ⟨[(2, .keep), (4, .keep), (7, .keep), (10, .keep), (11, .sh .bool)], [(0, .keep), (1, .keep)], [], fun vals _ _ _ => vals = [.bool ((tagB bs).isSome && decide (((tagB bs).getD []).length = (flB bs).length))], fun _ _ => 0⟩)], loops := [(14, ⟨[(2, .keep), (7, .keep), (10, .keep), (11, .sh .bool), (78, .keep), (79, .keep), (80, .sh (.int .i64))], [(0, .keep), (1, .cells cellsA)], [], fun vals _ I' _ => match vals with | .bool ok :: .int .i64 j :: cs => 0 ≤ j ∧ j ≤ (flB bs).length ∧ ∃ h y, cs = rqV h y ∧ okRq h ∧ h.name.size ≤ 1000000 ∧ h.fed.length ≤ 1000000 ∧ BySl I' y h.fed ∧ NewB I I' y ∧ (ok = true → (tagB bs).isSome = true ∧ ((tagB bs).getD []).length = (flB bs).length ∧ runB bs = tryT h (((tagB bs).getD []).drop j.toNat) ((flB bs).drop j.toNat)) ∧ (ok = false → ((tagB bs).isSome && (runB bs).2) = false) | _ => False, fun vals _ => match vals with | .bool ok :: .int .i64 j :: cs => ((flB bs).length - j).toNat | _ => 0⟩)] }) Tryz.func23 rfl Tryz.call23 rfl rfl) (let E1 := Ent.mk (.cells [.v (.int .u8 0), .v (.int .u8 0), .v (.string ⟨#[]⟩), .v (.int .i64 0), .v (.int .i64 0), .v (.int .i64 0), .v (.int .i64 0), .v (.int .i64 0), .v (.int .i64 0), .v (.int .i64 0), .v (.int .i64 0), .v (.slice none 0 0)] 26) none
      let E2 := fun (x : ByteArray) (b : Int) (d : Int) (e : Int) (f : Int) (g : Int) (i : Int) (j : Int) (k : Int) (l : Option Addr) (m : Nat) (o : Nat) => [.v (.string x), .v (.int .i64 b), .v (.int .i64 d), .v (.int .i64 e), .v (.int .i64 f), .v (.int .i64 g), .v (.int .i64 i), .v (.int .i64 j), .v (.int .i64 k), .v (.slice l m o)]
      Br (decide ((n : Int) < 2)) (∃ y, Value.tuple #[.agg #[.int .u8 0, .int .u8 0, .string ⟨#[]⟩, .int .i64 0, .int .i64 0, .int .i64 0, .int .i64 0, .int .i64 0, .int .i64 0, .int .i64 0, .int .i64 0, .slice none 0 0], .int .i64 341] = .tuple #[.agg #[.int .u8 (readR bs).1.kind, .int .u8 (readR bs).1.what, .string (readR bs).1.name, .int .i64 (readR bs).1.p3, .int .i64 (readR bs).1.p4, .int .i64 (readR bs).1.p5, .int .i64 (readR bs).1.p6, .int .i64 (readR bs).1.p7, .int .i64 (readR bs).1.p8, .int .i64 (readR bs).1.p9, .int .i64 (readR bs).1.val, y], .int .i64 (readR bs).2] ∧ (∃ b m d, y = .slice b m d ∧ SlM I b m 1 (List.map (Value.int .u8) (readR bs).1.fed) ∧ m ≤ d ∧ d ≤ 9223372036854775807) ∧ NewB I I y) ((0 : Int) ≤ 0 ∧ 0 < (n : Int) ∧ a.isSome = true ∧ ∃ b, atI I a 0 = some (.int .u8 b) ∧ Br (b != 1) (∃ y, Value.tuple #[.agg #[.int .u8 0, .int .u8 0, .string ⟨#[]⟩, .int .i64 0, .int .i64 0, .int .i64 0, .int .i64 0, .int .i64 0, .int .i64 0, .int .i64 0, .int .i64 0, .slice none 0 0], .int .i64 341] = .tuple #[.agg #[.int .u8 (readR bs).1.kind, .int .u8 (readR bs).1.what, .string (readR bs).1.name, .int .i64 (readR bs).1.p3, .int .i64 (readR bs).1.p4, .int .i64 (readR bs).1.p5, .int .i64 (readR bs).1.p6, .int .i64 (readR bs).1.p7, .int .i64 (readR bs).1.p8, .int .i64 (readR bs).1.p9, .int .i64 (readR bs).1.val, y], .int .i64 (readR bs).2] ∧ (∃ d m e, y = .slice d m e ∧ SlM I d m 1 (List.map (Value.int .u8) (readR bs).1.fed) ∧ m ≤ e ∧ e ≤ 9223372036854775807) ∧ NewB I I y) ((0 : Int) ≤ 2 ∧ 2 ≤ (n : Int) ∧ Ct Tryz.prog (.func (.func 59) #[] #[]) #[.slice (sladdr a c 2 1) (n - 2) (c - 2)] I fun v d => ∃ e f g i j, v = .tuple #[.slice e f g, .int .i64 i, .int .i64 j] ∧ Br (j != 0) (∃ y, Value.tuple #[.agg #[.int .u8 0, .int .u8 0, .string ⟨#[]⟩, .int .i64 0, .int .i64 0, .int .i64 0, .int .i64 0, .int .i64 0, .int .i64 0, .int .i64 0, .int .i64 0, .slice none 0 0], .int .i64 341] = .tuple #[.agg #[.int .u8 (readR bs).1.kind, .int .u8 (readR bs).1.what, .string (readR bs).1.name, .int .i64 (readR bs).1.p3, .int .i64 (readR bs).1.p4, .int .i64 (readR bs).1.p5, .int .i64 (readR bs).1.p6, .int .i64 (readR bs).1.p7, .int .i64 (readR bs).1.p8, .int .i64 (readR bs).1.p9, .int .i64 (readR bs).1.val, y], .int .i64 (readR bs).2] ∧ (∃ k m l, y = .slice k m l ∧ SlM d k m 1 (List.map (Value.int .u8) (readR bs).1.fed) ∧ m ≤ l ∧ l ≤ 9223372036854775807) ∧ NewB I d y) ((0 : Int) ≤ 1 ∧ 1 < (n : Int) ∧ a.isSome = true ∧ ∃ k, atI d a 1 = some (.int .u8 k) ∧ Br (decide (0 < (f : Int))) (Br (k == 7) ((0 : Int) ≤ 0 ∧ 0 < (f : Int) ∧ e.isSome = true ∧ (2 : Nat) = 2 ∧ ∃ l, atI d e 0 = some (.int .i64 l) ∧ ∃ m o p, atI d e 1 = some (.slice m o p) ∧ Ct Tryz.prog (.func (.func 60) #[] #[]) #[.agg #[.int .i64 l, .slice m o p]] d fun q r => ∃ s t, q = .tuple #[.int .u64 s, .int .i64 t] ∧ Br (t == 0) (Br (decide (s < 256)) (Wr .u8 s (fun u => Rf E1 ∧ Rf (SV.ptr 0 0) ∧ Rf (SV.v (.slice e f g)) ∧ Rf (SV.ptr 1 0) ∧ Rf (none : Option Nat) ∧ [Value.int .u8 k, .int .u8 u, .string ⟨#[]⟩, .int .i64 0, .int .i64 0, .int .i64 0, .int .i64 0, .int .i64 0, .int .i64 0, .int .i64 0, .int .i64 0, .slice none 0 0] = [.int .u8 (kindB bs), .int .u8 (whatB bs), .string ⟨#[]⟩, .int .i64 0, .int .i64 0, .int .i64 0, .int .i64 0, .int .i64 0, .int .i64 0, .int .i64 0, .int .i64 0, .slice none 0 0])) (Rf E1 ∧ Rf (SV.ptr 0 0) ∧ Rf (SV.v (.slice e f g)) ∧ Rf (SV.ptr 1 0) ∧ Rf (none : Option Nat) ∧ [Value.int .u8 k, .int .u8 0, .string ⟨#[]⟩, .int .i64 0, .int .i64 0, .int .i64 0, .int .i64 0, .int .i64 0, .int .i64 0, .int .i64 0, .int .i64 0, .slice none 0 0] = [.int .u8 (kindB bs), .int .u8 (whatB bs), .string ⟨#[]⟩, .int .i64 0, .int .i64 0, .int .i64 0, .int .i64 0, .int .i64 0, .int .i64 0, .int .i64 0, .int .i64 0, .slice none 0 0])) (Rf E1 ∧ Rf (SV.ptr 0 0) ∧ Rf (SV.v (.slice e f g)) ∧ Rf (SV.ptr 1 0) ∧ Rf (none : Option Nat) ∧ [Value.int .u8 k, .int .u8 0, .string ⟨#[]⟩, .int .i64 0, .int .i64 0, .int .i64 0, .int .i64 0, .int .i64 0, .int .i64 0, .int .i64 0, .int .i64 0, .slice none 0 0] = [.int .u8 (kindB bs), .int .u8 (whatB bs), .string ⟨#[]⟩, .int .i64 0, .int .i64 0, .int .i64 0, .int .i64 0, .int .i64 0, .int .i64 0, .int .i64 0, .int .i64 0, .slice none 0 0])) (Rf E1 ∧ Rf (SV.ptr 0 0) ∧ Rf (SV.v (.slice e f g)) ∧ Rf (SV.ptr 1 0) ∧ Rf (none : Option Nat) ∧ [Value.int .u8 k, .int .u8 0, .string ⟨#[]⟩, .int .i64 0, .int .i64 0, .int .i64 0, .int .i64 0, .int .i64 0, .int .i64 0, .int .i64 0, .int .i64 0, .slice none 0 0] = [.int .u8 (kindB bs), .int .u8 (whatB bs), .string ⟨#[]⟩, .int .i64 0, .int .i64 0, .int .i64 0, .int .i64 0, .int .i64 0, .int .i64 0, .int .i64 0, .int .i64 0, .slice none 0 0])) (Rf E1 ∧ Rf (SV.ptr 0 0) ∧ Rf (SV.v (.slice e f g)) ∧ Rf (SV.ptr 1 0) ∧ Rf (none : Option Nat) ∧ [Value.int .u8 k, .int .u8 0, .string ⟨#[]⟩, .int .i64 0, .int .i64 0, .int .i64 0, .int .i64 0, .int .i64 0, .int .i64 0, .int .i64 0, .int .i64 0, .slice none 0 0] = [.int .u8 (kindB bs), .int .u8 (whatB bs), .string ⟨#[]⟩, .int .i64 0, .int .i64 0, .int .i64 0, .int .i64 0, .int .i64 0, .int .i64 0, .int .i64 0, .int .i64 0, .slice none 0 0]) ∧ ∀ (l : Mem), Mem → d.le l → ∀ (m o : Int) (q : ByteArray) (p r s t u w x y : Int) (z : Option Addr) (n1 c1 : Nat), [Value.int .u8 m, .int .u8 o, .string q, .int .i64 p, .int .i64 r, .int .i64 s, .int .i64 t, .int .i64 u, .int .i64 w, .int .i64 x, .int .i64 y, .slice z n1 c1] = [.int .u8 (kindB bs), .int .u8 (whatB bs), .string ⟨#[]⟩, .int .i64 0, .int .i64 0, .int .i64 0, .int .i64 0, .int .i64 0, .int .i64 0, .int .i64 0, .int .i64 0, .slice none 0 0] → Ct Tryz.prog (.func (.func 28) #[] #[]) #[.int .u8 m, .int .u8 o] l fun v1 I1 => ∃ a1 n2 c2 b1, v1 = .tuple #[.slice a1 n2 c2, .bool b1] ∧ Br b1 (Rf E1 ∧ Rf (Ent.mk (.cells (.v (.int .u8 m) :: .v (.int .u8 o) :: E2 q p r s t u w x y z n1 c1) 26) none) ∧ Rf (SV.ptr 0 0) ∧ Rf (SV.v (.slice e f g)) ∧ Rf (SV.ptr 1 0) ∧ Rf (SV.v (.slice a1 n2 c2)) ∧ [Value.bool ((n2 : Int) == (f : Int))] = [.bool ((tagB bs).isSome && decide (((tagB bs).getD ([] : List Int)).length = (flB bs).length))]) (Rf E1 ∧ Rf (Ent.mk (.cells (.v (.int .u8 m) :: .v (.int .u8 o) :: E2 q p r s t u w x y z n1 c1) 26) none) ∧ Rf (SV.ptr 0 0) ∧ Rf (SV.v (.slice e f g)) ∧ Rf (SV.ptr 1 0) ∧ Rf (SV.v (.slice a1 n2 c2)) ∧ [Value.bool false] = [.bool ((tagB bs).isSome && decide (((tagB bs).getD ([] : List Int)).length = (flB bs).length))]) ∧ ∀ (I2 : Mem), Mem → I1.le I2 → ∀ (b2 : Bool), [Value.bool b2] = [.bool ((tagB bs).isSome && decide (((tagB bs).getD ([] : List Int)).length = (flB bs).length))] → (Rf E1 ∧ Rf (Ent.mk (.cells (.v (.int .u8 m) :: .v (.int .u8 o) :: E2 q p r s t u w x y z n1 c1) 26) none) ∧ Rf (SV.ptr 0 0) ∧ Rf (SV.v (.slice e f g)) ∧ Rf (SV.ptr 1 0) ∧ Rf (SV.v (.slice a1 n2 c2)) ∧ [Value.bool b2] = [.bool ((tagB bs).isSome && decide (((tagB bs).getD ([] : List Int)).length = (flB bs).length))]) ∧ ∀ (I3 : Mem), Mem → I2.le I3 → ∀ (b3 : Bool), [Value.bool b3] = [.bool ((tagB bs).isSome && decide (((tagB bs).getD ([] : List Int)).length = (flB bs).length))] → (Rf E1 ∧ Rf (SV.ptr 0 0) ∧ Rf (SV.ptr 1 0) ∧ Rf (SV.v (.slice a1 n2 c2)) ∧ Rf (SV.v (.slice e f g)) ∧ Rf (SV.v (.int .i64 (f : Int))) ∧ Rf (none : Option Nat) ∧ (0 : Int) ≤ 0 ∧ 0 ≤ ((flB bs).length : Int) ∧ ∃ h1 y1, [Value.int .u8 m, .int .u8 o, .string q, .int .i64 p, .int .i64 r, .int .i64 s, .int .i64 t, .int .i64 u, .int .i64 w, .int .i64 x, .int .i64 y, .slice z n1 c1] = [.int .u8 h1.kind, .int .u8 h1.what, .string h1.name, .int .i64 h1.p3, .int .i64 h1.p4, .int .i64 h1.p5, .int .i64 h1.p6, .int .i64 h1.p7, .int .i64 h1.p8, .int .i64 h1.p9, .int .i64 h1.val, y1] ∧ okRq h1 ∧ h1.name.size ≤ 1000000 ∧ h1.fed.length ≤ 1000000 ∧ (∃ b4 m1 c3, y1 = .slice b4 m1 c3 ∧ SlM I3 b4 m1 1 (List.map (Value.int .u8) h1.fed) ∧ m1 ≤ c3 ∧ c3 ≤ 9223372036854775807) ∧ NewB I I3 y1 ∧ (b3 = true → (tagB bs).isSome = true ∧ ((tagB bs).getD ([] : List Int)).length = (flB bs).length ∧ runB bs = tryT h1 (List.drop 0 ((tagB bs).getD ([] : List Int))) (List.drop 0 (flB bs))) ∧ (b3 = false → ((tagB bs).isSome && (runB bs).2) = false)) ∧ ∀ (I4 : Mem), Mem → I3.le I4 → ∀ (b4 : Bool) (n3 n4 n5 : Int) (q1 : ByteArray) (n6 n7 n8 n9 n10 n11 n12 n13 : Int) (a2 : Option Addr) (n14 c3 : Nat), 0 ≤ n3 ∧ n3 ≤ ((flB bs).length : Int) ∧ (∃ h1 y1, [Value.int .u8 n4, .int .u8 n5, .string q1, .int .i64 n6, .int .i64 n7, .int .i64 n8, .int .i64 n9, .int .i64 n10, .int .i64 n11, .int .i64 n12, .int .i64 n13, .slice a2 n14 c3] = [.int .u8 h1.kind, .int .u8 h1.what, .string h1.name, .int .i64 h1.p3, .int .i64 h1.p4, .int .i64 h1.p5, .int .i64 h1.p6, .int .i64 h1.p7, .int .i64 h1.p8, .int .i64 h1.p9, .int .i64 h1.val, y1] ∧ okRq h1 ∧ h1.name.size ≤ 1000000 ∧ h1.fed.length ≤ 1000000 ∧ (∃ b5 m1 c4, y1 = .slice b5 m1 c4 ∧ SlM I4 b5 m1 1 (List.map (Value.int .u8) h1.fed) ∧ m1 ≤ c4 ∧ c4 ≤ 9223372036854775807) ∧ NewB I I4 y1 ∧ (b4 = true → (tagB bs).isSome = true ∧ ((tagB bs).getD ([] : List Int)).length = (flB bs).length ∧ runB bs = tryT h1 (List.drop n3.toNat ((tagB bs).getD ([] : List Int))) (List.drop n3.toNat (flB bs))) ∧ (b4 = false → ((tagB bs).isSome && (runB bs).2) = false)) → Br (decide (n3 < (f : Int))) (0 ≤ n3 ∧ n3 < (f : Int) ∧ e.isSome = true ∧ (2 : Nat) = 2 ∧ ∃ n15, atI I4 e (n3.toNat * 2 + 0) = some (.int .i64 n15) ∧ ∃ a3 n16 c4, atI I4 e (n3.toNat * 2 + 1) = some (.slice a3 n16 c4) ∧ Br b4 (0 ≤ n3 ∧ n3 < (n2 : Int) ∧ a1.isSome = true ∧ ∃ n17, atI I4 a1 (n3.toNat * 1 + 0) = some (.int .i64 n17) ∧ Br (n15 == n17) (∀ (b5 : Nat), CtS Tryz.prog (.v (.func (.func 61) #[] #[])) [.ptr 0 0, .agg [.v (.int .i64 n15), .v (.slice a3 n16 c4)]] [⟨.cells (.v (.int .u8 n4) :: .v (.int .u8 n5) :: E2 q1 n6 n7 n8 n9 n10 n11 n12 n13 a2 n14 c3) 26, some b5⟩] I4 fun s1 H I5 => ∃ b6 n18 n19 q2 n20 n21 n22 n23 n24 n25 n26 n27 a4 n28 c5, s1 = .v (.bool b6) ∧ H = [⟨.cells (.v (.int .u8 n18) :: .v (.int .u8 n19) :: E2 q2 n20 n21 n22 n23 n24 n25 n26 n27 a4 n28 c5) 26, some b5⟩] ∧ Br (!b6) (Br (!b6) (∃ y1, Value.tuple #[.agg #[.int .u8 0, .int .u8 0, .string ⟨#[]⟩, .int .i64 0, .int .i64 0, .int .i64 0, .int .i64 0, .int .i64 0, .int .i64 0, .int .i64 0, .int .i64 0, .slice none 0 0], .int .i64 341] = .tuple #[.agg #[.int .u8 (readR bs).1.kind, .int .u8 (readR bs).1.what, .string (readR bs).1.name, .int .i64 (readR bs).1.p3, .int .i64 (readR bs).1.p4, .int .i64 (readR bs).1.p5, .int .i64 (readR bs).1.p6, .int .i64 (readR bs).1.p7, .int .i64 (readR bs).1.p8, .int .i64 (readR bs).1.p9, .int .i64 (readR bs).1.val, y1], .int .i64 (readR bs).2] ∧ (∃ b7 m1 c6, y1 = .slice b7 m1 c6 ∧ SlM I5 b7 m1 1 (List.map (Value.int .u8) (readR bs).1.fed) ∧ m1 ≤ c6 ∧ c6 ≤ 9223372036854775807) ∧ NewB I I5 y1) (Ct Tryz.prog (.func (.func 52) #[] #[]) #[.agg #[.int .u8 n18, .int .u8 n19, .string q2, .int .i64 n20, .int .i64 n21, .int .i64 n22, .int .i64 n23, .int .i64 n24, .int .i64 n25, .int .i64 n26, .int .i64 n27, .slice a4 n28 c5]] I5 (fun v2 I6 => ∃ b7, v2 = .bool b7 ∧ Br (!b7) (∃ y1, Value.tuple #[.agg #[.int .u8 0, .int .u8 0, .string ⟨#[]⟩, .int .i64 0, .int .i64 0, .int .i64 0, .int .i64 0, .int .i64 0, .int .i64 0, .int .i64 0, .int .i64 0, .slice none 0 0], .int .i64 341] = .tuple #[.agg #[.int .u8 (readR bs).1.kind, .int .u8 (readR bs).1.what, .string (readR bs).1.name, .int .i64 (readR bs).1.p3, .int .i64 (readR bs).1.p4, .int .i64 (readR bs).1.p5, .int .i64 (readR bs).1.p6, .int .i64 (readR bs).1.p7, .int .i64 (readR bs).1.p8, .int .i64 (readR bs).1.p9, .int .i64 (readR bs).1.val, y1], .int .i64 (readR bs).2] ∧ (∃ b8 m1 c6, y1 = .slice b8 m1 c6 ∧ SlM I6 b8 m1 1 (List.map (Value.int .u8) (readR bs).1.fed) ∧ m1 ≤ c6 ∧ c6 ≤ 9223372036854775807) ∧ NewB I I6 y1) (∃ y1, Value.tuple #[.agg #[.int .u8 n18, .int .u8 n19, .string q2, .int .i64 n20, .int .i64 n21, .int .i64 n22, .int .i64 n23, .int .i64 n24, .int .i64 n25, .int .i64 n26, .int .i64 n27, .slice a4 n28 c5], .int .i64 0] = .tuple #[.agg #[.int .u8 (readR bs).1.kind, .int .u8 (readR bs).1.what, .string (readR bs).1.name, .int .i64 (readR bs).1.p3, .int .i64 (readR bs).1.p4, .int .i64 (readR bs).1.p5, .int .i64 (readR bs).1.p6, .int .i64 (readR bs).1.p7, .int .i64 (readR bs).1.p8, .int .i64 (readR bs).1.p9, .int .i64 (readR bs).1.val, y1], .int .i64 (readR bs).2] ∧ (∃ b8 m1 c6, y1 = .slice b8 m1 c6 ∧ SlM I6 b8 m1 1 (List.map (Value.int .u8) (readR bs).1.fed) ∧ m1 ≤ c6 ∧ c6 ≤ 9223372036854775807) ∧ NewB I I6 y1)))) (Wr .i64 (n3 + 1) (fun c6 => Rf E1 ∧ Rf (SV.ptr 0 0) ∧ Rf (SV.ptr 1 0) ∧ Rf (SV.v (.slice a1 n2 c2)) ∧ Rf (SV.v (.slice e f g)) ∧ Rf (SV.v (.int .i64 (f : Int))) ∧ (0 ≤ c6 ∧ c6 ≤ ((flB bs).length : Int) ∧ ∃ h1 y1, [Value.int .u8 n18, .int .u8 n19, .string q2, .int .i64 n20, .int .i64 n21, .int .i64 n22, .int .i64 n23, .int .i64 n24, .int .i64 n25, .int .i64 n26, .int .i64 n27, .slice a4 n28 c5] = [.int .u8 h1.kind, .int .u8 h1.what, .string h1.name, .int .i64 h1.p3, .int .i64 h1.p4, .int .i64 h1.p5, .int .i64 h1.p6, .int .i64 h1.p7, .int .i64 h1.p8, .int .i64 h1.p9, .int .i64 h1.val, y1] ∧ okRq h1 ∧ h1.name.size ≤ 1000000 ∧ h1.fed.length ≤ 1000000 ∧ (∃ b7 m1 c7, y1 = .slice b7 m1 c7 ∧ SlM I5 b7 m1 1 (List.map (Value.int .u8) h1.fed) ∧ m1 ≤ c7 ∧ c7 ≤ 9223372036854775807) ∧ NewB I I5 y1 ∧ (b6 = true → (tagB bs).isSome = true ∧ ((tagB bs).getD ([] : List Int)).length = (flB bs).length ∧ runB bs = tryT h1 (List.drop c6.toNat ((tagB bs).getD ([] : List Int))) (List.drop c6.toNat (flB bs))) ∧ (b6 = false → ((tagB bs).isSome && (runB bs).2) = false)) ∧ Int.toNat (((flB bs).length : Int) - c6) < Int.toNat (((flB bs).length : Int) - n3)))) (∃ y1, Value.tuple #[.agg #[.int .u8 0, .int .u8 0, .string ⟨#[]⟩, .int .i64 0, .int .i64 0, .int .i64 0, .int .i64 0, .int .i64 0, .int .i64 0, .int .i64 0, .int .i64 0, .slice none 0 0], .int .i64 341] = .tuple #[.agg #[.int .u8 (readR bs).1.kind, .int .u8 (readR bs).1.what, .string (readR bs).1.name, .int .i64 (readR bs).1.p3, .int .i64 (readR bs).1.p4, .int .i64 (readR bs).1.p5, .int .i64 (readR bs).1.p6, .int .i64 (readR bs).1.p7, .int .i64 (readR bs).1.p8, .int .i64 (readR bs).1.p9, .int .i64 (readR bs).1.val, y1], .int .i64 (readR bs).2] ∧ (∃ b5 m1 c5, y1 = .slice b5 m1 c5 ∧ SlM I4 b5 m1 1 (List.map (Value.int .u8) (readR bs).1.fed) ∧ m1 ≤ c5 ∧ c5 ≤ 9223372036854775807) ∧ NewB I I4 y1)) (∃ y1, Value.tuple #[.agg #[.int .u8 0, .int .u8 0, .string ⟨#[]⟩, .int .i64 0, .int .i64 0, .int .i64 0, .int .i64 0, .int .i64 0, .int .i64 0, .int .i64 0, .int .i64 0, .slice none 0 0], .int .i64 341] = .tuple #[.agg #[.int .u8 (readR bs).1.kind, .int .u8 (readR bs).1.what, .string (readR bs).1.name, .int .i64 (readR bs).1.p3, .int .i64 (readR bs).1.p4, .int .i64 (readR bs).1.p5, .int .i64 (readR bs).1.p6, .int .i64 (readR bs).1.p7, .int .i64 (readR bs).1.p8, .int .i64 (readR bs).1.p9, .int .i64 (readR bs).1.val, y1], .int .i64 (readR bs).2] ∧ (∃ b5 m1 c5, y1 = .slice b5 m1 c5 ∧ SlM I4 b5 m1 1 (List.map (Value.int .u8) (readR bs).1.fed) ∧ m1 ≤ c5 ∧ c5 ≤ 9223372036854775807) ∧ NewB I I4 y1)) (Br (!b4) (∃ y1, Value.tuple #[.agg #[.int .u8 0, .int .u8 0, .string ⟨#[]⟩, .int .i64 0, .int .i64 0, .int .i64 0, .int .i64 0, .int .i64 0, .int .i64 0, .int .i64 0, .int .i64 0, .slice none 0 0], .int .i64 341] = .tuple #[.agg #[.int .u8 (readR bs).1.kind, .int .u8 (readR bs).1.what, .string (readR bs).1.name, .int .i64 (readR bs).1.p3, .int .i64 (readR bs).1.p4, .int .i64 (readR bs).1.p5, .int .i64 (readR bs).1.p6, .int .i64 (readR bs).1.p7, .int .i64 (readR bs).1.p8, .int .i64 (readR bs).1.p9, .int .i64 (readR bs).1.val, y1], .int .i64 (readR bs).2] ∧ (∃ b5 m1 c4, y1 = .slice b5 m1 c4 ∧ SlM I4 b5 m1 1 (List.map (Value.int .u8) (readR bs).1.fed) ∧ m1 ≤ c4 ∧ c4 ≤ 9223372036854775807) ∧ NewB I I4 y1) (Ct Tryz.prog (.func (.func 52) #[] #[]) #[.agg #[.int .u8 n4, .int .u8 n5, .string q1, .int .i64 n6, .int .i64 n7, .int .i64 n8, .int .i64 n9, .int .i64 n10, .int .i64 n11, .int .i64 n12, .int .i64 n13, .slice a2 n14 c3]] I4 (fun v2 I5 => ∃ b5, v2 = .bool b5 ∧ Br (!b5) (∃ y1, Value.tuple #[.agg #[.int .u8 0, .int .u8 0, .string ⟨#[]⟩, .int .i64 0, .int .i64 0, .int .i64 0, .int .i64 0, .int .i64 0, .int .i64 0, .int .i64 0, .int .i64 0, .slice none 0 0], .int .i64 341] = .tuple #[.agg #[.int .u8 (readR bs).1.kind, .int .u8 (readR bs).1.what, .string (readR bs).1.name, .int .i64 (readR bs).1.p3, .int .i64 (readR bs).1.p4, .int .i64 (readR bs).1.p5, .int .i64 (readR bs).1.p6, .int .i64 (readR bs).1.p7, .int .i64 (readR bs).1.p8, .int .i64 (readR bs).1.p9, .int .i64 (readR bs).1.val, y1], .int .i64 (readR bs).2] ∧ (∃ b6 m1 c4, y1 = .slice b6 m1 c4 ∧ SlM I5 b6 m1 1 (List.map (Value.int .u8) (readR bs).1.fed) ∧ m1 ≤ c4 ∧ c4 ≤ 9223372036854775807) ∧ NewB I I5 y1) (∃ y1, Value.tuple #[.agg #[.int .u8 n4, .int .u8 n5, .string q1, .int .i64 n6, .int .i64 n7, .int .i64 n8, .int .i64 n9, .int .i64 n10, .int .i64 n11, .int .i64 n12, .int .i64 n13, .slice a2 n14 c3], .int .i64 0] = .tuple #[.agg #[.int .u8 (readR bs).1.kind, .int .u8 (readR bs).1.what, .string (readR bs).1.name, .int .i64 (readR bs).1.p3, .int .i64 (readR bs).1.p4, .int .i64 (readR bs).1.p5, .int .i64 (readR bs).1.p6, .int .i64 (readR bs).1.p7, .int .i64 (readR bs).1.p8, .int .i64 (readR bs).1.p9, .int .i64 (readR bs).1.val, y1], .int .i64 (readR bs).2] ∧ (∃ b6 m1 c4, y1 = .slice b6 m1 c4 ∧ SlM I5 b6 m1 1 (List.map (Value.int .u8) (readR bs).1.fed) ∧ m1 ≤ c4 ∧ c4 ≤ 9223372036854775807) ∧ NewB I I5 y1)))))))) (by kernel_rfl) ?_
  intro E1 E2
  simp only [eq_self, true_and, and_true]
  have hmx : maxLen = 9223372036854775807 := by decide
  have hln := h.numLen
  have Z : ∀ {J : Mem}, accB bs = false → ∃ y, Value.tuple #[.agg (rqV zeroRq (.slice none 0 0)).toArray, .int .i64 341] = Value.tuple #[.agg (rqV (readR bs).1 y).toArray, .int .i64 (readR bs).2] ∧ BySl J y (readR bs).1.fed ∧ NewB I J y := fun {J} hz => by
    have : readR bs = (zeroRq, 341) := by rw [readR, hz]; rfl
    rw [this]
    exact ⟨_, rfl, ⟨none, 0, 0, rfl, sl_nil _ _, by omega, by omega⟩, newB_sl (fun hc => absurd hc (by omega)) (by omega)⟩
  refine Br.mk (fun h1 => Z ?_) (fun h1 => ?_)
  · have h1 := of_decide_eq_true h1
    rw [accB, decide_eq_false (by omega)]; rfl
  have h1 := of_decide_eq_false h1
  obtain ⟨x0, hx0, e0⟩ := h.intAt (i := 0) (by omega) (by omega)
  have hx0 : bs[0]? = some x0 := hx0
  refine ⟨by omega, by omega, h.isSome (by omega), x0, e0, Br.mk (fun h2 => Z ?_) (fun h2 => ?_)⟩
  · have h2 : x0 ≠ 1 := by simpa using h2
    rw [accB, hx0, decide_eq_false (p := some x0 = some 1) (fun hc => h2 (Option.some.inj hc)), Bool.false_and, Bool.and_false]
  have h2 : x0 = 1 := by simpa using h2
  have hsub := sl_sub h (f := 2) (t := n) (by omega) (by omega) hc
  rw [List.take_of_length_le (by rw [List.length_drop]; omega)] at hsub
  have hbd : byteL (bs.drop 2) := fun z hz => hbs z (List.mem_of_mem_drop hz)
  refine ⟨by omega, by omega, (ct59 (bs.drop 2) hbd _ (n - 2) (c - 2) I hsub (by omega) (by omega) (by omega)).mono fun v I1 l1 ⟨a1, n1, c1, hv, hF, hn1, hc1⟩ => ⟨_, _, _, _, _, hv, Br.mk (fun h3 => Z ?_) (fun h3 => ?_)⟩⟩
  · have h3 : (readF (bs.drop 2)).2.2 ≠ 0 := by simpa using h3
    rw [accB, decide_eq_false (p := (readF (bs.drop 2)).2.2 = 0) h3]
    simp
  have h3 : (readF (bs.drop 2)).2.2 = 0 := by simpa using h3
  have hacc : accB bs = ((tagB bs).isSome && ((runB bs).2 && rightR (runB bs).1)) := by
    rw [accB, hx0, h2, decide_eq_true (p := 2 ≤ bs.length) (by omega), h3]; simp
  have hF : FldM I1 a1 n1 (flB bs) := hF
  have hlen := hF.len
  have hle : ∀ f ∈ flB bs, f.2.length ≤ 16384 := by
    rcases read_cases (bs.drop 2) hbd with ⟨_, _, hr, _⟩ | ⟨hr, _⟩
    · intro f hf
      have := right_at (rightF_iff.1 hr).1 f hf
      omega
    · intro f hf
      have : flB bs = [] := hr
      rw [this] at hf; cases hf
  obtain ⟨x1, hx1, e1⟩ := (h.mono l1).intAt (i := 1) (by omega) (by omega)
  have hx1 : bs[1]? = some x1 := hx1
  have hk : kindB bs = x1 := by rw [kindB, hx1]; rfl
  have hkr : 0 ≤ kindB bs ∧ kindB bs ≤ 255 := by rw [hk]; exact hbs x1 (List.mem_of_getElem? hx1)
  refine ⟨by omega, by omega, h.isSome (by omega), x1, e1, ?_, ?_⟩
  · have kE : ∀ {w : Int}, whatB bs = w → [Value.int .u8 x1, Value.int .u8 w, Value.string ⟨#[]⟩, Value.int .i64 0, Value.int .i64 0, Value.int .i64 0, Value.int .i64 0, Value.int .i64 0, Value.int .i64 0, Value.int .i64 0, Value.int .i64 0, Value.slice none 0 0] = rqV (startQ bs) (.slice none 0 0) := fun hw => by
      rw [startQ, hk, hw]; rfl
    refine Br.mk (fun g1 => ?_) (fun g1 => kE ?_)
    rotate_left
    · have g1 := of_decide_eq_false g1
      have : flB bs = [] := List.eq_nil_of_length_eq_zero (by omega)
      rw [whatB, this]; rfl
    have g1 := of_decide_eq_true g1
    obtain ⟨f, b, m, c', hf, hok, e2, e3, hfs, _, _⟩ := hF.at_ (i := 0) (by omega) g1
    obtain ⟨r0, hr0⟩ : ∃ r0, flB bs = f :: r0 := by
      cases hq : flB bs with
      | nil => rw [hq] at hf; cases hf
      | cons g r0 =>
        rw [hq] at hf
        cases hf; exact ⟨r0, rfl⟩
    have hml := hfs.numLen
    have hfl := hle f (by rw [hr0]; simp)
    have hw : whatB bs = if x1 = 7 ∧ (lastN f.2).2.2 = 0 ∧ (lastN f.2).1 < 256 then (lastN f.2).1 else 0 := by rw [whatB, hr0, hk]; rfl
    refine Br.mk (fun g2 => ?_) (fun g2 => kE ?_)
    rotate_left
    · rw [hw, if_neg (fun hc => nev g2 hc.1)]
    have g2 := eqv g2
    refine ⟨by omega, by omega, hF.isSome (by omega), _, e2, _, _, _, e3, (ct60 f hok b m c' I1 hfs (by omega)).mono fun v I2 l2 hv => ⟨_, _, hv, Br.mk (fun g3 => Br.mk (fun g4 => ?_) (fun g4 => kE ?_)) (fun g3 => kE ?_)⟩⟩
    · have g3 : (lastN f.2).2.2 = 0 := by simpa using g3
      have g4 := of_decide_eq_true g4
      have hr := last_range hok.2
      exact ⟨_, IntWalk.u8_in _ ⟨hr.1, by omega⟩, kE (by rw [hw, if_pos ⟨g2, g3, g4⟩])⟩
    · have g4 := of_decide_eq_false g4
      rw [hw, if_neg (fun hc => g4 hc.2.2)]
    · have g3 : ¬ (lastN f.2).2.2 = 0 := by simpa using g3
      rw [hw, if_neg (fun hc => g3 hc.2.1)]
  have hwr : 0 ≤ whatB bs ∧ whatB bs ≤ 255 := by
    rw [whatB]
    cases hq : flB bs with
    | nil =>
      show (0 : Int) ≤ 0 ∧ (0 : Int) ≤ 255
      omega
    | cons f r0 =>
      have hok := hF.ok f (by rw [hq]; simp)
      have hr := last_range hok.2
      rw [whatL]
      split <;> omega
  intro I2 _ l2 y0 y1 yq y3 y4 y5 y6 y7 y8 y9 y10 ah nh ch heq
  simp only [List.cons.injEq, Value.int.injEq, Value.string.injEq, Value.slice.injEq, true_and, and_true] at heq
  obtain ⟨rfl, rfl, rfl, rfl, rfl, rfl, rfl, rfl, rfl, rfl, rfl, rfl, rfl, rfl⟩ := heq
  refine (ct28 (kindB bs) (whatB bs) I2).mono fun v I3 l3 ⟨a3, n3, c3, hv, hs3, hn3, hc3, _⟩ => ⟨_, _, _, _, hv, ?_, ?_⟩
  · have hl3 := hs3.numLen
    have hl3 : n3 = ((tagB bs).getD []).length := hl3
    refine Br.mk (fun hb => ?_) (fun hb => ?_)
    · have hb : (tagB bs).isSome = true := hb
      rw [hb, Bool.true_and, ← hl3, hlen]
      congr 2
      by_cases hq : n3 = n1
      · simp [hq]
      · have : (n3 : Int) ≠ n1 := by omega
        simp [hq, this]
    · have hb : (tagB bs).isSome = false := hb
      rw [hb, Bool.false_and]
  intro I4 _ l4 ok hok
  refine ⟨hok, fun I5 _ l5 ok hok => ?_⟩
  simp only [List.cons.injEq, Value.bool.injEq, and_true] at hok
  have hs3' : SlM I3 a3 n3 1 (ints .i64 ((tagB bs).getD [])) := hs3
  have hl3 := hs3'.numLen
  have lI3 : I.le I3 := Mem.le_trans l1 (Mem.le_trans (by assumption) (by assumption))
  refine ⟨⟨by omega, by omega, startQ bs, .slice none 0 0, rfl, okRq_start hkr hwr, by simp [startQ, zeroRq, ByteArray.size], by simp [startQ, zeroRq], ⟨none, 0, 0, rfl, sl_nil _ _, by omega, by omega⟩, newB_sl (fun hc => absurd hc (by omega)) (by omega), fun ht => ?_, fun hf => ?_⟩, fun I6 _ l6 ok j y0 y1 yq y3 y4 y5 y6 y7 y8 y9 y10 ah nh ch ⟨j0, j1, h', yy, heq, okh, hsz, hfl, hyy, hnb, hT, hFf⟩ => ?_⟩
  · rw [hok, Bool.and_eq_true, decide_eq_true_eq] at ht
    exact ⟨ht.1, ht.2, rfl⟩
  · rw [hok] at hf
    cases hs : (tagB bs).isSome with
    | false => rfl
    | true =>
      rw [hs, Bool.true_and] at hf
      have hf := of_decide_eq_false hf
      cases hr : (runB bs).2 with
      | false => rfl
      | true => exact absurd (tryT_len _ _ _ hr) hf
  simp only [List.cons.injEq, Value.int.injEq, Value.string.injEq, true_and, and_true] at heq
  obtain ⟨rfl, rfl, rfl, rfl, rfl, rfl, rfl, rfl, rfl, rfl, rfl, rfl⟩ := heq
  have hyy : BySl I6 (.slice ah nh ch) h'.fed := hyy
  have no1 : ((tagB bs).isSome && (runB bs).2) = false → accB bs = false := fun hq => by rw [hacc, ← Bool.and_assoc, hq, Bool.false_and]
  have l16 : I1.le I6 := Mem.le_trans (by assumption) (Mem.le_trans (by assumption) (Mem.le_trans l4 (Mem.le_trans l5 l6)))
  have l36 : I3.le I6 := Mem.le_trans l4 (Mem.le_trans l5 l6)
  refine Br.mk (fun hlt => ?_) (fun hge => ?_)
  · have hlt := of_decide_eq_true hlt
    obtain ⟨f, b, m, c', hf, hokf, e2, e3, hfs, hm1, hm2⟩ := (hF.mono l16).at_ j0 hlt
    have hfm := List.mem_of_getElem? hf
    have hml := hfs.numLen
    have hf16 := hle f hfm
    refine ⟨j0, hlt, hF.isSome (by omega), _, e2, _, _, _, e3, Br.mk (fun ho => ?_) (fun ho => Z (no1 (hFf ho)))⟩
    obtain ⟨s1, s2, s3⟩ := hT ho
    obtain ⟨t, ht, e4⟩ := (hs3'.mono l36).intAt j0 (by omega)
    obtain ⟨tl, htl⟩ := Option.isSome_iff_exists.1 s1
    have htr := (tagL_ok htl).1
    have htr : 1 ≤ t ∧ t ≤ 11 := htr t (by rw [htl] at ht; exact List.mem_of_getElem? ht)
    rw [drop_cons ht, drop_cons hf, tryT] at s3
    refine ⟨j0, by omega, hs3'.isSome (by omega), t, e4, Br.mk (fun hq => ?_) (fun hq => Z ?_)⟩
    rotate_left
    · rw [if_neg (nev hq)] at s3
      exact no1 (by rw [s3, Bool.and_false])
    have hq := eqv hq
    rw [if_pos hq] at s3
    subst hq
    intro kb
    refine (cs_agg (cs61 f.1 htr kb h' okh (.slice ah nh ch) f.2 hokf.2 b m c' I6 hfs (by omega))).mono fun sv H' I7 l7 ⟨y', hv, hH, hy', hnb'⟩ => ?_
    have hb7 := hy' (hyy.mono l7)
    have hn7 := hnb' I (Mem.le_trans l1 l16) (hnb.mono l7)
    obtain ⟨b5, m5, c5, rfl, q1, q2, q3⟩ := hb7
    refine ⟨_, _, _, _, _, _, _, _, _, _, _, _, _, _, _, hv, hH, Br.mk (fun hb => Br.t hb (Z ?_)) (fun hb => ?_)⟩
    · have hb : takeB h' f.1 f.2 = false := by simpa using hb
      rw [hb] at s3
      exact no1 (by rw [s3]; simp)
    · have hb : takeB h' f.1 f.2 = true := by simpa using hb
      rw [if_pos hb] at s3
      have hst := size_take (t := f.1) (bs := f.2) hsz hfl (by omega)
      refine wr_i64 (by omega) (by omega) ⟨⟨by omega, by omega, _, _, rfl, okRq_take okh f.1 hokf.2, hst.1, hst.2, ⟨_, _, _, rfl, q1, q2, q3⟩, hn7, fun _ => ⟨s1, s2, ?_⟩, fun hc => ?_⟩, by omega⟩
      · rw [show (j + 1).toNat = j.toNat + 1 by omega]; exact s3
      · rw [hb] at hc; cases hc
  · have hge := of_decide_eq_false hge
    refine Br.mk (fun ho => Z (no1 (hFf (by simpa using ho)))) (fun ho => ?_)
    have ho : ok = true := by simpa using ho
    obtain ⟨s1, s2, s3⟩ := hT ho
    rw [List.drop_eq_nil_of_le (by omega), List.drop_eq_nil_of_le (by omega), tryT] at s3
    rw [s3, s1, Bool.true_and, Bool.true_and] at hacc
    refine (ct52 h' okh hsz (.slice ah nh ch) I6 hyy hfl).mono fun v I7 l7 hv => ⟨_, hv, Br.mk (fun hb => Z ?_) (fun hb => ?_)⟩
    · have hb : rightR h' = false := by simpa using hb
      rw [hacc, hb]
    · have hb : rightR h' = true := by simpa using hb
      have hr : readR bs = (h', 0) := by rw [readR, hacc, hb, if_pos rfl, s3]
      rw [hr]
      exact ⟨_, rfl, hyy.mono l7, hnb.mono l7⟩
theorem lastN_form (x : Nat) (h : x < 256 ^ 8) : lastN (formN x) = ((x : Int), ((formN x).length : Int), 0) := by
  have hr := readN_form [] [] x h
  simp only [List.nil_append, List.append_nil, List.length_nil] at hr
  have hr : readN (formN x) 0 = ((x : Int), ((formN x).length : Int), 0) := hr
  unfold lastN
  rw [hr, if_neg (by simp), if_neg (by simp)]
open Go Go.Proofs Go.SE Go.RowKit
set_option linter.unusedVariables false
set_option maxRecDepth 100000
theorem lastN_f2 {x : Nat} (h : x < 256 ^ 8) : (lastN (formN x)).1 = (x : Int) ∧ (lastN (formN x)).2.2 = 0 := by
  rw [lastN_form x h]; exact ⟨rfl, rfl⟩
theorem strB_strL (s : ByteArray) : strB (strL s) = s := by
  have : u8s (strL s) = s.data.toList := by
    simp only [u8s, strL, List.map_map]
    conv => rhs; rw [← List.map_id s.data.toList]
    apply List.map_congr_left
    intro b _
    simp
  rw [strB, this]
theorem unfold_fold {x : Int} (h : i64R x) : unfoldZ (foldZ x) = x := by
  unfold foldZ unfoldZ
  split
  · rw [if_pos (by omega)]; omega
  · rw [if_neg (by omega)]; omega
theorem wrap_wrap {x : Int} (h : i64R x) : IntKind.i64.wrap (IntKind.u64.wrap x) = x := by
  obtain ⟨h1, h2⟩ := h
  rw [w64, IntKind.wrap_i64]
  omega
/-- One field of a request put into another one. -/
def copyT (r h : Rq) (t : Int) : Rq :=
  if t = 1 then { h with what := r.what } else if t = 2 then { h with name := r.name } else if t = 3 then { h with p3 := r.p3 } else if t = 4 then { h with p4 := r.p4 } else if t = 5 then { h with p5 := r.p5 } else if t = 6 then { h with p6 := r.p6 }
  else if t = 7 then { h with p7 := r.p7 } else if t = 8 then { h with p8 := r.p8 } else if t = 9 then { h with p9 := r.p9 } else if t = 10 then { h with val := r.val } else { h with fed := r.fed }
def okT (r : Rq) (t : Int) : Bool := decide (3 ≤ t → t ≤ 9 → 0 ≤ numR r t)
theorem step_num {r h : Rq} {t p : Int} (hr : i64R p) (ht : 3 ≤ t ∧ t ≤ 9) (hn : numR r t = p) : preR r h t = h ∧ takeB h t (bytesR r t) = decide (0 ≤ p) ∧ IntKind.i64.wrap (lastN (bytesR r t)).1 = p := by
  have hb : bytesR r t = formN (IntKind.u64.wrap p).toNat := by
    rw [bytesR, if_neg (by omega), if_neg (by omega), if_neg (by omega), if_neg (by omega), hn]
  have hw := w64_range p
  obtain ⟨g1, g2⟩ := lastN_f2 (x := (IntKind.u64.wrap p).toNat) (by omega)
  rw [Int.toNat_of_nonneg hw.1] at g1
  refine ⟨if_neg (by omega), ?_, by rw [hb, g1, wrap_wrap hr]⟩
  rw [takeB, if_neg (by omega), if_neg (by omega), if_neg (by omega), hb, g1, g2, decide_eq_true rfl, Bool.true_and]
  obtain ⟨h1, h2⟩ := hr
  apply decide_eq_decide.2
  rw [w64]
  omega
theorem step_copy {r h : Rq} (hr : okRq r) {t : Int} (ht : 1 ≤ t ∧ t ≤ 11) : takeB (preR r h t) t (bytesR r t) = okT r t ∧ (okT r t = true → takeR (preR r h t) t (bytesR r t) = copyT r h t) := by
  rcases (by omega : t = 1 ∨ t = 2 ∨ t = 3 ∨ t = 4 ∨ t = 5 ∨ t = 6 ∨ t = 7 ∨ t = 8 ∨ t = 9 ∨ t = 10 ∨ t = 11) with rfl | rfl | rfl | rfl | rfl | rfl | rfl | rfl | rfl | rfl | rfl
  · have hw := hr.what
    obtain ⟨g1, g2⟩ := lastN_f2 (x := r.what.toNat) (by omega)
    rw [Int.toNat_of_nonneg hw.1] at g1
    have hb : bytesR r 1 = formN r.what.toNat := rfl
    refine ⟨?_, fun _ => rfl⟩
    have hp : preR r h 1 = { h with what := r.what } := rfl
    rw [hp, hb, takeB, if_neg (by decide), if_pos rfl, g1, g2]
    simp [okT]
  · refine ⟨rfl, fun _ => ?_⟩
    show { h with name := strB (strL r.name) } = { h with name := r.name }
    rw [strB_strL]
  · obtain ⟨g1, g2, g3⟩ := step_num (h := h) hr.p3 (t := 3) (by omega) rfl
    exact ⟨by rw [g1, g2]; simp [okT]; rfl, fun _ => by rw [g1]; show { h with p3 := _ } = { h with p3 := _ }; rw [g3]⟩
  · obtain ⟨g1, g2, g3⟩ := step_num (h := h) hr.p4 (t := 4) (by omega) rfl
    exact ⟨by rw [g1, g2]; simp [okT]; rfl, fun _ => by rw [g1]; show { h with p4 := _ } = { h with p4 := _ }; rw [g3]⟩
  · obtain ⟨g1, g2, g3⟩ := step_num (h := h) hr.p5 (t := 5) (by omega) rfl
    exact ⟨by rw [g1, g2]; simp [okT]; rfl, fun _ => by rw [g1]; show { h with p5 := _ } = { h with p5 := _ }; rw [g3]⟩
  · obtain ⟨g1, g2, g3⟩ := step_num (h := h) hr.p6 (t := 6) (by omega) rfl
    exact ⟨by rw [g1, g2]; simp [okT]; rfl, fun _ => by rw [g1]; show { h with p6 := _ } = { h with p6 := _ }; rw [g3]⟩
  · obtain ⟨g1, g2, g3⟩ := step_num (h := h) hr.p7 (t := 7) (by omega) rfl
    exact ⟨by rw [g1, g2]; simp [okT]; rfl, fun _ => by rw [g1]; show { h with p7 := _ } = { h with p7 := _ }; rw [g3]⟩
  · obtain ⟨g1, g2, g3⟩ := step_num (h := h) hr.p8 (t := 8) (by omega) rfl
    exact ⟨by rw [g1, g2]; simp [okT]; rfl, fun _ => by rw [g1]; show { h with p8 := _ } = { h with p8 := _ }; rw [g3]⟩
  · obtain ⟨g1, g2, g3⟩ := step_num (h := h) hr.p9 (t := 9) (by omega) rfl
    exact ⟨by rw [g1, g2]; simp [okT]; rfl, fun _ => by rw [g1]; show { h with p9 := _ } = { h with p9 := _ }; rw [g3]⟩
  · have hv := foldZ_range hr.val
    obtain ⟨g1, g2⟩ := lastN_f2 (x := (foldZ r.val).toNat) (by omega)
    rw [Int.toNat_of_nonneg hv.1] at g1
    have hb : bytesR r 10 = formN (foldZ r.val).toNat := rfl
    have hp : preR r h 10 = h := rfl
    refine ⟨?_, fun _ => ?_⟩
    · rw [hp, hb, takeB, if_neg (by decide), if_neg (by decide), if_pos rfl, g2]
      simp [okT]
    · rw [hp, hb]
      show { h with val := unfoldZ (lastN (formN (foldZ r.val).toNat)).1 } = { h with val := r.val }
      rw [g1, unfold_fold hr.val]
  · exact ⟨rfl, fun _ => rfl⟩
theorem runR_copy {r : Rq} (hr : okRq r) : ∀ (l : List Int) (h : Rq), (∀ t ∈ l, 1 ≤ t ∧ t ≤ 11) → (runR r h l).2 = l.all (okT r) ∧ (l.all (okT r) = true → (runR r h l).1 = l.foldl (copyT r) h)
  | [], h, _ => ⟨rfl, fun _ => rfl⟩
  | t :: l, h, ht => by
    obtain ⟨g1, g2⟩ := step_copy (h := h) hr (ht t (by simp))
    rw [runR, g1]
    cases ho : okT r t with
    | false => simp [ho]
    | true =>
      obtain ⟨q1, q2⟩ := runR_copy hr l (copyT r h t) fun s hs => ht s (by simp [hs])
      rw [if_pos rfl, g2 ho]
      simp only [List.all_cons, ho, Bool.true_and, List.foldl_cons]
      exact ⟨q1, q2⟩
/-- A request is right (as the document says it). -/
def rightS (r : Rq) : Bool := match tagL r.kind r.what with
  | none => false
  | some l => decide (r.name.size ≤ 255) && (decide (r.fed.length ≤ 15000) && (l.all (okT r) && sameR (l.foldl (copyT r) (had0 r)) r))
theorem right_eq {r : Rq} (hr : okRq r) : rightR r = rightS r := by
  unfold rightR rightS
  cases hq : tagL r.kind r.what with
  | none => rfl
  | some l =>
    obtain ⟨q1, q2⟩ := runR_copy hr l (had0 r) (tagL_ok hq).1
    simp only
    rw [q1]
    cases ha : l.all (okT r) with
    | false => rfl
    | true => rw [q2 ha]

def namesL : List ByteArray := [⟨#[]⟩, ⟨#[99, 114, 101, 97, 116, 101]⟩, ⟨#[111, 112, 101, 110]⟩, ⟨#[103, 114, 97, 110, 116]⟩, ⟨#[114, 101, 118, 111, 107, 101]⟩, ⟨#[115, 117, 98, 109, 105, 116]⟩, ⟨#[115, 116, 101, 112]⟩, ⟨#[113, 117, 101, 114, 121]⟩, ⟨#[99, 97, 110, 99, 101, 108]⟩, ⟨#[100, 101, 115, 116, 114, 111, 121]⟩]
def asksL : List ByteArray := [⟨#[]⟩, ⟨#[115, 116, 97, 116, 117, 115]⟩, ⟨#[99, 101, 108, 108, 115]⟩, ⟨#[101, 118, 101, 110, 116, 115]⟩, ⟨#[112, 111, 114, 116, 115]⟩, ⟨#[104, 97, 110, 100, 108, 101, 115]⟩]
def nameS (k : Int) : ByteArray := (namesL[k.toNat]?).getD ⟨#[]⟩
def askS (k : Int) : ByteArray := (asksL[k.toNat]?).getD ⟨#[]⟩
theorem ct27 (k : Int) (hk : 0 ≤ k ∧ k ≤ 255) (I : Mem) : Ct Tryz.prog (fnv 27) #[.int .u8 k] I (fun v I' => v = .string (nameS k)) := by
  refine viaR (ct_via (A := { calls := [(10, .sym)] }) Tryz.func27 rfl Tryz.call27 rfl rfl) (Wr .i64 k fun c => Br (decide (10 ≤ c)) (Value.string ⟨#[]⟩ = .string (nameS k)) (0 ≤ k ∧ k < 10 ∧ ∃ q, [Value.string ⟨#[]⟩, .string ⟨#[99, 114, 101, 97, 116, 101]⟩, .string ⟨#[111, 112, 101, 110]⟩, .string ⟨#[103, 114, 97, 110, 116]⟩, .string ⟨#[114, 101, 118, 111, 107, 101]⟩, .string ⟨#[115, 117, 98, 109, 105, 116]⟩, .string ⟨#[115, 116, 101, 112]⟩, .string ⟨#[113, 117, 101, 114, 121]⟩, .string ⟨#[99, 97, 110, 99, 101, 108]⟩, .string ⟨#[100, 101, 115, 116, 114, 111, 121]⟩][0 + k.toNat * 1 + 0]? = some (.string q) ∧ Value.string q = .string (nameS k))) (by kernel_rfl) ?_
  refine wr_i64 (by omega) (by omega) (Br.mk (fun h => ?_) (fun h => ?_))
  · have h := of_decide_eq_true h
    have : nameS k = ⟨#[]⟩ := by rw [nameS, List.getElem?_eq_none (by simp [namesL]; omega)]; rfl
    rw [this]
  · have h := of_decide_eq_false h
    rcases (by omega : k = 0 ∨ k = 1 ∨ k = 2 ∨ k = 3 ∨ k = 4 ∨ k = 5 ∨ k = 6 ∨ k = 7 ∨ k = 8 ∨ k = 9) with rfl | rfl | rfl | rfl | rfl | rfl | rfl | rfl | rfl | rfl
    all_goals exact ⟨by omega, by omega, _, rfl, rfl⟩
theorem ct53 (k : Int) (hk : 0 ≤ k ∧ k ≤ 255) (I : Mem) : Ct Tryz.prog (fnv 53) #[.int .u8 k] I (fun v I' => v = .string (askS k)) := by
  refine viaR (ct_via (A := { calls := [(10, .sym)] }) Tryz.func53 rfl Tryz.call53 rfl rfl) (Wr .i64 k fun c => Br (decide (6 ≤ c)) (Value.string ⟨#[]⟩ = .string (askS k)) (0 ≤ k ∧ k < 6 ∧ ∃ q, [Value.string ⟨#[]⟩, .string ⟨#[115, 116, 97, 116, 117, 115]⟩, .string ⟨#[99, 101, 108, 108, 115]⟩, .string ⟨#[101, 118, 101, 110, 116, 115]⟩, .string ⟨#[112, 111, 114, 116, 115]⟩, .string ⟨#[104, 97, 110, 100, 108, 101, 115]⟩][0 + k.toNat * 1 + 0]? = some (.string q) ∧ Value.string q = .string (askS k))) (by kernel_rfl) ?_
  refine wr_i64 (by omega) (by omega) (Br.mk (fun h => ?_) (fun h => ?_))
  · have h := of_decide_eq_true h
    have : askS k = ⟨#[]⟩ := by rw [askS, List.getElem?_eq_none (by simp [asksL]; omega)]; rfl
    rw [this]
  · have h := of_decide_eq_false h
    rcases (by omega : k = 0 ∨ k = 1 ∨ k = 2 ∨ k = 3 ∨ k = 4 ∨ k = 5) with rfl | rfl | rfl | rfl | rfl | rfl
    all_goals exact ⟨by omega, by omega, _, rfl, rfl⟩

structure Sm where
  kind : Int
  name : ByteArray
  a : Int
  b : Int
  c : Int
  val : Int
structure okSm (x : Sm) : Prop where
  kind : 0 ≤ x.kind ∧ x.kind ≤ 255
  name : x.name.size ≤ maxLen
  a : 0 ≤ x.a ∧ x.a ≤ 4294967295
  b : 0 ≤ x.b ∧ x.b ≤ 4294967295
  c : 0 ≤ x.c ∧ x.c ≤ 4294967295
  val : i64R x.val
def smV (x : Sm) : List Value := [.int .u8 x.kind, .string x.name, .int .u32 x.a, .int .u32 x.b, .int .u32 x.c, .int .i64 x.val]
def cutN (x : Sm) : ByteArray := x.name.extract 0 (imin x.name.size 100).toNat
def madeK (k w : Int) (x : Sm) : Rq :=
  if k = 1 then { zeroRq with kind := 1, fed := strL (cutN x) } else if k = 2 then { zeroRq with kind := 2, name := cutN x, p3 := x.a } else if k = 3 then { zeroRq with kind := 3, p4 := x.a, p5 := x.b, p6 := x.c }
  else if k = 4 then { zeroRq with kind := 4, p4 := x.a } else if k = 5 then { zeroRq with kind := 5, p4 := x.a, p7 := x.b, val := x.val } else if k = 6 then { zeroRq with kind := 6, p7 := x.a }
  else if k = 7 then (if w = 2 then { zeroRq with kind := 7, what := 2, p4 := x.a } else if w = 5 then { zeroRq with kind := 7, what := 5, p4 := x.a } else if w = 3 then { zeroRq with kind := 7, what := 3, p7 := x.a, p8 := x.b, p9 := x.c } else if w = 4 then { zeroRq with kind := 7, what := 4, name := cutN x } else { zeroRq with kind := 7, what := w })
  else if k = 8 then { zeroRq with kind := 8, p8 := x.a, p9 := x.b } else { zeroRq with kind := k }
def madeR (x : Sm) : Rq := madeK (1 + x.kind % 9) (1 + x.kind / 9 % 5) x
theorem ct19 (x : Sm) (hx : okSm x) (I : Mem) : Ct Tryz.prog (fnv 19) #[.agg (smV x).toArray] I (fun v I' => ∃ y, v = .agg (rqV (madeR x) y).toArray ∧ BySl I' y (madeR x).fed) := by
  refine viaR (ct_via (A := { }) Tryz.func19 rfl Tryz.call19 rfl rfl) ((9 : Int) ≠ 0 ∧ Wr .u8 (1 + x.kind.tmod 9) fun c => 0 ≤ (bif false then imax (x.name.size : Int) 100 else imin (x.name.size : Int) 100) ∧ (bif false then imax (x.name.size : Int) 100 else imin (x.name.size : Int) 100) ≤ (x.name.size : Int) ∧ Wr .i64 x.a fun a => Wr .i64 x.b fun b => Wr .i64 x.c fun d => Br (c == 1) ((x.name.extract 0 (bif false then imax (x.name.size : Int) 100 else imin (x.name.size : Int) 100).toNat).size ≤ 4611686018427387904 ∧ ∀ (e : Option Addr) (f : Nat) (g : Mem), I.le g → e.isSome = true → (x.name.extract 0 (bif false then imax (x.name.size : Int) 100 else imin (x.name.size : Int) 100).toNat).size ≤ f → f ≤ 9223372036854775807 → (∀ (j : Nat) (h : UInt8), (x.name.extract 0 (bif false then imax (x.name.size : Int) 100 else imin (x.name.size : Int) 100).toNat).data.toList[j]? = some h → atI g e j = some (.int .u8 (h.toNat : Int))) → ∃ y, Value.agg #[.int .u8 c, .int .u8 0, .string ⟨#[]⟩, .int .i64 0, .int .i64 0, .int .i64 0, .int .i64 0, .int .i64 0, .int .i64 0, .int .i64 0, .int .i64 0, .slice e (x.name.extract 0 (bif false then imax (x.name.size : Int) 100 else imin (x.name.size : Int) 100).toNat).size f] = .agg #[.int .u8 (madeR x).kind, .int .u8 (madeR x).what, .string (madeR x).name, .int .i64 (madeR x).p3, .int .i64 (madeR x).p4, .int .i64 (madeR x).p5, .int .i64 (madeR x).p6, .int .i64 (madeR x).p7, .int .i64 (madeR x).p8, .int .i64 (madeR x).p9, .int .i64 (madeR x).val, y] ∧ ∃ h m i, y = .slice h m i ∧ SlM g h m 1 (List.map (Value.int .u8) (madeR x).fed) ∧ m ≤ i ∧ i ≤ 9223372036854775807) (Br (c == 2) (∃ y, Value.agg #[.int .u8 c, .int .u8 0, .string (x.name.extract 0 (bif false then imax (x.name.size : Int) 100 else imin (x.name.size : Int) 100).toNat), .int .i64 a, .int .i64 0, .int .i64 0, .int .i64 0, .int .i64 0, .int .i64 0, .int .i64 0, .int .i64 0, .slice none 0 0] = .agg #[.int .u8 (madeR x).kind, .int .u8 (madeR x).what, .string (madeR x).name, .int .i64 (madeR x).p3, .int .i64 (madeR x).p4, .int .i64 (madeR x).p5, .int .i64 (madeR x).p6, .int .i64 (madeR x).p7, .int .i64 (madeR x).p8, .int .i64 (madeR x).p9, .int .i64 (madeR x).val, y] ∧ ∃ e m f, y = .slice e m f ∧ SlM I e m 1 (List.map (Value.int .u8) (madeR x).fed) ∧ m ≤ f ∧ f ≤ 9223372036854775807) (Br (c == 3) (∃ y, Value.agg #[.int .u8 c, .int .u8 0, .string ⟨#[]⟩, .int .i64 0, .int .i64 a, .int .i64 b, .int .i64 d, .int .i64 0, .int .i64 0, .int .i64 0, .int .i64 0, .slice none 0 0] = .agg #[.int .u8 (madeR x).kind, .int .u8 (madeR x).what, .string (madeR x).name, .int .i64 (madeR x).p3, .int .i64 (madeR x).p4, .int .i64 (madeR x).p5, .int .i64 (madeR x).p6, .int .i64 (madeR x).p7, .int .i64 (madeR x).p8, .int .i64 (madeR x).p9, .int .i64 (madeR x).val, y] ∧ ∃ e m f, y = .slice e m f ∧ SlM I e m 1 (List.map (Value.int .u8) (madeR x).fed) ∧ m ≤ f ∧ f ≤ 9223372036854775807) (Br (c == 4) (∃ y, Value.agg #[.int .u8 c, .int .u8 0, .string ⟨#[]⟩, .int .i64 0, .int .i64 a, .int .i64 0, .int .i64 0, .int .i64 0, .int .i64 0, .int .i64 0, .int .i64 0, .slice none 0 0] = .agg #[.int .u8 (madeR x).kind, .int .u8 (madeR x).what, .string (madeR x).name, .int .i64 (madeR x).p3, .int .i64 (madeR x).p4, .int .i64 (madeR x).p5, .int .i64 (madeR x).p6, .int .i64 (madeR x).p7, .int .i64 (madeR x).p8, .int .i64 (madeR x).p9, .int .i64 (madeR x).val, y] ∧ ∃ e m f, y = .slice e m f ∧ SlM I e m 1 (List.map (Value.int .u8) (madeR x).fed) ∧ m ≤ f ∧ f ≤ 9223372036854775807) (Br (c == 5) (∃ y, Value.agg #[.int .u8 c, .int .u8 0, .string ⟨#[]⟩, .int .i64 0, .int .i64 a, .int .i64 0, .int .i64 0, .int .i64 b, .int .i64 0, .int .i64 0, .int .i64 x.val, .slice none 0 0] = .agg #[.int .u8 (madeR x).kind, .int .u8 (madeR x).what, .string (madeR x).name, .int .i64 (madeR x).p3, .int .i64 (madeR x).p4, .int .i64 (madeR x).p5, .int .i64 (madeR x).p6, .int .i64 (madeR x).p7, .int .i64 (madeR x).p8, .int .i64 (madeR x).p9, .int .i64 (madeR x).val, y] ∧ ∃ e m f, y = .slice e m f ∧ SlM I e m 1 (List.map (Value.int .u8) (madeR x).fed) ∧ m ≤ f ∧ f ≤ 9223372036854775807) (Br (c == 6) (∃ y, Value.agg #[.int .u8 c, .int .u8 0, .string ⟨#[]⟩, .int .i64 0, .int .i64 0, .int .i64 0, .int .i64 0, .int .i64 a, .int .i64 0, .int .i64 0, .int .i64 0, .slice none 0 0] = .agg #[.int .u8 (madeR x).kind, .int .u8 (madeR x).what, .string (madeR x).name, .int .i64 (madeR x).p3, .int .i64 (madeR x).p4, .int .i64 (madeR x).p5, .int .i64 (madeR x).p6, .int .i64 (madeR x).p7, .int .i64 (madeR x).p8, .int .i64 (madeR x).p9, .int .i64 (madeR x).val, y] ∧ ∃ e m f, y = .slice e m f ∧ SlM I e m 1 (List.map (Value.int .u8) (madeR x).fed) ∧ m ≤ f ∧ f ≤ 9223372036854775807) (Br (c == 7) ((9 : Int) ≠ 0 ∧ Wr .u8 (x.kind.tdiv 9) fun e => (5 : Int) ≠ 0 ∧ Wr .u8 (1 + e.tmod 5) fun f => Br (f == 2) (Br (f == 2) (∃ y, Value.agg #[.int .u8 c, .int .u8 f, .string ⟨#[]⟩, .int .i64 0, .int .i64 a, .int .i64 0, .int .i64 0, .int .i64 0, .int .i64 0, .int .i64 0, .int .i64 0, .slice none 0 0] = .agg #[.int .u8 (madeR x).kind, .int .u8 (madeR x).what, .string (madeR x).name, .int .i64 (madeR x).p3, .int .i64 (madeR x).p4, .int .i64 (madeR x).p5, .int .i64 (madeR x).p6, .int .i64 (madeR x).p7, .int .i64 (madeR x).p8, .int .i64 (madeR x).p9, .int .i64 (madeR x).val, y] ∧ ∃ g m h, y = .slice g m h ∧ SlM I g m 1 (List.map (Value.int .u8) (madeR x).fed) ∧ m ≤ h ∧ h ≤ 9223372036854775807) (Br (f == 3) (∃ y, Value.agg #[.int .u8 c, .int .u8 f, .string ⟨#[]⟩, .int .i64 0, .int .i64 0, .int .i64 0, .int .i64 0, .int .i64 a, .int .i64 b, .int .i64 d, .int .i64 0, .slice none 0 0] = .agg #[.int .u8 (madeR x).kind, .int .u8 (madeR x).what, .string (madeR x).name, .int .i64 (madeR x).p3, .int .i64 (madeR x).p4, .int .i64 (madeR x).p5, .int .i64 (madeR x).p6, .int .i64 (madeR x).p7, .int .i64 (madeR x).p8, .int .i64 (madeR x).p9, .int .i64 (madeR x).val, y] ∧ ∃ g m h, y = .slice g m h ∧ SlM I g m 1 (List.map (Value.int .u8) (madeR x).fed) ∧ m ≤ h ∧ h ≤ 9223372036854775807) (Br (f == 4) (∃ y, Value.agg #[.int .u8 c, .int .u8 f, .string (x.name.extract 0 (bif false then imax (x.name.size : Int) 100 else imin (x.name.size : Int) 100).toNat), .int .i64 0, .int .i64 0, .int .i64 0, .int .i64 0, .int .i64 0, .int .i64 0, .int .i64 0, .int .i64 0, .slice none 0 0] = .agg #[.int .u8 (madeR x).kind, .int .u8 (madeR x).what, .string (madeR x).name, .int .i64 (madeR x).p3, .int .i64 (madeR x).p4, .int .i64 (madeR x).p5, .int .i64 (madeR x).p6, .int .i64 (madeR x).p7, .int .i64 (madeR x).p8, .int .i64 (madeR x).p9, .int .i64 (madeR x).val, y] ∧ ∃ g m h, y = .slice g m h ∧ SlM I g m 1 (List.map (Value.int .u8) (madeR x).fed) ∧ m ≤ h ∧ h ≤ 9223372036854775807) (∃ y, Value.agg #[.int .u8 c, .int .u8 f, .string ⟨#[]⟩, .int .i64 0, .int .i64 0, .int .i64 0, .int .i64 0, .int .i64 0, .int .i64 0, .int .i64 0, .int .i64 0, .slice none 0 0] = .agg #[.int .u8 (madeR x).kind, .int .u8 (madeR x).what, .string (madeR x).name, .int .i64 (madeR x).p3, .int .i64 (madeR x).p4, .int .i64 (madeR x).p5, .int .i64 (madeR x).p6, .int .i64 (madeR x).p7, .int .i64 (madeR x).p8, .int .i64 (madeR x).p9, .int .i64 (madeR x).val, y] ∧ ∃ g m h, y = .slice g m h ∧ SlM I g m 1 (List.map (Value.int .u8) (madeR x).fed) ∧ m ≤ h ∧ h ≤ 9223372036854775807)))) (Br (f == 5) (∃ y, Value.agg #[.int .u8 c, .int .u8 f, .string ⟨#[]⟩, .int .i64 0, .int .i64 a, .int .i64 0, .int .i64 0, .int .i64 0, .int .i64 0, .int .i64 0, .int .i64 0, .slice none 0 0] = .agg #[.int .u8 (madeR x).kind, .int .u8 (madeR x).what, .string (madeR x).name, .int .i64 (madeR x).p3, .int .i64 (madeR x).p4, .int .i64 (madeR x).p5, .int .i64 (madeR x).p6, .int .i64 (madeR x).p7, .int .i64 (madeR x).p8, .int .i64 (madeR x).p9, .int .i64 (madeR x).val, y] ∧ ∃ g m h, y = .slice g m h ∧ SlM I g m 1 (List.map (Value.int .u8) (madeR x).fed) ∧ m ≤ h ∧ h ≤ 9223372036854775807) (Br (f == 3) (∃ y, Value.agg #[.int .u8 c, .int .u8 f, .string ⟨#[]⟩, .int .i64 0, .int .i64 0, .int .i64 0, .int .i64 0, .int .i64 a, .int .i64 b, .int .i64 d, .int .i64 0, .slice none 0 0] = .agg #[.int .u8 (madeR x).kind, .int .u8 (madeR x).what, .string (madeR x).name, .int .i64 (madeR x).p3, .int .i64 (madeR x).p4, .int .i64 (madeR x).p5, .int .i64 (madeR x).p6, .int .i64 (madeR x).p7, .int .i64 (madeR x).p8, .int .i64 (madeR x).p9, .int .i64 (madeR x).val, y] ∧ ∃ g m h, y = .slice g m h ∧ SlM I g m 1 (List.map (Value.int .u8) (madeR x).fed) ∧ m ≤ h ∧ h ≤ 9223372036854775807) (Br (f == 4) (∃ y, Value.agg #[.int .u8 c, .int .u8 f, .string (x.name.extract 0 (bif false then imax (x.name.size : Int) 100 else imin (x.name.size : Int) 100).toNat), .int .i64 0, .int .i64 0, .int .i64 0, .int .i64 0, .int .i64 0, .int .i64 0, .int .i64 0, .int .i64 0, .slice none 0 0] = .agg #[.int .u8 (madeR x).kind, .int .u8 (madeR x).what, .string (madeR x).name, .int .i64 (madeR x).p3, .int .i64 (madeR x).p4, .int .i64 (madeR x).p5, .int .i64 (madeR x).p6, .int .i64 (madeR x).p7, .int .i64 (madeR x).p8, .int .i64 (madeR x).p9, .int .i64 (madeR x).val, y] ∧ ∃ g m h, y = .slice g m h ∧ SlM I g m 1 (List.map (Value.int .u8) (madeR x).fed) ∧ m ≤ h ∧ h ≤ 9223372036854775807) (∃ y, Value.agg #[.int .u8 c, .int .u8 f, .string ⟨#[]⟩, .int .i64 0, .int .i64 0, .int .i64 0, .int .i64 0, .int .i64 0, .int .i64 0, .int .i64 0, .int .i64 0, .slice none 0 0] = .agg #[.int .u8 (madeR x).kind, .int .u8 (madeR x).what, .string (madeR x).name, .int .i64 (madeR x).p3, .int .i64 (madeR x).p4, .int .i64 (madeR x).p5, .int .i64 (madeR x).p6, .int .i64 (madeR x).p7, .int .i64 (madeR x).p8, .int .i64 (madeR x).p9, .int .i64 (madeR x).val, y] ∧ ∃ g m h, y = .slice g m h ∧ SlM I g m 1 (List.map (Value.int .u8) (madeR x).fed) ∧ m ≤ h ∧ h ≤ 9223372036854775807))))) (Br (c == 8) (∃ y, Value.agg #[.int .u8 c, .int .u8 0, .string ⟨#[]⟩, .int .i64 0, .int .i64 0, .int .i64 0, .int .i64 0, .int .i64 0, .int .i64 a, .int .i64 b, .int .i64 0, .slice none 0 0] = .agg #[.int .u8 (madeR x).kind, .int .u8 (madeR x).what, .string (madeR x).name, .int .i64 (madeR x).p3, .int .i64 (madeR x).p4, .int .i64 (madeR x).p5, .int .i64 (madeR x).p6, .int .i64 (madeR x).p7, .int .i64 (madeR x).p8, .int .i64 (madeR x).p9, .int .i64 (madeR x).val, y] ∧ ∃ e m f, y = .slice e m f ∧ SlM I e m 1 (List.map (Value.int .u8) (madeR x).fed) ∧ m ≤ f ∧ f ≤ 9223372036854775807) (∃ y, Value.agg #[.int .u8 c, .int .u8 0, .string ⟨#[]⟩, .int .i64 0, .int .i64 0, .int .i64 0, .int .i64 0, .int .i64 0, .int .i64 0, .int .i64 0, .int .i64 0, .slice none 0 0] = .agg #[.int .u8 (madeR x).kind, .int .u8 (madeR x).what, .string (madeR x).name, .int .i64 (madeR x).p3, .int .i64 (madeR x).p4, .int .i64 (madeR x).p5, .int .i64 (madeR x).p6, .int .i64 (madeR x).p7, .int .i64 (madeR x).p8, .int .i64 (madeR x).p9, .int .i64 (madeR x).val, y] ∧ ∃ e m f, y = .slice e m f ∧ SlM I e m 1 (List.map (Value.int .u8) (madeR x).fed) ∧ m ≤ f ∧ f ≤ 9223372036854775807))))))))) (by kernel_rfl) ?_
  have hmx : maxLen = 9223372036854775807 := by decide
  have hk := hx.kind
  have ha := hx.a
  have hb := hx.b
  have hc := hx.c
  have hsz := hx.name
  have t1 : x.kind.tmod 9 = x.kind % 9 := Int.tmod_eq_emod_of_nonneg hk.1
  have t2 : x.kind.tdiv 9 = x.kind / 9 := Int.tdiv_eq_ediv_of_nonneg hk.1
  have t3 : (x.kind / 9).tmod 5 = x.kind / 9 % 5 := Int.tmod_eq_emod_of_nonneg (by omega)
  have hmin : 0 ≤ imin (x.name.size : Int) 100 ∧ imin (x.name.size : Int) 100 ≤ x.name.size ∧ imin (x.name.size : Int) 100 ≤ 100 := by
    unfold imin
    split <;> omega
  simp only [cond_false, t1, t2]
  have hcut : (cutN x).size ≤ 100 := by
    unfold cutN
    rw [ByteArray.size_extract]
    omega
  have hm0 : madeR x = madeK (1 + x.kind % 9) (1 + x.kind / 9 % 5) x := rfl
  rw [hm0]
  refine ⟨by omega, _, IntWalk.u8_in _ ⟨by omega, by omega⟩, hmin.1, hmin.2.1, wr_i64 (by omega) (by omega) (wr_i64 (by omega) (by omega) (wr_i64 (by omega) (by omega) ?_))⟩
  have hKr : 1 ≤ 1 + x.kind % 9 ∧ 1 + x.kind % 9 ≤ 9 := by omega
  have hWr : 1 ≤ 1 + x.kind / 9 % 5 ∧ 1 + x.kind / 9 % 5 ≤ 5 := by omega
  refine Br.mk (fun h => ?_) (fun h1 => Br.mk (fun h => ?_) (fun h2 => Br.mk (fun h => ?_) (fun h3 => Br.mk (fun h => ?_) (fun h4 => Br.mk (fun h => ?_) (fun h5 => Br.mk (fun h => ?_) (fun h6 => Br.mk (fun h => ?_) (fun h7 => Br.mk (fun h => ?_) (fun h8 => ?_))))))))
  · rw [eqv h]
    refine ⟨by have := hcut; unfold cutN at this; omega, fun a cp I1 l1 hs hq hcp hat => ⟨_, rfl, ⟨_, _, _, rfl, str_sl hs (by have := hcut; unfold cutN at this; omega) hat, hq, hcp⟩⟩⟩
  · rw [eqv h]
    exact ⟨_, rfl, ⟨none, 0, 0, rfl, sl_nil _ _, by omega, by omega⟩⟩
  · rw [eqv h]
    exact ⟨_, rfl, ⟨none, 0, 0, rfl, sl_nil _ _, by omega, by omega⟩⟩
  · rw [eqv h]
    exact ⟨_, rfl, ⟨none, 0, 0, rfl, sl_nil _ _, by omega, by omega⟩⟩
  · rw [eqv h]
    exact ⟨_, rfl, ⟨none, 0, 0, rfl, sl_nil _ _, by omega, by omega⟩⟩
  · rw [eqv h]
    exact ⟨_, rfl, ⟨none, 0, 0, rfl, sl_nil _ _, by omega, by omega⟩⟩
  · rw [eqv h]
    refine ⟨by omega, _, IntWalk.u8_in _ ⟨by omega, by omega⟩, by omega, ?_⟩
    rw [t3]
    refine ⟨_, IntWalk.u8_in _ ⟨by omega, by omega⟩, ?_⟩
    generalize 1 + x.kind / 9 % 5 = W at hWr ⊢
    refine Br.mk (fun g => Br.mk (fun _ => ?_) (fun g2 => absurd g (by rw [g2]; decide))) (fun g2 => Br.mk (fun g => ?_) (fun g5 => Br.mk (fun g => ?_) (fun g3 => Br.mk (fun g => ?_) (fun g4 => ?_))))
    · rw [eqv g]
      exact ⟨_, rfl, ⟨none, 0, 0, rfl, sl_nil _ _, by omega, by omega⟩⟩
    · rw [eqv g]
      exact ⟨_, rfl, ⟨none, 0, 0, rfl, sl_nil _ _, by omega, by omega⟩⟩
    · rw [eqv g]
      exact ⟨_, rfl, ⟨none, 0, 0, rfl, sl_nil _ _, by omega, by omega⟩⟩
    · rw [eqv g]
      exact ⟨_, rfl, ⟨none, 0, 0, rfl, sl_nil _ _, by omega, by omega⟩⟩
    · have n2 := nev g2
      have n3 := nev g3
      have n4 := nev g4
      have n5 := nev g5
      obtain rfl : W = 1 := by omega
      exact ⟨_, rfl, ⟨none, 0, 0, rfl, sl_nil _ _, by omega, by omega⟩⟩
  · rw [eqv h]
    exact ⟨_, rfl, ⟨none, 0, 0, rfl, sl_nil _ _, by omega, by omega⟩⟩
  · have n1 := nev h1
    have n2 := nev h2
    have n3 := nev h3
    have n4 := nev h4
    have n5 := nev h5
    have n6 := nev h6
    have n7 := nev h7
    have n8 := nev h8
    rw [show 1 + x.kind % 9 = 9 by omega]
    exact ⟨_, rfl, ⟨none, 0, 0, rfl, sl_nil _ _, by omega, by omega⟩⟩

theorem cut_size (x : Sm) : (cutN x).size ≤ 100 := by
  unfold cutN imin
  rw [ByteArray.size_extract]
  split <;> omega
theorem strL_len (s : ByteArray) : (strL s).length = s.size := by simp [strL]
theorem strL_byte (s : ByteArray) : byteL (strL s) := fun z hz => by
  simp only [strL, List.mem_map] at hz
  obtain ⟨b, _, rfl⟩ := hz
  have := b.toNat_lt
  omega
theorem made_okRq (x : Sm) (hx : okSm x) (W K : Int) (hW : 1 ≤ W ∧ W ≤ 5) (hK : 1 ≤ K ∧ K ≤ 9) : okRq (madeK K W x) ∧ (madeK K W x).name.size ≤ 100 ∧ (madeK K W x).fed.length ≤ 100 := by
  have ha : i64R x.a := by have := hx.a; unfold i64R; omega
  have hb : i64R x.b := by have := hx.b; unfold i64R; omega
  have hc : i64R x.c := by have := hx.c; unfold i64R; omega
  have hv := hx.val
  have h0 : i64R 0 := by unfold i64R; omega
  have hcut := cut_size x
  have hl := strL_len (cutN x)
  have hby := strL_byte (cutN x)
  have hnil : byteL [] := fun z hz => by cases hz
  have u0 : (0 : Int) ≤ 0 ∧ (0 : Int) ≤ 255 := by omega
  have u1 : (0 : Int) ≤ 1 ∧ (1 : Int) ≤ 255 := by omega
  have u2 : (0 : Int) ≤ 2 ∧ (2 : Int) ≤ 255 := by omega
  have u3 : (0 : Int) ≤ 3 ∧ (3 : Int) ≤ 255 := by omega
  have u4 : (0 : Int) ≤ 4 ∧ (4 : Int) ≤ 255 := by omega
  have u5 : (0 : Int) ≤ 5 ∧ (5 : Int) ≤ 255 := by omega
  have u6 : (0 : Int) ≤ 6 ∧ (6 : Int) ≤ 255 := by omega
  have u7 : (0 : Int) ≤ 7 ∧ (7 : Int) ≤ 255 := by omega
  have u8 : (0 : Int) ≤ 8 ∧ (8 : Int) ≤ 255 := by omega
  have u9 : (0 : Int) ≤ 9 ∧ (9 : Int) ≤ 255 := by omega
  have z0 : (⟨#[]⟩ : ByteArray).size ≤ 100 := by decide
  have f0 : ([] : List Int).length ≤ 100 := by decide
  have f1 : (strL (cutN x)).length ≤ 100 := by omega
  rcases (by omega : K = 1 ∨ K = 2 ∨ K = 3 ∨ K = 4 ∨ K = 5 ∨ K = 6 ∨ K = 7 ∨ K = 8 ∨ K = 9) with rfl | rfl | rfl | rfl | rfl | rfl | rfl | rfl | rfl
  · exact ⟨⟨u1, u0, h0, h0, h0, h0, h0, h0, h0, h0, hby⟩, z0, f1⟩
  · exact ⟨⟨u2, u0, ha, h0, h0, h0, h0, h0, h0, h0, hnil⟩, hcut, f0⟩
  · exact ⟨⟨u3, u0, h0, ha, hb, hc, h0, h0, h0, h0, hnil⟩, z0, f0⟩
  · exact ⟨⟨u4, u0, h0, ha, h0, h0, h0, h0, h0, h0, hnil⟩, z0, f0⟩
  · exact ⟨⟨u5, u0, h0, ha, h0, h0, hb, h0, h0, hv, hnil⟩, z0, f0⟩
  · exact ⟨⟨u6, u0, h0, h0, h0, h0, ha, h0, h0, h0, hnil⟩, z0, f0⟩
  · rcases (by omega : W = 1 ∨ W = 2 ∨ W = 3 ∨ W = 4 ∨ W = 5) with rfl | rfl | rfl | rfl | rfl
    · exact ⟨⟨u7, u1, h0, h0, h0, h0, h0, h0, h0, h0, hnil⟩, z0, f0⟩
    · exact ⟨⟨u7, u2, h0, ha, h0, h0, h0, h0, h0, h0, hnil⟩, z0, f0⟩
    · exact ⟨⟨u7, u3, h0, h0, h0, h0, ha, hb, hc, h0, hnil⟩, z0, f0⟩
    · exact ⟨⟨u7, u4, h0, h0, h0, h0, h0, h0, h0, h0, hnil⟩, hcut, f0⟩
    · exact ⟨⟨u7, u5, h0, ha, h0, h0, h0, h0, h0, h0, hnil⟩, z0, f0⟩
  · exact ⟨⟨u8, u0, h0, h0, h0, h0, h0, ha, hb, h0, hnil⟩, z0, f0⟩
  · exact ⟨⟨u9, u0, h0, h0, h0, h0, h0, h0, h0, h0, hnil⟩, z0, f0⟩
theorem rightS_of {r : Rq} {l : List Int} (ht : tagL r.kind r.what = some l) (h1 : r.name.size ≤ 255) (h2 : r.fed.length ≤ 15000) (h3 : l.all (okT r) = true) (h4 : l.foldl (copyT r) (had0 r) = r) : rightS r = true := by
  rw [rightS, ht]
  simp only
  rw [h3, h4, decide_eq_true h1, decide_eq_true h2]
  simp [sameR]
theorem made_rightS (x : Sm) (hx : okSm x) (W K : Int) (hW : 1 ≤ W ∧ W ≤ 5) (hK : 1 ≤ K ∧ K ≤ 9) (hs : (madeK K W x).name.size ≤ 100 ∧ (madeK K W x).fed.length ≤ 100) : rightS (madeK K W x) = true := by
  have a0 := hx.a.1
  have b0 := hx.b.1
  have c0 := hx.c.1
  have s1 : (madeK K W x).name.size ≤ 255 := by omega
  have s2 : (madeK K W x).fed.length ≤ 15000 := by omega
  rcases (by omega : K = 1 ∨ K = 2 ∨ K = 3 ∨ K = 4 ∨ K = 5 ∨ K = 6 ∨ K = 7 ∨ K = 8 ∨ K = 9) with rfl | rfl | rfl | rfl | rfl | rfl | rfl | rfl | rfl
  · exact rightS_of (l := [11]) rfl s1 s2 (by simp [okT, numR, madeK, zeroRq]; try omega) rfl
  · exact rightS_of (l := [2, 3]) rfl s1 s2 (by simp [okT, numR, madeK, zeroRq]; try omega) rfl
  · exact rightS_of (l := [4, 5, 6]) rfl s1 s2 (by simp [okT, numR, madeK, zeroRq]; try omega) rfl
  · exact rightS_of (l := [4]) rfl s1 s2 (by simp [okT, numR, madeK, zeroRq]; try omega) rfl
  · exact rightS_of (l := [4, 7, 10]) rfl s1 s2 (by simp [okT, numR, madeK, zeroRq]; try omega) rfl
  · exact rightS_of (l := [7]) rfl s1 s2 (by simp [okT, numR, madeK, zeroRq]; try omega) rfl
  · rcases (by omega : W = 1 ∨ W = 2 ∨ W = 3 ∨ W = 4 ∨ W = 5) with rfl | rfl | rfl | rfl | rfl
    · exact rightS_of (l := [1]) rfl s1 s2 (by simp [okT, numR, madeK, zeroRq]; try omega) rfl
    · exact rightS_of (l := [1, 4]) rfl s1 s2 (by simp [okT, numR, madeK, zeroRq]; try omega) rfl
    · exact rightS_of (l := [1, 7, 8, 9]) rfl s1 s2 (by simp [okT, numR, madeK, zeroRq]; try omega) rfl
    · exact rightS_of (l := [1, 2]) rfl s1 s2 (by simp [okT, numR, madeK, zeroRq]; try omega) rfl
    · exact rightS_of (l := [1, 4]) rfl s1 s2 (by simp [okT, numR, madeK, zeroRq]; try omega) rfl
  · exact rightS_of (l := [8, 9]) rfl s1 s2 (by simp [okT, numR, madeK, zeroRq]; try omega) rfl
  · exact rightS_of (l := []) rfl s1 s2 (by simp [okT, numR, madeK, zeroRq]; try omega) rfl
theorem made_shape (x : Sm) (hx : okSm x) : okRq (madeR x) ∧ (madeR x).name.size ≤ 100 ∧ (madeR x).fed.length ≤ 100 ∧ rightR (madeR x) = true := by
  have hk := hx.kind
  obtain ⟨h1, h2, h3⟩ := made_okRq x hx (1 + x.kind / 9 % 5) (1 + x.kind % 9) (by omega) (by omega)
  exact ⟨h1, h2, h3, (right_eq h1).trans (made_rightS x hx _ _ (by omega) (by omega) ⟨h2, h3⟩)⟩
open Go Go.Proofs Go.SE Go.RowKit
set_option linter.unusedVariables false
set_option maxRecDepth 100000
theorem same_iff {r q : Rq} : sameR r q = true ↔ r = q := by
  constructor
  · intro h
    have h := of_decide_eq_true h
    cases r; cases q
    simp only at h
    obtain ⟨rfl, rfl, rfl, rfl, rfl, rfl, rfl, rfl, rfl, rfl, rfl, rfl⟩ := h
    rfl
  · rintro rfl
    simp [sameR]
theorem same_dec (r q : Rq) [Decidable (r = q)] : sameR r q = decide (r = q) := by
  by_cases h : r = q
  · rw [decide_eq_true h]; exact same_iff.2 h
  · rw [decide_eq_false h]
    cases hs : sameR r q with
    | false => rfl
    | true => exact absurd (same_iff.1 hs) h
/-- What a right request is made of. -/
theorem right_run {r : Rq} (hr : okRq r) (h : rightR r = true) : (tagsR r).all (okT r) = true ∧ (tagsR r).foldl (copyT r) (had0 r) = r := by
  have ht := (right_tag h).1
  rw [right_eq hr, rightS, ht] at h
  simp only [Bool.and_eq_true] at h
  exact ⟨h.2.2.1, same_iff.1 h.2.2.2⟩
theorem tag_seven {k w : Int} {l : List Int} (h : tagL k w = some l) : (k = 7 ∧ ∃ m, askL w = some m ∧ l = 1 :: m) ∨ (k ≠ 7 ∧ (∀ t ∈ l, t ≠ 1) ∧ ∀ w', tagL k w' = some l) := by
  by_cases h7 : k = 7
  · subst h7
    have : (askL w).map (1 :: ·) = some l := h
    cases hq : askL w with
    | none => rw [hq] at this; cases this
    | some m =>
      rw [hq] at this
      cases this
      exact .inl ⟨rfl, m, rfl, rfl⟩
  · refine .inr ⟨h7, ?_, fun w' => ?_⟩
    · unfold tagL at h
      rw [if_neg h7] at h
      repeat' split at h
      all_goals first | (cases h; simp; done) | (cases h; done)
    · unfold tagL at h ⊢
      rw [if_neg h7] at h ⊢
      exact h
theorem fold_what (r : Rq) : ∀ (l : List Int) (h : Rq), (∀ t ∈ l, t ≠ 1) → (l.foldl (copyT r) h).what = h.what
  | [], h, _ => rfl
  | t :: l, h, ht => by
    rw [List.foldl_cons, fold_what r l _ fun s hs => ht s (by simp [hs])]
    have h1 := ht t (by simp)
    unfold copyT
    rw [if_neg h1]
    repeat' split
    all_goals rfl
def setW (h : Rq) (w : Int) : Rq := { h with what := w }
theorem copy_what (r h : Rq) (t : Int) : copyT r (setW h r.what) t = setW (copyT r h t) r.what := by
  unfold copyT
  by_cases h1 : t = 1
  · rw [if_pos h1, if_pos h1]; rfl
  rw [if_neg h1, if_neg h1]
  by_cases h2 : t = 2
  · rw [if_pos h2, if_pos h2]; rfl
  rw [if_neg h2, if_neg h2]
  by_cases h3 : t = 3
  · rw [if_pos h3, if_pos h3]; rfl
  rw [if_neg h3, if_neg h3]
  by_cases h4 : t = 4
  · rw [if_pos h4, if_pos h4]; rfl
  rw [if_neg h4, if_neg h4]
  by_cases h5 : t = 5
  · rw [if_pos h5, if_pos h5]; rfl
  rw [if_neg h5, if_neg h5]
  by_cases h6 : t = 6
  · rw [if_pos h6, if_pos h6]; rfl
  rw [if_neg h6, if_neg h6]
  by_cases h7 : t = 7
  · rw [if_pos h7, if_pos h7]; rfl
  rw [if_neg h7, if_neg h7]
  by_cases h8 : t = 8
  · rw [if_pos h8, if_pos h8]; rfl
  rw [if_neg h8, if_neg h8]
  by_cases h9 : t = 9
  · rw [if_pos h9, if_pos h9]; rfl
  rw [if_neg h9, if_neg h9]
  by_cases h10 : t = 10
  · rw [if_pos h10, if_pos h10]; rfl
  rw [if_neg h10, if_neg h10]
  rfl
theorem fold_set (r : Rq) : ∀ (l : List Int) (h : Rq), l.foldl (copyT r) (setW h r.what) = setW (l.foldl (copyT r) h) r.what
  | [], h => rfl
  | t :: l, h => by
    rw [List.foldl_cons, copy_what, fold_set r l]; rfl
theorem try_copy {r : Rq} (hr : okRq r) : ∀ (l : List Int) (h : Rq), (∀ t ∈ l, 1 ≤ t ∧ t ≤ 11) → h.what = r.what → l.all (okT r) = true → tryT h l (fldsR r l) = (l.foldl (copyT r) h, true)
  | [], h, _, _, _ => rfl
  | t :: l, h, ht, hw, ha => by
    rw [List.all_cons, Bool.and_eq_true] at ha
    obtain ⟨g1, g2⟩ := step_copy (h := h) hr (ht t (by simp))
    have hp : preR r h t = h := by
      unfold preR
      split
      · rw [← hw]
      · rfl
    rw [hp, ha.1] at g1
    have g2 := g2 ha.1
    rw [hp] at g2
    have hf : fldsR r (t :: l) = (t, bytesR r t) :: fldsR r l := rfl
    have hcw : (copyT r h t).what = r.what := by
      unfold copyT
      repeat' split
      all_goals first | rfl | exact hw
    rw [hf, tryT, if_pos rfl, if_pos g1, g2, try_copy hr l _ (fun s hs => ht s (by simp [hs])) hcw ha.2, List.foldl_cons]
theorem flds_ok {r : Rq} (hr : okRq r) {l : List Int} (hl : ∀ t ∈ l, 1 ≤ t ∧ t ≤ 11) : ∀ f ∈ fldsR r l, okFld f := fun f hf => by
  obtain ⟨t, ht, rfl⟩ := List.mem_map.1 hf
  have := hl t ht
  exact ⟨⟨by show -9223372036854775808 ≤ t; omega, by show t ≤ 9223372036854775807; omega⟩, bytesR_ok hr t⟩
theorem write_ok {r : Rq} (hr : okRq r) (h : rightR r = true) : byteL (writeR r) := fun z hz => by
  have hk := hr.kind
  rcases List.mem_cons.1 hz with rfl | hz
  · omega
  rcases List.mem_cons.1 hz with rfl | hz
  · exact hk
  exact write_bytes (right_flds hr h) (flds_ok hr (tagL_ok (right_tag h).1).1) z hz
/-- What is written is read back. -/
theorem read_writeR {r : Rq} (hr : okRq r) (h : rightR r = true) : accB (writeR r) = true ∧ readR (writeR r) = (r, 0) := by
  obtain ⟨ha, hf⟩ := right_run hr h
  have ht := (right_tag h).1
  have hl := (tagL_ok ht).1
  have hF := right_flds hr h
  have hrd := read_write hF
  have hd : (writeR r).drop 2 = writeF (fldsR r (tagsR r)) := rfl
  have hk : kindB (writeR r) = r.kind := rfl
  have hfl : flB (writeR r) = fldsR r (tagsR r) := by rw [flB, hd, hrd]
  have hw : whatB (writeR r) = r.what := by
    rw [whatB, hk, hfl]
    rcases tag_seven ht with ⟨h7, m, hm, he⟩ | ⟨h7, hn, _⟩
    · have hwr := hr.what
      obtain ⟨g1, g2⟩ := lastN_f2 (x := r.what.toNat) (by omega)
      rw [Int.toNat_of_nonneg hwr.1] at g1
      have : fldsR r (tagsR r) = (1, formN r.what.toNat) :: fldsR r m := by rw [he]; rfl
      rw [this]
      show (if r.kind = 7 ∧ (lastN (formN r.what.toNat)).2.2 = 0 ∧ (lastN (formN r.what.toNat)).1 < 256 then (lastN (formN r.what.toNat)).1 else 0) = r.what
      rw [g1, g2, if_pos ⟨h7, rfl, by omega⟩]
    · have hw0 : r.what = 0 := by
        have := fold_what r (tagsR r) (had0 r) hn
        rw [hf] at this
        exact this
      rw [hw0]
      cases fldsR r (tagsR r) with
      | nil => rfl
      | cons f fs =>
        show (if r.kind = 7 ∧ _ then _ else _) = _
        rw [if_neg (fun hc => h7 hc.1)]
  have hst : startQ (writeR r) = setW (had0 r) r.what := by rw [startQ, hk, hw]; rfl
  have htb : tagB (writeR r) = some (tagsR r) := by rw [tagB, hk, hw, ht]
  have hrun : runB (writeR r) = (r, true) := by
    rw [runB, htb, hfl, hst, Option.getD_some, try_copy hr (tagsR r) (setW (had0 r) r.what) hl rfl ha, fold_set, hf]; rfl
  have hacc : accB (writeR r) = true := by
    rw [accB, hd, hrd, htb, hrun]
    simp only [h]
    have h1 : 2 ≤ (writeR r).length := by rw [writeR, List.length_cons, List.length_cons]; omega
    have h2 : (writeR r)[0]? = some 1 := rfl
    rw [decide_eq_true h1, decide_eq_true h2]; rfl
  exact ⟨hacc, by rw [readR, hacc, if_pos rfl, hrun]⟩
theorem strL_strB {bs : List Int} (h : byteL bs) : strL (strB bs) = bs := by
  show (u8s bs).toArray.toList.map _ = bs
  simp only [u8s, List.map_map]
  conv => rhs; rw [← List.map_id bs]
  apply List.map_congr_left
  intro z hz
  exact u8_nat (h z hz)
theorem fold_unfold {y : Int} (h : 0 ≤ y) : foldZ (unfoldZ y) = y := by
  unfold foldZ unfoldZ
  split <;> split <;> omega
theorem form_last {bs : List Int} (hb : byteL bs) (h : (lastN bs).2.2 = 0) : formN (lastN bs).1.toNat = bs ∧ 0 ≤ (lastN bs).1 := by
  rcases lastN_cases bs hb with ⟨_, h1, _, h2⟩ | ⟨_, h1⟩
  · exact ⟨h2, h1⟩
  · omega
theorem num_back {h : Rq} {t : Int} {bs : List Int} (hb : byteL bs) (ht : 3 ≤ t ∧ t ≤ 9) (ha : takeB h t bs = true) : formN (IntKind.u64.wrap (IntKind.i64.wrap (lastN bs).1)).toNat = bs := by
  rw [takeB, if_neg (by omega), if_neg (by omega), if_neg (by omega), Bool.and_eq_true, decide_eq_true_eq, decide_eq_true_eq] at ha
  obtain ⟨g1, g2⟩ := form_last hb ha.1
  have : IntKind.u64.wrap (IntKind.i64.wrap (lastN bs).1) = (lastN bs).1 := by
    rw [w64, IntKind.wrap_i64]; omega
  rw [this, g1]
theorem bytes_take {h : Rq} {t : Int} {bs : List Int} (hb : byteL bs) (ht : 1 ≤ t ∧ t ≤ 11) (ha : takeB h t bs = true) : bytesR (takeR h t bs) t = bs := by
  rcases (by omega : t = 1 ∨ t = 2 ∨ t = 3 ∨ t = 4 ∨ t = 5 ∨ t = 6 ∨ t = 7 ∨ t = 8 ∨ t = 9 ∨ t = 10 ∨ t = 11) with rfl | rfl | rfl | rfl | rfl | rfl | rfl | rfl | rfl | rfl | rfl
  · rw [takeB, if_neg (by omega), if_pos rfl, Bool.and_eq_true, decide_eq_true_eq, decide_eq_true_eq] at ha
    show formN h.what.toNat = bs
    rw [← ha.2]
    exact (form_last hb ha.1).1
  · exact strL_strB hb
  · exact num_back hb (by omega) ha
  · exact num_back hb (by omega) ha
  · exact num_back hb (by omega) ha
  · exact num_back hb (by omega) ha
  · exact num_back hb (by omega) ha
  · exact num_back hb (by omega) ha
  · exact num_back hb (by omega) ha
  · rw [takeB, if_neg (by omega), if_neg (by omega), if_pos rfl, decide_eq_true_eq] at ha
    obtain ⟨g1, g2⟩ := form_last hb ha
    show formN (foldZ (unfoldZ (lastN bs).1)).toNat = bs
    rw [fold_unfold g2, g1]
  · rfl
theorem bytes_other {h : Rq} {t s : Int} {bs : List Int} (ht : 1 ≤ t ∧ t ≤ 11) (hs : 1 ≤ s ∧ s ≤ 11) (hne : s ≠ t) : bytesR (takeR h t bs) s = bytesR h s := by
  rcases (by omega : t = 1 ∨ t = 2 ∨ t = 3 ∨ t = 4 ∨ t = 5 ∨ t = 6 ∨ t = 7 ∨ t = 8 ∨ t = 9 ∨ t = 10 ∨ t = 11) with rfl | rfl | rfl | rfl | rfl | rfl | rfl | rfl | rfl | rfl | rfl
  all_goals
    rcases (by omega : s = 1 ∨ s = 2 ∨ s = 3 ∨ s = 4 ∨ s = 5 ∨ s = 6 ∨ s = 7 ∨ s = 8 ∨ s = 9 ∨ s = 10 ∨ s = 11) with rfl | rfl | rfl | rfl | rfl | rfl | rfl | rfl | rfl | rfl | rfl
    all_goals first | rfl | exact absurd rfl hne
theorem take_kw (h : Rq) (t : Int) (bs : List Int) : (takeR h t bs).kind = h.kind ∧ (takeR h t bs).what = h.what := by
  unfold takeR
  repeat' split
  all_goals exact ⟨rfl, rfl⟩
theorem try_back : ∀ (ts : List Int) (fs : List (Int × List Int)) (h r : Rq), okRq h → (∀ t ∈ ts, 1 ≤ t ∧ t ≤ 11) → ts.Nodup → (∀ f ∈ fs, okFld f) → tryT h ts fs = (r, true) →
    okRq r ∧ r.kind = h.kind ∧ r.what = h.what ∧ fldsR r ts = fs ∧ ∀ s, 1 ≤ s ∧ s ≤ 11 → s ∉ ts → bytesR r s = bytesR h s
  | [], [], h, r, hh, _, _, _, he => by
    cases he
    exact ⟨hh, rfl, rfl, rfl, fun _ _ _ => rfl⟩
  | [], _ :: _, h, r, hh, _, _, _, he => by simp [tryT] at he
  | _ :: _, [], h, r, hh, _, _, _, he => by simp [tryT] at he
  | t :: ts, f :: fs, h, r, hh, ht, hn, hok, he => by
    rw [tryT] at he
    split at he
    · rename_i hft
      split at he
      · rename_i hb
        have hof := hok f (by simp)
        have htr := ht t (by simp)
        rw [List.nodup_cons] at hn
        obtain ⟨g1, g2, g3, g4, g5⟩ := try_back ts fs _ r (okRq_take hh t hof.2) (fun s hs => ht s (by simp [hs])) hn.2 (fun g hg => hok g (by simp [hg])) he
        obtain ⟨k1, k2⟩ := take_kw h t f.2
        refine ⟨g1, g2.trans k1, g3.trans k2, ?_, fun s hs hns => ?_⟩
        · have : fldsR r (t :: ts) = (t, bytesR r t) :: fldsR r ts := rfl
          rw [this, g4, g5 t htr hn.1, bytes_take hof.2 htr hb, ← hft]
        · rw [g5 s hs (fun hc => hns (by simp [hc])), bytes_other htr hs (fun hc => hns (by simp [hc]))]
      · cases he
    · cases he
theorem tag_nodup {k w : Int} {l : List Int} (h : tagL k w = some l) : l.Nodup := by
  have := tagL_shape h
  simp only [shapesL, List.mem_cons, List.not_mem_nil, or_false] at this
  rcases this with rfl | rfl | rfl | rfl | rfl | rfl | rfl | rfl | rfl | rfl | rfl | rfl
  all_goals decide
theorem what_range {bs : List Int} (hb : byteL bs) : (0 ≤ kindB bs ∧ kindB bs ≤ 255) ∧ (0 ≤ whatB bs ∧ whatB bs ≤ 255) ∧ ∀ f ∈ flB bs, okFld f := by
  have hbd : byteL (bs.drop 2) := fun z hz => hb z (List.mem_of_mem_drop hz)
  have hk : 0 ≤ kindB bs ∧ kindB bs ≤ 255 := by
    rw [kindB]
    cases hq : bs[1]? with
    | none => show (0 : Int) ≤ 0 ∧ (0 : Int) ≤ 255; omega
    | some x => exact hb x (List.mem_of_getElem? hq)
  have hfo : ∀ f ∈ flB bs, okFld f := by
    rcases read_cases (bs.drop 2) hbd with ⟨_, _, hr, hw⟩ | ⟨hr, _⟩
    · intro f hf
      have h1 := right_at (rightF_iff.1 hr).1 f hf
      refine ⟨⟨by omega, by omega⟩, fun z hz => hbd z ?_⟩
      rw [← hw, writeF, List.mem_flatMap]
      exact ⟨f, hf, by simp [hz]⟩
    · intro f hf
      have : flB bs = [] := hr
      rw [this] at hf; cases hf
  refine ⟨hk, ?_, hfo⟩
  rw [whatB]
  cases hq : flB bs with
  | nil =>
    show (0 : Int) ≤ 0 ∧ (0 : Int) ≤ 255
    omega
  | cons f r0 =>
    have hok := hfo f (by rw [hq]; simp)
    have hr := last_range hok.2
    rw [whatL]
    split <;> omega
/-- What is read of any bytes is right, and is written as these bytes. -/
theorem read_back {bs : List Int} (hb : byteL bs) (h : accB bs = true) : okRq (readR bs).1 ∧ rightR (readR bs).1 = true ∧ writeR (readR bs).1 = bs ∧ (readR bs).2 = 0 := by
  have hrd : readR bs = ((runB bs).1, 0) := by rw [readR, h, if_pos rfl]
  rw [hrd]
  simp only
  rw [accB, Bool.and_eq_true, Bool.and_eq_true, Bool.and_eq_true, Bool.and_eq_true, Bool.and_eq_true] at h
  obtain ⟨h1, h2, h3, h4, h5, h6⟩ := h
  have h1 := of_decide_eq_true h1
  have h2 := of_decide_eq_true h2
  have h3 := of_decide_eq_true h3
  obtain ⟨ts, hts⟩ := Option.isSome_iff_exists.1 h4
  obtain ⟨hk, hw, hfo⟩ := what_range hb
  have hrun : runB bs = tryT (startQ bs) ts (flB bs) := by rw [runB, hts]; rfl
  have hpair : tryT (startQ bs) ts (flB bs) = ((runB bs).1, true) := by rw [← hrun]; exact Prod.ext rfl h5
  obtain ⟨g1, g2, g3, g4, _⟩ := try_back ts (flB bs) (startQ bs) (runB bs).1 (okRq_start hk hw) (tagL_ok hts).1 (tag_nodup hts) hfo hpair
  refine ⟨g1, h6, ?_, trivial⟩
  have g2 : (runB bs).1.kind = kindB bs := g2
  have g3 : (runB bs).1.what = whatB bs := g3
  have htg : tagsR (runB bs).1 = ts := by
    rw [tagsR, g2, g3]
    have : tagL (kindB bs) (whatB bs) = some ts := hts
    rw [this]; rfl
  rw [writeR, htg, g4, g2]
  have hbd : byteL (bs.drop 2) := fun z hz => hb z (List.mem_of_mem_drop hz)
  have hwf : writeF (flB bs) = bs.drop 2 := by
    rcases read_cases (bs.drop 2) hbd with ⟨_, _, _, hw⟩ | ⟨_, hr⟩
    · exact hw
    · omega
  rw [hwf]
  match bs, h1, h2 with
  | x :: y :: r, _, h2 =>
    cases h2
    rfl
theorem form_pre {x y : Nat} {r s : List Int} (hx : x < 256 ^ 8) (hy : y < 256 ^ 8) (h : formN x ++ r = formN y ++ s) : x = y ∧ r = s := by
  have h1 := readN_form [] r x hx
  have h2 := readN_form [] s y hy
  rw [List.nil_append] at h1 h2
  rw [h, h2] at h1
  have : (y : Int) = x := (Prod.mk.inj h1).1
  have hxy : x = y := by omega
  subst hxy
  exact ⟨rfl, List.append_cancel_left h⟩
theorem writeF_pre {f g : Int × List Int} {fs gs : List (Int × List Int)} {rest : List Int} (hf : f.2.length ≤ 16384) (hg : g.2.length ≤ 16384) (h : writeF (f :: fs) ++ rest = writeF (g :: gs)) : f = g ∧ writeF fs ++ rest = writeF gs := by
  rw [writeF_cons, writeF_cons, List.cons_append, List.append_assoc, List.append_assoc] at h
  have h0 := (List.cons.inj h).1
  obtain ⟨h1, h2⟩ := form_pre (by omega) (by omega) (List.cons.inj h).2
  obtain ⟨h3, h4⟩ := List.append_inj h2 h1
  exact ⟨Prod.ext h0 h3, h4⟩
theorem writeF_pres : ∀ (fs gs : List (Int × List Int)) (rest : List Int), (∀ f ∈ fs, f.2.length ≤ 16384) → (∀ f ∈ gs, f.2.length ≤ 16384) → fs.length = gs.length → writeF fs ++ rest = writeF gs → rest = []
  | [], [], rest, _, _, _, h => h
  | [], _ :: _, rest, _, _, hl, _ => by cases hl
  | _ :: _, [], rest, _, _, hl, _ => by cases hl
  | f :: fs, g :: gs, rest, h1, h2, hl, h =>
    writeF_pres fs gs rest (fun x hx => h1 x (by simp [hx])) (fun x hx => h2 x (by simp [hx])) (Nat.succ.inj hl) (writeF_pre (h1 f (by simp)) (h2 g (by simp)) h).2
theorem right_short2 {r : Rq} (hr : okRq r) (h : rightR r = true) : ∀ f ∈ fldsR r (tagsR r), f.2.length ≤ 16384 := fun f hf => by
  have := right_at (rightF_iff.1 (right_flds hr h)).1 f hf
  omega
/-- No form is the beginning of another one. -/
theorem write_pre {p q : Rq} (hp : okRq p) (hq : okRq q) (rp : rightR p = true) (rq : rightR q = true) {rest : List Int} (h : writeR p ++ rest = writeR q) : p = q ∧ rest = [] := by
  have hpt := (right_tag rp).1
  have hqt := (right_tag rq).1
  have h1 : p.kind = q.kind := (List.cons.inj (List.cons.inj h).2).1
  have h2 : writeF (fldsR p (tagsR p)) ++ rest = writeF (fldsR q (tagsR q)) := (List.cons.inj (List.cons.inj h).2).2
  have sp := right_short2 hp rp
  have sq := right_short2 hq rq
  have hlen : (tagsR p).length = (tagsR q).length := by
    rcases tag_seven hpt with ⟨h7, m, hm, he⟩ | ⟨h7, _, ha⟩
    · rcases tag_seven hqt with ⟨_, m', hm', he'⟩ | ⟨h7', _⟩
      · have e1 : fldsR p (tagsR p) = (1, formN p.what.toNat) :: fldsR p m := by rw [he]; rfl
        have e2 : fldsR q (tagsR q) = (1, formN q.what.toNat) :: fldsR q m' := by rw [he']; rfl
        rw [e1] at h2 sp
        rw [e2] at h2 sq
        have hf := (Prod.mk.inj (writeF_pre (sp _ (by simp)) (sq _ (by simp)) h2).1).2
        have w1 := hp.what
        have w2 := hq.what
        have := (form_pre (r := []) (s := []) (by omega : p.what.toNat < 256 ^ 8) (by omega : q.what.toNat < 256 ^ 8) (by rw [hf])).1
        have hw : p.what = q.what := by omega
        rw [hw, hm'] at hm
        cases hm
        rw [he, he']
      · exact absurd (h1 ▸ h7) h7'
    · have := ha q.what
      rw [h1, hqt] at this
      rw [Option.some.inj this]
  have hr := writeF_pres _ _ rest sp sq (by simp [fldsR, hlen]) h2
  subst hr
  rw [List.append_nil] at h
  have a := (read_writeR hp rp).2
  rw [h, (read_writeR hq rq).2] at a
  exact ⟨(Prod.mk.inj a).1.symm, rfl⟩
theorem write_injR {p q : Rq} (hp : okRq p) (hq : okRq q) (rp : rightR p = true) (rq : rightR q = true) (h : writeR p = writeR q) : p = q :=
  (write_pre hp hq rp rq (rest := []) (by rw [List.append_nil, h])).1
theorem read_bad {bs : List Int} (h : accB bs = false) : readR bs = (zeroRq, 341) := by rw [readR, h]; rfl
open Go Go.Proofs Go.SE Go.RowKit
set_option linter.unusedVariables false
set_option maxRecDepth 100000
def nameStep (b c : Int) : Bool := if (97 ≤ c ∧ c ≤ 122) ∨ (48 ≤ c ∧ c ≤ 57) then true else if c = 45 then decide (b ≠ 46) else if c = 46 then decide (b ≠ 46) && decide (b ≠ 45) else false
def nameGo : List Int → Int → Option Int
  | [], b => some b
  | c :: r, b => if nameStep b c then nameGo r c else none
def nameEnd : Option Int → Bool
  | none => false
  | some b => decide (b ≠ 46) && decide (b ≠ 45)
def nameB (s : List Int) : Bool := decide (1 ≤ s.length) && (decide (s.length ≤ 32) && (decide (97 ≤ s.headD 0 ∧ s.headD 0 ≤ 122) && nameEnd (nameGo s 46)))
theorem strL_get {s : ByteArray} {j : Nat} {c : UInt8} (h : s.data.toList[j]? = some c) : (strL s)[j]? = some (c.toNat : Int) := by
  rw [strL, List.getElem?_map, h]; rfl
theorem str_at {s : ByteArray} {j : Int} (h0 : 0 ≤ j) (h1 : j < s.size) : ∃ c : UInt8, s.data.toList[j.toNat]? = some c := by
  have : j.toNat < s.data.toList.length := by
    rw [Array.length_toList]
    have e : s.size = s.data.size := rfl
    omega
  exact ⟨_, List.getElem?_eq_getElem this⟩
theorem ct54 (s : ByteArray) (I : Mem) : Ct Tryz.prog (fnv 54) #[.string s] I (fun v _ => v = .bool (nameB (strL s))) := by
  refine viaR (ct_via (A := { cuts := [(15, ⟨[(0, .keep), (2, .keep), (3, .sh .bool), (4, .kv), (5, .keep), (6, .kv), (26, .keep), (27, .keep)], [], [], fun vals _ _ _ => match vals with | [.bool ok, .int .u8 b, .int .u8 c] => ok = nameStep b c | _ => False, fun _ _ => 0⟩)], loops := [(6, ⟨[(0, .keep), (2, .keep), (3, .sh .bool), (4, .sh (.int .u8)), (26, .keep), (27, .sh (.int .i64))], [], [], fun vals _ _ _ => match vals with | [.bool ok, .int .u8 b, .int .i64 j] => 0 ≤ j ∧ j ≤ s.size ∧ ok = true ∧ nameGo (strL s) 46 = nameGo ((strL s).drop j.toNat) b | _ => False, fun vals _ => match vals with | [_, _, .int .i64 j] => (s.size - j).toNat | _ => 0⟩)] }) Tryz.func54 rfl Tryz.call54 rfl rfl) (Br (decide ((s.size : Int) < 1)) (Value.bool false = .bool (nameB (strL s))) (Br (decide (32 < (s.size : Int))) (Value.bool false = .bool (nameB (strL s))) (∃ c, s.data.toList[0]? = some c ∧ (0 : Int) ≤ 0 ∧ Br (decide ((c.toNat : Int) < 97)) (Value.bool false = .bool (nameB (strL s))) (∃ a, s.data.toList[0]? = some a ∧ (0 : Int) ≤ 0 ∧ Br (decide (122 < (a.toNat : Int))) (Value.bool false = .bool (nameB (strL s))) ((Rf (SV.v (.string s)) ∧ Rf (SV.v (.bool false)) ∧ Rf (SV.v (.int .i64 (s.size : Int))) ∧ (0 : Int) ≤ 0 ∧ 0 ≤ (s.size : Int) ∧ true = true ∧ nameGo (strL s) 46 = nameGo (List.drop 0 (strL s)) 46) ∧ ∀ (b : Mem), Mem → I.le b → ∀ (d : Bool) (n e : Int), 0 ≤ e ∧ e ≤ (s.size : Int) ∧ d = true ∧ nameGo (strL s) 46 = nameGo (List.drop e.toNat (strL s)) n → Br (decide (e < (s.size : Int))) (∃ f, s.data.toList[e.toNat]? = some f ∧ 0 ≤ e ∧ Br (decide (97 ≤ (f.toNat : Int))) (Br (decide ((f.toNat : Int) ≤ 122)) (Rf (SV.v (.string s)) ∧ Rf (SV.v (.bool false)) ∧ Rf (SV.v (.int .u8 n)) ∧ Rf (SV.v (.int .i64 e)) ∧ Rf (SV.v (.int .u8 (f.toNat : Int))) ∧ Rf (SV.v (.int .i64 (s.size : Int))) ∧ Rf (SV.v (.int .i64 e)) ∧ d = nameStep n (f.toNat : Int)) (Br (decide (48 ≤ (f.toNat : Int))) (Br (decide ((f.toNat : Int) ≤ 57)) (Rf (SV.v (.string s)) ∧ Rf (SV.v (.bool false)) ∧ Rf (SV.v (.int .u8 n)) ∧ Rf (SV.v (.int .i64 e)) ∧ Rf (SV.v (.int .u8 (f.toNat : Int))) ∧ Rf (SV.v (.int .i64 (s.size : Int))) ∧ Rf (SV.v (.int .i64 e)) ∧ d = nameStep n (f.toNat : Int)) (Br ((f.toNat : Int) == 45) (Rf (SV.v (.string s)) ∧ Rf (SV.v (.bool false)) ∧ Rf (SV.v (.int .u8 n)) ∧ Rf (SV.v (.int .i64 e)) ∧ Rf (SV.v (.int .u8 (f.toNat : Int))) ∧ Rf (SV.v (.int .i64 (s.size : Int))) ∧ Rf (SV.v (.int .i64 e)) ∧ (n != 46) = nameStep n (f.toNat : Int)) (Br ((f.toNat : Int) == 46) (Br (n != 46) (Rf (SV.v (.string s)) ∧ Rf (SV.v (.bool false)) ∧ Rf (SV.v (.int .u8 n)) ∧ Rf (SV.v (.int .i64 e)) ∧ Rf (SV.v (.int .u8 (f.toNat : Int))) ∧ Rf (SV.v (.int .i64 (s.size : Int))) ∧ Rf (SV.v (.int .i64 e)) ∧ (n != 45) = nameStep n (f.toNat : Int)) (Rf (SV.v (.string s)) ∧ Rf (SV.v (.bool false)) ∧ Rf (SV.v (.int .u8 n)) ∧ Rf (SV.v (.int .i64 e)) ∧ Rf (SV.v (.int .u8 (f.toNat : Int))) ∧ Rf (SV.v (.int .i64 (s.size : Int))) ∧ Rf (SV.v (.int .i64 e)) ∧ false = nameStep n (f.toNat : Int))) (Rf (SV.v (.string s)) ∧ Rf (SV.v (.bool false)) ∧ Rf (SV.v (.int .u8 n)) ∧ Rf (SV.v (.int .i64 e)) ∧ Rf (SV.v (.int .u8 (f.toNat : Int))) ∧ Rf (SV.v (.int .i64 (s.size : Int))) ∧ Rf (SV.v (.int .i64 e)) ∧ false = nameStep n (f.toNat : Int))))) (Br ((f.toNat : Int) == 45) (Rf (SV.v (.string s)) ∧ Rf (SV.v (.bool false)) ∧ Rf (SV.v (.int .u8 n)) ∧ Rf (SV.v (.int .i64 e)) ∧ Rf (SV.v (.int .u8 (f.toNat : Int))) ∧ Rf (SV.v (.int .i64 (s.size : Int))) ∧ Rf (SV.v (.int .i64 e)) ∧ (n != 46) = nameStep n (f.toNat : Int)) (Br ((f.toNat : Int) == 46) (Br (n != 46) (Rf (SV.v (.string s)) ∧ Rf (SV.v (.bool false)) ∧ Rf (SV.v (.int .u8 n)) ∧ Rf (SV.v (.int .i64 e)) ∧ Rf (SV.v (.int .u8 (f.toNat : Int))) ∧ Rf (SV.v (.int .i64 (s.size : Int))) ∧ Rf (SV.v (.int .i64 e)) ∧ (n != 45) = nameStep n (f.toNat : Int)) (Rf (SV.v (.string s)) ∧ Rf (SV.v (.bool false)) ∧ Rf (SV.v (.int .u8 n)) ∧ Rf (SV.v (.int .i64 e)) ∧ Rf (SV.v (.int .u8 (f.toNat : Int))) ∧ Rf (SV.v (.int .i64 (s.size : Int))) ∧ Rf (SV.v (.int .i64 e)) ∧ false = nameStep n (f.toNat : Int))) (Rf (SV.v (.string s)) ∧ Rf (SV.v (.bool false)) ∧ Rf (SV.v (.int .u8 n)) ∧ Rf (SV.v (.int .i64 e)) ∧ Rf (SV.v (.int .u8 (f.toNat : Int))) ∧ Rf (SV.v (.int .i64 (s.size : Int))) ∧ Rf (SV.v (.int .i64 e)) ∧ false = nameStep n (f.toNat : Int)))))) (Br (decide (48 ≤ (f.toNat : Int))) (Br (decide ((f.toNat : Int) ≤ 57)) (Rf (SV.v (.string s)) ∧ Rf (SV.v (.bool false)) ∧ Rf (SV.v (.int .u8 n)) ∧ Rf (SV.v (.int .i64 e)) ∧ Rf (SV.v (.int .u8 (f.toNat : Int))) ∧ Rf (SV.v (.int .i64 (s.size : Int))) ∧ Rf (SV.v (.int .i64 e)) ∧ d = nameStep n (f.toNat : Int)) (Br ((f.toNat : Int) == 45) (Rf (SV.v (.string s)) ∧ Rf (SV.v (.bool false)) ∧ Rf (SV.v (.int .u8 n)) ∧ Rf (SV.v (.int .i64 e)) ∧ Rf (SV.v (.int .u8 (f.toNat : Int))) ∧ Rf (SV.v (.int .i64 (s.size : Int))) ∧ Rf (SV.v (.int .i64 e)) ∧ (n != 46) = nameStep n (f.toNat : Int)) (Br ((f.toNat : Int) == 46) (Br (n != 46) (Rf (SV.v (.string s)) ∧ Rf (SV.v (.bool false)) ∧ Rf (SV.v (.int .u8 n)) ∧ Rf (SV.v (.int .i64 e)) ∧ Rf (SV.v (.int .u8 (f.toNat : Int))) ∧ Rf (SV.v (.int .i64 (s.size : Int))) ∧ Rf (SV.v (.int .i64 e)) ∧ (n != 45) = nameStep n (f.toNat : Int)) (Rf (SV.v (.string s)) ∧ Rf (SV.v (.bool false)) ∧ Rf (SV.v (.int .u8 n)) ∧ Rf (SV.v (.int .i64 e)) ∧ Rf (SV.v (.int .u8 (f.toNat : Int))) ∧ Rf (SV.v (.int .i64 (s.size : Int))) ∧ Rf (SV.v (.int .i64 e)) ∧ false = nameStep n (f.toNat : Int))) (Rf (SV.v (.string s)) ∧ Rf (SV.v (.bool false)) ∧ Rf (SV.v (.int .u8 n)) ∧ Rf (SV.v (.int .i64 e)) ∧ Rf (SV.v (.int .u8 (f.toNat : Int))) ∧ Rf (SV.v (.int .i64 (s.size : Int))) ∧ Rf (SV.v (.int .i64 e)) ∧ false = nameStep n (f.toNat : Int))))) (Br ((f.toNat : Int) == 45) (Rf (SV.v (.string s)) ∧ Rf (SV.v (.bool false)) ∧ Rf (SV.v (.int .u8 n)) ∧ Rf (SV.v (.int .i64 e)) ∧ Rf (SV.v (.int .u8 (f.toNat : Int))) ∧ Rf (SV.v (.int .i64 (s.size : Int))) ∧ Rf (SV.v (.int .i64 e)) ∧ (n != 46) = nameStep n (f.toNat : Int)) (Br ((f.toNat : Int) == 46) (Br (n != 46) (Rf (SV.v (.string s)) ∧ Rf (SV.v (.bool false)) ∧ Rf (SV.v (.int .u8 n)) ∧ Rf (SV.v (.int .i64 e)) ∧ Rf (SV.v (.int .u8 (f.toNat : Int))) ∧ Rf (SV.v (.int .i64 (s.size : Int))) ∧ Rf (SV.v (.int .i64 e)) ∧ (n != 45) = nameStep n (f.toNat : Int)) (Rf (SV.v (.string s)) ∧ Rf (SV.v (.bool false)) ∧ Rf (SV.v (.int .u8 n)) ∧ Rf (SV.v (.int .i64 e)) ∧ Rf (SV.v (.int .u8 (f.toNat : Int))) ∧ Rf (SV.v (.int .i64 (s.size : Int))) ∧ Rf (SV.v (.int .i64 e)) ∧ false = nameStep n (f.toNat : Int))) (Rf (SV.v (.string s)) ∧ Rf (SV.v (.bool false)) ∧ Rf (SV.v (.int .u8 n)) ∧ Rf (SV.v (.int .i64 e)) ∧ Rf (SV.v (.int .u8 (f.toNat : Int))) ∧ Rf (SV.v (.int .i64 (s.size : Int))) ∧ Rf (SV.v (.int .i64 e)) ∧ false = nameStep n (f.toNat : Int))))) ∧ ∀ (g : Mem), Mem → b.le g → ∀ (h : Bool), h = nameStep n (f.toNat : Int) → Br (!h) (Br h (Br (n != 46) (Value.bool (n != 45) = .bool (nameB (strL s))) (Value.bool false = .bool (nameB (strL s)))) (Value.bool false = .bool (nameB (strL s)))) (Wr .i64 (e + 1) (fun i => Rf (SV.v (.string s)) ∧ Rf (SV.v (.bool false)) ∧ Rf (SV.v (.int .i64 (s.size : Int))) ∧ (0 ≤ i ∧ i ≤ (s.size : Int) ∧ h = true ∧ nameGo (strL s) 46 = nameGo (List.drop i.toNat (strL s)) (f.toNat : Int)) ∧ Int.toNat ((s.size : Int) - i) < Int.toNat ((s.size : Int) - e)))) (Br d (Br (n != 46) (Value.bool (n != 45) = .bool (nameB (strL s))) (Value.bool false = .bool (nameB (strL s)))) (Value.bool false = .bool (nameB (strL s))))))))) (by kernel_rfl) ?_
  have hl := strL_len s
  refine Br.mk (fun h => ?_) (fun h1 => Br.mk (fun h => ?_) (fun h2 => ?_))
  · have h := of_decide_eq_true h
    rw [nameB, decide_eq_false (by omega), Bool.false_and]
  · have h := of_decide_eq_true h
    rw [nameB, decide_eq_false (p := (strL s).length ≤ 32) (by omega), Bool.false_and, Bool.and_false]
  have h1 := of_decide_eq_false h1
  have h2 := of_decide_eq_false h2
  obtain ⟨c0, hc0⟩ := str_at (s := s) (j := 0) (by omega) (by omega)
  have hc0' := strL_get hc0
  have hd : (strL s).headD 0 = (c0.toNat : Int) := by
    cases hq : strL s with
    | nil => rw [hq] at hc0'; cases hc0'
    | cons x r => rw [hq] at hc0'; exact Option.some.inj hc0'
  have hB : nameB (strL s) = (decide (97 ≤ (c0.toNat : Int) ∧ (c0.toNat : Int) ≤ 122) && nameEnd (nameGo (strL s) 46)) := by
    rw [nameB, decide_eq_true (by omega), decide_eq_true (p := (strL s).length ≤ 32) (by omega), hd, Bool.true_and, Bool.true_and]
  refine ⟨c0, hc0, by omega, Br.mk (fun h => ?_) (fun h3 => ⟨c0, hc0, by omega, Br.mk (fun h => ?_) (fun h4 => ?_)⟩)⟩
  · have h := of_decide_eq_true h
    rw [hB, decide_eq_false (by omega), Bool.false_and]
  · have h := of_decide_eq_true h
    rw [hB, decide_eq_false (by omega), Bool.false_and]
  have h3 := of_decide_eq_false h3
  have h4 := of_decide_eq_false h4
  have hB : nameB (strL s) = nameEnd (nameGo (strL s) 46) := by
    rw [hB, decide_eq_true (by omega), Bool.true_and]
  rw [hB]
  have fin : ∀ (ok : Bool) (b : Int), (if ok then nameEnd (some b) else false) = nameEnd (nameGo (strL s) 46) → Br ok (Br (b != 46) (Value.bool (b != 45) = Value.bool (nameEnd (nameGo (strL s) 46))) (Value.bool false = Value.bool (nameEnd (nameGo (strL s) 46)))) (Value.bool false = Value.bool (nameEnd (nameGo (strL s) 46))) := fun ok b h => by
    rw [← h]
    cases ok with
    | false => exact rfl
    | true =>
      refine Br.t rfl (Br.mk (fun g => ?_) (fun g => ?_))
      · have g : b ≠ 46 := fun e => by rw [e] at g; cases g
        simp only [nameEnd, if_true]
        rw [decide_eq_true g, Bool.true_and]
        congr 1
        by_cases h45 : b = 45 <;> simp [h45]
      · have g : b = 46 := by
          by_cases e : b = 46
          · exact e
          · rw [bne_iff_ne.2 e] at g; cases g
        subst g; rfl
  refine ⟨⟨rfl, rfl, rfl, by omega, by omega, rfl, rfl⟩, fun I1 _ l1 ok b j ⟨j0, j1, hok, hgo⟩ => Br.mk (fun hlt => ?_) (fun hge => ?_)⟩
  rotate_left
  · have hge := of_decide_eq_false hge
    refine fin ok b ?_
    rw [hgo, List.drop_eq_nil_of_le (by omega), hok]; rfl
  have hlt := of_decide_eq_true hlt
  obtain ⟨c, hc⟩ := str_at j0 hlt
  have hc' := strL_get hc
  rw [drop_cons hc', nameGo] at hgo
  refine ⟨c, hc, j0, ?_, fun I2 _ l2 ok2 hok2 => ?_⟩
  · rw [hok]
    generalize (c.toNat : Int) = x
    clear fin hgo
    repeat' refine Br.mk (fun _ => ?_) (fun _ => ?_)
    all_goals
      refine ⟨rfl, rfl, rfl, rfl, rfl, rfl, rfl, ?_⟩
      simp only [decide_eq_true_eq, decide_eq_false_iff_not, beq_iff_eq, beq_eq_false_iff_ne, bne_iff_ne, bne_eq_false_iff_eq, ne_eq] at *
      unfold nameStep
      repeat' split
      all_goals first
        | omega
        | rfl
        | (simp_all; done)
        | (by_cases e45 : b = 45 <;> by_cases e46 : b = 46 <;> simp_all <;> omega)
        | skip
  · rw [← hok2] at hgo
    refine Br.mk (fun h => fin ok2 b ?_) (fun h => ?_)
    · have h : ok2 = false := by simpa using h
      rw [h] at hgo ⊢
      rw [hgo]; rfl
    · have h : ok2 = true := by simpa using h
      rw [h, if_pos rfl] at hgo
      exact wr_i64 (by omega) (by omega) ⟨rfl, rfl, rfl, ⟨by omega, by omega, h, by rw [show (j + 1).toNat = j.toNat + 1 by omega]; exact hgo⟩, by omega⟩
