/- Part of a proof by the rules of the symbolic walk (see the law's own text): contracts of functions of the program. -/
import Derived.Test.YtdmhilnnendcoaaGQ
open Go Go.Proofs Go.SE Go.RowKit
set_option linter.unusedVariables false
def formsL (l : List Int) : List Int := l.flatMap fun n => formN (IntKind.u64.wrap n).toNat
theorem w64_range (x : Int) : 0 ≤ IntKind.u64.wrap x ∧ IntKind.u64.wrap x ≤ 18446744073709551615 := by
  rw [w64]; omega
theorem forms_snoc {l : List Int} {j : Nat} {x : Int} (h : l[j]? = some x) : formsL (l.take (j + 1)) = formsL (l.take j) ++ formN (IntKind.u64.wrap x).toNat := by
  rw [take_succ' h, formsL, List.flatMap_append]; simp [formsL]
theorem forms_len (l : List Int) : (formsL l).length ≤ 9 * l.length := by
  induction l with
  | nil => simp [formsL]
  | cons x r ih =>
    have h1 := w64_range x
    have h2 := (formN_le (IntKind.u64.wrap x).toNat (by omega)).1
    have e : formsL (x :: r) = formN (IntKind.u64.wrap x).toNat ++ formsL r := rfl
    rw [e, List.length_append, List.length_cons]
    omega
theorem forms_take (l : List Int) (j : Nat) : (formsL (l.take j)).length ≤ 9 * l.length := by
  have := forms_len (l.take j)
  have := List.length_take_le j l
  have : (l.take j).length ≤ l.length := by rw [List.length_take]; omega
  omega
theorem cs64 (l : List Int) (a : Option Addr) (n c : Nat) (I : Mem) (h : SlM I a n 1 (ints .i64 l)) (hn : n ≤ 10000) :
    CtS Try.prog (.v (fnv 64)) [.v (.slice a n c)] [] I (fun sv H' _ => sv = .rsl 0 (formsL l).length ∧ H' = [⟨.row (ints .u8 (formsL l)) 1 5, none⟩]) := by
  refine viaR (ctS_via (A := { calls := [(15, .lend [0] (.row 0) [.row 1 5])], loops := [(3, ⟨[(3, .row 0), (6, .keep), (7, .keep), (8, .sh (.int .i64))], [(0, .row)], [(3, 1, 5)], fun vals xss _ _ => match vals, xss with | [.int .i64 j], [xs] => 0 ≤ j ∧ j ≤ n ∧ xs = ints .u8 (formsL (l.take j.toNat)) | _, _ => False, fun vals _ => match vals with | [.int .i64 j] => (n - j).toNat | _ => 0⟩)] }) Try.func64 rfl Try.call64 [0] rfl) (((0 : Nat) = (0 : Nat) ∧ SV.v (Value.slice a n c) = SV.v (Value.slice a n c) ∧ SV.v (Value.int IntKind.i64 (↑n : Int)) = SV.v (Value.int IntKind.i64 (↑n : Int)) ∧ (0 : Int) ≤ (0 : Int) ∧ (0 : Int) ≤ (↑n : Int) ∧ @List.nil Value = @List.nil Value) ∧ ∀ (I' G' : Mem), Mem.le I I' → ∀ (xs : List Value) (n_1 : Int), (0 : Int) ≤ n_1 ∧ n_1 ≤ (↑n : Int) ∧ xs = List.map (Value.int IntKind.u8) (formsL (List.take (Int.toNat n_1) l)) → Br (decide (n_1 < (↑n : Int))) ((0 : Int) ≤ n_1 ∧ n_1 < (↑n : Int) ∧ Option.isSome a = true ∧ ∃ (n_2 : Int), atI I' a (Int.toNat n_1 * (1 : Nat) + (0 : Nat)) = some (Value.int IntKind.i64 n_2) ∧ Wr IntKind.u64 n_2 fun (c_1 : Int) => CtS Try.prog (SV.v (Value.func (Fn.func (59 : Nat)) #[] #[])) [SV.rsl (0 : Nat) (List.length xs), SV.v (Value.int IntKind.u64 c_1)] [Ent.mk (EO.row xs (1 : Nat) (5 : Nat)) none] I' fun (sv : SV) (H' : List Ent) (I' : Mem) => ∃ (n_3 : Nat), ∃ (xs : List Value), sv = SV.rsl (0 : Nat) n_3 ∧ H' = [Ent.mk (EO.row xs (1 : Nat) (5 : Nat)) none] ∧ Wr IntKind.i64 (n_1 + (1 : Int)) fun (c_2 : Int) => n_3 = List.length xs ∧ SV.v (Value.slice a n c) = SV.v (Value.slice a n c) ∧ SV.v (Value.int IntKind.i64 (↑n : Int)) = SV.v (Value.int IntKind.i64 (↑n : Int)) ∧ ((0 : Int) ≤ c_2 ∧ c_2 ≤ (↑n : Int) ∧ xs = List.map (Value.int IntKind.u8) (formsL (List.take (Int.toNat c_2) l))) ∧ Int.toNat ((↑n : Int) - c_2) < Int.toNat ((↑n : Int) - n_1)) (SV.rsl (0 : Nat) (List.length xs) = SV.rsl (0 : Nat) (List.length (formsL l)) ∧ [Ent.mk (EO.row xs (1 : Nat) (5 : Nat)) none] = [Ent.mk (EO.row (List.map (Value.int IntKind.u8) (formsL l)) (1 : Nat) (5 : Nat)) none])) (by kernel_rfl) ?_
  simp only [eq_self, true_and, and_true]
  have hln := h.numLen
  refine ⟨⟨by omega, by omega⟩, fun I1 _ l1 xs j ⟨j0, j1, hx⟩ => Br.mk (fun hlt => ?_) (fun hge => ?_)⟩
  · have hlt := of_decide_eq_true hlt
    obtain ⟨x, hxj, e⟩ := (h.mono l1).intAt j0 hlt
    have hwr := w64_range x
    have hfl := forms_take l j.toNat
    have hxl : xs.length ≤ 90000 := by rw [hx]; simp only [List.length_map]; omega
    refine ⟨j0, hlt, h.isSome (by omega), x, e, _, rfl, (cs59 xs xs.length _ hwr rfl (by omega) I1).mono fun v H' I2 l2 ⟨hv, hH⟩ => ?_⟩
    refine ⟨_, _, hv, hH, wr_i64 (by omega) (by omega) ⟨by simp [ints], ⟨by omega, by omega, ?_⟩, by omega⟩⟩
    rw [show (j + 1).toNat = j.toNat + 1 by omega, forms_snoc hxj, hx]
    simp [ints]
  · have hge := of_decide_eq_false hge
    rw [List.take_of_length_le (by omega)] at hx
    subst hx
    exact ⟨by rw [List.length_map], rfl⟩
theorem ct64 (l : List Int) (a : Option Addr) (n c : Nat) (I : Mem) (h : SlM I a n 1 (ints .i64 l)) (hn : n ≤ 10000) :
    Ct Try.prog (fnv 64) #[.slice a n c] I (fun v I' => BySl I' v (formsL l)) := by
  refine viaR (ct_via (A := { calls := [(15, .lend [0] (.row 0) [.row 1 5])], loops := [(3, ⟨[(3, .row 0), (6, .keep), (7, .keep), (8, .sh (.int .i64))], [(0, .row)], [(3, 1, 5)], fun vals xss _ _ => match vals, xss with | [.int .i64 j], [xs] => 0 ≤ j ∧ j ≤ n ∧ xs = ints .u8 (formsL (l.take j.toNat)) | _, _ => False, fun vals _ => match vals with | [.int .i64 j] => (n - j).toNat | _ => 0⟩)] }) Try.func64 rfl Try.call64 rfl rfl) (((0 : Nat) = (0 : Nat) ∧ SV.v (Value.slice a n c) = SV.v (Value.slice a n c) ∧ SV.v (Value.int IntKind.i64 (↑n : Int)) = SV.v (Value.int IntKind.i64 (↑n : Int)) ∧ (0 : Int) ≤ (0 : Int) ∧ (0 : Int) ≤ (↑n : Int) ∧ @List.nil Value = @List.nil Value) ∧ ∀ (I' G' : Mem), Mem.le I I' → ∀ (xs : List Value) (n_1 : Int), (0 : Int) ≤ n_1 ∧ n_1 ≤ (↑n : Int) ∧ xs = List.map (Value.int IntKind.u8) (formsL (List.take (Int.toNat n_1) l)) → Br (decide (n_1 < (↑n : Int))) ((0 : Int) ≤ n_1 ∧ n_1 < (↑n : Int) ∧ Option.isSome a = true ∧ ∃ (n_2 : Int), atI I' a (Int.toNat n_1 * (1 : Nat) + (0 : Nat)) = some (Value.int IntKind.i64 n_2) ∧ Wr IntKind.u64 n_2 fun (c_1 : Int) => CtS Try.prog (SV.v (Value.func (Fn.func (59 : Nat)) #[] #[])) [SV.rsl (0 : Nat) (List.length xs), SV.v (Value.int IntKind.u64 c_1)] [Ent.mk (EO.row xs (1 : Nat) (5 : Nat)) none] I' fun (sv : SV) (H' : List Ent) (I' : Mem) => ∃ (n_3 : Nat), ∃ (xs : List Value), sv = SV.rsl (0 : Nat) n_3 ∧ H' = [Ent.mk (EO.row xs (1 : Nat) (5 : Nat)) none] ∧ Wr IntKind.i64 (n_1 + (1 : Int)) fun (c_2 : Int) => n_3 = List.length xs ∧ SV.v (Value.slice a n c) = SV.v (Value.slice a n c) ∧ SV.v (Value.int IntKind.i64 (↑n : Int)) = SV.v (Value.int IntKind.i64 (↑n : Int)) ∧ ((0 : Int) ≤ c_2 ∧ c_2 ≤ (↑n : Int) ∧ xs = List.map (Value.int IntKind.u8) (formsL (List.take (Int.toNat c_2) l))) ∧ Int.toNat ((↑n : Int) - c_2) < Int.toNat ((↑n : Int) - n_1)) (∀ (a : Option Addr) (cp : Nat) (I'_1 : Mem), Mem.le I' I'_1 → RowM I'_1 a cp (1 : Nat) xs → ∃ (b : Option Addr), ∃ (m : Nat), ∃ (c : Nat), Value.slice a (List.length xs) cp = Value.slice b m c ∧ SlM I'_1 b m (1 : Nat) (List.map (Value.int IntKind.u8) (formsL l)) ∧ m ≤ c ∧ c ≤ (9223372036854775807 : Nat))) (by kernel_rfl) ?_
  simp only [eq_self, true_and, and_true]
  have hln := h.numLen
  refine ⟨⟨by omega, by omega⟩, fun I1 _ l1 xs j ⟨j0, j1, hx⟩ => Br.mk (fun hlt => ?_) (fun hge => ?_)⟩
  · have hlt := of_decide_eq_true hlt
    obtain ⟨x, hxj, e⟩ := (h.mono l1).intAt j0 hlt
    have hwr := w64_range x
    have hfl := forms_take l j.toNat
    have hxl : xs.length ≤ 90000 := by rw [hx]; simp only [List.length_map]; omega
    refine ⟨j0, hlt, h.isSome (by omega), x, e, _, rfl, (cs59 xs xs.length _ hwr rfl (by omega) I1).mono fun v H' I2 l2 ⟨hv, hH⟩ => ?_⟩
    refine ⟨_, _, hv, hH, wr_i64 (by omega) (by omega) ⟨by simp [ints], ⟨by omega, by omega, ?_⟩, by omega⟩⟩
    rw [show (j + 1).toNat = j.toNat + 1 by omega, forms_snoc hxj, hx]
    simp [ints]
  · have hge := of_decide_eq_false hge
    rw [List.take_of_length_le (by omega)] at hx
    subst hx
    exact fun a' cp I2 l2 hrow => row_bysl hrow (by rw [List.length_map])
theorem int_sl {I : Mem} {b : Nat} {l : List Int} {el : TypeId} {n : Nat} {cs : Array Value} (h : I b = some (.cells cs el)) (hc : cs = (ints .i64 l).toArray) (hn : n = l.length) (hm : n ≤ 10000) : SlM I (some ⟨b, 0, none⟩) n 1 (ints .i64 l) := by
  subst hc
  have := sl_cells (n := n) (sz := 1) h (by simp [ints]; omega) (by simp only [maxLen]; omega)
  simpa using this
theorem ct61 (k1 k2 k3 : Int) (I : Mem) :
    Ct Try.prog (fnv 61) #[.agg #[.int .i64 k1, .int .i64 k2, .int .i64 k3]] I (fun v I' => BySl I' v (formsL [k1, k2, k3])) := by
  refine viaR (ct_via (A := { }) Try.func61 rfl Try.call61 rfl rfl) (∀ (b : Nat) (I' : Mem), Mem.le I I' → I' b = some (Obj.cells #[Value.int IntKind.i64 k1, Value.int IntKind.i64 k2, Value.int IntKind.i64 k3] (3 : Nat)) → Ct Try.prog (Value.func (Fn.func (64 : Nat)) #[] #[]) #[Value.slice (some (Addr.mk b (0 : Nat) none)) (3 : Nat) (3 : Nat)] I' fun (v : Value) (I' : Mem) => ∃ (a : Option Addr), ∃ (n : Nat), ∃ (c : Nat), v = Value.slice a n c ∧ ∃ (b : Option Addr), ∃ (m : Nat), ∃ (c_1 : Nat), Value.slice a n c = Value.slice b m c_1 ∧ SlM I' b m (1 : Nat) (List.map (Value.int IntKind.u8) (formsL [k1, k2, k3])) ∧ m ≤ c_1 ∧ c_1 ≤ (9223372036854775807 : Nat)) (by kernel_rfl) ?_
  intro b I1 l1 hb
  refine (ct64 [k1, k2, k3] _ 3 3 I1 (int_sl hb rfl rfl (by omega)) (by omega)).mono fun v I2 l2 hv => ?_
  obtain ⟨a, n, c, rfl, h1⟩ := hv
  exact ⟨_, _, _, rfl, _, _, _, rfl, h1⟩
theorem cs61 (k1 k2 k3 : Int) (I : Mem) :
    CtS Try.prog (.v (fnv 61)) [.v (.agg #[.int .i64 k1, .int .i64 k2, .int .i64 k3])] [] I (fun sv H' _ => sv = .rsl 0 (formsL [k1, k2, k3]).length ∧ H' = [⟨.row (ints .u8 (formsL [k1, k2, k3])) 1 5, none⟩]) := by
  obtain ⟨l, hl⟩ : ∃ l, l = formsL [k1, k2, k3] := ⟨_, rfl⟩
  rw [← hl]
  refine viaR (ctS_via (A := { calls := [(10, .lend [] (.row 0) [.row 1 5])] }) Try.func61 rfl Try.call61 [2] rfl) (∀ (b : Nat) (I' : Mem), Mem.le I I' → I' b = some (Obj.cells #[Value.int IntKind.i64 k1, Value.int IntKind.i64 k2, Value.int IntKind.i64 k3] (3 : Nat)) → CtS Try.prog (SV.v (Value.func (Fn.func (64 : Nat)) #[] #[])) [SV.v (Value.slice (some (Addr.mk b (0 : Nat) none)) (3 : Nat) (3 : Nat))] [] I' fun (sv : SV) (H' : List Ent) (I' : Mem) => ∃ (n : Nat), ∃ (xs : List Value), sv = SV.rsl (0 : Nat) n ∧ H' = [Ent.mk (EO.row xs (1 : Nat) (5 : Nat)) none] ∧ SV.rsl (0 : Nat) n = SV.rsl (0 : Nat) (List.length l) ∧ [Ent.mk (EO.row xs (1 : Nat) (5 : Nat)) none] = [Ent.mk (EO.row (List.map (Value.int IntKind.u8) l) (1 : Nat) (5 : Nat)) none]) (by kernel_rfl) ?_
  intro b I1 l1 hb
  refine (cs64 [k1, k2, k3] _ 3 3 I1 (int_sl hb rfl rfl (by omega)) (by omega)).mono fun sv H' I2 l2 ⟨h1, h2⟩ => ⟨_, _, h1, h2, ?_⟩
  rw [hl]
  exact ⟨rfl, rfl⟩
theorem bysl_split {I : Mem} {P : Nat → Nat → Option Addr → Prop} {bs : List Int} {v : Value} (h : BySl I v bs) (hp : ∀ a n c, BySl I (.slice a n c) bs → P n c a) : ∃ a n c, v = .slice a n c ∧ P n c a := by
  obtain ⟨a, n, c, rfl, h1⟩ := h
  exact ⟨a, n, c, rfl, hp a n c ⟨_, _, _, rfl, h1⟩⟩
def numF (x : Int) : List Int := formsL [x]
def celF (x : Int) : List Int := formN (foldZ x).toNat
def evF (x : EvT) : List Int := formsL [x.1.1, x.1.2.1, x.1.2.2] ++ formsL [x.2.1] ++ formN (foldZ x.2.2).toNat
def ptF (x : PtT) : List Int := formsL [x.1, x.2.2, (x.2.1.length : Int)] ++ x.2.1
def hdF (x : HdT) : List Int := formsL [x.1, x.2.1, x.2.2.1, x.2.2.2.1, x.2.2.2.2]
def i64R (x : Int) : Prop := -9223372036854775808 ≤ x ∧ x ≤ 9223372036854775807
theorem foldZ_range {x : Int} (h : i64R x) : 0 ≤ foldZ x ∧ foldZ x ≤ 18446744073709551615 := by
  obtain ⟨h1, h2⟩ := h
  unfold foldZ
  split <;> omega
theorem cs_agg3 {P : Program} {fv : SV} {a b c : Value} {H : List Ent} {I : Mem} {post : SV → List Ent → Mem → Prop} (h : CtS P fv [.v (.agg #[a, b, c])] H I post) : CtS P fv [.agg [.v a, .v b, .v c]] H I post := fun e hp hO => h e hp hO
theorem ct63 (x : Int) (I : Mem) : Ct Try.prog (fnv 63) #[.int .i64 x] I (fun v I' => BySl I' v (numF x)) := by
  refine viaR (ct_via (A := { }) Try.func63 rfl Try.call63 rfl rfl) (∀ (b : Nat) (I' : Mem), Mem.le I I' → I' b = some (Obj.cells #[Value.int IntKind.i64 x] (3 : Nat)) → Ct Try.prog (Value.func (Fn.func (64 : Nat)) #[] #[]) #[Value.slice (some (Addr.mk b (0 : Nat) none)) (1 : Nat) (1 : Nat)] I' fun (v : Value) (I' : Mem) => ∃ (a : Option Addr), ∃ (n : Nat), ∃ (c : Nat), v = Value.slice a n c ∧ ∃ (b : Option Addr), ∃ (m : Nat), ∃ (c_1 : Nat), Value.slice a n c = Value.slice b m c_1 ∧ SlM I' b m (1 : Nat) (List.map (Value.int IntKind.u8) (numF x)) ∧ m ≤ c_1 ∧ c_1 ≤ (9223372036854775807 : Nat)) (by kernel_rfl) ?_
  intro b I1 l1 hb
  exact (ct64 [x] _ 1 1 I1 (int_sl hb rfl rfl (by omega)) (by omega)).mono fun v I2 l2 h => bysl_split h fun a n c h => ⟨a, n, c, rfl, by obtain ⟨_, _, _, he, h1⟩ := h; cases he; exact h1⟩
theorem ct66 (x : Int) (hx : i64R x) (I : Mem) : Ct Try.prog (fnv 66) #[.int .i64 x] I (fun v I' => BySl I' v (celF x)) := by
  refine viaR (ct_via (A := { }) Try.func66 rfl Try.call66 rfl rfl) (Ct Try.prog (Value.func (Fn.func (67 : Nat)) #[] #[]) #[Value.int IntKind.i64 x] I fun (v : Value) (I' : Mem) => ∃ (n : Int), v = Value.int IntKind.u64 n ∧ Ct Try.prog (Value.func (Fn.func (59 : Nat)) #[] #[]) #[Value.slice none (0 : Nat) (0 : Nat), Value.int IntKind.u64 n] I' fun (v : Value) (I' : Mem) => ∃ (a : Option Addr), ∃ (n : Nat), ∃ (c : Nat), v = Value.slice a n c ∧ ∃ (b : Option Addr), ∃ (m : Nat), ∃ (c_1 : Nat), Value.slice a n c = Value.slice b m c_1 ∧ SlM I' b m (1 : Nat) (List.map (Value.int IntKind.u8) (celF x)) ∧ m ≤ c_1 ∧ c_1 ≤ (9223372036854775807 : Nat)) (by kernel_rfl) ?_
  exact (ct67 x hx I).mono fun v I1 l1 hv => ⟨_, hv, (ct59 _ (foldZ_range hx) I1).mono fun v I2 l2 h => bysl_split h fun a n c h => ⟨a, n, c, rfl, by obtain ⟨_, _, _, he, h1⟩ := h; cases he; exact h1⟩⟩
theorem ct69 (x : EvT) (hx : i64R x.2.2) (I : Mem) : Ct Try.prog (fnv 69) #[.agg #[.int .i64 x.1.1, .int .i64 x.1.2.1, .int .i64 x.1.2.2, .int .i64 x.2.1, .int .i64 x.2.2]] I (fun v I' => BySl I' v (evF x)) := by
  refine viaR (ct_via (A := { calls := [(5, .lend [] (.row 0) [.row 1 5]), (14, .lendT [10] (.row 0) [.row 1 5])] }) Try.func69 rfl Try.call69 rfl rfl) ((CtS Try.prog (SV.v (Value.func (Fn.func (61 : Nat)) #[] #[])) [SV.agg [SV.v (Value.int IntKind.i64 (Prod.fst (Prod.fst x))), SV.v (Value.int IntKind.i64 (Prod.fst (Prod.snd (Prod.fst x)))), SV.v (Value.int IntKind.i64 (Prod.snd (Prod.snd (Prod.fst x))))]] [] I fun (sv : SV) (H' : List Ent) (I' : Mem) => ∃ (n : Nat), ∃ (xs : List Value), sv = SV.rsl (0 : Nat) n ∧ H' = [Ent.mk (EO.row xs (1 : Nat) (5 : Nat)) none] ∧ ∀ (b : Nat) (I'_1 : Mem), Mem.le I' I'_1 → I'_1 b = some (Obj.cells #[Value.int IntKind.i64 (Prod.fst (Prod.snd x))] (3 : Nat)) → Ct Try.prog (Value.func (Fn.func (64 : Nat)) #[] #[]) #[Value.slice (some (Addr.mk b (0 : Nat) none)) (1 : Nat) (1 : Nat)] I'_1 fun (v : Value) (I' : Mem) => ∃ (a : Option Addr), ∃ (n_1 : Nat), ∃ (c : Nat), v = Value.slice a n_1 c ∧ ∃ (ys : List Value), List.length ys = n_1 * (1 : Nat) ∧ (a = none → n_1 = (0 : Nat)) ∧ (∀ (j : Nat) (v : Value), ys[j]? = some v → atI I' a j = some v) ∧ (∀ (v : Value), v ∈ ys → Value.oneCell' v = true) ∧ List.length xs = n * (1 : Nat) ∧ n + n_1 ≤ (9223372036854775807 : Nat) ∧ (n + n_1) * (1 : Nat) ≤ (140737488355328 : Nat) ∧ Ct Try.prog (Value.func (Fn.func (67 : Nat)) #[] #[]) #[Value.int IntKind.i64 (Prod.snd (Prod.snd x))] I' fun (v : Value) (I' : Mem) => ∃ (n_2 : Int), v = Value.int IntKind.u64 n_2 ∧ CtS Try.prog (SV.v (Value.func (Fn.func (59 : Nat)) #[] #[])) [SV.rsl (0 : Nat) (n + n_1), SV.v (Value.int IntKind.u64 n_2)] [Ent.mk (EO.row (xs ++ ys) (1 : Nat) (5 : Nat)) none] I' fun (sv : SV) (H' : List Ent) (I' : Mem) => ∃ (n : Nat), ∃ (xs : List Value), sv = SV.rsl (0 : Nat) n ∧ H' = [Ent.mk (EO.row xs (1 : Nat) (5 : Nat)) none] ∧ ∀ (a : Option Addr) (cp : Nat) (I'_2 : Mem), Mem.le I' I'_2 → RowM I'_2 a cp (1 : Nat) xs → ∃ (b : Option Addr), ∃ (m : Nat), ∃ (c : Nat), Value.slice a n cp = Value.slice b m c ∧ SlM I'_2 b m (1 : Nat) (List.map (Value.int IntKind.u8) (evF x)) ∧ m ≤ c ∧ c ≤ (9223372036854775807 : Nat)) ∧ CtS Try.prog (SV.v (Value.func (Fn.func (61 : Nat)) #[] #[])) [SV.agg [SV.v (Value.int IntKind.i64 (Prod.fst (Prod.fst x))), SV.v (Value.int IntKind.i64 (Prod.fst (Prod.snd (Prod.fst x)))), SV.v (Value.int IntKind.i64 (Prod.snd (Prod.snd (Prod.fst x))))]] [] I fun (sv : SV) (H' : List Ent) (I' : Mem) => ∃ (n : Nat), ∃ (xs : List Value), sv = SV.rsl (0 : Nat) n ∧ H' = [Ent.mk (EO.row xs (1 : Nat) (5 : Nat)) none] ∧ ∀ (b : Nat) (I'_1 : Mem), Mem.le I' I'_1 → I'_1 b = some (Obj.cells #[Value.int IntKind.i64 (Prod.fst (Prod.snd x))] (3 : Nat)) → Ct Try.prog (Value.func (Fn.func (64 : Nat)) #[] #[]) #[Value.slice (some (Addr.mk b (0 : Nat) none)) (1 : Nat) (1 : Nat)] I'_1 fun (v : Value) (I' : Mem) => ∃ (a : Option Addr), ∃ (n_1 : Nat), ∃ (c : Nat), v = Value.slice a n_1 c ∧ ∃ (ys : List Value), List.length ys = n_1 * (1 : Nat) ∧ (a = none → n_1 = (0 : Nat)) ∧ (∀ (j : Nat) (v : Value), ys[j]? = some v → atI I' a j = some v) ∧ (∀ (v : Value), v ∈ ys → Value.oneCell' v = true) ∧ List.length xs = n * (1 : Nat) ∧ n + n_1 ≤ (9223372036854775807 : Nat) ∧ (n + n_1) * (1 : Nat) ≤ (140737488355328 : Nat) ∧ Ct Try.prog (Value.func (Fn.func (67 : Nat)) #[] #[]) #[Value.int IntKind.i64 (Prod.snd (Prod.snd x))] I' fun (v : Value) (I' : Mem) => ∃ (n_2 : Int), v = Value.int IntKind.u64 n_2 ∧ CtS Try.prog (SV.v (Value.func (Fn.func (59 : Nat)) #[] #[])) [SV.rsl (0 : Nat) (n + n_1), SV.v (Value.int IntKind.u64 n_2)] [Ent.mk (EO.row (xs ++ ys) (1 : Nat) (5 : Nat)) none] I' fun (sv : SV) (H' : List Ent) (I' : Mem) => ∃ (n : Nat), ∃ (xs : List Value), sv = SV.rsl (0 : Nat) n ∧ H' = [Ent.mk (EO.row xs (1 : Nat) (5 : Nat)) none] ∧ ∀ (a : Option Addr) (cp : Nat) (I'_2 : Mem), Mem.le I' I'_2 → RowM I'_2 a cp (1 : Nat) xs → ∃ (b : Option Addr), ∃ (m : Nat), ∃ (c : Nat), Value.slice a n cp = Value.slice b m c ∧ SlM I'_2 b m (1 : Nat) (List.map (Value.int IntKind.u8) (evF x)) ∧ m ≤ c ∧ c ≤ (9223372036854775807 : Nat)) (by kernel_rfl) ?_
  have e : ints .u8 (evF x) = ints .u8 (formsL [x.1.1, x.1.2.1, x.1.2.2]) ++ ints .u8 (formsL [x.2.1]) ++ ints .u8 (formN (foldZ x.2.2).toNat) := by simp [ints, evF]
  have f1 := forms_len [x.1.1, x.1.2.1, x.1.2.2]
  have f2 := forms_len [x.2.1]
  have hf := foldZ_range hx
  have f3 := (formN_le (foldZ x.2.2).toNat (by omega)).1
  simp only [List.length_cons, List.length_nil] at f1 f2
  refine ⟨?_, ?_⟩
  all_goals
    refine (cs_agg3 (cs61 x.1.1 x.1.2.1 x.1.2.2 I)).mono fun sv H' I1 l1 ⟨h1, h2⟩ => ⟨_, _, h1, h2, fun b I2 l2 hb => ?_⟩
    refine (ct64 [x.2.1] _ 1 1 I2 (int_sl hb rfl rfl (by omega)) (by omega)).mono fun v I3 l3 ⟨a, n, c, hv, hs, hc, hm⟩ => ⟨a, n, c, hv, ints .u8 (formsL [x.2.1]), hs.len, hs.nil, hs.at_, one_ints, by rw [ints_len]; omega, ?_⟩
    have hnl := hs.numLen
    refine ⟨by omega, by omega, (ct67 x.2.2 hx I3).mono fun v I4 l4 hv => ⟨_, hv, (cs59 _ _ _ hf (by rw [List.length_append, ints_len, ints_len]; omega) (by rw [List.length_append, ints_len, ints_len]; omega) I4).mono fun sv H' I5 l5 ⟨h3, h4⟩ => ⟨_, _, h3, h4, fun a cp I6 l6 hrow => ?_⟩⟩⟩
    rw [← e] at hrow
    exact row_bysl hrow (by rw [← ints_len (k := .u8) (l := evF x), e, List.length_append, List.length_append, ints_len, ints_len, ints_len]; omega)
theorem strB_size (bs : List Int) : (strB bs).size = bs.length := by
  show (u8s bs).toArray.size = _
  rw [List.size_toArray, u8s, List.length_map]
theorem u8s_ints {bs : List Int} (hb : byteL bs) : (u8s bs).map (fun b => Value.int .u8 (b.toNat : Nat)) = ints .u8 bs := by
  rw [u8s, List.map_map, ints]
  apply List.map_congr_left
  intro z hz
  show Value.int .u8 (((UInt8.ofNat z.toNat).toNat : Nat) : Int) = _
  rw [u8_nat (hb z hz)]
theorem ct71 (x : PtT) (hx : x.2.1.length ≤ 1000) (hb : byteL x.2.1) (I : Mem) : Ct Try.prog (fnv 71) #[.agg #[.int .i64 x.1, .string (strB x.2.1), .int .i64 x.2.2]] I (fun v I' => BySl I' v (ptF x)) := by
  refine viaR (ct_via (A := { calls := [(11, .lend [] (.row 0) [.row 1 5])] }) Try.func71 rfl Try.call71 rfl rfl) (∀ (b : Nat) (I' : Mem), Mem.le I I' → I' b = some (Obj.cells #[Value.int IntKind.i64 (Prod.fst x), Value.int IntKind.i64 (Prod.snd (Prod.snd x)), Value.int IntKind.i64 (↑(ByteArray.size (strB (Prod.fst (Prod.snd x)))) : Int)] (3 : Nat)) → CtS Try.prog (SV.v (Value.func (Fn.func (64 : Nat)) #[] #[])) [SV.v (Value.slice (some (Addr.mk b (0 : Nat) none)) (3 : Nat) (3 : Nat))] [] I' fun (sv : SV) (H' : List Ent) (I' : Mem) => ∃ (n : Nat), ∃ (xs : List Value), sv = SV.rsl (0 : Nat) n ∧ H' = [Ent.mk (EO.row xs (1 : Nat) (5 : Nat)) none] ∧ (1 : Nat) = (1 : Nat) ∧ List.length xs = n * (1 : Nat) ∧ n + ByteArray.size (strB (Prod.fst (Prod.snd x))) ≤ (9223372036854775807 : Nat) ∧ (n + ByteArray.size (strB (Prod.fst (Prod.snd x)))) * (1 : Nat) ≤ (140737488355328 : Nat) ∧ ∀ (a : Option Addr) (cp : Nat) (I'_1 : Mem), Mem.le I' I'_1 → RowM I'_1 a cp (1 : Nat) (xs ++ List.map (fun (b : UInt8) => Value.int IntKind.u8 (↑(UInt8.toNat b) : Int)) (Array.toList (List.toArray (u8s (Prod.fst (Prod.snd x)))))) → ∃ (b : Option Addr), ∃ (m : Nat), ∃ (c : Nat), Value.slice a (n + ByteArray.size (strB (Prod.fst (Prod.snd x)))) cp = Value.slice b m c ∧ SlM I'_1 b m (1 : Nat) (List.map (Value.int IntKind.u8) (ptF x)) ∧ m ≤ c ∧ c ≤ (9223372036854775807 : Nat)) (by kernel_rfl) ?_
  have hsz := strB_size x.2.1
  intro b I1 l1 hbk
  rw [hsz] at hbk ⊢
  rw [show (u8s x.2.1).toArray.toList = u8s x.2.1 from rfl, u8s_ints hb]
  have f1 := forms_len [x.1, x.2.2, (x.2.1.length : Int)]
  simp only [List.length_cons, List.length_nil] at f1
  have e : ints .u8 (ptF x) = ints .u8 (formsL [x.1, x.2.2, (x.2.1.length : Int)]) ++ ints .u8 x.2.1 := by simp [ints, ptF]
  refine (cs64 [x.1, x.2.2, (x.2.1.length : Int)] _ 3 3 I1 (int_sl hbk rfl rfl (by omega)) (by omega)).mono fun sv H' I2 l2 ⟨h1, h2⟩ => ⟨_, _, h1, h2, rfl, by rw [ints_len]; omega, by omega, by omega, fun a cp I3 l3 hrow => ?_⟩
  rw [← e] at hrow
  exact row_bysl hrow (by rw [← ints_len (k := .u8) (l := ptF x), e, List.length_append, ints_len, ints_len])
theorem ct73 (x : HdT) (hr : 0 ≤ x.2.2.2.2 ∧ x.2.2.2.2 ≤ 255) (I : Mem) : Ct Try.prog (fnv 73) #[.agg #[.int .i64 x.1, .int .i64 x.2.1, .int .i64 x.2.2.1, .int .i64 x.2.2.2.1, .int .u8 x.2.2.2.2]] I (fun v I' => BySl I' v (hdF x)) := by
  refine viaR (ct_via (A := { }) Try.func73 rfl Try.call73 rfl rfl) (Wr IntKind.i64 (Prod.snd (Prod.snd (Prod.snd (Prod.snd x)))) fun (c : Int) => ∀ (b : Nat) (I' : Mem), Mem.le I I' → I' b = some (Obj.cells #[Value.int IntKind.i64 (Prod.fst x), Value.int IntKind.i64 (Prod.fst (Prod.snd x)), Value.int IntKind.i64 (Prod.fst (Prod.snd (Prod.snd x))), Value.int IntKind.i64 (Prod.fst (Prod.snd (Prod.snd (Prod.snd x)))), Value.int IntKind.i64 c] (3 : Nat)) → Ct Try.prog (Value.func (Fn.func (64 : Nat)) #[] #[]) #[Value.slice (some (Addr.mk b (0 : Nat) none)) (5 : Nat) (5 : Nat)] I' fun (v : Value) (I' : Mem) => ∃ (a : Option Addr), ∃ (n : Nat), ∃ (c : Nat), v = Value.slice a n c ∧ ∃ (b : Option Addr), ∃ (m : Nat), ∃ (c_1 : Nat), Value.slice a n c = Value.slice b m c_1 ∧ SlM I' b m (1 : Nat) (List.map (Value.int IntKind.u8) (hdF x)) ∧ m ≤ c_1 ∧ c_1 ≤ (9223372036854775807 : Nat)) (by kernel_rfl) ?_
  refine wr_i64 (by omega) (by omega) ?_
  intro b I1 l1 hb
  exact (ct64 [x.1, x.2.1, x.2.2.1, x.2.2.2.1, x.2.2.2.2] _ 5 5 I1 (int_sl hb rfl rfl (by omega)) (by omega)).mono fun v I2 l2 h => bysl_split h fun a n c h => ⟨a, n, c, rfl, by obtain ⟨_, _, _, he, h1⟩ := h; cases he; exact h1⟩

theorem fm_get {α : Type} {c : α → List Value} {k : Nat} (hk : ∀ x, (c x).length = k) : ∀ {l : List α} {j : Nat} {x : α} {i : Nat}, l[j]? = some x → i < k → (l.flatMap c)[j * k + i]? = (c x)[i]?
  | y :: l, 0, x, i, h, hi => by
    simp only [List.getElem?_cons_zero, Option.some.injEq] at h
    subst h
    rw [List.flatMap_cons, Nat.zero_mul, Nat.zero_add, List.getElem?_append_left (by rw [hk]; exact hi)]
  | y :: l, j + 1, x, i, h, hi => by
    have h : l[j]? = some x := by simpa using h
    rw [List.flatMap_cons, List.getElem?_append_right (by rw [hk, Nat.succ_mul]; omega), hk, ← fm_get hk h hi]
    congr 1
    rw [Nat.succ_mul]; omega
theorem lst_at {α : Type} {c : α → List Value} {k : Nat} (hk : ∀ x, (c x).length = k) {I : Mem} {a : Option Addr} {n : Nat} {L : List α} (h : SlM I a n k (L.flatMap c)) (hn : n = L.length) {j : Int} (h0 : 0 ≤ j) (h1 : j < n) :
    ∃ x, L[j.toNat]? = some x ∧ ∀ (i : Nat) (v : Value), i < k → (c x)[i]? = some v → atI I a (j.toNat * k + i) = some v := by
  have hlt : j.toNat < L.length := by omega
  refine ⟨_, List.getElem?_eq_getElem hlt, fun i v hi hv => h.at_ _ _ ?_⟩
  rw [fm_get hk (List.getElem?_eq_getElem hlt) hi]
  exact hv
theorem fm_bound {α : Type} {F : α → List Int} {B : Nat} : ∀ {l : List α}, (∀ x ∈ l, (F x).length ≤ B) → (l.flatMap F).length ≤ B * l.length
  | [], _ => by simp
  | x :: l, h => by
    have h1 := h x (by simp)
    have h2 := fm_bound (l := l) fun y hy => h y (by simp [hy])
    rw [List.flatMap_cons, List.length_append, List.length_cons, Nat.mul_succ]
    omega
theorem fm_take {α : Type} {F : α → List Int} {B : Nat} {l : List α} (h : ∀ x ∈ l, (F x).length ≤ B) (j : Nat) : ((l.take j).flatMap F).length ≤ B * l.length := by
  have h1 := fm_bound (l := l.take j) fun y hy => h y (List.mem_of_mem_take hy)
  have h2 : (l.take j).length ≤ l.length := by rw [List.length_take]; omega
  exact Nat.le_trans h1 (Nat.mul_le_mul_left _ h2)

theorem ct62 (tag : Int) (L : List Int) (hX : ∀ x ∈ L, True) (hF : ∀ x ∈ L, (numF x).length ≤ 2000) (a : Option Addr) (n c : Nat) (I : Mem) (h : SlM I a n 1 (L.flatMap cI)) (hn : n = L.length) (hn2 : n ≤ 10000) :
    Ct Try.prog (fnv 62) #[.int .i64 tag, .slice a n c, fnv 63] I (fun v I' => ∃ y, v = .agg #[.int .i64 tag, y] ∧ BySl I' y (L.flatMap numF)) := by
  obtain ⟨F, hFe⟩ : ∃ F, F = numF := ⟨_, rfl⟩
  rw [← hFe] at hF ⊢
  refine viaR (ct_via (A := { loops := [(3, ⟨[(2, .keep), (6, .keep), (7, .keep), (12, .keep), (13, .keep), (14, .sh (.int .i64))], [(0, .keep), (1, .cells [.keep, .row 2]), (2, .row)], [(7, 1001, 5)], fun vals xss _ _ => match vals, xss with | [.int .i64 j], [xs] => 0 ≤ j ∧ j ≤ n ∧ xs = ints .u8 ((L.take j.toNat).flatMap F) | _, _ => False, fun vals _ => match vals with | [.int .i64 j] => (n - j).toNat | _ => 0⟩)] }) Try.func62 rfl Try.call62 rfl rfl) ((Ent.mk (EO.cells [SV.v (Value.int IntKind.i64 (0 : Int)), SV.v (Value.slice none (0 : Nat) (0 : Nat))] (77 : Nat)) none = Ent.mk (EO.cells [SV.v (Value.int IntKind.i64 (0 : Int)), SV.v (Value.slice none (0 : Nat) (0 : Nat))] (77 : Nat)) none ∧ SV.v (Value.func (Fn.func (63 : Nat)) #[] #[]) = SV.v (Value.func (Fn.func (63 : Nat)) #[] #[]) ∧ SV.ptr (0 : Nat) (0 : Nat) = SV.ptr (0 : Nat) (0 : Nat) ∧ SV.ptr (1 : Nat) (0 : Nat) = SV.ptr (1 : Nat) (0 : Nat) ∧ SV.v (Value.slice a n c) = SV.v (Value.slice a n c) ∧ SV.v (Value.int IntKind.i64 (↑n : Int)) = SV.v (Value.int IntKind.i64 (↑n : Int)) ∧ @none Nat = @none Nat ∧ SV.v (Value.int IntKind.i64 tag) = SV.v (Value.int IntKind.i64 tag) ∧ (0 : Nat) = (0 : Nat) ∧ (0 : Int) ≤ (0 : Int) ∧ (0 : Int) ≤ (↑n : Int) ∧ @List.nil Value = @List.nil Value) ∧ ∀ (I' G' : Mem), Mem.le I I' → ∀ (xs : List Value) (n_1 : Int), (0 : Int) ≤ n_1 ∧ n_1 ≤ (↑n : Int) ∧ xs = List.map (Value.int IntKind.u8) (List.flatMap F (List.take (Int.toNat n_1) L)) → Br (decide (n_1 < (↑n : Int))) ((0 : Int) ≤ n_1 ∧ n_1 < (↑n : Int) ∧ Option.isSome a = true ∧ ∃ (n_2 : Int), atI I' a (Int.toNat n_1 * (1 : Nat) + (0 : Nat)) = some (Value.int IntKind.i64 n_2) ∧ (Ct Try.prog (Value.func (Fn.func (63 : Nat)) #[] #[]) #[Value.int IntKind.i64 n_2] I' fun (v : Value) (I' : Mem) => ∃ (a_3 : Option Addr), ∃ (n_3 : Nat), ∃ (c_1 : Nat), v = Value.slice a_3 n_3 c_1 ∧ ∃ (ys : List Value), List.length ys = n_3 * (1 : Nat) ∧ (a_3 = none → n_3 = (0 : Nat)) ∧ (∀ (j : Nat) (v : Value), ys[j]? = some v → atI I' a_3 j = some v) ∧ (∀ (v : Value), v ∈ ys → Value.oneCell' v = true) ∧ List.length xs = List.length xs * (1 : Nat) ∧ List.length xs + n_3 ≤ (9223372036854775807 : Nat) ∧ (List.length xs + n_3) * (1 : Nat) ≤ (140737488355328 : Nat) ∧ Wr IntKind.i64 (n_1 + (1 : Int)) fun (c_2 : Int) => Ent.mk (EO.cells [SV.v (Value.int IntKind.i64 (0 : Int)), SV.v (Value.slice none (0 : Nat) (0 : Nat))] (77 : Nat)) none = Ent.mk (EO.cells [SV.v (Value.int IntKind.i64 (0 : Int)), SV.v (Value.slice none (0 : Nat) (0 : Nat))] (77 : Nat)) none ∧ SV.v (Value.func (Fn.func (63 : Nat)) #[] #[]) = SV.v (Value.func (Fn.func (63 : Nat)) #[] #[]) ∧ SV.ptr (0 : Nat) (0 : Nat) = SV.ptr (0 : Nat) (0 : Nat) ∧ SV.ptr (1 : Nat) (0 : Nat) = SV.ptr (1 : Nat) (0 : Nat) ∧ SV.v (Value.slice a n c) = SV.v (Value.slice a n c) ∧ SV.v (Value.int IntKind.i64 (↑n : Int)) = SV.v (Value.int IntKind.i64 (↑n : Int)) ∧ @none Nat = @none Nat ∧ SV.v (Value.int IntKind.i64 tag) = SV.v (Value.int IntKind.i64 tag) ∧ List.length xs + n_3 = List.length (xs ++ ys) ∧ ((0 : Int) ≤ c_2 ∧ c_2 ≤ (↑n : Int) ∧ xs ++ ys = List.map (Value.int IntKind.u8) (List.flatMap F (List.take (Int.toNat c_2) L))) ∧ Int.toNat ((↑n : Int) - c_2) < Int.toNat ((↑n : Int) - n_1)) ∧ Ct Try.prog (Value.func (Fn.func (63 : Nat)) #[] #[]) #[Value.int IntKind.i64 n_2] I' fun (v : Value) (I' : Mem) => ∃ (a_3 : Option Addr), ∃ (n_3 : Nat), ∃ (c_1 : Nat), v = Value.slice a_3 n_3 c_1 ∧ ∃ (ys : List Value), List.length ys = n_3 * (1 : Nat) ∧ (a_3 = none → n_3 = (0 : Nat)) ∧ (∀ (j : Nat) (v : Value), ys[j]? = some v → atI I' a_3 j = some v) ∧ (∀ (v : Value), v ∈ ys → Value.oneCell' v = true) ∧ List.length xs = List.length xs * (1 : Nat) ∧ List.length xs + n_3 ≤ (9223372036854775807 : Nat) ∧ (List.length xs + n_3) * (1 : Nat) ≤ (140737488355328 : Nat) ∧ Wr IntKind.i64 (n_1 + (1 : Int)) fun (c_2 : Int) => Ent.mk (EO.cells [SV.v (Value.int IntKind.i64 (0 : Int)), SV.v (Value.slice none (0 : Nat) (0 : Nat))] (77 : Nat)) none = Ent.mk (EO.cells [SV.v (Value.int IntKind.i64 (0 : Int)), SV.v (Value.slice none (0 : Nat) (0 : Nat))] (77 : Nat)) none ∧ SV.v (Value.func (Fn.func (63 : Nat)) #[] #[]) = SV.v (Value.func (Fn.func (63 : Nat)) #[] #[]) ∧ SV.ptr (0 : Nat) (0 : Nat) = SV.ptr (0 : Nat) (0 : Nat) ∧ SV.ptr (1 : Nat) (0 : Nat) = SV.ptr (1 : Nat) (0 : Nat) ∧ SV.v (Value.slice a n c) = SV.v (Value.slice a n c) ∧ SV.v (Value.int IntKind.i64 (↑n : Int)) = SV.v (Value.int IntKind.i64 (↑n : Int)) ∧ @none Nat = @none Nat ∧ SV.v (Value.int IntKind.i64 tag) = SV.v (Value.int IntKind.i64 tag) ∧ List.length xs + n_3 = List.length (xs ++ ys) ∧ ((0 : Int) ≤ c_2 ∧ c_2 ≤ (↑n : Int) ∧ xs ++ ys = List.map (Value.int IntKind.u8) (List.flatMap F (List.take (Int.toNat c_2) L))) ∧ Int.toNat ((↑n : Int) - c_2) < Int.toNat ((↑n : Int) - n_1)) (∀ (a : Option Addr) (cp : Nat) (I'_1 : Mem), Mem.le I' I'_1 → RowM I'_1 a cp (1 : Nat) xs → ∃ (y : Value), Value.agg #[Value.int IntKind.i64 tag, Value.slice a (List.length xs) cp] = Value.agg #[Value.int IntKind.i64 tag, y] ∧ ∃ (b : Option Addr), ∃ (m : Nat), ∃ (c : Nat), y = Value.slice b m c ∧ SlM I'_1 b m (1 : Nat) (List.map (Value.int IntKind.u8) (List.flatMap F L)) ∧ m ≤ c ∧ c ≤ (9223372036854775807 : Nat))) (by kernel_rfl) ?_
  simp only [eq_self, true_and, and_true]
  refine ⟨⟨by omega, by omega⟩, fun I1 _ l1 xs j ⟨j0, j1, hx⟩ => Br.mk (fun hlt => ?_) (fun hge => ?_)⟩
  · have hlt := of_decide_eq_true hlt
    obtain ⟨x, hxj, g⟩ := lst_at (c := cI) (k := 1) (fun _ => rfl) (h.mono l1) hn j0 hlt
    have hxm := hX x (List.mem_of_getElem? hxj)
    have hxf := hF x (List.mem_of_getElem? hxj)
    have hbd := fm_take hF j.toNat
    have hxl : xs.length ≤ 20000000 := by rw [hx]; simp only [List.length_map]; omega
    refine ⟨j0, hlt, h.isSome (by omega), _, g 0 _ (by omega) rfl, ?_⟩
    refine ⟨?_, ?_⟩
    all_goals
      refine (ct63 x  I1).mono fun v I2 l2 ⟨a2, n2, c2, hv, hs2, _, _⟩ => ?_
      rw [← hFe] at hs2
      have hl2 := hs2.numLen
      refine ⟨a2, n2, c2, hv, ints .u8 (F x), hs2.len, hs2.nil, hs2.at_, one_ints, by omega, by omega, by omega, wr_i64 (by omega) (by omega) ⟨by rw [List.length_append, ints_len]; omega, ⟨by omega, by omega, ?_⟩, by omega⟩⟩
      rw [show (j + 1).toNat = j.toNat + 1 by omega, take_succ' hxj, List.flatMap_append, hx]
      simp [ints]
  · have hge := of_decide_eq_false hge
    rw [List.take_of_length_le (by omega)] at hx
    subst hx
    exact fun a' cp I2 l2 hrow => ⟨_, rfl, row_bysl hrow (by rw [List.length_map])⟩

theorem ct65 (tag : Int) (L : List Int) (hX : ∀ x ∈ L, i64R x) (hF : ∀ x ∈ L, (celF x).length ≤ 2000) (a : Option Addr) (n c : Nat) (I : Mem) (h : SlM I a n 1 (L.flatMap cI)) (hn : n = L.length) (hn2 : n ≤ 10000) :
    Ct Try.prog (fnv 65) #[.int .i64 tag, .slice a n c, fnv 66] I (fun v I' => ∃ y, v = .agg #[.int .i64 tag, y] ∧ BySl I' y (L.flatMap celF)) := by
  obtain ⟨F, hFe⟩ : ∃ F, F = celF := ⟨_, rfl⟩
  rw [← hFe] at hF ⊢
  refine viaR (ct_via (A := { loops := [(3, ⟨[(2, .keep), (6, .keep), (7, .keep), (12, .keep), (13, .keep), (14, .sh (.int .i64))], [(0, .keep), (1, .cells [.keep, .row 2]), (2, .row)], [(7, 1001, 5)], fun vals xss _ _ => match vals, xss with | [.int .i64 j], [xs] => 0 ≤ j ∧ j ≤ n ∧ xs = ints .u8 ((L.take j.toNat).flatMap F) | _, _ => False, fun vals _ => match vals with | [.int .i64 j] => (n - j).toNat | _ => 0⟩)] }) Try.func65 rfl Try.call65 rfl rfl) ((Ent.mk (EO.cells [SV.v (Value.int IntKind.i64 (0 : Int)), SV.v (Value.slice none (0 : Nat) (0 : Nat))] (77 : Nat)) none = Ent.mk (EO.cells [SV.v (Value.int IntKind.i64 (0 : Int)), SV.v (Value.slice none (0 : Nat) (0 : Nat))] (77 : Nat)) none ∧ SV.v (Value.func (Fn.func (66 : Nat)) #[] #[]) = SV.v (Value.func (Fn.func (66 : Nat)) #[] #[]) ∧ SV.ptr (0 : Nat) (0 : Nat) = SV.ptr (0 : Nat) (0 : Nat) ∧ SV.ptr (1 : Nat) (0 : Nat) = SV.ptr (1 : Nat) (0 : Nat) ∧ SV.v (Value.slice a n c) = SV.v (Value.slice a n c) ∧ SV.v (Value.int IntKind.i64 (↑n : Int)) = SV.v (Value.int IntKind.i64 (↑n : Int)) ∧ @none Nat = @none Nat ∧ SV.v (Value.int IntKind.i64 tag) = SV.v (Value.int IntKind.i64 tag) ∧ (0 : Nat) = (0 : Nat) ∧ (0 : Int) ≤ (0 : Int) ∧ (0 : Int) ≤ (↑n : Int) ∧ @List.nil Value = @List.nil Value) ∧ ∀ (I' G' : Mem), Mem.le I I' → ∀ (xs : List Value) (n_1 : Int), (0 : Int) ≤ n_1 ∧ n_1 ≤ (↑n : Int) ∧ xs = List.map (Value.int IntKind.u8) (List.flatMap F (List.take (Int.toNat n_1) L)) → Br (decide (n_1 < (↑n : Int))) ((0 : Int) ≤ n_1 ∧ n_1 < (↑n : Int) ∧ Option.isSome a = true ∧ ∃ (n_2 : Int), atI I' a (Int.toNat n_1 * (1 : Nat) + (0 : Nat)) = some (Value.int IntKind.i64 n_2) ∧ (Ct Try.prog (Value.func (Fn.func (66 : Nat)) #[] #[]) #[Value.int IntKind.i64 n_2] I' fun (v : Value) (I' : Mem) => ∃ (a_3 : Option Addr), ∃ (n_3 : Nat), ∃ (c_1 : Nat), v = Value.slice a_3 n_3 c_1 ∧ ∃ (ys : List Value), List.length ys = n_3 * (1 : Nat) ∧ (a_3 = none → n_3 = (0 : Nat)) ∧ (∀ (j : Nat) (v : Value), ys[j]? = some v → atI I' a_3 j = some v) ∧ (∀ (v : Value), v ∈ ys → Value.oneCell' v = true) ∧ List.length xs = List.length xs * (1 : Nat) ∧ List.length xs + n_3 ≤ (9223372036854775807 : Nat) ∧ (List.length xs + n_3) * (1 : Nat) ≤ (140737488355328 : Nat) ∧ Wr IntKind.i64 (n_1 + (1 : Int)) fun (c_2 : Int) => Ent.mk (EO.cells [SV.v (Value.int IntKind.i64 (0 : Int)), SV.v (Value.slice none (0 : Nat) (0 : Nat))] (77 : Nat)) none = Ent.mk (EO.cells [SV.v (Value.int IntKind.i64 (0 : Int)), SV.v (Value.slice none (0 : Nat) (0 : Nat))] (77 : Nat)) none ∧ SV.v (Value.func (Fn.func (66 : Nat)) #[] #[]) = SV.v (Value.func (Fn.func (66 : Nat)) #[] #[]) ∧ SV.ptr (0 : Nat) (0 : Nat) = SV.ptr (0 : Nat) (0 : Nat) ∧ SV.ptr (1 : Nat) (0 : Nat) = SV.ptr (1 : Nat) (0 : Nat) ∧ SV.v (Value.slice a n c) = SV.v (Value.slice a n c) ∧ SV.v (Value.int IntKind.i64 (↑n : Int)) = SV.v (Value.int IntKind.i64 (↑n : Int)) ∧ @none Nat = @none Nat ∧ SV.v (Value.int IntKind.i64 tag) = SV.v (Value.int IntKind.i64 tag) ∧ List.length xs + n_3 = List.length (xs ++ ys) ∧ ((0 : Int) ≤ c_2 ∧ c_2 ≤ (↑n : Int) ∧ xs ++ ys = List.map (Value.int IntKind.u8) (List.flatMap F (List.take (Int.toNat c_2) L))) ∧ Int.toNat ((↑n : Int) - c_2) < Int.toNat ((↑n : Int) - n_1)) ∧ Ct Try.prog (Value.func (Fn.func (66 : Nat)) #[] #[]) #[Value.int IntKind.i64 n_2] I' fun (v : Value) (I' : Mem) => ∃ (a_3 : Option Addr), ∃ (n_3 : Nat), ∃ (c_1 : Nat), v = Value.slice a_3 n_3 c_1 ∧ ∃ (ys : List Value), List.length ys = n_3 * (1 : Nat) ∧ (a_3 = none → n_3 = (0 : Nat)) ∧ (∀ (j : Nat) (v : Value), ys[j]? = some v → atI I' a_3 j = some v) ∧ (∀ (v : Value), v ∈ ys → Value.oneCell' v = true) ∧ List.length xs = List.length xs * (1 : Nat) ∧ List.length xs + n_3 ≤ (9223372036854775807 : Nat) ∧ (List.length xs + n_3) * (1 : Nat) ≤ (140737488355328 : Nat) ∧ Wr IntKind.i64 (n_1 + (1 : Int)) fun (c_2 : Int) => Ent.mk (EO.cells [SV.v (Value.int IntKind.i64 (0 : Int)), SV.v (Value.slice none (0 : Nat) (0 : Nat))] (77 : Nat)) none = Ent.mk (EO.cells [SV.v (Value.int IntKind.i64 (0 : Int)), SV.v (Value.slice none (0 : Nat) (0 : Nat))] (77 : Nat)) none ∧ SV.v (Value.func (Fn.func (66 : Nat)) #[] #[]) = SV.v (Value.func (Fn.func (66 : Nat)) #[] #[]) ∧ SV.ptr (0 : Nat) (0 : Nat) = SV.ptr (0 : Nat) (0 : Nat) ∧ SV.ptr (1 : Nat) (0 : Nat) = SV.ptr (1 : Nat) (0 : Nat) ∧ SV.v (Value.slice a n c) = SV.v (Value.slice a n c) ∧ SV.v (Value.int IntKind.i64 (↑n : Int)) = SV.v (Value.int IntKind.i64 (↑n : Int)) ∧ @none Nat = @none Nat ∧ SV.v (Value.int IntKind.i64 tag) = SV.v (Value.int IntKind.i64 tag) ∧ List.length xs + n_3 = List.length (xs ++ ys) ∧ ((0 : Int) ≤ c_2 ∧ c_2 ≤ (↑n : Int) ∧ xs ++ ys = List.map (Value.int IntKind.u8) (List.flatMap F (List.take (Int.toNat c_2) L))) ∧ Int.toNat ((↑n : Int) - c_2) < Int.toNat ((↑n : Int) - n_1)) (∀ (a : Option Addr) (cp : Nat) (I'_1 : Mem), Mem.le I' I'_1 → RowM I'_1 a cp (1 : Nat) xs → ∃ (y : Value), Value.agg #[Value.int IntKind.i64 tag, Value.slice a (List.length xs) cp] = Value.agg #[Value.int IntKind.i64 tag, y] ∧ ∃ (b : Option Addr), ∃ (m : Nat), ∃ (c : Nat), y = Value.slice b m c ∧ SlM I'_1 b m (1 : Nat) (List.map (Value.int IntKind.u8) (List.flatMap F L)) ∧ m ≤ c ∧ c ≤ (9223372036854775807 : Nat))) (by kernel_rfl) ?_
  simp only [eq_self, true_and, and_true]
  refine ⟨⟨by omega, by omega⟩, fun I1 _ l1 xs j ⟨j0, j1, hx⟩ => Br.mk (fun hlt => ?_) (fun hge => ?_)⟩
  · have hlt := of_decide_eq_true hlt
    obtain ⟨x, hxj, g⟩ := lst_at (c := cI) (k := 1) (fun _ => rfl) (h.mono l1) hn j0 hlt
    have hxm := hX x (List.mem_of_getElem? hxj)
    have hxf := hF x (List.mem_of_getElem? hxj)
    have hbd := fm_take hF j.toNat
    have hxl : xs.length ≤ 20000000 := by rw [hx]; simp only [List.length_map]; omega
    refine ⟨j0, hlt, h.isSome (by omega), _, g 0 _ (by omega) rfl, ?_⟩
    refine ⟨?_, ?_⟩
    all_goals
      refine (ct66 x hxm I1).mono fun v I2 l2 ⟨a2, n2, c2, hv, hs2, _, _⟩ => ?_
      rw [← hFe] at hs2
      have hl2 := hs2.numLen
      refine ⟨a2, n2, c2, hv, ints .u8 (F x), hs2.len, hs2.nil, hs2.at_, one_ints, by omega, by omega, by omega, wr_i64 (by omega) (by omega) ⟨by rw [List.length_append, ints_len]; omega, ⟨by omega, by omega, ?_⟩, by omega⟩⟩
      rw [show (j + 1).toNat = j.toNat + 1 by omega, take_succ' hxj, List.flatMap_append, hx]
      simp [ints]
  · have hge := of_decide_eq_false hge
    rw [List.take_of_length_le (by omega)] at hx
    subst hx
    exact fun a' cp I2 l2 hrow => ⟨_, rfl, row_bysl hrow (by rw [List.length_map])⟩

theorem ct68 (tag : Int) (L : List EvT) (hX : ∀ x ∈ L, i64R x.2.2) (hF : ∀ x ∈ L, (evF x).length ≤ 2000) (a : Option Addr) (n c : Nat) (I : Mem) (h : SlM I a n 5 (L.flatMap cE)) (hn : n = L.length) (hn2 : n ≤ 10000) :
    Ct Try.prog (fnv 68) #[.int .i64 tag, .slice a n c, fnv 69] I (fun v I' => ∃ y, v = .agg #[.int .i64 tag, y] ∧ BySl I' y (L.flatMap evF)) := by
  obtain ⟨F, hFe⟩ : ∃ F, F = evF := ⟨_, rfl⟩
  rw [← hFe] at hF ⊢
  refine viaR (ct_via (A := { loops := [(3, ⟨[(2, .keep), (6, .keep), (7, .keep), (12, .keep), (13, .keep), (14, .sh (.int .i64))], [(0, .keep), (1, .cells [.keep, .row 2]), (2, .row)], [(7, 1001, 5)], fun vals xss _ _ => match vals, xss with | [.int .i64 j], [xs] => 0 ≤ j ∧ j ≤ n ∧ xs = ints .u8 ((L.take j.toNat).flatMap F) | _, _ => False, fun vals _ => match vals with | [.int .i64 j] => (n - j).toNat | _ => 0⟩)] }) Try.func68 rfl Try.call68 rfl rfl) ((Ent.mk (EO.cells [SV.v (Value.int IntKind.i64 (0 : Int)), SV.v (Value.slice none (0 : Nat) (0 : Nat))] (77 : Nat)) none = Ent.mk (EO.cells [SV.v (Value.int IntKind.i64 (0 : Int)), SV.v (Value.slice none (0 : Nat) (0 : Nat))] (77 : Nat)) none ∧ SV.v (Value.func (Fn.func (69 : Nat)) #[] #[]) = SV.v (Value.func (Fn.func (69 : Nat)) #[] #[]) ∧ SV.ptr (0 : Nat) (0 : Nat) = SV.ptr (0 : Nat) (0 : Nat) ∧ SV.ptr (1 : Nat) (0 : Nat) = SV.ptr (1 : Nat) (0 : Nat) ∧ SV.v (Value.slice a n c) = SV.v (Value.slice a n c) ∧ SV.v (Value.int IntKind.i64 (↑n : Int)) = SV.v (Value.int IntKind.i64 (↑n : Int)) ∧ @none Nat = @none Nat ∧ SV.v (Value.int IntKind.i64 tag) = SV.v (Value.int IntKind.i64 tag) ∧ (0 : Nat) = (0 : Nat) ∧ (0 : Int) ≤ (0 : Int) ∧ (0 : Int) ≤ (↑n : Int) ∧ @List.nil Value = @List.nil Value) ∧ ∀ (I' G' : Mem), Mem.le I I' → ∀ (xs : List Value) (n_1 : Int), (0 : Int) ≤ n_1 ∧ n_1 ≤ (↑n : Int) ∧ xs = List.map (Value.int IntKind.u8) (List.flatMap F (List.take (Int.toNat n_1) L)) → Br (decide (n_1 < (↑n : Int))) ((0 : Int) ≤ n_1 ∧ n_1 < (↑n : Int) ∧ Option.isSome a = true ∧ (5 : Nat) = (5 : Nat) ∧ ∃ (n_2 : Int), atI I' a (Int.toNat n_1 * (5 : Nat) + (0 : Nat)) = some (Value.int IntKind.i64 n_2) ∧ ∃ (n_3 : Int), atI I' a (Int.toNat n_1 * (5 : Nat) + (1 : Nat)) = some (Value.int IntKind.i64 n_3) ∧ ∃ (n_4 : Int), atI I' a (Int.toNat n_1 * (5 : Nat) + (2 : Nat)) = some (Value.int IntKind.i64 n_4) ∧ ∃ (n_5 : Int), atI I' a (Int.toNat n_1 * (5 : Nat) + (3 : Nat)) = some (Value.int IntKind.i64 n_5) ∧ ∃ (n_6 : Int), atI I' a (Int.toNat n_1 * (5 : Nat) + (4 : Nat)) = some (Value.int IntKind.i64 n_6) ∧ (Ct Try.prog (Value.func (Fn.func (69 : Nat)) #[] #[]) #[Value.agg #[Value.int IntKind.i64 n_2, Value.int IntKind.i64 n_3, Value.int IntKind.i64 n_4, Value.int IntKind.i64 n_5, Value.int IntKind.i64 n_6]] I' fun (v : Value) (I' : Mem) => ∃ (a_3 : Option Addr), ∃ (n_7 : Nat), ∃ (c_1 : Nat), v = Value.slice a_3 n_7 c_1 ∧ ∃ (ys : List Value), List.length ys = n_7 * (1 : Nat) ∧ (a_3 = none → n_7 = (0 : Nat)) ∧ (∀ (j : Nat) (v : Value), ys[j]? = some v → atI I' a_3 j = some v) ∧ (∀ (v : Value), v ∈ ys → Value.oneCell' v = true) ∧ List.length xs = List.length xs * (1 : Nat) ∧ List.length xs + n_7 ≤ (9223372036854775807 : Nat) ∧ (List.length xs + n_7) * (1 : Nat) ≤ (140737488355328 : Nat) ∧ Wr IntKind.i64 (n_1 + (1 : Int)) fun (c_2 : Int) => Ent.mk (EO.cells [SV.v (Value.int IntKind.i64 (0 : Int)), SV.v (Value.slice none (0 : Nat) (0 : Nat))] (77 : Nat)) none = Ent.mk (EO.cells [SV.v (Value.int IntKind.i64 (0 : Int)), SV.v (Value.slice none (0 : Nat) (0 : Nat))] (77 : Nat)) none ∧ SV.v (Value.func (Fn.func (69 : Nat)) #[] #[]) = SV.v (Value.func (Fn.func (69 : Nat)) #[] #[]) ∧ SV.ptr (0 : Nat) (0 : Nat) = SV.ptr (0 : Nat) (0 : Nat) ∧ SV.ptr (1 : Nat) (0 : Nat) = SV.ptr (1 : Nat) (0 : Nat) ∧ SV.v (Value.slice a n c) = SV.v (Value.slice a n c) ∧ SV.v (Value.int IntKind.i64 (↑n : Int)) = SV.v (Value.int IntKind.i64 (↑n : Int)) ∧ @none Nat = @none Nat ∧ SV.v (Value.int IntKind.i64 tag) = SV.v (Value.int IntKind.i64 tag) ∧ List.length xs + n_7 = List.length (xs ++ ys) ∧ ((0 : Int) ≤ c_2 ∧ c_2 ≤ (↑n : Int) ∧ xs ++ ys = List.map (Value.int IntKind.u8) (List.flatMap F (List.take (Int.toNat c_2) L))) ∧ Int.toNat ((↑n : Int) - c_2) < Int.toNat ((↑n : Int) - n_1)) ∧ Ct Try.prog (Value.func (Fn.func (69 : Nat)) #[] #[]) #[Value.agg #[Value.int IntKind.i64 n_2, Value.int IntKind.i64 n_3, Value.int IntKind.i64 n_4, Value.int IntKind.i64 n_5, Value.int IntKind.i64 n_6]] I' fun (v : Value) (I' : Mem) => ∃ (a_3 : Option Addr), ∃ (n_7 : Nat), ∃ (c_1 : Nat), v = Value.slice a_3 n_7 c_1 ∧ ∃ (ys : List Value), List.length ys = n_7 * (1 : Nat) ∧ (a_3 = none → n_7 = (0 : Nat)) ∧ (∀ (j : Nat) (v : Value), ys[j]? = some v → atI I' a_3 j = some v) ∧ (∀ (v : Value), v ∈ ys → Value.oneCell' v = true) ∧ List.length xs = List.length xs * (1 : Nat) ∧ List.length xs + n_7 ≤ (9223372036854775807 : Nat) ∧ (List.length xs + n_7) * (1 : Nat) ≤ (140737488355328 : Nat) ∧ Wr IntKind.i64 (n_1 + (1 : Int)) fun (c_2 : Int) => Ent.mk (EO.cells [SV.v (Value.int IntKind.i64 (0 : Int)), SV.v (Value.slice none (0 : Nat) (0 : Nat))] (77 : Nat)) none = Ent.mk (EO.cells [SV.v (Value.int IntKind.i64 (0 : Int)), SV.v (Value.slice none (0 : Nat) (0 : Nat))] (77 : Nat)) none ∧ SV.v (Value.func (Fn.func (69 : Nat)) #[] #[]) = SV.v (Value.func (Fn.func (69 : Nat)) #[] #[]) ∧ SV.ptr (0 : Nat) (0 : Nat) = SV.ptr (0 : Nat) (0 : Nat) ∧ SV.ptr (1 : Nat) (0 : Nat) = SV.ptr (1 : Nat) (0 : Nat) ∧ SV.v (Value.slice a n c) = SV.v (Value.slice a n c) ∧ SV.v (Value.int IntKind.i64 (↑n : Int)) = SV.v (Value.int IntKind.i64 (↑n : Int)) ∧ @none Nat = @none Nat ∧ SV.v (Value.int IntKind.i64 tag) = SV.v (Value.int IntKind.i64 tag) ∧ List.length xs + n_7 = List.length (xs ++ ys) ∧ ((0 : Int) ≤ c_2 ∧ c_2 ≤ (↑n : Int) ∧ xs ++ ys = List.map (Value.int IntKind.u8) (List.flatMap F (List.take (Int.toNat c_2) L))) ∧ Int.toNat ((↑n : Int) - c_2) < Int.toNat ((↑n : Int) - n_1)) (∀ (a : Option Addr) (cp : Nat) (I'_1 : Mem), Mem.le I' I'_1 → RowM I'_1 a cp (1 : Nat) xs → ∃ (y : Value), Value.agg #[Value.int IntKind.i64 tag, Value.slice a (List.length xs) cp] = Value.agg #[Value.int IntKind.i64 tag, y] ∧ ∃ (b : Option Addr), ∃ (m : Nat), ∃ (c : Nat), y = Value.slice b m c ∧ SlM I'_1 b m (1 : Nat) (List.map (Value.int IntKind.u8) (List.flatMap F L)) ∧ m ≤ c ∧ c ≤ (9223372036854775807 : Nat))) (by kernel_rfl) ?_
  simp only [eq_self, true_and, and_true]
  refine ⟨⟨by omega, by omega⟩, fun I1 _ l1 xs j ⟨j0, j1, hx⟩ => Br.mk (fun hlt => ?_) (fun hge => ?_)⟩
  · have hlt := of_decide_eq_true hlt
    obtain ⟨x, hxj, g⟩ := lst_at (c := cE) (k := 5) (fun _ => rfl) (h.mono l1) hn j0 hlt
    have hxm := hX x (List.mem_of_getElem? hxj)
    have hxf := hF x (List.mem_of_getElem? hxj)
    have hbd := fm_take hF j.toNat
    have hxl : xs.length ≤ 20000000 := by rw [hx]; simp only [List.length_map]; omega
    refine ⟨j0, hlt, h.isSome (by omega), _, g 0 _ (by omega) rfl, _, g 1 _ (by omega) rfl, _, g 2 _ (by omega) rfl, _, g 3 _ (by omega) rfl, _, g 4 _ (by omega) rfl, ?_⟩
    refine ⟨?_, ?_⟩
    all_goals
      refine (ct69 x hxm I1).mono fun v I2 l2 ⟨a2, n2, c2, hv, hs2, _, _⟩ => ?_
      rw [← hFe] at hs2
      have hl2 := hs2.numLen
      refine ⟨a2, n2, c2, hv, ints .u8 (F x), hs2.len, hs2.nil, hs2.at_, one_ints, by omega, by omega, by omega, wr_i64 (by omega) (by omega) ⟨by rw [List.length_append, ints_len]; omega, ⟨by omega, by omega, ?_⟩, by omega⟩⟩
      rw [show (j + 1).toNat = j.toNat + 1 by omega, take_succ' hxj, List.flatMap_append, hx]
      simp [ints]
  · have hge := of_decide_eq_false hge
    rw [List.take_of_length_le (by omega)] at hx
    subst hx
    exact fun a' cp I2 l2 hrow => ⟨_, rfl, row_bysl hrow (by rw [List.length_map])⟩

theorem ct70 (tag : Int) (L : List PtT) (hX : ∀ x ∈ L, x.2.1.length ≤ 1000 ∧ byteL x.2.1) (hF : ∀ x ∈ L, (ptF x).length ≤ 2000) (a : Option Addr) (n c : Nat) (I : Mem) (h : SlM I a n 3 (L.flatMap cP)) (hn : n = L.length) (hn2 : n ≤ 10000) :
    Ct Try.prog (fnv 70) #[.int .i64 tag, .slice a n c, fnv 71] I (fun v I' => ∃ y, v = .agg #[.int .i64 tag, y] ∧ BySl I' y (L.flatMap ptF)) := by
  obtain ⟨F, hFe⟩ : ∃ F, F = ptF := ⟨_, rfl⟩
  rw [← hFe] at hF ⊢
  refine viaR (ct_via (A := { loops := [(3, ⟨[(2, .keep), (6, .keep), (7, .keep), (12, .keep), (13, .keep), (14, .sh (.int .i64))], [(0, .keep), (1, .cells [.keep, .row 2]), (2, .row)], [(7, 1001, 5)], fun vals xss _ _ => match vals, xss with | [.int .i64 j], [xs] => 0 ≤ j ∧ j ≤ n ∧ xs = ints .u8 ((L.take j.toNat).flatMap F) | _, _ => False, fun vals _ => match vals with | [.int .i64 j] => (n - j).toNat | _ => 0⟩)] }) Try.func70 rfl Try.call70 rfl rfl) ((Ent.mk (EO.cells [SV.v (Value.int IntKind.i64 (0 : Int)), SV.v (Value.slice none (0 : Nat) (0 : Nat))] (77 : Nat)) none = Ent.mk (EO.cells [SV.v (Value.int IntKind.i64 (0 : Int)), SV.v (Value.slice none (0 : Nat) (0 : Nat))] (77 : Nat)) none ∧ SV.v (Value.func (Fn.func (71 : Nat)) #[] #[]) = SV.v (Value.func (Fn.func (71 : Nat)) #[] #[]) ∧ SV.ptr (0 : Nat) (0 : Nat) = SV.ptr (0 : Nat) (0 : Nat) ∧ SV.ptr (1 : Nat) (0 : Nat) = SV.ptr (1 : Nat) (0 : Nat) ∧ SV.v (Value.slice a n c) = SV.v (Value.slice a n c) ∧ SV.v (Value.int IntKind.i64 (↑n : Int)) = SV.v (Value.int IntKind.i64 (↑n : Int)) ∧ @none Nat = @none Nat ∧ SV.v (Value.int IntKind.i64 tag) = SV.v (Value.int IntKind.i64 tag) ∧ (0 : Nat) = (0 : Nat) ∧ (0 : Int) ≤ (0 : Int) ∧ (0 : Int) ≤ (↑n : Int) ∧ @List.nil Value = @List.nil Value) ∧ ∀ (I' G' : Mem), Mem.le I I' → ∀ (xs : List Value) (n_1 : Int), (0 : Int) ≤ n_1 ∧ n_1 ≤ (↑n : Int) ∧ xs = List.map (Value.int IntKind.u8) (List.flatMap F (List.take (Int.toNat n_1) L)) → Br (decide (n_1 < (↑n : Int))) ((0 : Int) ≤ n_1 ∧ n_1 < (↑n : Int) ∧ Option.isSome a = true ∧ (3 : Nat) = (3 : Nat) ∧ ∃ (n_2 : Int), atI I' a (Int.toNat n_1 * (3 : Nat) + (0 : Nat)) = some (Value.int IntKind.i64 n_2) ∧ ∃ (q : ByteArray), atI I' a (Int.toNat n_1 * (3 : Nat) + (1 : Nat)) = some (Value.string q) ∧ ∃ (n_3 : Int), atI I' a (Int.toNat n_1 * (3 : Nat) + (2 : Nat)) = some (Value.int IntKind.i64 n_3) ∧ (Ct Try.prog (Value.func (Fn.func (71 : Nat)) #[] #[]) #[Value.agg #[Value.int IntKind.i64 n_2, Value.string q, Value.int IntKind.i64 n_3]] I' fun (v : Value) (I' : Mem) => ∃ (a_3 : Option Addr), ∃ (n_4 : Nat), ∃ (c_1 : Nat), v = Value.slice a_3 n_4 c_1 ∧ ∃ (ys : List Value), List.length ys = n_4 * (1 : Nat) ∧ (a_3 = none → n_4 = (0 : Nat)) ∧ (∀ (j : Nat) (v : Value), ys[j]? = some v → atI I' a_3 j = some v) ∧ (∀ (v : Value), v ∈ ys → Value.oneCell' v = true) ∧ List.length xs = List.length xs * (1 : Nat) ∧ List.length xs + n_4 ≤ (9223372036854775807 : Nat) ∧ (List.length xs + n_4) * (1 : Nat) ≤ (140737488355328 : Nat) ∧ Wr IntKind.i64 (n_1 + (1 : Int)) fun (c_2 : Int) => Ent.mk (EO.cells [SV.v (Value.int IntKind.i64 (0 : Int)), SV.v (Value.slice none (0 : Nat) (0 : Nat))] (77 : Nat)) none = Ent.mk (EO.cells [SV.v (Value.int IntKind.i64 (0 : Int)), SV.v (Value.slice none (0 : Nat) (0 : Nat))] (77 : Nat)) none ∧ SV.v (Value.func (Fn.func (71 : Nat)) #[] #[]) = SV.v (Value.func (Fn.func (71 : Nat)) #[] #[]) ∧ SV.ptr (0 : Nat) (0 : Nat) = SV.ptr (0 : Nat) (0 : Nat) ∧ SV.ptr (1 : Nat) (0 : Nat) = SV.ptr (1 : Nat) (0 : Nat) ∧ SV.v (Value.slice a n c) = SV.v (Value.slice a n c) ∧ SV.v (Value.int IntKind.i64 (↑n : Int)) = SV.v (Value.int IntKind.i64 (↑n : Int)) ∧ @none Nat = @none Nat ∧ SV.v (Value.int IntKind.i64 tag) = SV.v (Value.int IntKind.i64 tag) ∧ List.length xs + n_4 = List.length (xs ++ ys) ∧ ((0 : Int) ≤ c_2 ∧ c_2 ≤ (↑n : Int) ∧ xs ++ ys = List.map (Value.int IntKind.u8) (List.flatMap F (List.take (Int.toNat c_2) L))) ∧ Int.toNat ((↑n : Int) - c_2) < Int.toNat ((↑n : Int) - n_1)) ∧ Ct Try.prog (Value.func (Fn.func (71 : Nat)) #[] #[]) #[Value.agg #[Value.int IntKind.i64 n_2, Value.string q, Value.int IntKind.i64 n_3]] I' fun (v : Value) (I' : Mem) => ∃ (a_3 : Option Addr), ∃ (n_4 : Nat), ∃ (c_1 : Nat), v = Value.slice a_3 n_4 c_1 ∧ ∃ (ys : List Value), List.length ys = n_4 * (1 : Nat) ∧ (a_3 = none → n_4 = (0 : Nat)) ∧ (∀ (j : Nat) (v : Value), ys[j]? = some v → atI I' a_3 j = some v) ∧ (∀ (v : Value), v ∈ ys → Value.oneCell' v = true) ∧ List.length xs = List.length xs * (1 : Nat) ∧ List.length xs + n_4 ≤ (9223372036854775807 : Nat) ∧ (List.length xs + n_4) * (1 : Nat) ≤ (140737488355328 : Nat) ∧ Wr IntKind.i64 (n_1 + (1 : Int)) fun (c_2 : Int) => Ent.mk (EO.cells [SV.v (Value.int IntKind.i64 (0 : Int)), SV.v (Value.slice none (0 : Nat) (0 : Nat))] (77 : Nat)) none = Ent.mk (EO.cells [SV.v (Value.int IntKind.i64 (0 : Int)), SV.v (Value.slice none (0 : Nat) (0 : Nat))] (77 : Nat)) none ∧ SV.v (Value.func (Fn.func (71 : Nat)) #[] #[]) = SV.v (Value.func (Fn.func (71 : Nat)) #[] #[]) ∧ SV.ptr (0 : Nat) (0 : Nat) = SV.ptr (0 : Nat) (0 : Nat) ∧ SV.ptr (1 : Nat) (0 : Nat) = SV.ptr (1 : Nat) (0 : Nat) ∧ SV.v (Value.slice a n c) = SV.v (Value.slice a n c) ∧ SV.v (Value.int IntKind.i64 (↑n : Int)) = SV.v (Value.int IntKind.i64 (↑n : Int)) ∧ @none Nat = @none Nat ∧ SV.v (Value.int IntKind.i64 tag) = SV.v (Value.int IntKind.i64 tag) ∧ List.length xs + n_4 = List.length (xs ++ ys) ∧ ((0 : Int) ≤ c_2 ∧ c_2 ≤ (↑n : Int) ∧ xs ++ ys = List.map (Value.int IntKind.u8) (List.flatMap F (List.take (Int.toNat c_2) L))) ∧ Int.toNat ((↑n : Int) - c_2) < Int.toNat ((↑n : Int) - n_1)) (∀ (a : Option Addr) (cp : Nat) (I'_1 : Mem), Mem.le I' I'_1 → RowM I'_1 a cp (1 : Nat) xs → ∃ (y : Value), Value.agg #[Value.int IntKind.i64 tag, Value.slice a (List.length xs) cp] = Value.agg #[Value.int IntKind.i64 tag, y] ∧ ∃ (b : Option Addr), ∃ (m : Nat), ∃ (c : Nat), y = Value.slice b m c ∧ SlM I'_1 b m (1 : Nat) (List.map (Value.int IntKind.u8) (List.flatMap F L)) ∧ m ≤ c ∧ c ≤ (9223372036854775807 : Nat))) (by kernel_rfl) ?_
  simp only [eq_self, true_and, and_true]
  refine ⟨⟨by omega, by omega⟩, fun I1 _ l1 xs j ⟨j0, j1, hx⟩ => Br.mk (fun hlt => ?_) (fun hge => ?_)⟩
  · have hlt := of_decide_eq_true hlt
    obtain ⟨x, hxj, g⟩ := lst_at (c := cP) (k := 3) (fun _ => rfl) (h.mono l1) hn j0 hlt
    have hxm := hX x (List.mem_of_getElem? hxj)
    have hxf := hF x (List.mem_of_getElem? hxj)
    have hbd := fm_take hF j.toNat
    have hxl : xs.length ≤ 20000000 := by rw [hx]; simp only [List.length_map]; omega
    refine ⟨j0, hlt, h.isSome (by omega), _, g 0 _ (by omega) rfl, _, g 1 _ (by omega) rfl, _, g 2 _ (by omega) rfl, ?_⟩
    refine ⟨?_, ?_⟩
    all_goals
      refine (ct71 x hxm.1 hxm.2 I1).mono fun v I2 l2 ⟨a2, n2, c2, hv, hs2, _, _⟩ => ?_
      rw [← hFe] at hs2
      have hl2 := hs2.numLen
      refine ⟨a2, n2, c2, hv, ints .u8 (F x), hs2.len, hs2.nil, hs2.at_, one_ints, by omega, by omega, by omega, wr_i64 (by omega) (by omega) ⟨by rw [List.length_append, ints_len]; omega, ⟨by omega, by omega, ?_⟩, by omega⟩⟩
      rw [show (j + 1).toNat = j.toNat + 1 by omega, take_succ' hxj, List.flatMap_append, hx]
      simp [ints]
  · have hge := of_decide_eq_false hge
    rw [List.take_of_length_le (by omega)] at hx
    subst hx
    exact fun a' cp I2 l2 hrow => ⟨_, rfl, row_bysl hrow (by rw [List.length_map])⟩

theorem ct72 (tag : Int) (L : List HdT) (hX : ∀ x ∈ L, 0 ≤ x.2.2.2.2 ∧ x.2.2.2.2 ≤ 255) (hF : ∀ x ∈ L, (hdF x).length ≤ 2000) (a : Option Addr) (n c : Nat) (I : Mem) (h : SlM I a n 5 (L.flatMap cH)) (hn : n = L.length) (hn2 : n ≤ 10000) :
    Ct Try.prog (fnv 72) #[.int .i64 tag, .slice a n c, fnv 73] I (fun v I' => ∃ y, v = .agg #[.int .i64 tag, y] ∧ BySl I' y (L.flatMap hdF)) := by
  obtain ⟨F, hFe⟩ : ∃ F, F = hdF := ⟨_, rfl⟩
  rw [← hFe] at hF ⊢
  refine viaR (ct_via (A := { loops := [(3, ⟨[(2, .keep), (6, .keep), (7, .keep), (12, .keep), (13, .keep), (14, .sh (.int .i64))], [(0, .keep), (1, .cells [.keep, .row 2]), (2, .row)], [(7, 1001, 5)], fun vals xss _ _ => match vals, xss with | [.int .i64 j], [xs] => 0 ≤ j ∧ j ≤ n ∧ xs = ints .u8 ((L.take j.toNat).flatMap F) | _, _ => False, fun vals _ => match vals with | [.int .i64 j] => (n - j).toNat | _ => 0⟩)] }) Try.func72 rfl Try.call72 rfl rfl) ((Ent.mk (EO.cells [SV.v (Value.int IntKind.i64 (0 : Int)), SV.v (Value.slice none (0 : Nat) (0 : Nat))] (77 : Nat)) none = Ent.mk (EO.cells [SV.v (Value.int IntKind.i64 (0 : Int)), SV.v (Value.slice none (0 : Nat) (0 : Nat))] (77 : Nat)) none ∧ SV.v (Value.func (Fn.func (73 : Nat)) #[] #[]) = SV.v (Value.func (Fn.func (73 : Nat)) #[] #[]) ∧ SV.ptr (0 : Nat) (0 : Nat) = SV.ptr (0 : Nat) (0 : Nat) ∧ SV.ptr (1 : Nat) (0 : Nat) = SV.ptr (1 : Nat) (0 : Nat) ∧ SV.v (Value.slice a n c) = SV.v (Value.slice a n c) ∧ SV.v (Value.int IntKind.i64 (↑n : Int)) = SV.v (Value.int IntKind.i64 (↑n : Int)) ∧ @none Nat = @none Nat ∧ SV.v (Value.int IntKind.i64 tag) = SV.v (Value.int IntKind.i64 tag) ∧ (0 : Nat) = (0 : Nat) ∧ (0 : Int) ≤ (0 : Int) ∧ (0 : Int) ≤ (↑n : Int) ∧ @List.nil Value = @List.nil Value) ∧ ∀ (I' G' : Mem), Mem.le I I' → ∀ (xs : List Value) (n_1 : Int), (0 : Int) ≤ n_1 ∧ n_1 ≤ (↑n : Int) ∧ xs = List.map (Value.int IntKind.u8) (List.flatMap F (List.take (Int.toNat n_1) L)) → Br (decide (n_1 < (↑n : Int))) ((0 : Int) ≤ n_1 ∧ n_1 < (↑n : Int) ∧ Option.isSome a = true ∧ (5 : Nat) = (5 : Nat) ∧ ∃ (n_2 : Int), atI I' a (Int.toNat n_1 * (5 : Nat) + (0 : Nat)) = some (Value.int IntKind.i64 n_2) ∧ ∃ (n_3 : Int), atI I' a (Int.toNat n_1 * (5 : Nat) + (1 : Nat)) = some (Value.int IntKind.i64 n_3) ∧ ∃ (n_4 : Int), atI I' a (Int.toNat n_1 * (5 : Nat) + (2 : Nat)) = some (Value.int IntKind.i64 n_4) ∧ ∃ (n_5 : Int), atI I' a (Int.toNat n_1 * (5 : Nat) + (3 : Nat)) = some (Value.int IntKind.i64 n_5) ∧ ∃ (n_6 : Int), atI I' a (Int.toNat n_1 * (5 : Nat) + (4 : Nat)) = some (Value.int IntKind.u8 n_6) ∧ (Ct Try.prog (Value.func (Fn.func (73 : Nat)) #[] #[]) #[Value.agg #[Value.int IntKind.i64 n_2, Value.int IntKind.i64 n_3, Value.int IntKind.i64 n_4, Value.int IntKind.i64 n_5, Value.int IntKind.u8 n_6]] I' fun (v : Value) (I' : Mem) => ∃ (a_3 : Option Addr), ∃ (n_7 : Nat), ∃ (c_1 : Nat), v = Value.slice a_3 n_7 c_1 ∧ ∃ (ys : List Value), List.length ys = n_7 * (1 : Nat) ∧ (a_3 = none → n_7 = (0 : Nat)) ∧ (∀ (j : Nat) (v : Value), ys[j]? = some v → atI I' a_3 j = some v) ∧ (∀ (v : Value), v ∈ ys → Value.oneCell' v = true) ∧ List.length xs = List.length xs * (1 : Nat) ∧ List.length xs + n_7 ≤ (9223372036854775807 : Nat) ∧ (List.length xs + n_7) * (1 : Nat) ≤ (140737488355328 : Nat) ∧ Wr IntKind.i64 (n_1 + (1 : Int)) fun (c_2 : Int) => Ent.mk (EO.cells [SV.v (Value.int IntKind.i64 (0 : Int)), SV.v (Value.slice none (0 : Nat) (0 : Nat))] (77 : Nat)) none = Ent.mk (EO.cells [SV.v (Value.int IntKind.i64 (0 : Int)), SV.v (Value.slice none (0 : Nat) (0 : Nat))] (77 : Nat)) none ∧ SV.v (Value.func (Fn.func (73 : Nat)) #[] #[]) = SV.v (Value.func (Fn.func (73 : Nat)) #[] #[]) ∧ SV.ptr (0 : Nat) (0 : Nat) = SV.ptr (0 : Nat) (0 : Nat) ∧ SV.ptr (1 : Nat) (0 : Nat) = SV.ptr (1 : Nat) (0 : Nat) ∧ SV.v (Value.slice a n c) = SV.v (Value.slice a n c) ∧ SV.v (Value.int IntKind.i64 (↑n : Int)) = SV.v (Value.int IntKind.i64 (↑n : Int)) ∧ @none Nat = @none Nat ∧ SV.v (Value.int IntKind.i64 tag) = SV.v (Value.int IntKind.i64 tag) ∧ List.length xs + n_7 = List.length (xs ++ ys) ∧ ((0 : Int) ≤ c_2 ∧ c_2 ≤ (↑n : Int) ∧ xs ++ ys = List.map (Value.int IntKind.u8) (List.flatMap F (List.take (Int.toNat c_2) L))) ∧ Int.toNat ((↑n : Int) - c_2) < Int.toNat ((↑n : Int) - n_1)) ∧ Ct Try.prog (Value.func (Fn.func (73 : Nat)) #[] #[]) #[Value.agg #[Value.int IntKind.i64 n_2, Value.int IntKind.i64 n_3, Value.int IntKind.i64 n_4, Value.int IntKind.i64 n_5, Value.int IntKind.u8 n_6]] I' fun (v : Value) (I' : Mem) => ∃ (a_3 : Option Addr), ∃ (n_7 : Nat), ∃ (c_1 : Nat), v = Value.slice a_3 n_7 c_1 ∧ ∃ (ys : List Value), List.length ys = n_7 * (1 : Nat) ∧ (a_3 = none → n_7 = (0 : Nat)) ∧ (∀ (j : Nat) (v : Value), ys[j]? = some v → atI I' a_3 j = some v) ∧ (∀ (v : Value), v ∈ ys → Value.oneCell' v = true) ∧ List.length xs = List.length xs * (1 : Nat) ∧ List.length xs + n_7 ≤ (9223372036854775807 : Nat) ∧ (List.length xs + n_7) * (1 : Nat) ≤ (140737488355328 : Nat) ∧ Wr IntKind.i64 (n_1 + (1 : Int)) fun (c_2 : Int) => Ent.mk (EO.cells [SV.v (Value.int IntKind.i64 (0 : Int)), SV.v (Value.slice none (0 : Nat) (0 : Nat))] (77 : Nat)) none = Ent.mk (EO.cells [SV.v (Value.int IntKind.i64 (0 : Int)), SV.v (Value.slice none (0 : Nat) (0 : Nat))] (77 : Nat)) none ∧ SV.v (Value.func (Fn.func (73 : Nat)) #[] #[]) = SV.v (Value.func (Fn.func (73 : Nat)) #[] #[]) ∧ SV.ptr (0 : Nat) (0 : Nat) = SV.ptr (0 : Nat) (0 : Nat) ∧ SV.ptr (1 : Nat) (0 : Nat) = SV.ptr (1 : Nat) (0 : Nat) ∧ SV.v (Value.slice a n c) = SV.v (Value.slice a n c) ∧ SV.v (Value.int IntKind.i64 (↑n : Int)) = SV.v (Value.int IntKind.i64 (↑n : Int)) ∧ @none Nat = @none Nat ∧ SV.v (Value.int IntKind.i64 tag) = SV.v (Value.int IntKind.i64 tag) ∧ List.length xs + n_7 = List.length (xs ++ ys) ∧ ((0 : Int) ≤ c_2 ∧ c_2 ≤ (↑n : Int) ∧ xs ++ ys = List.map (Value.int IntKind.u8) (List.flatMap F (List.take (Int.toNat c_2) L))) ∧ Int.toNat ((↑n : Int) - c_2) < Int.toNat ((↑n : Int) - n_1)) (∀ (a : Option Addr) (cp : Nat) (I'_1 : Mem), Mem.le I' I'_1 → RowM I'_1 a cp (1 : Nat) xs → ∃ (y : Value), Value.agg #[Value.int IntKind.i64 tag, Value.slice a (List.length xs) cp] = Value.agg #[Value.int IntKind.i64 tag, y] ∧ ∃ (b : Option Addr), ∃ (m : Nat), ∃ (c : Nat), y = Value.slice b m c ∧ SlM I'_1 b m (1 : Nat) (List.map (Value.int IntKind.u8) (List.flatMap F L)) ∧ m ≤ c ∧ c ≤ (9223372036854775807 : Nat))) (by kernel_rfl) ?_
  simp only [eq_self, true_and, and_true]
  refine ⟨⟨by omega, by omega⟩, fun I1 _ l1 xs j ⟨j0, j1, hx⟩ => Br.mk (fun hlt => ?_) (fun hge => ?_)⟩
  · have hlt := of_decide_eq_true hlt
    obtain ⟨x, hxj, g⟩ := lst_at (c := cH) (k := 5) (fun _ => rfl) (h.mono l1) hn j0 hlt
    have hxm := hX x (List.mem_of_getElem? hxj)
    have hxf := hF x (List.mem_of_getElem? hxj)
    have hbd := fm_take hF j.toNat
    have hxl : xs.length ≤ 20000000 := by rw [hx]; simp only [List.length_map]; omega
    refine ⟨j0, hlt, h.isSome (by omega), _, g 0 _ (by omega) rfl, _, g 1 _ (by omega) rfl, _, g 2 _ (by omega) rfl, _, g 3 _ (by omega) rfl, _, g 4 _ (by omega) rfl, ?_⟩
    refine ⟨?_, ?_⟩
    all_goals
      refine (ct73 x hxm I1).mono fun v I2 l2 ⟨a2, n2, c2, hv, hs2, _, _⟩ => ?_
      rw [← hFe] at hs2
      have hl2 := hs2.numLen
      refine ⟨a2, n2, c2, hv, ints .u8 (F x), hs2.len, hs2.nil, hs2.at_, one_ints, by omega, by omega, by omega, wr_i64 (by omega) (by omega) ⟨by rw [List.length_append, ints_len]; omega, ⟨by omega, by omega, ?_⟩, by omega⟩⟩
      rw [show (j + 1).toNat = j.toNat + 1 by omega, take_succ' hxj, List.flatMap_append, hx]
      simp [ints]
  · have hge := of_decide_eq_false hge
    rw [List.take_of_length_le (by omega)] at hx
    subst hx
    exact fun a' cp I2 l2 hrow => ⟨_, rfl, row_bysl hrow (by rw [List.length_map])⟩
open Go Go.Proofs Go.SE Go.RowKit
set_option linter.unusedVariables false
structure okRs (r : Rs) : Prop where
  num : i64R r.num
  code : i64R r.code
  ser : i64R r.ser
  port : i64R r.port
  time : i64R r.time
  kind : 0 ≤ r.kind ∧ r.kind ≤ 255
  key : i64R r.key.1 ∧ i64R r.key.2.1 ∧ i64R r.key.2.2
  counts : ∀ x ∈ r.counts, i64R x
  cells : ∀ x ∈ r.cells, i64R x
  events : ∀ x ∈ r.events, (i64R x.1.1 ∧ i64R x.1.2.1 ∧ i64R x.1.2.2) ∧ i64R x.2.1 ∧ i64R x.2.2
  ports : ∀ x ∈ r.ports, i64R x.1 ∧ byteL x.2.1 ∧ i64R x.2.2
  handles : ∀ x ∈ r.handles, (i64R x.1 ∧ i64R x.2.1 ∧ i64R x.2.2.1 ∧ i64R x.2.2.2.1) ∧ 0 ≤ x.2.2.2.2 ∧ x.2.2.2.2 ≤ 255
/-- How great a response's lists and names may be. -/
structure smallR (r : Rs) : Prop where
  counts : r.counts.length ≤ 10000
  cells : r.cells.length ≤ 10000
  events : r.events.length ≤ 10000
  ports : r.ports.length ≤ 10000
  handles : r.handles.length ≤ 10000
  names : ∀ x ∈ r.ports, x.2.1.length ≤ 1000
def fN (t x : Int) : Int × List Int := (t, formN (IntKind.u64.wrap x).toNat)
def numsL (r : Rs) : List (Int × Int) := [(2, r.kind), (3, r.code), (4, r.ser), (5, r.port), (6, r.time)]
def fl1 (r : Rs) (j : Nat) : List (Int × List Int) := fN 1 r.num :: (((numsL r).take j).filter fun p => decide (p.2 ≠ 0)).map fun p => fN p.1 p.2
def moreF (r : Rs) : List (Int × List Int) := if r.more then [(7, [])] else []
def keyF (r : Rs) : List (Int × List Int) := if r.key = (0, 0, 0) then [] else [(8, formsL [r.key.1, r.key.2.1, r.key.2.2])]
def listsL (r : Rs) : List (Int × List Int) := [(9, r.counts.flatMap numF), (10, r.cells.flatMap celF), (11, r.events.flatMap evF), (12, r.ports.flatMap ptF), (13, r.handles.flatMap hdF)]
def fl2 (r : Rs) (j : Nat) : List (Int × List Int) := fl1 r 5 ++ moreF r ++ keyF r ++ ((listsL r).take j).filter fun p => decide (p.2 ≠ [])
def fieldsS (r : Rs) : List (Int × List Int) := fl2 r 5
theorem numF_len (x : Int) : (numF x).length ≤ 9 := by have := forms_len [x]; simpa [numF] using this
theorem celF_len {x : Int} (h : i64R x) : (celF x).length ≤ 9 := by
  have := foldZ_range h
  exact (formN_le _ (by omega)).1
theorem evF_len {x : EvT} (h : i64R x.2.2) : (evF x).length ≤ 45 := by
  have h1 := forms_len [x.1.1, x.1.2.1, x.1.2.2]
  have h2 := forms_len [x.2.1]
  have h3 := celF_len h
  simp only [List.length_cons, List.length_nil] at h1 h2
  unfold celF at h3
  rw [evF, List.length_append, List.length_append]; omega
theorem ptF_len (x : PtT) : (ptF x).length ≤ 27 + x.2.1.length := by
  have h1 := forms_len [x.1, x.2.2, (x.2.1.length : Int)]
  simp only [List.length_cons, List.length_nil] at h1
  rw [ptF, List.length_append]; omega
theorem hdF_len (x : HdT) : (hdF x).length ≤ 45 := by
  have h1 := forms_len [x.1, x.2.1, x.2.2.1, x.2.2.2.1, x.2.2.2.2]
  simp only [List.length_cons, List.length_nil] at h1
  exact h1
theorem forms_bytes (l : List Int) : byteL (formsL l) := by
  intro z hz
  rw [formsL, List.mem_flatMap] at hz
  obtain ⟨x, _, hx⟩ := hz
  have := w64_range x
  exact formN_bytes (by omega) z hx
theorem fm_bytes {α : Type} {F : α → List Int} {l : List α} (h : ∀ x ∈ l, byteL (F x)) : byteL (l.flatMap F) := by
  intro z hz
  rw [List.mem_flatMap] at hz
  obtain ⟨x, hx, hzx⟩ := hz
  exact h x hx z hzx
theorem byteL_app {a b : List Int} (ha : byteL a) (hb : byteL b) : byteL (a ++ b) := fun z hz => by
  rcases List.mem_append.1 hz with h | h
  · exact ha z h
  · exact hb z h
theorem celF_bytes {x : Int} (h : i64R x) : byteL (celF x) := by
  have := foldZ_range h
  exact formN_bytes (by omega)
theorem fN_ok {t x : Int} (ht : 0 ≤ t ∧ t ≤ 1000) : okFld (fN t x) := by
  have := w64_range x
  exact ⟨by simp only [fN]; omega, formN_bytes (by omega)⟩
theorem lists_ok {r : Rs} (hr : okRs r) : ∀ p ∈ listsL r, okFld p := by
  intro p hp
  simp only [listsL, List.mem_cons, List.not_mem_nil, or_false] at hp
  rcases hp with rfl | rfl | rfl | rfl | rfl
  · exact ⟨by simp, fm_bytes fun x _ => forms_bytes _⟩
  · exact ⟨by simp, fm_bytes fun x hx => celF_bytes (hr.cells x hx)⟩
  · exact ⟨by simp, fm_bytes fun x hx => byteL_app (byteL_app (forms_bytes _) (forms_bytes _)) (celF_bytes (hr.events x hx).2.2)⟩
  · exact ⟨by simp, fm_bytes fun x hx => byteL_app (forms_bytes _) (hr.ports x hx).2.1⟩
  · exact ⟨by simp, fm_bytes fun x _ => forms_bytes _⟩
/-- The five lists as they lie in an array. -/
def ArrM (I : Mem) (p : Option Addr) (L : Nat → List Int) : Prop := ∃ k y1 y2 y3 y4 y5, p = some ⟨k, 0, none⟩ ∧ I k = some (.cells #[.int .i64 9, y1, .int .i64 10, y2, .int .i64 11, y3, .int .i64 12, y4, .int .i64 13, y5] 146) ∧ BySl I y1 (L 0) ∧ BySl I y2 (L 1) ∧ BySl I y3 (L 2) ∧ BySl I y4 (L 3) ∧ BySl I y5 (L 4)
def bytesL (r : Rs) (i : Nat) : List Int := ((listsL r)[i]?.map (·.2)).getD []
def numS (r : Rs) (i : Nat) : Int := ((numsL r)[i]?.map (·.2)).getD 0
theorem fr_snoc {I J : Mem} {xs : List Value} {l : List (Int × List Int)} {t : Int} {y : Value} {bs : List Int} (h : FR I xs l) (hle : I.le J) (hok : okFld (t, bs)) (hy : BySl J y bs) : FR J (xs ++ [.int .i64 t, y]) (l ++ [(t, bs)]) := FR.snoc (f := (t, bs)) (h.mono hle) ⟨hok, rfl, hy⟩
theorem fl1_step {r : Rs} {j : Nat} (hj : j < 5) : fl1 r (j + 1) = fl1 r j ++ if numS r j = 0 then [] else [fN (2 + j) (numS r j)] := by
  have h : (numsL r)[j]? = some ((2 + j : Int), numS r j) := by
    rcases (by omega : j = 0 ∨ j = 1 ∨ j = 2 ∨ j = 3 ∨ j = 4) with rfl | rfl | rfl | rfl | rfl <;> rfl
  rw [fl1, fl1, take_succ' h, List.filter_append, List.map_append, List.cons_append]
  congr 2
  by_cases hz : numS r j = 0
  · simp [hz]
  · simp [hz]
theorem fl2_step {r : Rs} {j : Nat} (hj : j < 5) : fl2 r (j + 1) = fl2 r j ++ if bytesL r j = [] then [] else [((9 + j : Int), bytesL r j)] := by
  have h : (listsL r)[j]? = some ((9 + j : Int), bytesL r j) := by
    rcases (by omega : j = 0 ∨ j = 1 ∨ j = 2 ∨ j = 3 ∨ j = 4) with rfl | rfl | rfl | rfl | rfl <;> rfl
  rw [fl2, fl2, take_succ' h, List.filter_append, ← List.append_assoc]
  congr 1
  by_cases hz : bytesL r j = []
  · simp [hz]
  · simp [hz]
theorem fl1_len (r : Rs) (j : Nat) : (fl1 r j).length ≤ 6 := by
  rw [fl1, List.length_cons, List.length_map]
  have h1 := List.length_filter_le (fun p : Int × Int => decide (p.2 ≠ 0)) ((numsL r).take j)
  have h2 : ((numsL r).take j).length ≤ 5 := by rw [List.length_take]; simp only [numsL, List.length_cons, List.length_nil]; omega
  omega
theorem moreF_len (r : Rs) : (moreF r).length ≤ 1 := by unfold moreF; split <;> simp
theorem keyF_len (r : Rs) : (keyF r).length ≤ 1 := by unfold keyF; split <;> simp
theorem fl2_len (r : Rs) (j : Nat) : (fl2 r j).length ≤ 13 := by
  have h0 := fl1_len r 5
  have h3 := moreF_len r
  have h4 := keyF_len r
  have h1 := List.length_filter_le (fun p : Int × List Int => decide (p.2 ≠ [])) ((listsL r).take j)
  have h2 : ((listsL r).take j).length ≤ 5 := by rw [List.length_take]; simp only [listsL, List.length_cons, List.length_nil]; omega
  rw [fl2, List.length_append, List.length_append, List.length_append]
  omega
theorem ct34 (r : Rs) (hr : okRs r) (hb : smallR r) (y : Ys) (I : Mem) (hM : RsM I r y) :
    Ct Try.prog (fnv 34) #[.agg (rsV r y).toArray] I (fun v I' => ∃ a n c, v = .slice a n c ∧ FldM I' a n (fieldsS r) ∧ n ≤ c ∧ c ≤ maxLen) := by
  obtain ⟨⟨ac, nc, cc, h1, hc, _⟩, ⟨al, nl, cl, h2, hl, _⟩, ⟨ae, ne, ce, h3, he, _⟩, ⟨ap, np, cp, h4, hp, _⟩, ⟨ah, nh, ch, h5, hh, _⟩⟩ := hM
  obtain ⟨yc, yl, ye, yp, yh⟩ := y
  subst h1 h2 h3 h4 h5
  obtain ⟨f1, hf1⟩ : ∃ f, f = fl1 r := ⟨_, rfl⟩
  obtain ⟨f2, hf2⟩ : ∃ f, f = fl2 r := ⟨_, rfl⟩
  obtain ⟨g1, hg1⟩ : ∃ f, f = fl1 r 5 ++ moreF r := ⟨_, rfl⟩
  obtain ⟨g2, hg2⟩ : ∃ f, f = fl1 r 5 ++ moreF r ++ keyF r := ⟨_, rfl⟩
  obtain ⟨bL, hbL⟩ : ∃ f, f = bytesL r := ⟨_, rfl⟩
  obtain ⟨fin, hfin⟩ : ∃ f, f = fieldsS r := ⟨_, rfl⟩
  rw [← hfin]
  refine viaR (ct_via (A := { chands := [(13, [6])], cuts := [(10, ⟨[(1, .keep), (3, .row 1)], [(0, .keep), (1, .row)], [], fun _ xss I' _ => match xss with | [xs] => FR I' xs g1 | _ => False, fun _ _ => 0⟩), (12, ⟨[(1, .keep), (3, .row 1)], [(0, .keep), (1, .row)], [], fun _ xss I' _ => match xss with | [xs] => FR I' xs g2 | _ => False, fun _ _ => 0⟩), (13, ⟨[(1, .keep), (3, .row 1), (6, .sh .ptr)], [(0, .keep), (1, .row)], [], fun vals xss I' _ => match vals, xss with | [.pointer p], [xs] => FR I' xs g2 ∧ ArrM I' p bL | _, _ => False, fun _ _ => 0⟩)], loops := [(3, ⟨[(1, .keep), (3, .row 1), (25, .keep), (26, .sh (.int .i64))], [(0, .keep), (1, .row)], [(3, 2, 77)], fun vals xss I' _ => match vals, xss with | [.int .i64 j], [xs] => 0 ≤ j ∧ j ≤ 5 ∧ FR I' xs (f1 j.toNat) | _, _ => False, fun vals _ => match vals with | [.int .i64 j] => (5 - j).toNat | _ => 0⟩), (14, ⟨[(1, .keep), (3, .row 1), (74, .keep), (75, .sh (.int .i64))], [(0, .keep), (1, .row)], [], fun vals xss I' _ => match vals, xss with | [.int .i64 j], [xs] => 0 ≤ j ∧ j ≤ 5 ∧ FR I' xs (f2 j.toNat) | _, _ => False, fun vals _ => match vals with | [.int .i64 j] => (5 - j).toNat | _ => 0⟩)] }) Try.func34 rfl Try.call34 rfl rfl) (Wr IntKind.u64 (Rs.num r) fun (c : Int) =>
        Ct Try.prog (Value.func (Fn.func (60 : Nat)) #[] #[]) #[Value.int IntKind.i64 (1 : Int), Value.int IntKind.u64 c] I fun (v : Value) (I' : Mem) =>
          ∃ (n : Int),
            ∃ (a : Option Addr),
              ∃ (n_1 : Nat),
                ∃ (c : Nat),
                  v = Value.agg #[Value.int IntKind.i64 n, Value.slice a n_1 c] ∧
                    Wr IntKind.i64 (Rs.kind r) fun (c_1 : Int) =>
                      (Ent.mk (EO.cells [SV.v (Value.int IntKind.i64 (Rs.num r)), SV.v (Value.int IntKind.i64 (Rs.code r)), SV.v (Value.int IntKind.i64 (Rs.ser r)), SV.v (Value.int IntKind.i64 (Rs.port r)), SV.v (Value.int IntKind.i64 (Rs.time r)), SV.v (Value.int IntKind.u8 (Rs.kind r)), SV.v (Value.bool (Rs.more r)), SV.v (Value.int IntKind.i64 (Prod.fst (Rs.key r))), SV.v (Value.int IntKind.i64 (Prod.fst (Prod.snd (Rs.key r)))), SV.v (Value.int IntKind.i64 (Prod.snd (Prod.snd (Rs.key r)))), SV.v (Value.slice ac nc cc), SV.v (Value.slice al nl cl), SV.v (Value.slice ae ne ce), SV.v (Value.slice ap np cp), SV.v (Value.slice ah nh ch)] (37 : Nat)) none = Ent.mk (EO.cells [SV.v (Value.int IntKind.i64 (Rs.num r)), SV.v (Value.int IntKind.i64 (Rs.code r)), SV.v (Value.int IntKind.i64 (Rs.ser r)), SV.v (Value.int IntKind.i64 (Rs.port r)), SV.v (Value.int IntKind.i64 (Rs.time r)), SV.v (Value.int IntKind.u8 (Rs.kind r)), SV.v (Value.bool (Rs.more r)), SV.v (Value.int IntKind.i64 (Prod.fst (Rs.key r))), SV.v (Value.int IntKind.i64 (Prod.fst (Prod.snd (Rs.key r)))), SV.v (Value.int IntKind.i64 (Prod.snd (Prod.snd (Rs.key r)))), SV.v (Value.slice ac nc cc), SV.v (Value.slice al nl cl), SV.v (Value.slice ae ne ce), SV.v (Value.slice ap np cp), SV.v (Value.slice ah nh ch)] (37 : Nat)) none ∧ SV.ptr (0 : Nat) (0 : Nat) = SV.ptr (0 : Nat) (0 : Nat) ∧ (1 : Nat) = (1 : Nat) ∧ SV.agg [SV.v (Value.int IntKind.i64 c_1), SV.v (Value.int IntKind.i64 (Rs.code r)), SV.v (Value.int IntKind.i64 (Rs.ser r)), SV.v (Value.int IntKind.i64 (Rs.port r)), SV.v (Value.int IntKind.i64 (Rs.time r))] = SV.agg [SV.v (Value.int IntKind.i64 c_1), SV.v (Value.int IntKind.i64 (Rs.code r)), SV.v (Value.int IntKind.i64 (Rs.ser r)), SV.v (Value.int IntKind.i64 (Rs.port r)), SV.v (Value.int IntKind.i64 (Rs.time r))] ∧ (0 : Int) ≤ (0 : Int) ∧ (0 : Int) ≤ (5 : Int) ∧ FR I' [Value.int IntKind.i64 n, Value.slice a n_1 c] (f1 (0 : Nat))) ∧
                        ∀ (I'_1 G' : Mem),
                          Mem.le I' I'_1 →
                            ∀ (xs : List Value) (n : Int),
                              (0 : Int) ≤ n ∧ n ≤ (5 : Int) ∧ FR I'_1 xs (f1 (Int.toNat n)) →
                                Br (decide (n < (5 : Int)))
                                  ((0 : Int) ≤ n ∧
                                    n < (5 : Int) ∧
                                      ∃ (n_2 : Int),
                                        (Option.bind [SV.v (Value.int IntKind.i64 c_1), SV.v (Value.int IntKind.i64 (Rs.code r)), SV.v (Value.int IntKind.i64 (Rs.ser r)), SV.v (Value.int IntKind.i64 (Rs.port r)), SV.v (Value.int IntKind.i64 (Rs.time r))][Int.toNat n * (1 : Nat) + (0 : Nat)]? fun (x : SV) =>
                                              match x with
                                              | SV.v x => some x
                                              | x => none) =
                                            some (Value.int IntKind.i64 n_2) ∧
                                          Br (n_2 != (0 : Int)) (Wr IntKind.i64 ((2 : Int) + n) fun (c : Int) => Wr IntKind.u64 n_2 fun (c_2 : Int) => Ct Try.prog (Value.func (Fn.func (60 : Nat)) #[] #[]) #[Value.int IntKind.i64 c, Value.int IntKind.u64 c_2] I'_1 fun (v : Value) (I' : Mem) => ∃ (n_3 : Int), ∃ (a : Option Addr), ∃ (n_4 : Nat), ∃ (c : Nat), v = Value.agg #[Value.int IntKind.i64 n_3, Value.slice a n_4 c] ∧ List.length xs = List.length xs / (2 : Nat) * (2 : Nat) ∧ List.length xs / (2 : Nat) + (1 : Nat) ≤ (9223372036854775807 : Nat) ∧ (List.length xs / (2 : Nat) + (1 : Nat)) * (32 : Nat) ≤ (140737488355328 : Nat) ∧ Wr IntKind.i64 (n + (1 : Int)) fun (c_3 : Int) => Ent.mk (EO.cells [SV.v (Value.int IntKind.i64 (Rs.num r)), SV.v (Value.int IntKind.i64 (Rs.code r)), SV.v (Value.int IntKind.i64 (Rs.ser r)), SV.v (Value.int IntKind.i64 (Rs.port r)), SV.v (Value.int IntKind.i64 (Rs.time r)), SV.v (Value.int IntKind.u8 (Rs.kind r)), SV.v (Value.bool (Rs.more r)), SV.v (Value.int IntKind.i64 (Prod.fst (Rs.key r))), SV.v (Value.int IntKind.i64 (Prod.fst (Prod.snd (Rs.key r)))), SV.v (Value.int IntKind.i64 (Prod.snd (Prod.snd (Rs.key r)))), SV.v (Value.slice ac nc cc), SV.v (Value.slice al nl cl), SV.v (Value.slice ae ne ce), SV.v (Value.slice ap np cp), SV.v (Value.slice ah nh ch)] (37 : Nat)) none = Ent.mk (EO.cells [SV.v (Value.int IntKind.i64 (Rs.num r)), SV.v (Value.int IntKind.i64 (Rs.code r)), SV.v (Value.int IntKind.i64 (Rs.ser r)), SV.v (Value.int IntKind.i64 (Rs.port r)), SV.v (Value.int IntKind.i64 (Rs.time r)), SV.v (Value.int IntKind.u8 (Rs.kind r)), SV.v (Value.bool (Rs.more r)), SV.v (Value.int IntKind.i64 (Prod.fst (Rs.key r))), SV.v (Value.int IntKind.i64 (Prod.fst (Prod.snd (Rs.key r)))), SV.v (Value.int IntKind.i64 (Prod.snd (Prod.snd (Rs.key r)))), SV.v (Value.slice ac nc cc), SV.v (Value.slice al nl cl), SV.v (Value.slice ae ne ce), SV.v (Value.slice ap np cp), SV.v (Value.slice ah nh ch)] (37 : Nat)) none ∧ SV.ptr (0 : Nat) (0 : Nat) = SV.ptr (0 : Nat) (0 : Nat) ∧ List.length xs / (2 : Nat) + (1 : Nat) = List.length (xs ++ [Value.int IntKind.i64 n_3, Value.slice a n_4 c]) / (2 : Nat) ∧ SV.agg [SV.v (Value.int IntKind.i64 c_1), SV.v (Value.int IntKind.i64 (Rs.code r)), SV.v (Value.int IntKind.i64 (Rs.ser r)), SV.v (Value.int IntKind.i64 (Rs.port r)), SV.v (Value.int IntKind.i64 (Rs.time r))] = SV.agg [SV.v (Value.int IntKind.i64 c_1), SV.v (Value.int IntKind.i64 (Rs.code r)), SV.v (Value.int IntKind.i64 (Rs.ser r)), SV.v (Value.int IntKind.i64 (Rs.port r)), SV.v (Value.int IntKind.i64 (Rs.time r))] ∧ ((0 : Int) ≤ c_3 ∧ c_3 ≤ (5 : Int) ∧ FR I' (xs ++ [Value.int IntKind.i64 n_3, Value.slice a n_4 c]) (f1 (Int.toNat c_3))) ∧ Int.toNat ((5 : Int) - c_3) < Int.toNat ((5 : Int) - n)) (Wr IntKind.i64 (n + (1 : Int)) fun (c : Int) => Ent.mk (EO.cells [SV.v (Value.int IntKind.i64 (Rs.num r)), SV.v (Value.int IntKind.i64 (Rs.code r)), SV.v (Value.int IntKind.i64 (Rs.ser r)), SV.v (Value.int IntKind.i64 (Rs.port r)), SV.v (Value.int IntKind.i64 (Rs.time r)), SV.v (Value.int IntKind.u8 (Rs.kind r)), SV.v (Value.bool (Rs.more r)), SV.v (Value.int IntKind.i64 (Prod.fst (Rs.key r))), SV.v (Value.int IntKind.i64 (Prod.fst (Prod.snd (Rs.key r)))), SV.v (Value.int IntKind.i64 (Prod.snd (Prod.snd (Rs.key r)))), SV.v (Value.slice ac nc cc), SV.v (Value.slice al nl cl), SV.v (Value.slice ae ne ce), SV.v (Value.slice ap np cp), SV.v (Value.slice ah nh ch)] (37 : Nat)) none = Ent.mk (EO.cells [SV.v (Value.int IntKind.i64 (Rs.num r)), SV.v (Value.int IntKind.i64 (Rs.code r)), SV.v (Value.int IntKind.i64 (Rs.ser r)), SV.v (Value.int IntKind.i64 (Rs.port r)), SV.v (Value.int IntKind.i64 (Rs.time r)), SV.v (Value.int IntKind.u8 (Rs.kind r)), SV.v (Value.bool (Rs.more r)), SV.v (Value.int IntKind.i64 (Prod.fst (Rs.key r))), SV.v (Value.int IntKind.i64 (Prod.fst (Prod.snd (Rs.key r)))), SV.v (Value.int IntKind.i64 (Prod.snd (Prod.snd (Rs.key r)))), SV.v (Value.slice ac nc cc), SV.v (Value.slice al nl cl), SV.v (Value.slice ae ne ce), SV.v (Value.slice ap np cp), SV.v (Value.slice ah nh ch)] (37 : Nat)) none ∧ SV.ptr (0 : Nat) (0 : Nat) = SV.ptr (0 : Nat) (0 : Nat) ∧ List.length xs / (2 : Nat) = List.length xs / (2 : Nat) ∧ SV.agg [SV.v (Value.int IntKind.i64 c_1), SV.v (Value.int IntKind.i64 (Rs.code r)), SV.v (Value.int IntKind.i64 (Rs.ser r)), SV.v (Value.int IntKind.i64 (Rs.port r)), SV.v (Value.int IntKind.i64 (Rs.time r))] = SV.agg [SV.v (Value.int IntKind.i64 c_1), SV.v (Value.int IntKind.i64 (Rs.code r)), SV.v (Value.int IntKind.i64 (Rs.ser r)), SV.v (Value.int IntKind.i64 (Rs.port r)), SV.v (Value.int IntKind.i64 (Rs.time r))] ∧ ((0 : Int) ≤ c ∧ c ≤ (5 : Int) ∧ FR I'_1 xs (f1 (Int.toNat c))) ∧ Int.toNat ((5 : Int) - c) < Int.toNat ((5 : Int) - n)))
                                  (Br (Rs.more r) (List.length xs = List.length xs / (2 : Nat) * (2 : Nat) ∧ List.length xs / (2 : Nat) + (1 : Nat) ≤ (9223372036854775807 : Nat) ∧ (List.length xs / (2 : Nat) + (1 : Nat)) * (32 : Nat) ≤ (140737488355328 : Nat) ∧ Ent.mk (EO.cells [SV.v (Value.int IntKind.i64 (Rs.num r)), SV.v (Value.int IntKind.i64 (Rs.code r)), SV.v (Value.int IntKind.i64 (Rs.ser r)), SV.v (Value.int IntKind.i64 (Rs.port r)), SV.v (Value.int IntKind.i64 (Rs.time r)), SV.v (Value.int IntKind.u8 (Rs.kind r)), SV.v (Value.bool (Rs.more r)), SV.v (Value.int IntKind.i64 (Prod.fst (Rs.key r))), SV.v (Value.int IntKind.i64 (Prod.fst (Prod.snd (Rs.key r)))), SV.v (Value.int IntKind.i64 (Prod.snd (Prod.snd (Rs.key r)))), SV.v (Value.slice ac nc cc), SV.v (Value.slice al nl cl), SV.v (Value.slice ae ne ce), SV.v (Value.slice ap np cp), SV.v (Value.slice ah nh ch)] (37 : Nat)) none = Ent.mk (EO.cells [SV.v (Value.int IntKind.i64 (Rs.num r)), SV.v (Value.int IntKind.i64 (Rs.code r)), SV.v (Value.int IntKind.i64 (Rs.ser r)), SV.v (Value.int IntKind.i64 (Rs.port r)), SV.v (Value.int IntKind.i64 (Rs.time r)), SV.v (Value.int IntKind.u8 (Rs.kind r)), SV.v (Value.bool (Rs.more r)), SV.v (Value.int IntKind.i64 (Prod.fst (Rs.key r))), SV.v (Value.int IntKind.i64 (Prod.fst (Prod.snd (Rs.key r)))), SV.v (Value.int IntKind.i64 (Prod.snd (Prod.snd (Rs.key r)))), SV.v (Value.slice ac nc cc), SV.v (Value.slice al nl cl), SV.v (Value.slice ae ne ce), SV.v (Value.slice ap np cp), SV.v (Value.slice ah nh ch)] (37 : Nat)) none ∧ SV.ptr (0 : Nat) (0 : Nat) = SV.ptr (0 : Nat) (0 : Nat) ∧ List.length xs / (2 : Nat) + (1 : Nat) = List.length (xs ++ [Value.int IntKind.i64 (7 : Int), Value.slice none (0 : Nat) (0 : Nat)]) / (2 : Nat) ∧ FR I'_1 (xs ++ [Value.int IntKind.i64 (7 : Int), Value.slice none (0 : Nat) (0 : Nat)]) g1) (Ent.mk (EO.cells [SV.v (Value.int IntKind.i64 (Rs.num r)), SV.v (Value.int IntKind.i64 (Rs.code r)), SV.v (Value.int IntKind.i64 (Rs.ser r)), SV.v (Value.int IntKind.i64 (Rs.port r)), SV.v (Value.int IntKind.i64 (Rs.time r)), SV.v (Value.int IntKind.u8 (Rs.kind r)), SV.v (Value.bool (Rs.more r)), SV.v (Value.int IntKind.i64 (Prod.fst (Rs.key r))), SV.v (Value.int IntKind.i64 (Prod.fst (Prod.snd (Rs.key r)))), SV.v (Value.int IntKind.i64 (Prod.snd (Prod.snd (Rs.key r)))), SV.v (Value.slice ac nc cc), SV.v (Value.slice al nl cl), SV.v (Value.slice ae ne ce), SV.v (Value.slice ap np cp), SV.v (Value.slice ah nh ch)] (37 : Nat)) none = Ent.mk (EO.cells [SV.v (Value.int IntKind.i64 (Rs.num r)), SV.v (Value.int IntKind.i64 (Rs.code r)), SV.v (Value.int IntKind.i64 (Rs.ser r)), SV.v (Value.int IntKind.i64 (Rs.port r)), SV.v (Value.int IntKind.i64 (Rs.time r)), SV.v (Value.int IntKind.u8 (Rs.kind r)), SV.v (Value.bool (Rs.more r)), SV.v (Value.int IntKind.i64 (Prod.fst (Rs.key r))), SV.v (Value.int IntKind.i64 (Prod.fst (Prod.snd (Rs.key r)))), SV.v (Value.int IntKind.i64 (Prod.snd (Prod.snd (Rs.key r)))), SV.v (Value.slice ac nc cc), SV.v (Value.slice al nl cl), SV.v (Value.slice ae ne ce), SV.v (Value.slice ap np cp), SV.v (Value.slice ah nh ch)] (37 : Nat)) none ∧ SV.ptr (0 : Nat) (0 : Nat) = SV.ptr (0 : Nat) (0 : Nat) ∧ List.length xs / (2 : Nat) = List.length xs / (2 : Nat) ∧ FR I'_1 xs g1) ∧
                                    ∀ (I' G' : Mem),
                                      Mem.le I'_1 I' →
                                        ∀ (xs : List Value),
                                          FR I' xs g1 →
                                            Br (!(Prod.fst (Rs.key r) == (0 : Int) && (Prod.fst (Prod.snd (Rs.key r)) == (0 : Int) && (Prod.snd (Prod.snd (Rs.key r)) == (0 : Int) && true)))) (Ct Try.prog (Value.func (Fn.func (61 : Nat)) #[] #[]) #[Value.agg #[Value.int IntKind.i64 (Prod.fst (Rs.key r)), Value.int IntKind.i64 (Prod.fst (Prod.snd (Rs.key r))), Value.int IntKind.i64 (Prod.snd (Prod.snd (Rs.key r)))]] I' fun (v : Value) (I' : Mem) => ∃ (a : Option Addr), ∃ (n : Nat), ∃ (c : Nat), v = Value.slice a n c ∧ List.length xs = List.length xs / (2 : Nat) * (2 : Nat) ∧ List.length xs / (2 : Nat) + (1 : Nat) ≤ (9223372036854775807 : Nat) ∧ (List.length xs / (2 : Nat) + (1 : Nat)) * (32 : Nat) ≤ (140737488355328 : Nat) ∧ Ent.mk (EO.cells [SV.v (Value.int IntKind.i64 (Rs.num r)), SV.v (Value.int IntKind.i64 (Rs.code r)), SV.v (Value.int IntKind.i64 (Rs.ser r)), SV.v (Value.int IntKind.i64 (Rs.port r)), SV.v (Value.int IntKind.i64 (Rs.time r)), SV.v (Value.int IntKind.u8 (Rs.kind r)), SV.v (Value.bool (Rs.more r)), SV.v (Value.int IntKind.i64 (Prod.fst (Rs.key r))), SV.v (Value.int IntKind.i64 (Prod.fst (Prod.snd (Rs.key r)))), SV.v (Value.int IntKind.i64 (Prod.snd (Prod.snd (Rs.key r)))), SV.v (Value.slice ac nc cc), SV.v (Value.slice al nl cl), SV.v (Value.slice ae ne ce), SV.v (Value.slice ap np cp), SV.v (Value.slice ah nh ch)] (37 : Nat)) none = Ent.mk (EO.cells [SV.v (Value.int IntKind.i64 (Rs.num r)), SV.v (Value.int IntKind.i64 (Rs.code r)), SV.v (Value.int IntKind.i64 (Rs.ser r)), SV.v (Value.int IntKind.i64 (Rs.port r)), SV.v (Value.int IntKind.i64 (Rs.time r)), SV.v (Value.int IntKind.u8 (Rs.kind r)), SV.v (Value.bool (Rs.more r)), SV.v (Value.int IntKind.i64 (Prod.fst (Rs.key r))), SV.v (Value.int IntKind.i64 (Prod.fst (Prod.snd (Rs.key r)))), SV.v (Value.int IntKind.i64 (Prod.snd (Prod.snd (Rs.key r)))), SV.v (Value.slice ac nc cc), SV.v (Value.slice al nl cl), SV.v (Value.slice ae ne ce), SV.v (Value.slice ap np cp), SV.v (Value.slice ah nh ch)] (37 : Nat)) none ∧ SV.ptr (0 : Nat) (0 : Nat) = SV.ptr (0 : Nat) (0 : Nat) ∧ List.length xs / (2 : Nat) + (1 : Nat) = List.length (xs ++ [Value.int IntKind.i64 (8 : Int), Value.slice a n c]) / (2 : Nat) ∧ FR I' (xs ++ [Value.int IntKind.i64 (8 : Int), Value.slice a n c]) g2) (Ent.mk (EO.cells [SV.v (Value.int IntKind.i64 (Rs.num r)), SV.v (Value.int IntKind.i64 (Rs.code r)), SV.v (Value.int IntKind.i64 (Rs.ser r)), SV.v (Value.int IntKind.i64 (Rs.port r)), SV.v (Value.int IntKind.i64 (Rs.time r)), SV.v (Value.int IntKind.u8 (Rs.kind r)), SV.v (Value.bool (Rs.more r)), SV.v (Value.int IntKind.i64 (Prod.fst (Rs.key r))), SV.v (Value.int IntKind.i64 (Prod.fst (Prod.snd (Rs.key r)))), SV.v (Value.int IntKind.i64 (Prod.snd (Prod.snd (Rs.key r)))), SV.v (Value.slice ac nc cc), SV.v (Value.slice al nl cl), SV.v (Value.slice ae ne ce), SV.v (Value.slice ap np cp), SV.v (Value.slice ah nh ch)] (37 : Nat)) none = Ent.mk (EO.cells [SV.v (Value.int IntKind.i64 (Rs.num r)), SV.v (Value.int IntKind.i64 (Rs.code r)), SV.v (Value.int IntKind.i64 (Rs.ser r)), SV.v (Value.int IntKind.i64 (Rs.port r)), SV.v (Value.int IntKind.i64 (Rs.time r)), SV.v (Value.int IntKind.u8 (Rs.kind r)), SV.v (Value.bool (Rs.more r)), SV.v (Value.int IntKind.i64 (Prod.fst (Rs.key r))), SV.v (Value.int IntKind.i64 (Prod.fst (Prod.snd (Rs.key r)))), SV.v (Value.int IntKind.i64 (Prod.snd (Prod.snd (Rs.key r)))), SV.v (Value.slice ac nc cc), SV.v (Value.slice al nl cl), SV.v (Value.slice ae ne ce), SV.v (Value.slice ap np cp), SV.v (Value.slice ah nh ch)] (37 : Nat)) none ∧ SV.ptr (0 : Nat) (0 : Nat) = SV.ptr (0 : Nat) (0 : Nat) ∧ List.length xs / (2 : Nat) = List.length xs / (2 : Nat) ∧ FR I' xs g2) ∧
                                              ∀ (I'_2 G' : Mem),
                                                Mem.le I' I'_2 →
                                                  ∀ (xs : List Value),
                                                    FR I'_2 xs g2 →
                                                      ((Ct Try.prog (Value.func (Fn.func (62 : Nat)) #[] #[]) #[Value.int IntKind.i64 (9 : Int), Value.slice ac nc cc, Value.func (Fn.func (63 : Nat)) #[] #[]] I'_2 fun (v : Value) (I' : Mem) => ∃ (n : Int), ∃ (a : Option Addr), ∃ (n_2 : Nat), ∃ (c : Nat), v = Value.agg #[Value.int IntKind.i64 n, Value.slice a n_2 c] ∧ (Ct Try.prog (Value.func (Fn.func (65 : Nat)) #[] #[]) #[Value.int IntKind.i64 (10 : Int), Value.slice al nl cl, Value.func (Fn.func (66 : Nat)) #[] #[]] I' fun (v : Value) (I' : Mem) => ∃ (n_3 : Int), ∃ (a_1 : Option Addr), ∃ (n_4 : Nat), ∃ (c_2 : Nat), v = Value.agg #[Value.int IntKind.i64 n_3, Value.slice a_1 n_4 c_2] ∧ (Ct Try.prog (Value.func (Fn.func (68 : Nat)) #[] #[]) #[Value.int IntKind.i64 (11 : Int), Value.slice ae ne ce, Value.func (Fn.func (69 : Nat)) #[] #[]] I' fun (v : Value) (I' : Mem) => ∃ (n_5 : Int), ∃ (a_2 : Option Addr), ∃ (n_6 : Nat), ∃ (c_3 : Nat), v = Value.agg #[Value.int IntKind.i64 n_5, Value.slice a_2 n_6 c_3] ∧ (Ct Try.prog (Value.func (Fn.func (70 : Nat)) #[] #[]) #[Value.int IntKind.i64 (12 : Int), Value.slice ap np cp, Value.func (Fn.func (71 : Nat)) #[] #[]] I' fun (v : Value) (I' : Mem) => ∃ (n_7 : Int), ∃ (a_3 : Option Addr), ∃ (n_8 : Nat), ∃ (c_4 : Nat), v = Value.agg #[Value.int IntKind.i64 n_7, Value.slice a_3 n_8 c_4] ∧ (Ct Try.prog (Value.func (Fn.func (72 : Nat)) #[] #[]) #[Value.int IntKind.i64 (13 : Int), Value.slice ah nh ch, Value.func (Fn.func (73 : Nat)) #[] #[]] I' fun (v : Value) (I' : Mem) => ∃ (n_9 : Int), ∃ (a_4 : Option Addr), ∃ (n_10 : Nat), ∃ (c_5 : Nat), v = Value.agg #[Value.int IntKind.i64 n_9, Value.slice a_4 n_10 c_5] ∧ ∀ (b : Nat) (I'_3 : Mem), Mem.le I' I'_3 → I'_3 b = some (Obj.cells #[Value.int IntKind.i64 n, Value.slice a n_2 c, Value.int IntKind.i64 n_3, Value.slice a_1 n_4 c_2, Value.int IntKind.i64 n_5, Value.slice a_2 n_6 c_3, Value.int IntKind.i64 n_7, Value.slice a_3 n_8 c_4, Value.int IntKind.i64 n_9, Value.slice a_4 n_10 c_5] (146 : Nat)) → Ent.mk (EO.cells [SV.v (Value.int IntKind.i64 (Rs.num r)), SV.v (Value.int IntKind.i64 (Rs.code r)), SV.v (Value.int IntKind.i64 (Rs.ser r)), SV.v (Value.int IntKind.i64 (Rs.port r)), SV.v (Value.int IntKind.i64 (Rs.time r)), SV.v (Value.int IntKind.u8 (Rs.kind r)), SV.v (Value.bool (Rs.more r)), SV.v (Value.int IntKind.i64 (Prod.fst (Rs.key r))), SV.v (Value.int IntKind.i64 (Prod.fst (Prod.snd (Rs.key r)))), SV.v (Value.int IntKind.i64 (Prod.snd (Prod.snd (Rs.key r)))), SV.v (Value.slice ac nc cc), SV.v (Value.slice al nl cl), SV.v (Value.slice ae ne ce), SV.v (Value.slice ap np cp), SV.v (Value.slice ah nh ch)] (37 : Nat)) none = Ent.mk (EO.cells [SV.v (Value.int IntKind.i64 (Rs.num r)), SV.v (Value.int IntKind.i64 (Rs.code r)), SV.v (Value.int IntKind.i64 (Rs.ser r)), SV.v (Value.int IntKind.i64 (Rs.port r)), SV.v (Value.int IntKind.i64 (Rs.time r)), SV.v (Value.int IntKind.u8 (Rs.kind r)), SV.v (Value.bool (Rs.more r)), SV.v (Value.int IntKind.i64 (Prod.fst (Rs.key r))), SV.v (Value.int IntKind.i64 (Prod.fst (Prod.snd (Rs.key r)))), SV.v (Value.int IntKind.i64 (Prod.snd (Prod.snd (Rs.key r)))), SV.v (Value.slice ac nc cc), SV.v (Value.slice al nl cl), SV.v (Value.slice ae ne ce), SV.v (Value.slice ap np cp), SV.v (Value.slice ah nh ch)] (37 : Nat)) none ∧ SV.ptr (0 : Nat) (0 : Nat) = SV.ptr (0 : Nat) (0 : Nat) ∧ List.length xs / (2 : Nat) = List.length xs / (2 : Nat) ∧ FR I'_3 xs g2 ∧ ArrM I'_3 (some (Addr.mk b (0 : Nat) none)) bL) ∧ Ct Try.prog (Value.func (Fn.func (72 : Nat)) #[] #[]) #[Value.int IntKind.i64 (13 : Int), Value.slice ah nh ch, Value.func (Fn.func (73 : Nat)) #[] #[]] I' fun (v : Value) (I' : Mem) => ∃ (n_9 : Int), ∃ (a_4 : Option Addr), ∃ (n_10 : Nat), ∃ (c_5 : Nat), v = Value.agg #[Value.int IntKind.i64 n_9, Value.slice a_4 n_10 c_5] ∧ ∀ (b : Nat) (I'_3 : Mem), Mem.le I' I'_3 → I'_3 b = some (Obj.cells #[Value.int IntKind.i64 n, Value.slice a n_2 c, Value.int IntKind.i64 n_3, Value.slice a_1 n_4 c_2, Value.int IntKind.i64 n_5, Value.slice a_2 n_6 c_3, Value.int IntKind.i64 n_7, Value.slice a_3 n_8 c_4, Value.int IntKind.i64 n_9, Value.slice a_4 n_10 c_5] (146 : Nat)) → Ent.mk (EO.cells [SV.v (Value.int IntKind.i64 (Rs.num r)), SV.v (Value.int IntKind.i64 (Rs.code r)), SV.v (Value.int IntKind.i64 (Rs.ser r)), SV.v (Value.int IntKind.i64 (Rs.port r)), SV.v (Value.int IntKind.i64 (Rs.time r)), SV.v (Value.int IntKind.u8 (Rs.kind r)), SV.v (Value.bool (Rs.more r)), SV.v (Value.int IntKind.i64 (Prod.fst (Rs.key r))), SV.v (Value.int IntKind.i64 (Prod.fst (Prod.snd (Rs.key r)))), SV.v (Value.int IntKind.i64 (Prod.snd (Prod.snd (Rs.key r)))), SV.v (Value.slice ac nc cc), SV.v (Value.slice al nl cl), SV.v (Value.slice ae ne ce), SV.v (Value.slice ap np cp), SV.v (Value.slice ah nh ch)] (37 : Nat)) none = Ent.mk (EO.cells [SV.v (Value.int IntKind.i64 (Rs.num r)), SV.v (Value.int IntKind.i64 (Rs.code r)), SV.v (Value.int IntKind.i64 (Rs.ser r)), SV.v (Value.int IntKind.i64 (Rs.port r)), SV.v (Value.int IntKind.i64 (Rs.time r)), SV.v (Value.int IntKind.u8 (Rs.kind r)), SV.v (Value.bool (Rs.more r)), SV.v (Value.int IntKind.i64 (Prod.fst (Rs.key r))), SV.v (Value.int IntKind.i64 (Prod.fst (Prod.snd (Rs.key r)))), SV.v (Value.int IntKind.i64 (Prod.snd (Prod.snd (Rs.key r)))), SV.v (Value.slice ac nc cc), SV.v (Value.slice al nl cl), SV.v (Value.slice ae ne ce), SV.v (Value.slice ap np cp), SV.v (Value.slice ah nh ch)] (37 : Nat)) none ∧ SV.ptr (0 : Nat) (0 : Nat) = SV.ptr (0 : Nat) (0 : Nat) ∧ List.length xs / (2 : Nat) = List.length xs / (2 : Nat) ∧ FR I'_3 xs g2 ∧ ArrM I'_3 (some (Addr.mk b (0 : Nat) none)) bL) ∧ Ct Try.prog (Value.func (Fn.func (70 : Nat)) #[] #[]) #[Value.int IntKind.i64 (12 : Int), Value.slice ap np cp, Value.func (Fn.func (71 : Nat)) #[] #[]] I' fun (v : Value) (I' : Mem) => ∃ (n_7 : Int), ∃ (a_3 : Option Addr), ∃ (n_8 : Nat), ∃ (c_4 : Nat), v = Value.agg #[Value.int IntKind.i64 n_7, Value.slice a_3 n_8 c_4] ∧ Ct Try.prog (Value.func (Fn.func (72 : Nat)) #[] #[]) #[Value.int IntKind.i64 (13 : Int), Value.slice ah nh ch, Value.func (Fn.func (73 : Nat)) #[] #[]] I' fun (v : Value) (I' : Mem) => ∃ (n_9 : Int), ∃ (a_4 : Option Addr), ∃ (n_10 : Nat), ∃ (c_5 : Nat), v = Value.agg #[Value.int IntKind.i64 n_9, Value.slice a_4 n_10 c_5] ∧ ∀ (b : Nat) (I'_3 : Mem), Mem.le I' I'_3 → I'_3 b = some (Obj.cells #[Value.int IntKind.i64 n, Value.slice a n_2 c, Value.int IntKind.i64 n_3, Value.slice a_1 n_4 c_2, Value.int IntKind.i64 n_5, Value.slice a_2 n_6 c_3, Value.int IntKind.i64 n_7, Value.slice a_3 n_8 c_4, Value.int IntKind.i64 n_9, Value.slice a_4 n_10 c_5] (146 : Nat)) → Ent.mk (EO.cells [SV.v (Value.int IntKind.i64 (Rs.num r)), SV.v (Value.int IntKind.i64 (Rs.code r)), SV.v (Value.int IntKind.i64 (Rs.ser r)), SV.v (Value.int IntKind.i64 (Rs.port r)), SV.v (Value.int IntKind.i64 (Rs.time r)), SV.v (Value.int IntKind.u8 (Rs.kind r)), SV.v (Value.bool (Rs.more r)), SV.v (Value.int IntKind.i64 (Prod.fst (Rs.key r))), SV.v (Value.int IntKind.i64 (Prod.fst (Prod.snd (Rs.key r)))), SV.v (Value.int IntKind.i64 (Prod.snd (Prod.snd (Rs.key r)))), SV.v (Value.slice ac nc cc), SV.v (Value.slice al nl cl), SV.v (Value.slice ae ne ce), SV.v (Value.slice ap np cp), SV.v (Value.slice ah nh ch)] (37 : Nat)) none = Ent.mk (EO.cells [SV.v (Value.int IntKind.i64 (Rs.num r)), SV.v (Value.int IntKind.i64 (Rs.code r)), SV.v (Value.int IntKind.i64 (Rs.ser r)), SV.v (Value.int IntKind.i64 (Rs.port r)), SV.v (Value.int IntKind.i64 (Rs.time r)), SV.v (Value.int IntKind.u8 (Rs.kind r)), SV.v (Value.bool (Rs.more r)), SV.v (Value.int IntKind.i64 (Prod.fst (Rs.key r))), SV.v (Value.int IntKind.i64 (Prod.fst (Prod.snd (Rs.key r)))), SV.v (Value.int IntKind.i64 (Prod.snd (Prod.snd (Rs.key r)))), SV.v (Value.slice ac nc cc), SV.v (Value.slice al nl cl), SV.v (Value.slice ae ne ce), SV.v (Value.slice ap np cp), SV.v (Value.slice ah nh ch)] (37 : Nat)) none ∧ SV.ptr (0 : Nat) (0 : Nat) = SV.ptr (0 : Nat) (0 : Nat) ∧ List.length xs / (2 : Nat) = List.length xs / (2 : Nat) ∧ FR I'_3 xs g2 ∧ ArrM I'_3 (some (Addr.mk b (0 : Nat) none)) bL) ∧ Ct Try.prog (Value.func (Fn.func (68 : Nat)) #[] #[]) #[Value.int IntKind.i64 (11 : Int), Value.slice ae ne ce, Value.func (Fn.func (69 : Nat)) #[] #[]] I' fun (v : Value) (I' : Mem) => ∃ (n_5 : Int), ∃ (a_2 : Option Addr), ∃ (n_6 : Nat), ∃ (c_3 : Nat), v = Value.agg #[Value.int IntKind.i64 n_5, Value.slice a_2 n_6 c_3] ∧ Ct Try.prog (Value.func (Fn.func (70 : Nat)) #[] #[]) #[Value.int IntKind.i64 (12 : Int), Value.slice ap np cp, Value.func (Fn.func (71 : Nat)) #[] #[]] I' fun (v : Value) (I' : Mem) => ∃ (n_7 : Int), ∃ (a_3 : Option Addr), ∃ (n_8 : Nat), ∃ (c_4 : Nat), v = Value.agg #[Value.int IntKind.i64 n_7, Value.slice a_3 n_8 c_4] ∧ Ct Try.prog (Value.func (Fn.func (72 : Nat)) #[] #[]) #[Value.int IntKind.i64 (13 : Int), Value.slice ah nh ch, Value.func (Fn.func (73 : Nat)) #[] #[]] I' fun (v : Value) (I' : Mem) => ∃ (n_9 : Int), ∃ (a_4 : Option Addr), ∃ (n_10 : Nat), ∃ (c_5 : Nat), v = Value.agg #[Value.int IntKind.i64 n_9, Value.slice a_4 n_10 c_5] ∧ ∀ (b : Nat) (I'_3 : Mem), Mem.le I' I'_3 → I'_3 b = some (Obj.cells #[Value.int IntKind.i64 n, Value.slice a n_2 c, Value.int IntKind.i64 n_3, Value.slice a_1 n_4 c_2, Value.int IntKind.i64 n_5, Value.slice a_2 n_6 c_3, Value.int IntKind.i64 n_7, Value.slice a_3 n_8 c_4, Value.int IntKind.i64 n_9, Value.slice a_4 n_10 c_5] (146 : Nat)) → Ent.mk (EO.cells [SV.v (Value.int IntKind.i64 (Rs.num r)), SV.v (Value.int IntKind.i64 (Rs.code r)), SV.v (Value.int IntKind.i64 (Rs.ser r)), SV.v (Value.int IntKind.i64 (Rs.port r)), SV.v (Value.int IntKind.i64 (Rs.time r)), SV.v (Value.int IntKind.u8 (Rs.kind r)), SV.v (Value.bool (Rs.more r)), SV.v (Value.int IntKind.i64 (Prod.fst (Rs.key r))), SV.v (Value.int IntKind.i64 (Prod.fst (Prod.snd (Rs.key r)))), SV.v (Value.int IntKind.i64 (Prod.snd (Prod.snd (Rs.key r)))), SV.v (Value.slice ac nc cc), SV.v (Value.slice al nl cl), SV.v (Value.slice ae ne ce), SV.v (Value.slice ap np cp), SV.v (Value.slice ah nh ch)] (37 : Nat)) none = Ent.mk (EO.cells [SV.v (Value.int IntKind.i64 (Rs.num r)), SV.v (Value.int IntKind.i64 (Rs.code r)), SV.v (Value.int IntKind.i64 (Rs.ser r)), SV.v (Value.int IntKind.i64 (Rs.port r)), SV.v (Value.int IntKind.i64 (Rs.time r)), SV.v (Value.int IntKind.u8 (Rs.kind r)), SV.v (Value.bool (Rs.more r)), SV.v (Value.int IntKind.i64 (Prod.fst (Rs.key r))), SV.v (Value.int IntKind.i64 (Prod.fst (Prod.snd (Rs.key r)))), SV.v (Value.int IntKind.i64 (Prod.snd (Prod.snd (Rs.key r)))), SV.v (Value.slice ac nc cc), SV.v (Value.slice al nl cl), SV.v (Value.slice ae ne ce), SV.v (Value.slice ap np cp), SV.v (Value.slice ah nh ch)] (37 : Nat)) none ∧ SV.ptr (0 : Nat) (0 : Nat) = SV.ptr (0 : Nat) (0 : Nat) ∧ List.length xs / (2 : Nat) = List.length xs / (2 : Nat) ∧ FR I'_3 xs g2 ∧ ArrM I'_3 (some (Addr.mk b (0 : Nat) none)) bL) ∧ Ct Try.prog (Value.func (Fn.func (65 : Nat)) #[] #[]) #[Value.int IntKind.i64 (10 : Int), Value.slice al nl cl, Value.func (Fn.func (66 : Nat)) #[] #[]] I' fun (v : Value) (I' : Mem) => ∃ (n_3 : Int), ∃ (a_1 : Option Addr), ∃ (n_4 : Nat), ∃ (c_2 : Nat), v = Value.agg #[Value.int IntKind.i64 n_3, Value.slice a_1 n_4 c_2] ∧ Ct Try.prog (Value.func (Fn.func (68 : Nat)) #[] #[]) #[Value.int IntKind.i64 (11 : Int), Value.slice ae ne ce, Value.func (Fn.func (69 : Nat)) #[] #[]] I' fun (v : Value) (I' : Mem) => ∃ (n_5 : Int), ∃ (a_2 : Option Addr), ∃ (n_6 : Nat), ∃ (c_3 : Nat), v = Value.agg #[Value.int IntKind.i64 n_5, Value.slice a_2 n_6 c_3] ∧ Ct Try.prog (Value.func (Fn.func (70 : Nat)) #[] #[]) #[Value.int IntKind.i64 (12 : Int), Value.slice ap np cp, Value.func (Fn.func (71 : Nat)) #[] #[]] I' fun (v : Value) (I' : Mem) => ∃ (n_7 : Int), ∃ (a_3 : Option Addr), ∃ (n_8 : Nat), ∃ (c_4 : Nat), v = Value.agg #[Value.int IntKind.i64 n_7, Value.slice a_3 n_8 c_4] ∧ Ct Try.prog (Value.func (Fn.func (72 : Nat)) #[] #[]) #[Value.int IntKind.i64 (13 : Int), Value.slice ah nh ch, Value.func (Fn.func (73 : Nat)) #[] #[]] I' fun (v : Value) (I' : Mem) => ∃ (n_9 : Int), ∃ (a_4 : Option Addr), ∃ (n_10 : Nat), ∃ (c_5 : Nat), v = Value.agg #[Value.int IntKind.i64 n_9, Value.slice a_4 n_10 c_5] ∧ ∀ (b : Nat) (I'_3 : Mem), Mem.le I' I'_3 → I'_3 b = some (Obj.cells #[Value.int IntKind.i64 n, Value.slice a n_2 c, Value.int IntKind.i64 n_3, Value.slice a_1 n_4 c_2, Value.int IntKind.i64 n_5, Value.slice a_2 n_6 c_3, Value.int IntKind.i64 n_7, Value.slice a_3 n_8 c_4, Value.int IntKind.i64 n_9, Value.slice a_4 n_10 c_5] (146 : Nat)) → Ent.mk (EO.cells [SV.v (Value.int IntKind.i64 (Rs.num r)), SV.v (Value.int IntKind.i64 (Rs.code r)), SV.v (Value.int IntKind.i64 (Rs.ser r)), SV.v (Value.int IntKind.i64 (Rs.port r)), SV.v (Value.int IntKind.i64 (Rs.time r)), SV.v (Value.int IntKind.u8 (Rs.kind r)), SV.v (Value.bool (Rs.more r)), SV.v (Value.int IntKind.i64 (Prod.fst (Rs.key r))), SV.v (Value.int IntKind.i64 (Prod.fst (Prod.snd (Rs.key r)))), SV.v (Value.int IntKind.i64 (Prod.snd (Prod.snd (Rs.key r)))), SV.v (Value.slice ac nc cc), SV.v (Value.slice al nl cl), SV.v (Value.slice ae ne ce), SV.v (Value.slice ap np cp), SV.v (Value.slice ah nh ch)] (37 : Nat)) none = Ent.mk (EO.cells [SV.v (Value.int IntKind.i64 (Rs.num r)), SV.v (Value.int IntKind.i64 (Rs.code r)), SV.v (Value.int IntKind.i64 (Rs.ser r)), SV.v (Value.int IntKind.i64 (Rs.port r)), SV.v (Value.int IntKind.i64 (Rs.time r)), SV.v (Value.int IntKind.u8 (Rs.kind r)), SV.v (Value.bool (Rs.more r)), SV.v (Value.int IntKind.i64 (Prod.fst (Rs.key r))), SV.v (Value.int IntKind.i64 (Prod.fst (Prod.snd (Rs.key r)))), SV.v (Value.int IntKind.i64 (Prod.snd (Prod.snd (Rs.key r)))), SV.v (Value.slice ac nc cc), SV.v (Value.slice al nl cl), SV.v (Value.slice ae ne ce), SV.v (Value.slice ap np cp), SV.v (Value.slice ah nh ch)] (37 : Nat)) none ∧ SV.ptr (0 : Nat) (0 : Nat) = SV.ptr (0 : Nat) (0 : Nat) ∧ List.length xs / (2 : Nat) = List.length xs / (2 : Nat) ∧ FR I'_3 xs g2 ∧ ArrM I'_3 (some (Addr.mk b (0 : Nat) none)) bL) ∧ Ct Try.prog (Value.func (Fn.func (62 : Nat)) #[] #[]) #[Value.int IntKind.i64 (9 : Int), Value.slice ac nc cc, Value.func (Fn.func (63 : Nat)) #[] #[]] I'_2 fun (v : Value) (I' : Mem) => ∃ (n : Int), ∃ (a : Option Addr), ∃ (n_2 : Nat), ∃ (c : Nat), v = Value.agg #[Value.int IntKind.i64 n, Value.slice a n_2 c] ∧ Ct Try.prog (Value.func (Fn.func (65 : Nat)) #[] #[]) #[Value.int IntKind.i64 (10 : Int), Value.slice al nl cl, Value.func (Fn.func (66 : Nat)) #[] #[]] I' fun (v : Value) (I' : Mem) => ∃ (n_3 : Int), ∃ (a_1 : Option Addr), ∃ (n_4 : Nat), ∃ (c_2 : Nat), v = Value.agg #[Value.int IntKind.i64 n_3, Value.slice a_1 n_4 c_2] ∧ Ct Try.prog (Value.func (Fn.func (68 : Nat)) #[] #[]) #[Value.int IntKind.i64 (11 : Int), Value.slice ae ne ce, Value.func (Fn.func (69 : Nat)) #[] #[]] I' fun (v : Value) (I' : Mem) => ∃ (n_5 : Int), ∃ (a_2 : Option Addr), ∃ (n_6 : Nat), ∃ (c_3 : Nat), v = Value.agg #[Value.int IntKind.i64 n_5, Value.slice a_2 n_6 c_3] ∧ Ct Try.prog (Value.func (Fn.func (70 : Nat)) #[] #[]) #[Value.int IntKind.i64 (12 : Int), Value.slice ap np cp, Value.func (Fn.func (71 : Nat)) #[] #[]] I' fun (v : Value) (I' : Mem) => ∃ (n_7 : Int), ∃ (a_3 : Option Addr), ∃ (n_8 : Nat), ∃ (c_4 : Nat), v = Value.agg #[Value.int IntKind.i64 n_7, Value.slice a_3 n_8 c_4] ∧ Ct Try.prog (Value.func (Fn.func (72 : Nat)) #[] #[]) #[Value.int IntKind.i64 (13 : Int), Value.slice ah nh ch, Value.func (Fn.func (73 : Nat)) #[] #[]] I' fun (v : Value) (I' : Mem) => ∃ (n_9 : Int), ∃ (a_4 : Option Addr), ∃ (n_10 : Nat), ∃ (c_5 : Nat), v = Value.agg #[Value.int IntKind.i64 n_9, Value.slice a_4 n_10 c_5] ∧ ∀ (b : Nat) (I'_3 : Mem), Mem.le I' I'_3 → I'_3 b = some (Obj.cells #[Value.int IntKind.i64 n, Value.slice a n_2 c, Value.int IntKind.i64 n_3, Value.slice a_1 n_4 c_2, Value.int IntKind.i64 n_5, Value.slice a_2 n_6 c_3, Value.int IntKind.i64 n_7, Value.slice a_3 n_8 c_4, Value.int IntKind.i64 n_9, Value.slice a_4 n_10 c_5] (146 : Nat)) → Ent.mk (EO.cells [SV.v (Value.int IntKind.i64 (Rs.num r)), SV.v (Value.int IntKind.i64 (Rs.code r)), SV.v (Value.int IntKind.i64 (Rs.ser r)), SV.v (Value.int IntKind.i64 (Rs.port r)), SV.v (Value.int IntKind.i64 (Rs.time r)), SV.v (Value.int IntKind.u8 (Rs.kind r)), SV.v (Value.bool (Rs.more r)), SV.v (Value.int IntKind.i64 (Prod.fst (Rs.key r))), SV.v (Value.int IntKind.i64 (Prod.fst (Prod.snd (Rs.key r)))), SV.v (Value.int IntKind.i64 (Prod.snd (Prod.snd (Rs.key r)))), SV.v (Value.slice ac nc cc), SV.v (Value.slice al nl cl), SV.v (Value.slice ae ne ce), SV.v (Value.slice ap np cp), SV.v (Value.slice ah nh ch)] (37 : Nat)) none = Ent.mk (EO.cells [SV.v (Value.int IntKind.i64 (Rs.num r)), SV.v (Value.int IntKind.i64 (Rs.code r)), SV.v (Value.int IntKind.i64 (Rs.ser r)), SV.v (Value.int IntKind.i64 (Rs.port r)), SV.v (Value.int IntKind.i64 (Rs.time r)), SV.v (Value.int IntKind.u8 (Rs.kind r)), SV.v (Value.bool (Rs.more r)), SV.v (Value.int IntKind.i64 (Prod.fst (Rs.key r))), SV.v (Value.int IntKind.i64 (Prod.fst (Prod.snd (Rs.key r)))), SV.v (Value.int IntKind.i64 (Prod.snd (Prod.snd (Rs.key r)))), SV.v (Value.slice ac nc cc), SV.v (Value.slice al nl cl), SV.v (Value.slice ae ne ce), SV.v (Value.slice ap np cp), SV.v (Value.slice ah nh ch)] (37 : Nat)) none ∧ SV.ptr (0 : Nat) (0 : Nat) = SV.ptr (0 : Nat) (0 : Nat) ∧ List.length xs / (2 : Nat) = List.length xs / (2 : Nat) ∧ FR I'_3 xs g2 ∧ ArrM I'_3 (some (Addr.mk b (0 : Nat) none)) bL) ∧
                                                        ∀ (I' G' : Mem),
                                                          Mem.le I'_2 I' →
                                                            ∀ (xs : List Value) (a : Option Addr),
                                                              FR I' xs g2 ∧ ArrM I' a bL →
                                                                (10 : Nat) = (10 : Nat) ∧
                                                                  ∃ (n : Int),
                                                                    atI I' a (0 : Nat) = some (Value.int IntKind.i64 n) ∧
                                                                      ∃ (a_2 : Option Addr),
                                                                        ∃ (n_2 : Nat),
                                                                          ∃ (c : Nat),
                                                                            atI I' a (1 : Nat) = some (Value.slice a_2 n_2 c) ∧
                                                                              ∃ (n_3 : Int),
                                                                                atI I' a (2 : Nat) = some (Value.int IntKind.i64 n_3) ∧
                                                                                  ∃ (a_3 : Option Addr),
                                                                                    ∃ (n_4 : Nat),
                                                                                      ∃ (c_2 : Nat),
                                                                                        atI I' a (3 : Nat) = some (Value.slice a_3 n_4 c_2) ∧
                                                                                          ∃ (n_5 : Int),
                                                                                            atI I' a (4 : Nat) = some (Value.int IntKind.i64 n_5) ∧
                                                                                              ∃ (a_4 : Option Addr),
                                                                                                ∃ (n_6 : Nat),
                                                                                                  ∃ (c_3 : Nat),
                                                                                                    atI I' a (5 : Nat) = some (Value.slice a_4 n_6 c_3) ∧
                                                                                                      ∃ (n_7 : Int),
                                                                                                        atI I' a (6 : Nat) = some (Value.int IntKind.i64 n_7) ∧
                                                                                                          ∃ (a_5 : Option Addr),
                                                                                                            ∃ (n_8 : Nat),
                                                                                                              ∃ (c_4 : Nat),
                                                                                                                atI I' a (7 : Nat) = some (Value.slice a_5 n_8 c_4) ∧
                                                                                                                  ∃ (n_9 : Int),
                                                                                                                    atI I' a (8 : Nat) = some (Value.int IntKind.i64 n_9) ∧
                                                                                                                      ∃ (a_6 : Option Addr),
                                                                                                                        ∃ (n_10 : Nat),
                                                                                                                          ∃ (c_5 : Nat),
                                                                                                                            atI I' a (9 : Nat) = some (Value.slice a_6 n_10 c_5) ∧
                                                                                                                              (Ent.mk (EO.cells [SV.v (Value.int IntKind.i64 (Rs.num r)), SV.v (Value.int IntKind.i64 (Rs.code r)), SV.v (Value.int IntKind.i64 (Rs.ser r)), SV.v (Value.int IntKind.i64 (Rs.port r)), SV.v (Value.int IntKind.i64 (Rs.time r)), SV.v (Value.int IntKind.u8 (Rs.kind r)), SV.v (Value.bool (Rs.more r)), SV.v (Value.int IntKind.i64 (Prod.fst (Rs.key r))), SV.v (Value.int IntKind.i64 (Prod.fst (Prod.snd (Rs.key r)))), SV.v (Value.int IntKind.i64 (Prod.snd (Prod.snd (Rs.key r)))), SV.v (Value.slice ac nc cc), SV.v (Value.slice al nl cl), SV.v (Value.slice ae ne ce), SV.v (Value.slice ap np cp), SV.v (Value.slice ah nh ch)] (37 : Nat)) none = Ent.mk (EO.cells [SV.v (Value.int IntKind.i64 (Rs.num r)), SV.v (Value.int IntKind.i64 (Rs.code r)), SV.v (Value.int IntKind.i64 (Rs.ser r)), SV.v (Value.int IntKind.i64 (Rs.port r)), SV.v (Value.int IntKind.i64 (Rs.time r)), SV.v (Value.int IntKind.u8 (Rs.kind r)), SV.v (Value.bool (Rs.more r)), SV.v (Value.int IntKind.i64 (Prod.fst (Rs.key r))), SV.v (Value.int IntKind.i64 (Prod.fst (Prod.snd (Rs.key r)))), SV.v (Value.int IntKind.i64 (Prod.snd (Prod.snd (Rs.key r)))), SV.v (Value.slice ac nc cc), SV.v (Value.slice al nl cl), SV.v (Value.slice ae ne ce), SV.v (Value.slice ap np cp), SV.v (Value.slice ah nh ch)] (37 : Nat)) none ∧ SV.ptr (0 : Nat) (0 : Nat) = SV.ptr (0 : Nat) (0 : Nat) ∧ List.length xs / (2 : Nat) = List.length xs / (2 : Nat) ∧ SV.agg [SV.v (Value.int IntKind.i64 n), SV.v (Value.slice a_2 n_2 c), SV.v (Value.int IntKind.i64 n_3), SV.v (Value.slice a_3 n_4 c_2), SV.v (Value.int IntKind.i64 n_5), SV.v (Value.slice a_4 n_6 c_3), SV.v (Value.int IntKind.i64 n_7), SV.v (Value.slice a_5 n_8 c_4), SV.v (Value.int IntKind.i64 n_9), SV.v (Value.slice a_6 n_10 c_5)] = SV.agg [SV.v (Value.int IntKind.i64 n), SV.v (Value.slice a_2 n_2 c), SV.v (Value.int IntKind.i64 n_3), SV.v (Value.slice a_3 n_4 c_2), SV.v (Value.int IntKind.i64 n_5), SV.v (Value.slice a_4 n_6 c_3), SV.v (Value.int IntKind.i64 n_7), SV.v (Value.slice a_5 n_8 c_4), SV.v (Value.int IntKind.i64 n_9), SV.v (Value.slice a_6 n_10 c_5)] ∧ (0 : Int) ≤ (0 : Int) ∧ (0 : Int) ≤ (5 : Int) ∧ FR I' xs (f2 (0 : Nat))) ∧
                                                                                                                                ∀ (I'_3 G' : Mem),
                                                                                                                                  Mem.le I' I'_3 →
                                                                                                                                    ∀ (xs : List Value) (n_11 : Int),
                                                                                                                                      (0 : Int) ≤ n_11 ∧ n_11 ≤ (5 : Int) ∧ FR I'_3 xs (f2 (Int.toNat n_11)) →
                                                                                                                                        Br (decide (n_11 < (5 : Int)))
                                                                                                                                          ((0 : Int) ≤ n_11 ∧
                                                                                                                                            n_11 < (5 : Int) ∧
                                                                                                                                              (2 : Nat) = (2 : Nat) ∧
                                                                                                                                                ∃ (n_12 : Int),
                                                                                                                                                  (Option.bind [SV.v (Value.int IntKind.i64 n), SV.v (Value.slice a_2 n_2 c), SV.v (Value.int IntKind.i64 n_3), SV.v (Value.slice a_3 n_4 c_2), SV.v (Value.int IntKind.i64 n_5), SV.v (Value.slice a_4 n_6 c_3), SV.v (Value.int IntKind.i64 n_7), SV.v (Value.slice a_5 n_8 c_4), SV.v (Value.int IntKind.i64 n_9), SV.v (Value.slice a_6 n_10 c_5)][Int.toNat n_11 * (2 : Nat) + (0 : Nat)]? fun (x : SV) =>
                                                                                                                                                        match x with
                                                                                                                                                        | SV.v x => some x
                                                                                                                                                        | x => none) =
                                                                                                                                                      some (Value.int IntKind.i64 n_12) ∧
                                                                                                                                                    ∃ (a : Option Addr),
                                                                                                                                                      ∃ (n_13 : Nat),
                                                                                                                                                        ∃ (c_6 : Nat),
                                                                                                                                                          (Option.bind [SV.v (Value.int IntKind.i64 n), SV.v (Value.slice a_2 n_2 c), SV.v (Value.int IntKind.i64 n_3), SV.v (Value.slice a_3 n_4 c_2), SV.v (Value.int IntKind.i64 n_5), SV.v (Value.slice a_4 n_6 c_3), SV.v (Value.int IntKind.i64 n_7), SV.v (Value.slice a_5 n_8 c_4), SV.v (Value.int IntKind.i64 n_9), SV.v (Value.slice a_6 n_10 c_5)][Int.toNat n_11 * (2 : Nat) + (1 : Nat)]? fun (x : SV) =>
                                                                                                                                                                match x with
                                                                                                                                                                | SV.v x => some x
                                                                                                                                                                | x => none) =
                                                                                                                                                              some (Value.slice a n_13 c_6) ∧
                                                                                                                                                            Br (decide ((0 : Int) < (↑n_13 : Int))) (List.length xs = List.length xs / (2 : Nat) * (2 : Nat) ∧ List.length xs / (2 : Nat) + (1 : Nat) ≤ (9223372036854775807 : Nat) ∧ (List.length xs / (2 : Nat) + (1 : Nat)) * (32 : Nat) ≤ (140737488355328 : Nat) ∧ Wr IntKind.i64 (n_11 + (1 : Int)) fun (c_7 : Int) => Ent.mk (EO.cells [SV.v (Value.int IntKind.i64 (Rs.num r)), SV.v (Value.int IntKind.i64 (Rs.code r)), SV.v (Value.int IntKind.i64 (Rs.ser r)), SV.v (Value.int IntKind.i64 (Rs.port r)), SV.v (Value.int IntKind.i64 (Rs.time r)), SV.v (Value.int IntKind.u8 (Rs.kind r)), SV.v (Value.bool (Rs.more r)), SV.v (Value.int IntKind.i64 (Prod.fst (Rs.key r))), SV.v (Value.int IntKind.i64 (Prod.fst (Prod.snd (Rs.key r)))), SV.v (Value.int IntKind.i64 (Prod.snd (Prod.snd (Rs.key r)))), SV.v (Value.slice ac nc cc), SV.v (Value.slice al nl cl), SV.v (Value.slice ae ne ce), SV.v (Value.slice ap np cp), SV.v (Value.slice ah nh ch)] (37 : Nat)) none = Ent.mk (EO.cells [SV.v (Value.int IntKind.i64 (Rs.num r)), SV.v (Value.int IntKind.i64 (Rs.code r)), SV.v (Value.int IntKind.i64 (Rs.ser r)), SV.v (Value.int IntKind.i64 (Rs.port r)), SV.v (Value.int IntKind.i64 (Rs.time r)), SV.v (Value.int IntKind.u8 (Rs.kind r)), SV.v (Value.bool (Rs.more r)), SV.v (Value.int IntKind.i64 (Prod.fst (Rs.key r))), SV.v (Value.int IntKind.i64 (Prod.fst (Prod.snd (Rs.key r)))), SV.v (Value.int IntKind.i64 (Prod.snd (Prod.snd (Rs.key r)))), SV.v (Value.slice ac nc cc), SV.v (Value.slice al nl cl), SV.v (Value.slice ae ne ce), SV.v (Value.slice ap np cp), SV.v (Value.slice ah nh ch)] (37 : Nat)) none ∧ SV.ptr (0 : Nat) (0 : Nat) = SV.ptr (0 : Nat) (0 : Nat) ∧ List.length xs / (2 : Nat) + (1 : Nat) = List.length (xs ++ [Value.int IntKind.i64 n_12, Value.slice a n_13 c_6]) / (2 : Nat) ∧ SV.agg [SV.v (Value.int IntKind.i64 n), SV.v (Value.slice a_2 n_2 c), SV.v (Value.int IntKind.i64 n_3), SV.v (Value.slice a_3 n_4 c_2), SV.v (Value.int IntKind.i64 n_5), SV.v (Value.slice a_4 n_6 c_3), SV.v (Value.int IntKind.i64 n_7), SV.v (Value.slice a_5 n_8 c_4), SV.v (Value.int IntKind.i64 n_9), SV.v (Value.slice a_6 n_10 c_5)] = SV.agg [SV.v (Value.int IntKind.i64 n), SV.v (Value.slice a_2 n_2 c), SV.v (Value.int IntKind.i64 n_3), SV.v (Value.slice a_3 n_4 c_2), SV.v (Value.int IntKind.i64 n_5), SV.v (Value.slice a_4 n_6 c_3), SV.v (Value.int IntKind.i64 n_7), SV.v (Value.slice a_5 n_8 c_4), SV.v (Value.int IntKind.i64 n_9), SV.v (Value.slice a_6 n_10 c_5)] ∧ ((0 : Int) ≤ c_7 ∧ c_7 ≤ (5 : Int) ∧ FR I'_3 (xs ++ [Value.int IntKind.i64 n_12, Value.slice a n_13 c_6]) (f2 (Int.toNat c_7))) ∧ Int.toNat ((5 : Int) - c_7) < Int.toNat ((5 : Int) - n_11)) (Wr IntKind.i64 (n_11 + (1 : Int)) fun (c_7 : Int) => Ent.mk (EO.cells [SV.v (Value.int IntKind.i64 (Rs.num r)), SV.v (Value.int IntKind.i64 (Rs.code r)), SV.v (Value.int IntKind.i64 (Rs.ser r)), SV.v (Value.int IntKind.i64 (Rs.port r)), SV.v (Value.int IntKind.i64 (Rs.time r)), SV.v (Value.int IntKind.u8 (Rs.kind r)), SV.v (Value.bool (Rs.more r)), SV.v (Value.int IntKind.i64 (Prod.fst (Rs.key r))), SV.v (Value.int IntKind.i64 (Prod.fst (Prod.snd (Rs.key r)))), SV.v (Value.int IntKind.i64 (Prod.snd (Prod.snd (Rs.key r)))), SV.v (Value.slice ac nc cc), SV.v (Value.slice al nl cl), SV.v (Value.slice ae ne ce), SV.v (Value.slice ap np cp), SV.v (Value.slice ah nh ch)] (37 : Nat)) none = Ent.mk (EO.cells [SV.v (Value.int IntKind.i64 (Rs.num r)), SV.v (Value.int IntKind.i64 (Rs.code r)), SV.v (Value.int IntKind.i64 (Rs.ser r)), SV.v (Value.int IntKind.i64 (Rs.port r)), SV.v (Value.int IntKind.i64 (Rs.time r)), SV.v (Value.int IntKind.u8 (Rs.kind r)), SV.v (Value.bool (Rs.more r)), SV.v (Value.int IntKind.i64 (Prod.fst (Rs.key r))), SV.v (Value.int IntKind.i64 (Prod.fst (Prod.snd (Rs.key r)))), SV.v (Value.int IntKind.i64 (Prod.snd (Prod.snd (Rs.key r)))), SV.v (Value.slice ac nc cc), SV.v (Value.slice al nl cl), SV.v (Value.slice ae ne ce), SV.v (Value.slice ap np cp), SV.v (Value.slice ah nh ch)] (37 : Nat)) none ∧ SV.ptr (0 : Nat) (0 : Nat) = SV.ptr (0 : Nat) (0 : Nat) ∧ List.length xs / (2 : Nat) = List.length xs / (2 : Nat) ∧ SV.agg [SV.v (Value.int IntKind.i64 n), SV.v (Value.slice a_2 n_2 c), SV.v (Value.int IntKind.i64 n_3), SV.v (Value.slice a_3 n_4 c_2), SV.v (Value.int IntKind.i64 n_5), SV.v (Value.slice a_4 n_6 c_3), SV.v (Value.int IntKind.i64 n_7), SV.v (Value.slice a_5 n_8 c_4), SV.v (Value.int IntKind.i64 n_9), SV.v (Value.slice a_6 n_10 c_5)] = SV.agg [SV.v (Value.int IntKind.i64 n), SV.v (Value.slice a_2 n_2 c), SV.v (Value.int IntKind.i64 n_3), SV.v (Value.slice a_3 n_4 c_2), SV.v (Value.int IntKind.i64 n_5), SV.v (Value.slice a_4 n_6 c_3), SV.v (Value.int IntKind.i64 n_7), SV.v (Value.slice a_5 n_8 c_4), SV.v (Value.int IntKind.i64 n_9), SV.v (Value.slice a_6 n_10 c_5)] ∧ ((0 : Int) ≤ c_7 ∧ c_7 ≤ (5 : Int) ∧ FR I'_3 xs (f2 (Int.toNat c_7))) ∧ Int.toNat ((5 : Int) - c_7) < Int.toNat ((5 : Int) - n_11)))
                                                                                                                                          (∀ (a : Option Addr) (cp : Nat) (I' : Mem), Mem.le I'_3 I' → RowM I' a cp (2 : Nat) xs → ∃ (a_9 : Option Addr), ∃ (n : Nat), ∃ (c : Nat), Value.slice a (List.length xs / (2 : Nat)) cp = Value.slice a_9 n c ∧ FldM I' a_9 n fin ∧ n ≤ c ∧ c ≤ (9223372036854775807 : Nat)))) (by kernel_rfl) ?_
  simp only [eq_self, true_and]
  have hw := w64_range r.num
  have lc := fm_len (c := cI) (k := 1) (fun _ => rfl) r.counts
  have ll := fm_len (c := cI) (k := 1) (fun _ => rfl) r.cells
  have le := fm_len (c := cE) (k := 5) (fun _ => rfl) r.events
  have lp := fm_len (c := cP) (k := 3) (fun _ => rfl) r.ports
  have lh := fm_len (c := cH) (k := 5) (fun _ => rfl) r.handles
  have sc := hc.len
  have sl := hl.len
  have se' := he.len
  have sp := hp.len
  have sh := hh.len
  refine ⟨_, rfl, (ct60 1 _ hw I).mono fun v I1 l1 ⟨y, hv, hy⟩ => ?_⟩
  obtain ⟨a1, n1, c1, rfl, hy1⟩ := id hy
  refine ⟨_, _, _, _, hv, wr_i64 (by have := hr.kind; omega) (by have := hr.kind; omega) ⟨⟨by omega, by omega, ?_⟩, fun I2 _ l2 xs j ⟨j0, j1, hx⟩ => Br.mk (fun hlt => ?_) (fun hge => ⟨?_, fun I3 _ l3 xs hx => ⟨?_, fun I4 _ l4 xs hx => ⟨?_, fun I5 _ l5 xs p ⟨hx, k, y1, y2, y3, y4, y5, hpk, hk, b1, b2, b3, b4, b5⟩ => ?_⟩⟩⟩)⟩⟩
  · rw [hf1]
    exact FR.cons ⟨fN_ok (x := r.num) (by omega), rfl, hy⟩ FR.nil
  · have hlt := of_decide_eq_true hlt
    have hnum : ([SV.v (Value.int .i64 r.kind), .v (.int .i64 r.code), .v (.int .i64 r.ser), .v (.int .i64 r.port), .v (.int .i64 r.time)][j.toNat * 1 + 0]?.bind vOf) = some (.int .i64 (numS r j.toNat)) := by
      rcases (by omega : j = 0 ∨ j = 1 ∨ j = 2 ∨ j = 3 ∨ j = 4) with rfl | rfl | rfl | rfl | rfl <;> rfl
    have hst := fl1_step (r := r) (j := j.toNat) (by omega)
    rw [← hf1] at hst
    refine ⟨j0, hlt, numS r j.toNat, hnum, Br.mk (fun hz => ?_) (fun hz => ?_)⟩
    · have hz : numS r j.toNat ≠ 0 := by simpa using hz
      rw [if_neg hz] at hst
      refine wr_i64 (by omega) (by omega) ⟨_, rfl, (ct60 _ _ (w64_range _) I2).mono fun v I3 l3 ⟨y, hv, hy⟩ => ?_⟩
      obtain ⟨a2, n2, c2, rfl, _⟩ := id hy
      have hxl := hx.len
      rw [hf1] at hxl
      have := fl1_len r j.toNat
      refine ⟨_, _, _, _, hv, by omega, by omega, by omega, wr_i64 (by omega) (by omega) ⟨by simp only [List.length_append, List.length_cons, List.length_nil]; omega, ⟨by omega, by omega, ?_⟩, by omega⟩⟩
      rw [show (j + 1).toNat = j.toNat + 1 by omega, hst]
      have := fr_snoc (t := 2 + j) (bs := formN (IntKind.u64.wrap (numS r j.toNat)).toNat) hx l3 (fN_ok (by omega)) hy
      rw [show fN (2 + (j.toNat : Int)) (numS r j.toNat) = (2 + j, formN (IntKind.u64.wrap (numS r j.toNat)).toNat) by rw [fN, show (2 + (j.toNat : Int)) = 2 + j by omega]]
      exact this
    · have hz : numS r j.toNat = 0 := by simpa using hz
      rw [if_pos hz, List.append_nil] at hst
      refine wr_i64 (by omega) (by omega) ⟨⟨by omega, by omega, ?_⟩, by omega⟩
      rw [show (j + 1).toNat = j.toNat + 1 by omega, hst]
      exact hx
  · have hge := of_decide_eq_false hge
    obtain rfl : j = 5 := by omega
    have hx : FR I2 xs (fl1 r 5) := by rw [hf1] at hx; exact hx
    have hxl := hx.len
    have := fl1_len r 5
    rw [hg1]
    refine Br.mk (fun hm => ?_) (fun hm => ?_)
    · refine ⟨by omega, by omega, by omega, by simp only [List.length_append, List.length_cons, List.length_nil]; omega, ?_⟩
      rw [moreF, if_pos hm]
      exact fr_snoc hx (Mem.le_refl _) ⟨by simp, fun z hz => by cases hz⟩ ⟨none, 0, 0, rfl, sl_nil _ _, Nat.le_refl 0, Nat.zero_le _⟩
    · rw [moreF, if_neg (by rw [hm]; simp), List.append_nil]
      exact hx
  · have hxl := hx.len
    rw [hg1, List.length_append] at hxl
    have := fl1_len r 5
    have := moreF_len r
    rw [hg1] at hx
    rw [hg2]
    refine Br.mk (fun hm => ?_) (fun hm => ?_)
    · have hne : r.key ≠ (0, 0, 0) := fun e => by rw [e] at hm; simp at hm
      refine (ct61 r.key.1 r.key.2.1 r.key.2.2 I3).mono fun v I4 l4 hv => ?_
      obtain ⟨a2, n2, c2, rfl, hy2⟩ := id hv
      refine ⟨_, _, _, rfl, by omega, by omega, by omega, by simp only [List.length_append, List.length_cons, List.length_nil]; omega, ?_⟩
      rw [keyF, if_neg hne]
      exact fr_snoc hx l4 ⟨by simp, forms_bytes _⟩ hv
    · have he : r.key = (0, 0, 0) := by
        simp only [Bool.and_true, Bool.not_eq_false', Bool.and_eq_true, beq_iff_eq] at hm
        exact Prod.ext hm.1 (Prod.ext hm.2.1 hm.2.2)
      rw [keyF, if_pos he, List.append_nil]
      exact hx
  · have hcn : nc = r.counts.length := by omega
    have hln : nl = r.cells.length := by omega
    have hen : ne = r.events.length := by omega
    have hpn : np = r.ports.length := by omega
    have hhn : nh = r.handles.length := by omega
    have bs := hb.counts
    have bs2 := hb.cells
    have bs3 := hb.events
    have bs4 := hb.ports
    have bs5 := hb.handles
    have i4 : I.le I4 := Mem.le_trans l1 (Mem.le_trans l2 (Mem.le_trans l3 l4))
    have K1 := fun J (lJ : I4.le J) => ct62 9 r.counts (fun _ _ => trivial) (fun x _ => by have := numF_len x; omega) ac nc cc J (hc.mono (Mem.le_trans i4 lJ)) hcn (by omega)
    have K2 := fun J (lJ : I4.le J) => ct65 10 r.cells (fun x hx => hr.cells x hx) (fun x hx => by have := celF_len (hr.cells x hx); omega) al nl cl J (hl.mono (Mem.le_trans i4 lJ)) hln (by omega)
    have K3 := fun J (lJ : I4.le J) => ct68 11 r.events (fun x hx => (hr.events x hx).2.2) (fun x hx => by have := evF_len (hr.events x hx).2.2; omega) ae ne ce J (he.mono (Mem.le_trans i4 lJ)) hen (by omega)
    have K4 := fun J (lJ : I4.le J) => ct70 12 r.ports (fun x hx => ⟨hb.names x hx, (hr.ports x hx).2.1⟩) (fun x hx => by have := ptF_len x; have := hb.names x hx; omega) ap np cp J (hp.mono (Mem.le_trans i4 lJ)) hpn (by omega)
    have K5 := fun J (lJ : I4.le J) => ct72 13 r.handles (fun x hx => (hr.handles x hx).2) (fun x _ => by have := hdF_len x; omega) ah nh ch J (hh.mono (Mem.le_trans i4 lJ)) hhn (by omega)
    have z4 := Mem.le_refl I4
    repeat' first
      | (refine (K1 _ z4).mono fun v J1 m1 ⟨y1, hv1, hy1⟩ => ?_
         obtain ⟨a1, n1, c1, rfl, _⟩ := id hy1
         refine ⟨_, _, _, _, hv1, ?_⟩)
      | (refine (K2 _ m1).mono fun v J2 m2 ⟨y2, hv2, hy2⟩ => ?_
         obtain ⟨a2, n2, c2, rfl, _⟩ := id hy2
         have m2' := Mem.le_trans m1 m2
         refine ⟨_, _, _, _, hv2, ?_⟩)
      | (refine (K3 _ m2').mono fun v J3 m3 ⟨y3, hv3, hy3⟩ => ?_
         obtain ⟨a3, n3, c3, rfl, _⟩ := id hy3
         have m3' := Mem.le_trans m2' m3
         refine ⟨_, _, _, _, hv3, ?_⟩)
      | (refine (K4 _ m3').mono fun v J4 m4 ⟨y4, hv4, hy4⟩ => ?_
         obtain ⟨a4, n4, c4, rfl, _⟩ := id hy4
         have m4' := Mem.le_trans m3' m4
         refine ⟨_, _, _, _, hv4, ?_⟩)
      | (refine (K5 _ m4').mono fun v J5 m5 ⟨y5, hv5, hy5⟩ => ?_
         obtain ⟨a5, n5, c5, rfl, _⟩ := id hy5
         have m5' := Mem.le_trans m4' m5
         refine ⟨_, _, _, _, hv5, ?_⟩)
      | (intro k J6 m6 hk
         refine ⟨hx.mono (Mem.le_trans m5' m6), k, _, _, _, _, _, rfl, hk, ?_, ?_, ?_, ?_, ?_⟩
         · rw [hbL]; exact hy1.mono (Mem.le_trans m2 (Mem.le_trans m3 (Mem.le_trans m4 (Mem.le_trans m5 m6))))
         · rw [hbL]; exact hy2.mono (Mem.le_trans m3 (Mem.le_trans m4 (Mem.le_trans m5 m6)))
         · rw [hbL]; exact hy3.mono (Mem.le_trans m4 (Mem.le_trans m5 m6))
         · rw [hbL]; exact hy4.mono (Mem.le_trans m5 m6)
         · rw [hbL]; exact hy5.mono m6)
      | apply And.intro
  subst hpk
  obtain ⟨a1, n1, c1, rfl, q1⟩ := id b1
  obtain ⟨a2, n2, c2, rfl, q2⟩ := id b2
  obtain ⟨a3, n3, c3, rfl, q3⟩ := id b3
  obtain ⟨a4, n4, c4, rfl, q4⟩ := id b4
  obtain ⟨a5, n5, c5, rfl, q5⟩ := id b5
  refine ⟨_, atC hk rfl, _, _, _, atC hk rfl, _, atC hk rfl, _, _, _, atC hk rfl, _, atC hk rfl, _, _, _, atC hk rfl, _, atC hk rfl, _, _, _, atC hk rfl, _, atC hk rfl, _, _, _, atC hk rfl, ⟨by omega, by omega, ?_⟩, fun I6 _ l6 xs j ⟨j0, j1, hx⟩ => Br.mk (fun hlt => ?_) (fun hge => ?_)⟩
  · rw [hf2]
    rw [hg2] at hx
    rw [fl2]
    simpa using hx
  · have hlt := of_decide_eq_true hlt
    have hst := fl2_step (r := r) (j := j.toNat) (by omega)
    rw [← hf2] at hst
    have hxl := hx.len
    rw [hf2] at hxl
    have := fl2_len r j.toNat
    have look : ∃ a n c, ([SV.v (Value.int .i64 9), .v (.slice a1 n1 c1), .v (.int .i64 10), .v (.slice a2 n2 c2), .v (.int .i64 11), .v (.slice a3 n3 c3), .v (.int .i64 12), .v (.slice a4 n4 c4), .v (.int .i64 13), .v (.slice a5 n5 c5)][j.toNat * 2 + 0]?.bind vOf) = some (.int .i64 (9 + j)) ∧
        ([SV.v (Value.int .i64 9), .v (.slice a1 n1 c1), .v (.int .i64 10), .v (.slice a2 n2 c2), .v (.int .i64 11), .v (.slice a3 n3 c3), .v (.int .i64 12), .v (.slice a4 n4 c4), .v (.int .i64 13), .v (.slice a5 n5 c5)][j.toNat * 2 + 1]?.bind vOf) = some (.slice a n c) ∧ BySl I5 (.slice a n c) (bL j.toNat) := by
      rcases (by omega : j = 0 ∨ j = 1 ∨ j = 2 ∨ j = 3 ∨ j = 4) with rfl | rfl | rfl | rfl | rfl
      · exact ⟨_, _, _, rfl, rfl, b1⟩
      · exact ⟨_, _, _, rfl, rfl, b2⟩
      · exact ⟨_, _, _, rfl, rfl, b3⟩
      · exact ⟨_, _, _, rfl, rfl, b4⟩
      · exact ⟨_, _, _, rfl, rfl, b5⟩
    obtain ⟨a, n, c, w1, w2, hby⟩ := look
    have hnb : n = (bytesL r j.toNat).length := by
      obtain ⟨_, _, _, he, hs, _⟩ := id hby
      cases he
      rw [hs.numLen, hbL]
    have hok : okFld ((9 + j : Int), bytesL r j.toNat) := lists_ok hr _ (by
      rcases (by omega : j = 0 ∨ j = 1 ∨ j = 2 ∨ j = 3 ∨ j = 4) with rfl | rfl | rfl | rfl | rfl <;> simp [listsL, bytesL])
    refine ⟨j0, hlt, _, w1, _, _, _, w2, Br.mk (fun hp => ?_) (fun hp => ?_)⟩
    · have hp := of_decide_eq_true hp
      rw [if_neg (fun e => by rw [e] at hnb; simp at hnb; omega)] at hst
      refine ⟨by omega, by omega, by omega, wr_i64 (by omega) (by omega) ⟨by simp only [List.length_append, List.length_cons, List.length_nil]; omega, ⟨by omega, by omega, ?_⟩, by omega⟩⟩
      rw [show (j + 1).toNat = j.toNat + 1 by omega, hst, show ((9 : Int) + (j.toNat : Int)) = 9 + j by omega]
      rw [hbL] at hby
      exact fr_snoc hx (Mem.le_refl _) hok (hby.mono l6)
    · have hp := of_decide_eq_false hp
      rw [if_pos (List.eq_nil_of_length_eq_zero (by omega)), List.append_nil] at hst
      refine wr_i64 (by omega) (by omega) ⟨⟨by omega, by omega, ?_⟩, by omega⟩
      rw [show (j + 1).toNat = j.toNat + 1 by omega, hst]
      exact hx
  · have hge := of_decide_eq_false hge
    obtain rfl : j = 5 := by omega
    intro a' cp' I7 l7 hrow
    rw [hf2] at hx
    rw [hfin]
    exact fr_row hrow (hx.mono l7)
open Go Go.Proofs Go.SE Go.RowKit
set_option linter.unusedVariables false
def evOk (x : EvT) : Bool := !negL [x.1.1, x.1.2.1, x.1.2.2, x.2.1]
def ptOk (x : PtT) : Bool := !negL [x.1, x.2.2] && nameB x.2.1
def hdOk (x : HdT) : Bool := !negL [x.1, x.2.1, x.2.2.1, x.2.2.2.1] && decide (x.2.2.2.2 ≤ 15)
def headOk (r : Rs) : Bool := decide (1 ≤ r.num) && (decide (r.num ≤ 281474976710656) && (decide (r.kind ≤ 9) && (!negL [r.code, r.ser, r.port, r.time, r.key.1, r.key.2.1, r.key.2.2] && !negL r.counts)))
def lenOk (r : Rs) : Bool := decide (r.counts.length ≤ 16) && (decide (r.cells.length ≤ 1024) && (decide (r.events.length ≤ 64) && (decide (r.ports.length ≤ 64) && decide (r.handles.length ≤ 64))))
def vokS (r : Rs) : Bool := headOk r && (lenOk r && (r.events.all evOk && (r.ports.all ptOk && r.handles.all hdOk)))
theorem fm_ints {l : List Int} : l.flatMap cI = ints .i64 l := by
  induction l with
  | nil => rfl
  | cons x r ih => rw [List.flatMap_cons, ih]; rfl
theorem strL_strB {bs : List Int} (hb : byteL bs) : strL (strB bs) = bs := by
  show (u8s bs).toArray.toList.map (fun b => (b.toNat : Int)) = bs
  rw [show (u8s bs).toArray.toList = u8s bs from rfl, u8s, List.map_map]
  conv => rhs; rw [← List.map_id bs]
  apply List.map_congr_left
  intro z hz
  exact u8_nat (hb z hz)
theorem all_no {α : Type} {p : α → Bool} {l : List α} {j : Nat} {x : α} (h : l[j]? = some x) (hp : p x = false) : l.all p = false := by
  cases ha : l.all p with
  | false => rfl
  | true => rw [List.all_eq_true.1 ha x (List.mem_of_getElem? h)] at hp; cases hp
theorem all_snoc {α : Type} {p : α → Bool} {l : List α} {j : Nat} {x : α} (h : l[j]? = some x) (ht : (l.take j).all p = true) (hp : p x = true) : (l.take (j + 1)).all p = true := by
  rw [take_succ' h, List.all_append, ht]; simp [hp]
theorem ct32 (r : Rs) (hr : okRs r) (y : Ys) (I : Mem) (hM : RsM I r y) (hcn : r.counts.length ≤ 1000000) :
    Ct Try.prog (fnv 32) #[.agg (rsV r y).toArray] I (fun v I' => v = .bool (vokS r)) := by
  obtain ⟨⟨ac, nc, cc, h1, hc, _⟩, ⟨al, nl, cl, h2, hl, _⟩, ⟨ae, ne, ce, h3, he, _⟩, ⟨ap, np, cp, h4, hp, _⟩, ⟨ah, nh, ch, h5, hh, _⟩⟩ := hM
  obtain ⟨yc, yl, ye, yp, yh⟩ := y
  subst h1 h2 h3 h4 h5
  obtain ⟨V, hV⟩ : ∃ V, V = vokS r := ⟨_, rfl⟩
  obtain ⟨pe, hpe⟩ : ∃ f, f = fun j => ((r.events.take j).all evOk) := ⟨_, rfl⟩
  obtain ⟨pp, hpp⟩ : ∃ f, f = fun j => ((r.ports.take j).all ptOk) := ⟨_, rfl⟩
  obtain ⟨ph, hph⟩ : ∃ f, f = fun j => ((r.handles.take j).all hdOk) := ⟨_, rfl⟩
  rw [← hV]
  refine viaR (ct_via (A := { loops := [(6, ⟨[(1, .keep), (79, .keep), (80, .keep), (81, .sh (.int .i64))], [(0, .keep)], [], fun vals _ _ _ => match vals with | [.int .i64 j] => 0 ≤ j ∧ j ≤ ne ∧ pe j.toNat = true | _ => False, fun vals _ => match vals with | [.int .i64 j] => (ne - j).toNat | _ => 0⟩), (12, ⟨[(1, .keep), (101, .keep), (102, .keep), (103, .sh (.int .i64))], [(0, .keep)], [], fun vals _ _ _ => match vals with | [.int .i64 j] => 0 ≤ j ∧ j ≤ np ∧ pp j.toNat = true | _ => False, fun vals _ => match vals with | [.int .i64 j] => (np - j).toNat | _ => 0⟩), (18, ⟨[(1, .keep), (122, .keep), (123, .keep), (124, .sh (.int .i64))], [(0, .keep)], [], fun vals _ _ _ => match vals with | [.int .i64 j] => 0 ≤ j ∧ j ≤ nh ∧ ph j.toNat = true | _ => False, fun vals _ => match vals with | [.int .i64 j] => (nh - j).toNat | _ => 0⟩)] }) Try.func32 rfl Try.call32 rfl rfl) (Br (decide (Rs.num r < (1 : Int))) (Value.bool false = Value.bool V) (Br (decide ((281474976710656 : Int) < Rs.num r)) (Value.bool false = Value.bool V) (Br (decide ((9 : Int) < Rs.kind r)) (Value.bool false = Value.bool V) (∀ (b : Nat) (I' : Mem), Mem.le I I' → I' b = some (Obj.cells #[Value.int IntKind.i64 (Rs.code r), Value.int IntKind.i64 (Rs.ser r), Value.int IntKind.i64 (Rs.port r), Value.int IntKind.i64 (Rs.time r), Value.int IntKind.i64 (Prod.fst (Rs.key r)), Value.int IntKind.i64 (Prod.fst (Prod.snd (Rs.key r))), Value.int IntKind.i64 (Prod.snd (Prod.snd (Rs.key r)))] (3 : Nat)) → Ct Try.prog (Value.func (Fn.func (55 : Nat)) #[] #[]) #[Value.slice (some (Addr.mk b (0 : Nat) none)) (7 : Nat) (7 : Nat)] I' fun (v : Value) (I' : Mem) => ∃ (b : Bool), v = Value.bool b ∧ Br (!b) (Value.bool false = Value.bool V) (Ct Try.prog (Value.func (Fn.func (55 : Nat)) #[] #[]) #[Value.slice ac nc cc] I' fun (v : Value) (I' : Mem) => ∃ (b : Bool), v = Value.bool b ∧ Br (!b) (Value.bool false = Value.bool V) (Br (decide ((16 : Int) < (↑nc : Int))) (Value.bool false = Value.bool V) (Br (decide ((1024 : Int) < (↑nl : Int))) (Value.bool false = Value.bool V) (Br (decide ((64 : Int) < (↑ne : Int))) (Value.bool false = Value.bool V) (Br (decide ((64 : Int) < (↑np : Int))) (Value.bool false = Value.bool V) (Br (decide ((64 : Int) < (↑nh : Int))) (Value.bool false = Value.bool V) ((Ent.mk (EO.cells [SV.v (Value.int IntKind.i64 (Rs.num r)), SV.v (Value.int IntKind.i64 (Rs.code r)), SV.v (Value.int IntKind.i64 (Rs.ser r)), SV.v (Value.int IntKind.i64 (Rs.port r)), SV.v (Value.int IntKind.i64 (Rs.time r)), SV.v (Value.int IntKind.u8 (Rs.kind r)), SV.v (Value.bool (Rs.more r)), SV.v (Value.int IntKind.i64 (Prod.fst (Rs.key r))), SV.v (Value.int IntKind.i64 (Prod.fst (Prod.snd (Rs.key r)))), SV.v (Value.int IntKind.i64 (Prod.snd (Prod.snd (Rs.key r)))), SV.v (Value.slice ac nc cc), SV.v (Value.slice al nl cl), SV.v (Value.slice ae ne ce), SV.v (Value.slice ap np cp), SV.v (Value.slice ah nh ch)] (37 : Nat)) none = Ent.mk (EO.cells [SV.v (Value.int IntKind.i64 (Rs.num r)), SV.v (Value.int IntKind.i64 (Rs.code r)), SV.v (Value.int IntKind.i64 (Rs.ser r)), SV.v (Value.int IntKind.i64 (Rs.port r)), SV.v (Value.int IntKind.i64 (Rs.time r)), SV.v (Value.int IntKind.u8 (Rs.kind r)), SV.v (Value.bool (Rs.more r)), SV.v (Value.int IntKind.i64 (Prod.fst (Rs.key r))), SV.v (Value.int IntKind.i64 (Prod.fst (Prod.snd (Rs.key r)))), SV.v (Value.int IntKind.i64 (Prod.snd (Prod.snd (Rs.key r)))), SV.v (Value.slice ac nc cc), SV.v (Value.slice al nl cl), SV.v (Value.slice ae ne ce), SV.v (Value.slice ap np cp), SV.v (Value.slice ah nh ch)] (37 : Nat)) none ∧ SV.ptr (0 : Nat) (0 : Nat) = SV.ptr (0 : Nat) (0 : Nat) ∧ SV.v (Value.slice ae ne ce) = SV.v (Value.slice ae ne ce) ∧ SV.v (Value.int IntKind.i64 (↑ne : Int)) = SV.v (Value.int IntKind.i64 (↑ne : Int)) ∧ (0 : Int) ≤ (0 : Int) ∧ (0 : Int) ≤ (↑ne : Int) ∧ pe (0 : Nat) = true) ∧ ∀ (I'_1 G' : Mem), Mem.le I' I'_1 → ∀ (n : Int), (0 : Int) ≤ n ∧ n ≤ (↑ne : Int) ∧ pe (Int.toNat n) = true → Br (decide (n < (↑ne : Int))) ((0 : Int) ≤ n ∧ n < (↑ne : Int) ∧ Option.isSome ae = true ∧ (5 : Nat) = (5 : Nat) ∧ ∃ (n_1 : Int), atI I'_1 ae (Int.toNat n * (5 : Nat) + (0 : Nat)) = some (Value.int IntKind.i64 n_1) ∧ ∃ (n_2 : Int), atI I'_1 ae (Int.toNat n * (5 : Nat) + (1 : Nat)) = some (Value.int IntKind.i64 n_2) ∧ ∃ (n_3 : Int), atI I'_1 ae (Int.toNat n * (5 : Nat) + (2 : Nat)) = some (Value.int IntKind.i64 n_3) ∧ ∃ (n_4 : Int), atI I'_1 ae (Int.toNat n * (5 : Nat) + (3 : Nat)) = some (Value.int IntKind.i64 n_4) ∧ ∃ (n_5 : Int), atI I'_1 ae (Int.toNat n * (5 : Nat) + (4 : Nat)) = some (Value.int IntKind.i64 n_5) ∧ ∀ (b : Nat) (I' : Mem), Mem.le I'_1 I' → I' b = some (Obj.cells #[Value.int IntKind.i64 n_1, Value.int IntKind.i64 n_2, Value.int IntKind.i64 n_3, Value.int IntKind.i64 n_4] (3 : Nat)) → Ct Try.prog (Value.func (Fn.func (55 : Nat)) #[] #[]) #[Value.slice (some (Addr.mk b (0 : Nat) none)) (4 : Nat) (4 : Nat)] I' fun (v : Value) (I' : Mem) => ∃ (b : Bool), v = Value.bool b ∧ Br (!b) (Value.bool false = Value.bool V) (Wr IntKind.i64 (n + (1 : Int)) fun (c : Int) => Ent.mk (EO.cells [SV.v (Value.int IntKind.i64 (Rs.num r)), SV.v (Value.int IntKind.i64 (Rs.code r)), SV.v (Value.int IntKind.i64 (Rs.ser r)), SV.v (Value.int IntKind.i64 (Rs.port r)), SV.v (Value.int IntKind.i64 (Rs.time r)), SV.v (Value.int IntKind.u8 (Rs.kind r)), SV.v (Value.bool (Rs.more r)), SV.v (Value.int IntKind.i64 (Prod.fst (Rs.key r))), SV.v (Value.int IntKind.i64 (Prod.fst (Prod.snd (Rs.key r)))), SV.v (Value.int IntKind.i64 (Prod.snd (Prod.snd (Rs.key r)))), SV.v (Value.slice ac nc cc), SV.v (Value.slice al nl cl), SV.v (Value.slice ae ne ce), SV.v (Value.slice ap np cp), SV.v (Value.slice ah nh ch)] (37 : Nat)) none = Ent.mk (EO.cells [SV.v (Value.int IntKind.i64 (Rs.num r)), SV.v (Value.int IntKind.i64 (Rs.code r)), SV.v (Value.int IntKind.i64 (Rs.ser r)), SV.v (Value.int IntKind.i64 (Rs.port r)), SV.v (Value.int IntKind.i64 (Rs.time r)), SV.v (Value.int IntKind.u8 (Rs.kind r)), SV.v (Value.bool (Rs.more r)), SV.v (Value.int IntKind.i64 (Prod.fst (Rs.key r))), SV.v (Value.int IntKind.i64 (Prod.fst (Prod.snd (Rs.key r)))), SV.v (Value.int IntKind.i64 (Prod.snd (Prod.snd (Rs.key r)))), SV.v (Value.slice ac nc cc), SV.v (Value.slice al nl cl), SV.v (Value.slice ae ne ce), SV.v (Value.slice ap np cp), SV.v (Value.slice ah nh ch)] (37 : Nat)) none ∧ SV.ptr (0 : Nat) (0 : Nat) = SV.ptr (0 : Nat) (0 : Nat) ∧ SV.v (Value.slice ae ne ce) = SV.v (Value.slice ae ne ce) ∧ SV.v (Value.int IntKind.i64 (↑ne : Int)) = SV.v (Value.int IntKind.i64 (↑ne : Int)) ∧ ((0 : Int) ≤ c ∧ c ≤ (↑ne : Int) ∧ pe (Int.toNat c) = true) ∧ Int.toNat ((↑ne : Int) - c) < Int.toNat ((↑ne : Int) - n))) ((Ent.mk (EO.cells [SV.v (Value.int IntKind.i64 (Rs.num r)), SV.v (Value.int IntKind.i64 (Rs.code r)), SV.v (Value.int IntKind.i64 (Rs.ser r)), SV.v (Value.int IntKind.i64 (Rs.port r)), SV.v (Value.int IntKind.i64 (Rs.time r)), SV.v (Value.int IntKind.u8 (Rs.kind r)), SV.v (Value.bool (Rs.more r)), SV.v (Value.int IntKind.i64 (Prod.fst (Rs.key r))), SV.v (Value.int IntKind.i64 (Prod.fst (Prod.snd (Rs.key r)))), SV.v (Value.int IntKind.i64 (Prod.snd (Prod.snd (Rs.key r)))), SV.v (Value.slice ac nc cc), SV.v (Value.slice al nl cl), SV.v (Value.slice ae ne ce), SV.v (Value.slice ap np cp), SV.v (Value.slice ah nh ch)] (37 : Nat)) none = Ent.mk (EO.cells [SV.v (Value.int IntKind.i64 (Rs.num r)), SV.v (Value.int IntKind.i64 (Rs.code r)), SV.v (Value.int IntKind.i64 (Rs.ser r)), SV.v (Value.int IntKind.i64 (Rs.port r)), SV.v (Value.int IntKind.i64 (Rs.time r)), SV.v (Value.int IntKind.u8 (Rs.kind r)), SV.v (Value.bool (Rs.more r)), SV.v (Value.int IntKind.i64 (Prod.fst (Rs.key r))), SV.v (Value.int IntKind.i64 (Prod.fst (Prod.snd (Rs.key r)))), SV.v (Value.int IntKind.i64 (Prod.snd (Prod.snd (Rs.key r)))), SV.v (Value.slice ac nc cc), SV.v (Value.slice al nl cl), SV.v (Value.slice ae ne ce), SV.v (Value.slice ap np cp), SV.v (Value.slice ah nh ch)] (37 : Nat)) none ∧ SV.ptr (0 : Nat) (0 : Nat) = SV.ptr (0 : Nat) (0 : Nat) ∧ SV.v (Value.slice ap np cp) = SV.v (Value.slice ap np cp) ∧ SV.v (Value.int IntKind.i64 (↑np : Int)) = SV.v (Value.int IntKind.i64 (↑np : Int)) ∧ (0 : Int) ≤ (0 : Int) ∧ (0 : Int) ≤ (↑np : Int) ∧ pp (0 : Nat) = true) ∧ ∀ (I' G' : Mem), Mem.le I'_1 I' → ∀ (n : Int), (0 : Int) ≤ n ∧ n ≤ (↑np : Int) ∧ pp (Int.toNat n) = true → Br (decide (n < (↑np : Int))) ((0 : Int) ≤ n ∧ n < (↑np : Int) ∧ Option.isSome ap = true ∧ (3 : Nat) = (3 : Nat) ∧ ∃ (n_1 : Int), atI I' ap (Int.toNat n * (3 : Nat) + (0 : Nat)) = some (Value.int IntKind.i64 n_1) ∧ ∃ (q : ByteArray), atI I' ap (Int.toNat n * (3 : Nat) + (1 : Nat)) = some (Value.string q) ∧ ∃ (n_2 : Int), atI I' ap (Int.toNat n * (3 : Nat) + (2 : Nat)) = some (Value.int IntKind.i64 n_2) ∧ ∀ (b : Nat) (I'_2 : Mem), Mem.le I' I'_2 → I'_2 b = some (Obj.cells #[Value.int IntKind.i64 n_1, Value.int IntKind.i64 n_2] (3 : Nat)) → Ct Try.prog (Value.func (Fn.func (55 : Nat)) #[] #[]) #[Value.slice (some (Addr.mk b (0 : Nat) none)) (2 : Nat) (2 : Nat)] I'_2 fun (v : Value) (I' : Mem) => ∃ (b : Bool), v = Value.bool b ∧ Br (!b) (Value.bool false = Value.bool V) (Ct Try.prog (Value.func (Fn.func (56 : Nat)) #[] #[]) #[Value.string q] I' fun (v : Value) (I' : Mem) => ∃ (b : Bool), v = Value.bool b ∧ Br (!b) (Value.bool false = Value.bool V) (Wr IntKind.i64 (n + (1 : Int)) fun (c : Int) => Ent.mk (EO.cells [SV.v (Value.int IntKind.i64 (Rs.num r)), SV.v (Value.int IntKind.i64 (Rs.code r)), SV.v (Value.int IntKind.i64 (Rs.ser r)), SV.v (Value.int IntKind.i64 (Rs.port r)), SV.v (Value.int IntKind.i64 (Rs.time r)), SV.v (Value.int IntKind.u8 (Rs.kind r)), SV.v (Value.bool (Rs.more r)), SV.v (Value.int IntKind.i64 (Prod.fst (Rs.key r))), SV.v (Value.int IntKind.i64 (Prod.fst (Prod.snd (Rs.key r)))), SV.v (Value.int IntKind.i64 (Prod.snd (Prod.snd (Rs.key r)))), SV.v (Value.slice ac nc cc), SV.v (Value.slice al nl cl), SV.v (Value.slice ae ne ce), SV.v (Value.slice ap np cp), SV.v (Value.slice ah nh ch)] (37 : Nat)) none = Ent.mk (EO.cells [SV.v (Value.int IntKind.i64 (Rs.num r)), SV.v (Value.int IntKind.i64 (Rs.code r)), SV.v (Value.int IntKind.i64 (Rs.ser r)), SV.v (Value.int IntKind.i64 (Rs.port r)), SV.v (Value.int IntKind.i64 (Rs.time r)), SV.v (Value.int IntKind.u8 (Rs.kind r)), SV.v (Value.bool (Rs.more r)), SV.v (Value.int IntKind.i64 (Prod.fst (Rs.key r))), SV.v (Value.int IntKind.i64 (Prod.fst (Prod.snd (Rs.key r)))), SV.v (Value.int IntKind.i64 (Prod.snd (Prod.snd (Rs.key r)))), SV.v (Value.slice ac nc cc), SV.v (Value.slice al nl cl), SV.v (Value.slice ae ne ce), SV.v (Value.slice ap np cp), SV.v (Value.slice ah nh ch)] (37 : Nat)) none ∧ SV.ptr (0 : Nat) (0 : Nat) = SV.ptr (0 : Nat) (0 : Nat) ∧ SV.v (Value.slice ap np cp) = SV.v (Value.slice ap np cp) ∧ SV.v (Value.int IntKind.i64 (↑np : Int)) = SV.v (Value.int IntKind.i64 (↑np : Int)) ∧ ((0 : Int) ≤ c ∧ c ≤ (↑np : Int) ∧ pp (Int.toNat c) = true) ∧ Int.toNat ((↑np : Int) - c) < Int.toNat ((↑np : Int) - n)))) ((Ent.mk (EO.cells [SV.v (Value.int IntKind.i64 (Rs.num r)), SV.v (Value.int IntKind.i64 (Rs.code r)), SV.v (Value.int IntKind.i64 (Rs.ser r)), SV.v (Value.int IntKind.i64 (Rs.port r)), SV.v (Value.int IntKind.i64 (Rs.time r)), SV.v (Value.int IntKind.u8 (Rs.kind r)), SV.v (Value.bool (Rs.more r)), SV.v (Value.int IntKind.i64 (Prod.fst (Rs.key r))), SV.v (Value.int IntKind.i64 (Prod.fst (Prod.snd (Rs.key r)))), SV.v (Value.int IntKind.i64 (Prod.snd (Prod.snd (Rs.key r)))), SV.v (Value.slice ac nc cc), SV.v (Value.slice al nl cl), SV.v (Value.slice ae ne ce), SV.v (Value.slice ap np cp), SV.v (Value.slice ah nh ch)] (37 : Nat)) none = Ent.mk (EO.cells [SV.v (Value.int IntKind.i64 (Rs.num r)), SV.v (Value.int IntKind.i64 (Rs.code r)), SV.v (Value.int IntKind.i64 (Rs.ser r)), SV.v (Value.int IntKind.i64 (Rs.port r)), SV.v (Value.int IntKind.i64 (Rs.time r)), SV.v (Value.int IntKind.u8 (Rs.kind r)), SV.v (Value.bool (Rs.more r)), SV.v (Value.int IntKind.i64 (Prod.fst (Rs.key r))), SV.v (Value.int IntKind.i64 (Prod.fst (Prod.snd (Rs.key r)))), SV.v (Value.int IntKind.i64 (Prod.snd (Prod.snd (Rs.key r)))), SV.v (Value.slice ac nc cc), SV.v (Value.slice al nl cl), SV.v (Value.slice ae ne ce), SV.v (Value.slice ap np cp), SV.v (Value.slice ah nh ch)] (37 : Nat)) none ∧ SV.ptr (0 : Nat) (0 : Nat) = SV.ptr (0 : Nat) (0 : Nat) ∧ SV.v (Value.slice ah nh ch) = SV.v (Value.slice ah nh ch) ∧ SV.v (Value.int IntKind.i64 (↑nh : Int)) = SV.v (Value.int IntKind.i64 (↑nh : Int)) ∧ (0 : Int) ≤ (0 : Int) ∧ (0 : Int) ≤ (↑nh : Int) ∧ ph (0 : Nat) = true) ∧ ∀ (I'_2 G' : Mem), Mem.le I' I'_2 → ∀ (n : Int), (0 : Int) ≤ n ∧ n ≤ (↑nh : Int) ∧ ph (Int.toNat n) = true → Br (decide (n < (↑nh : Int))) ((0 : Int) ≤ n ∧ n < (↑nh : Int) ∧ Option.isSome ah = true ∧ (5 : Nat) = (5 : Nat) ∧ ∃ (n_1 : Int), atI I'_2 ah (Int.toNat n * (5 : Nat) + (0 : Nat)) = some (Value.int IntKind.i64 n_1) ∧ ∃ (n_2 : Int), atI I'_2 ah (Int.toNat n * (5 : Nat) + (1 : Nat)) = some (Value.int IntKind.i64 n_2) ∧ ∃ (n_3 : Int), atI I'_2 ah (Int.toNat n * (5 : Nat) + (2 : Nat)) = some (Value.int IntKind.i64 n_3) ∧ ∃ (n_4 : Int), atI I'_2 ah (Int.toNat n * (5 : Nat) + (3 : Nat)) = some (Value.int IntKind.i64 n_4) ∧ ∃ (n_5 : Int), atI I'_2 ah (Int.toNat n * (5 : Nat) + (4 : Nat)) = some (Value.int IntKind.u8 n_5) ∧ ∀ (b : Nat) (I' : Mem), Mem.le I'_2 I' → I' b = some (Obj.cells #[Value.int IntKind.i64 n_1, Value.int IntKind.i64 n_2, Value.int IntKind.i64 n_3, Value.int IntKind.i64 n_4] (3 : Nat)) → Ct Try.prog (Value.func (Fn.func (55 : Nat)) #[] #[]) #[Value.slice (some (Addr.mk b (0 : Nat) none)) (4 : Nat) (4 : Nat)] I' fun (v : Value) (I' : Mem) => ∃ (b : Bool), v = Value.bool b ∧ Br (!b) (Value.bool false = Value.bool V) (Ct Try.prog (Value.func (Fn.func (57 : Nat)) #[] #[]) #[Value.int IntKind.u8 n_5] I' fun (v : Value) (I' : Mem) => ∃ (b : Bool), v = Value.bool b ∧ Br (!b) (Value.bool false = Value.bool V) (Wr IntKind.i64 (n + (1 : Int)) fun (c : Int) => Ent.mk (EO.cells [SV.v (Value.int IntKind.i64 (Rs.num r)), SV.v (Value.int IntKind.i64 (Rs.code r)), SV.v (Value.int IntKind.i64 (Rs.ser r)), SV.v (Value.int IntKind.i64 (Rs.port r)), SV.v (Value.int IntKind.i64 (Rs.time r)), SV.v (Value.int IntKind.u8 (Rs.kind r)), SV.v (Value.bool (Rs.more r)), SV.v (Value.int IntKind.i64 (Prod.fst (Rs.key r))), SV.v (Value.int IntKind.i64 (Prod.fst (Prod.snd (Rs.key r)))), SV.v (Value.int IntKind.i64 (Prod.snd (Prod.snd (Rs.key r)))), SV.v (Value.slice ac nc cc), SV.v (Value.slice al nl cl), SV.v (Value.slice ae ne ce), SV.v (Value.slice ap np cp), SV.v (Value.slice ah nh ch)] (37 : Nat)) none = Ent.mk (EO.cells [SV.v (Value.int IntKind.i64 (Rs.num r)), SV.v (Value.int IntKind.i64 (Rs.code r)), SV.v (Value.int IntKind.i64 (Rs.ser r)), SV.v (Value.int IntKind.i64 (Rs.port r)), SV.v (Value.int IntKind.i64 (Rs.time r)), SV.v (Value.int IntKind.u8 (Rs.kind r)), SV.v (Value.bool (Rs.more r)), SV.v (Value.int IntKind.i64 (Prod.fst (Rs.key r))), SV.v (Value.int IntKind.i64 (Prod.fst (Prod.snd (Rs.key r)))), SV.v (Value.int IntKind.i64 (Prod.snd (Prod.snd (Rs.key r)))), SV.v (Value.slice ac nc cc), SV.v (Value.slice al nl cl), SV.v (Value.slice ae ne ce), SV.v (Value.slice ap np cp), SV.v (Value.slice ah nh ch)] (37 : Nat)) none ∧ SV.ptr (0 : Nat) (0 : Nat) = SV.ptr (0 : Nat) (0 : Nat) ∧ SV.v (Value.slice ah nh ch) = SV.v (Value.slice ah nh ch) ∧ SV.v (Value.int IntKind.i64 (↑nh : Int)) = SV.v (Value.int IntKind.i64 (↑nh : Int)) ∧ ((0 : Int) ≤ c ∧ c ≤ (↑nh : Int) ∧ ph (Int.toNat c) = true) ∧ Int.toNat ((↑nh : Int) - c) < Int.toNat ((↑nh : Int) - n)))) (Value.bool true = Value.bool V)))))))))))))) (by kernel_rfl) ?_
  simp only [eq_self, true_and]
  have lc := fm_len (c := cI) (k := 1) (fun _ => rfl) r.counts
  have ll := fm_len (c := cI) (k := 1) (fun _ => rfl) r.cells
  have le := fm_len (c := cE) (k := 5) (fun _ => rfl) r.events
  have lp := fm_len (c := cP) (k := 3) (fun _ => rfl) r.ports
  have lh := fm_len (c := cH) (k := 5) (fun _ => rfl) r.handles
  have sc := hc.len
  have sl := hl.len
  have se' := he.len
  have sp := hp.len
  have sh := hh.len
  have hcn' : nc = r.counts.length := by omega
  have hln : nl = r.cells.length := by omega
  have hen : ne = r.events.length := by omega
  have hpn : np = r.ports.length := by omega
  have hhn : nh = r.handles.length := by omega
  rw [fm_ints] at hc
  have N1 : headOk r = false → Value.bool false = Value.bool V := fun h => by rw [hV, vokS, h]; rfl
  have N2 : lenOk r = false → Value.bool false = Value.bool V := fun h => by rw [hV, vokS, h]; simp
  have N3 : r.events.all evOk = false → Value.bool false = Value.bool V := fun h => by rw [hV, vokS, h]; simp
  have N4 : r.ports.all ptOk = false → Value.bool false = Value.bool V := fun h => by rw [hV, vokS, h]; simp
  have N5 : r.handles.all hdOk = false → Value.bool false = Value.bool V := fun h => by rw [hV, vokS, h]; simp
  refine Br.mk (fun h => N1 ?_) (fun g1 => Br.mk (fun h => N1 ?_) (fun g2 => Br.mk (fun h => N1 ?_) (fun g3 b I1 l1 hb => ?_)))
  · have h := of_decide_eq_true h
    rw [headOk, decide_eq_false (by omega), Bool.false_and]
  · have h := of_decide_eq_true h
    rw [headOk, decide_eq_false (p := r.num ≤ 281474976710656) (by omega)]; simp
  · have h := of_decide_eq_true h
    rw [headOk, decide_eq_false (p := r.kind ≤ 9) (by omega)]; simp
  refine (ct55 [r.code, r.ser, r.port, r.time, r.key.1, r.key.2.1, r.key.2.2] _ 7 7 I1 (int_sl hb rfl rfl (by omega)) (by omega)).mono fun v I2 l2 hv => ⟨_, hv, Br.mk (fun h => N1 ?_) (fun g4 => ?_)⟩
  · have h : negL [r.code, r.ser, r.port, r.time, r.key.1, r.key.2.1, r.key.2.2] = true := by simpa using h
    rw [headOk, h]; simp
  refine (ct55 r.counts ac nc cc I2 (hc.mono (Mem.le_trans l1 l2)) (by omega)).mono fun v I3 l3 hv => ⟨_, hv, Br.mk (fun h => N1 ?_) (fun g5 => Br.mk (fun h => N2 ?_) (fun g6 => Br.mk (fun h => N2 ?_) (fun g7 => Br.mk (fun h => N2 ?_) (fun g8 => Br.mk (fun h => N2 ?_) (fun g9 => Br.mk (fun h => N2 ?_) (fun g10 => ?_))))))⟩
  · have h : negL r.counts = true := by simpa using h
    rw [headOk, h]; simp
  · have h := of_decide_eq_true h
    rw [lenOk, decide_eq_false (by omega), Bool.false_and]
  · have h := of_decide_eq_true h
    rw [lenOk, decide_eq_false (p := r.cells.length ≤ 1024) (by omega)]; simp
  · have h := of_decide_eq_true h
    rw [lenOk, decide_eq_false (p := r.events.length ≤ 64) (by omega)]; simp
  · have h := of_decide_eq_true h
    rw [lenOk, decide_eq_false (p := r.ports.length ≤ 64) (by omega)]; simp
  · have h := of_decide_eq_true h
    rw [lenOk, decide_eq_false (p := r.handles.length ≤ 64) (by omega)]; simp
  have g1 := of_decide_eq_false g1
  have g2 := of_decide_eq_false g2
  have g3 := of_decide_eq_false g3
  have g6 := of_decide_eq_false g6
  have g7 := of_decide_eq_false g7
  have g8 := of_decide_eq_false g8
  have g9 := of_decide_eq_false g9
  have g10 := of_decide_eq_false g10
  have H1 : headOk r = true := by
    have h4 : negL [r.code, r.ser, r.port, r.time, r.key.1, r.key.2.1, r.key.2.2] = false := by simpa using g4
    have h5 : negL r.counts = false := by simpa using g5
    rw [headOk, decide_eq_true (by omega), decide_eq_true (p := r.num ≤ 281474976710656) (by omega), decide_eq_true (p := r.kind ≤ 9) (by omega), h4, h5]; rfl
  have H2 : lenOk r = true := by
    rw [lenOk, decide_eq_true (by omega), decide_eq_true (p := r.cells.length ≤ 1024) (by omega), decide_eq_true (p := r.events.length ≤ 64) (by omega), decide_eq_true (p := r.ports.length ≤ 64) (by omega), decide_eq_true (p := r.handles.length ≤ 64) (by omega)]; rfl
  have i3 : I.le I3 := Mem.le_trans l1 (Mem.le_trans l2 l3)
  refine ⟨⟨by omega, by omega, by rw [hpe]; rfl⟩, fun I4 _ l4 j ⟨j0, j1, hj⟩ => Br.mk (fun hlt => ?_) (fun hge => ?_)⟩
  · have hlt := of_decide_eq_true hlt
    rw [hpe] at hj
    obtain ⟨x, hx, g⟩ := lst_at (c := cE) (k := 5) (fun _ => rfl) (he.mono (Mem.le_trans i3 l4)) hen j0 hlt
    refine ⟨j0, hlt, he.isSome (by omega), _, g 0 _ (by omega) rfl, _, g 1 _ (by omega) rfl, _, g 2 _ (by omega) rfl, _, g 3 _ (by omega) rfl, _, g 4 _ (by omega) rfl, fun b I5 l5 hb => ?_⟩
    refine (ct55 [x.1.1, x.1.2.1, x.1.2.2, x.2.1] _ 4 4 I5 (int_sl hb rfl rfl (by omega)) (by omega)).mono fun v I6 l6 hv => ⟨_, hv, Br.mk (fun h => N3 (all_no hx ?_)) (fun h => ?_)⟩
    · rw [evOk]; simpa using h
    · refine wr_i64 (by omega) (by omega) ⟨⟨by omega, by omega, ?_⟩, by omega⟩
      rw [hpe, show (j + 1).toNat = j.toNat + 1 by omega]
      exact all_snoc hx hj (by rw [evOk]; simpa using h)
  have hge := of_decide_eq_false hge
  rw [hpe] at hj
  have H3 : r.events.all evOk = true := by
    have hj : (r.events.take j.toNat).all evOk = true := hj
    rw [List.take_of_length_le (by omega)] at hj; exact hj
  clear hge hj j0 j1
  refine ⟨⟨by omega, by omega, by rw [hpp]; rfl⟩, fun I5 _ l5 j ⟨j0, j1, hj⟩ => Br.mk (fun hlt => ?_) (fun hge => ?_)⟩
  · have hlt := of_decide_eq_true hlt
    rw [hpp] at hj
    obtain ⟨x, hx, g⟩ := lst_at (c := cP) (k := 3) (fun _ => rfl) (hp.mono (Mem.le_trans i3 (Mem.le_trans l4 l5))) hpn j0 hlt
    have hbx := (hr.ports x (List.mem_of_getElem? hx)).2.1
    refine ⟨j0, hlt, hp.isSome (by omega), _, g 0 _ (by omega) rfl, _, g 1 _ (by omega) rfl, _, g 2 _ (by omega) rfl, fun b I6 l6 hb => ?_⟩
    refine (ct55 [x.1, x.2.2] _ 2 2 I6 (int_sl hb rfl rfl (by omega)) (by omega)).mono fun v I7 l7 hv => ⟨_, hv, Br.mk (fun h => N4 (all_no hx ?_)) (fun h => (ct56 _ I7).mono fun v I8 l8 hv => ⟨_, hv, Br.mk (fun h' => N4 (all_no hx ?_)) (fun h' => ?_)⟩)⟩
    · have h : negL [x.1, x.2.2] = true := by simpa using h
      rw [ptOk, h]; rfl
    · rw [strL_strB hbx] at h'
      have h' : nameB x.2.1 = false := by simpa using h'
      rw [ptOk, h', Bool.and_false]
    · rw [strL_strB hbx] at h'
      have h : negL [x.1, x.2.2] = false := by simpa using h
      have h' : nameB x.2.1 = true := by simpa using h'
      refine wr_i64 (by omega) (by omega) ⟨⟨by omega, by omega, ?_⟩, by omega⟩
      rw [hpp, show (j + 1).toNat = j.toNat + 1 by omega]
      exact all_snoc hx hj (by rw [ptOk, h, h']; rfl)
  have hge := of_decide_eq_false hge
  rw [hpp] at hj
  have H4 : r.ports.all ptOk = true := by
    have hj : (r.ports.take j.toNat).all ptOk = true := hj
    rw [List.take_of_length_le (by omega)] at hj; exact hj
  clear hge hj j0 j1
  refine ⟨⟨by omega, by omega, by rw [hph]; rfl⟩, fun I6 _ l6 j ⟨j0, j1, hj⟩ => Br.mk (fun hlt => ?_) (fun hge => ?_)⟩
  · have hlt := of_decide_eq_true hlt
    rw [hph] at hj
    obtain ⟨x, hx, g⟩ := lst_at (c := cH) (k := 5) (fun _ => rfl) (hh.mono (Mem.le_trans i3 (Mem.le_trans l4 (Mem.le_trans l5 l6)))) hhn j0 hlt
    refine ⟨j0, hlt, hh.isSome (by omega), _, g 0 _ (by omega) rfl, _, g 1 _ (by omega) rfl, _, g 2 _ (by omega) rfl, _, g 3 _ (by omega) rfl, _, g 4 _ (by omega) rfl, fun b I7 l7 hb => ?_⟩
    refine (ct55 [x.1, x.2.1, x.2.2.1, x.2.2.2.1] _ 4 4 I7 (int_sl hb rfl rfl (by omega)) (by omega)).mono fun v I8 l8 hv => ⟨_, hv, Br.mk (fun h => N5 (all_no hx ?_)) (fun h => (ct57 _ I8).mono fun v I9 l9 hv => ⟨_, hv, Br.mk (fun h' => N5 (all_no hx ?_)) (fun h' => ?_)⟩)⟩
    · have h : negL [x.1, x.2.1, x.2.2.1, x.2.2.2.1] = true := by simpa using h
      rw [hdOk, h]; rfl
    · rw [hdOk]
      have h' : decide (x.2.2.2.2 ≤ 15) = false := by simpa using h'
      rw [h', Bool.and_false]
    · have h : negL [x.1, x.2.1, x.2.2.1, x.2.2.2.1] = false := by simpa using h
      have h' : decide (x.2.2.2.2 ≤ 15) = true := by simpa using h'
      refine wr_i64 (by omega) (by omega) ⟨⟨by omega, by omega, ?_⟩, by omega⟩
      rw [hph, show (j + 1).toNat = j.toNat + 1 by omega]
      exact all_snoc hx hj (by rw [hdOk, h, h']; rfl)
  have hge := of_decide_eq_false hge
  rw [hph] at hj
  have H5 : r.handles.all hdOk = true := by
    have hj : (r.handles.take j.toNat).all hdOk = true := hj
    rw [List.take_of_length_le (by omega)] at hj; exact hj
  rw [hV, vokS, H1, H2, H3, H4, H5]; rfl
open Go Go.Proofs Go.SE Go.RowKit
set_option linter.unusedVariables false
def rightS (r : Rs) : Bool := vokS r && (rightF (fieldsS r) && decide ((writeF (fieldsS r)).length ≤ 16320))
def writeS (r : Rs) : List Int := 1 :: writeF (fieldsS r)
theorem vok_small {r : Rs} (h : vokS r = true) : smallR r := by
  simp only [vokS, lenOk, Bool.and_eq_true, decide_eq_true_eq] at h
  obtain ⟨_, ⟨h1, h2, h3, h4, h5⟩, _, h6, _⟩ := h
  refine ⟨by omega, by omega, by omega, by omega, by omega, fun x hx => ?_⟩
  have := List.all_eq_true.1 h6 x hx
  simp only [ptOk, nameB, Bool.and_eq_true, decide_eq_true_eq] at this
  omega
theorem ct18 (r : Rs) (hr : okRs r) (y : Ys) (I : Mem) (hM : RsM I r y) (hcn : r.counts.length ≤ 1000000) :
    Ct Try.prog (fnv 18) #[.agg (rsV r y).toArray] I (fun v I' => ∃ a n c, v = .tuple #[.slice a n c, .bool (rightS r)] ∧ (rightS r = true → SlM I' a n 1 (ints .u8 (writeF (fieldsS r))) ∧ n ≤ c ∧ c ≤ maxLen ∧ n ≤ 20000)) := by
  obtain ⟨R, hR⟩ : ∃ R, R = rightS r := ⟨_, rfl⟩
  obtain ⟨W, hW⟩ : ∃ W, W = writeF (fieldsS r) := ⟨_, rfl⟩
  rw [← hR, ← hW]
  refine viaR (ct_via (A := { }) Try.func18 rfl Try.call18 rfl rfl) (Ct Try.prog (Value.func (Fn.func (32 : Nat)) #[] #[]) #[Value.agg #[Value.int IntKind.i64 (Rs.num r), Value.int IntKind.i64 (Rs.code r), Value.int IntKind.i64 (Rs.ser r), Value.int IntKind.i64 (Rs.port r), Value.int IntKind.i64 (Rs.time r), Value.int IntKind.u8 (Rs.kind r), Value.bool (Rs.more r), Value.int IntKind.i64 (Prod.fst (Rs.key r)), Value.int IntKind.i64 (Prod.fst (Prod.snd (Rs.key r))), Value.int IntKind.i64 (Prod.snd (Prod.snd (Rs.key r))), Ys.c y, Ys.l y, Ys.e y, Ys.p y, Ys.h y]] I fun (v : Value) (I' : Mem) => ∃ (b : Bool), v = Value.bool b ∧ Br (!b) (∃ (a : Option Addr), ∃ (n : Nat), ∃ (c : Nat), Value.tuple #[Value.slice none (0 : Nat) (0 : Nat), Value.bool false] = Value.tuple #[Value.slice a n c, Value.bool R] ∧ (R = true → SlM I' a n (1 : Nat) (List.map (Value.int IntKind.u8) W) ∧ n ≤ c ∧ c ≤ (9223372036854775807 : Nat) ∧ n ≤ (20000 : Nat))) (Ct Try.prog (Value.func (Fn.func (34 : Nat)) #[] #[]) #[Value.agg #[Value.int IntKind.i64 (Rs.num r), Value.int IntKind.i64 (Rs.code r), Value.int IntKind.i64 (Rs.ser r), Value.int IntKind.i64 (Rs.port r), Value.int IntKind.i64 (Rs.time r), Value.int IntKind.u8 (Rs.kind r), Value.bool (Rs.more r), Value.int IntKind.i64 (Prod.fst (Rs.key r)), Value.int IntKind.i64 (Prod.fst (Prod.snd (Rs.key r))), Value.int IntKind.i64 (Prod.snd (Prod.snd (Rs.key r))), Ys.c y, Ys.l y, Ys.e y, Ys.p y, Ys.h y]] I' fun (v : Value) (I' : Mem) => ∃ (a : Option Addr), ∃ (n : Nat), ∃ (c : Nat), v = Value.slice a n c ∧ Ct Try.prog (Value.func (Fn.func (33 : Nat)) #[] #[]) #[Value.slice a n c] I' fun (v : Value) (I' : Mem) => ∃ (a : Option Addr), ∃ (n : Nat), ∃ (c : Nat), ∃ (n_1 : Int), v = Value.tuple #[Value.slice a n c, Value.int IntKind.i64 n_1] ∧ Br (n_1 == (0 : Int)) (∃ (a_1 : Option Addr), ∃ (n_2 : Nat), ∃ (c_1 : Nat), Value.tuple #[Value.slice a n c, Value.bool (decide ((↑n : Int) ≤ (16320 : Int)))] = Value.tuple #[Value.slice a_1 n_2 c_1, Value.bool R] ∧ (R = true → SlM I' a_1 n_2 (1 : Nat) (List.map (Value.int IntKind.u8) W) ∧ n_2 ≤ c_1 ∧ c_1 ≤ (9223372036854775807 : Nat) ∧ n_2 ≤ (20000 : Nat))) (∃ (a_1 : Option Addr), ∃ (n_2 : Nat), ∃ (c_1 : Nat), Value.tuple #[Value.slice a n c, Value.bool false] = Value.tuple #[Value.slice a_1 n_2 c_1, Value.bool R] ∧ (R = true → SlM I' a_1 n_2 (1 : Nat) (List.map (Value.int IntKind.u8) W) ∧ n_2 ≤ c_1 ∧ c_1 ≤ (9223372036854775807 : Nat) ∧ n_2 ≤ (20000 : Nat))))) (by kernel_rfl) ?_
  refine (ct32 r hr y I hM hcn).mono fun v I1 l1 hv => ⟨_, hv, Br.mk (fun h => ?_) (fun h => ?_)⟩
  · have h : vokS r = false := by simpa using h
    have : R = false := by rw [hR, rightS, h]; rfl
    rw [this]
    exact ⟨_, _, _, rfl, fun h => by cases h⟩
  have h : vokS r = true := by simpa using h
  have hsm := vok_small h
  refine (ct34 r hr hsm y I1 (hM.mono l1)).mono fun v I2 l2 ⟨a, n, c, hv, hF, hn, hc⟩ => ⟨_, _, _, hv, ?_⟩
  have hl := hF.len
  have hfl := fl2_len r 5
  have hfe : fieldsS r = fl2 r 5 := rfl
  rw [hfe] at hl
  refine (ct33 (fieldsS r) a n c I2 hF (by omega)).mono fun v I3 l3 ⟨a3, n3, c3, hv, hw, hn3, hc3⟩ => ⟨_, _, _, _, hv, Br.mk (fun g => ?_) (fun g => ?_)⟩
  · cases hrf : rightF (fieldsS r) with
    | false => rw [hrf] at g; cases g
    | true =>
      rw [hrf, if_pos rfl] at hw
      have hnl := hw.numLen
      have hwl := write_len hrf
      have e : R = decide ((n3 : Int) ≤ 16320) := by
        rw [hR, rightS, h, hrf, Bool.true_and, Bool.true_and, hnl]
        exact decide_eq_decide.2 (by omega)
      rw [e]
      rw [← hW] at hw
      exact ⟨_, _, _, rfl, fun _ => ⟨hw, hn3, hc3, by omega⟩⟩
  · have : rightF (fieldsS r) = false := by
      cases hrf : rightF (fieldsS r) with
      | false => rfl
      | true => rw [hrf] at g; cases g
    have e : R = false := by rw [hR, rightS, this]; simp
    rw [e]
    exact ⟨_, _, _, rfl, fun h => by cases h⟩
theorem ct11 (r : Rs) (hr : okRs r) (y : Ys) (I : Mem) (hM : RsM I r y) (hcn : r.counts.length ≤ 1000000) :
    Ct Try.prog (fnv 11) #[.agg (rsV r y).toArray] I (fun v I' => v = .bool (rightS r)) := by
  obtain ⟨R, hR⟩ : ∃ R, R = rightS r := ⟨_, rfl⟩
  have C := ct18 r hr y I hM hcn
  rw [← hR] at C ⊢
  refine viaR (ct_via (A := { }) Try.func11 rfl Try.call11 rfl rfl) (Ct Try.prog (Value.func (Fn.func (18 : Nat)) #[] #[]) #[Value.agg #[Value.int IntKind.i64 (Rs.num r), Value.int IntKind.i64 (Rs.code r), Value.int IntKind.i64 (Rs.ser r), Value.int IntKind.i64 (Rs.port r), Value.int IntKind.i64 (Rs.time r), Value.int IntKind.u8 (Rs.kind r), Value.bool (Rs.more r), Value.int IntKind.i64 (Prod.fst (Rs.key r)), Value.int IntKind.i64 (Prod.fst (Prod.snd (Rs.key r))), Value.int IntKind.i64 (Prod.snd (Prod.snd (Rs.key r))), Ys.c y, Ys.l y, Ys.e y, Ys.p y, Ys.h y]] I fun (v : Value) (I' : Mem) => ∃ (a : Option Addr), ∃ (n : Nat), ∃ (c : Nat), ∃ (b : Bool), v = Value.tuple #[Value.slice a n c, Value.bool b] ∧ Value.bool b = Value.bool R) (by kernel_rfl) ?_
  exact C.mono fun v I1 l1 ⟨a, n, c, hv, _⟩ => ⟨_, _, _, _, hv, rfl⟩
theorem ct10 (r : Rs) (hr : okRs r) (y : Ys) (I : Mem) (hM : RsM I r y) (hcn : r.counts.length ≤ 1000000) :
    Ct Try.prog (fnv 10) #[.agg (rsV r y).toArray] I (fun v I' => ∃ a n c, v = .tuple #[.slice a n c, .int .i64 (if rightS r then 0 else 350)] ∧ SlM I' a n 1 (ints .u8 (if rightS r then writeS r else [])) ∧ n ≤ c ∧ c ≤ maxLen ∧ NewB I I' (.slice a n c)) := by
  obtain ⟨R, hR⟩ : ∃ R, R = rightS r := ⟨_, rfl⟩
  have C := ct18 r hr y I hM hcn
  obtain ⟨W, hW⟩ : ∃ W, W = writeF (fieldsS r) := ⟨_, rfl⟩
  obtain ⟨w, hw⟩ : ∃ w, w = writeS r := ⟨_, rfl⟩
  rw [← hR, ← hW] at C
  rw [← hR, ← hw]
  refine viaR (ctF_via (A := { }) Try.func10 rfl Try.call10 rfl rfl) (Ct Try.prog (Value.func (Fn.func (18 : Nat)) #[] #[]) #[Value.agg #[Value.int IntKind.i64 (Rs.num r), Value.int IntKind.i64 (Rs.code r), Value.int IntKind.i64 (Rs.ser r), Value.int IntKind.i64 (Rs.port r), Value.int IntKind.i64 (Rs.time r), Value.int IntKind.u8 (Rs.kind r), Value.bool (Rs.more r), Value.int IntKind.i64 (Prod.fst (Rs.key r)), Value.int IntKind.i64 (Prod.fst (Prod.snd (Rs.key r))), Value.int IntKind.i64 (Prod.snd (Prod.snd (Rs.key r))), Ys.c y, Ys.l y, Ys.e y, Ys.p y, Ys.h y]] I fun (v : Value) (I' : Mem) => ∃ (a : Option Addr), ∃ (n : Nat), ∃ (c : Nat), ∃ (b : Bool), v = Value.tuple #[Value.slice a n c, Value.bool b] ∧ Br (!b) (∃ (a : Option Addr), ∃ (n : Nat), ∃ (c : Nat), Value.tuple #[Value.slice none (0 : Nat) (0 : Nat), Value.int IntKind.i64 (350 : Int)] = Value.tuple #[Value.slice a n c, Value.int IntKind.i64 (if R = true then (0 : Int) else (350 : Int))] ∧ SlM I' a n (1 : Nat) (List.map (Value.int IntKind.u8) (if R = true then w else [])) ∧ n ≤ c ∧ c ≤ (9223372036854775807 : Nat) ∧ NewB I I' (Value.slice a n c)) (∃ (ys : List Value), List.length ys = n * (1 : Nat) ∧ (a = none → n = (0 : Nat)) ∧ (∀ (j : Nat) (v : Value), ys[j]? = some v → atI I' a j = some v) ∧ (∀ (v : Value), v ∈ ys → Value.oneCell' v = true) ∧ (1 : Nat) = (1 : Nat) ∧ (1 : Nat) + n ≤ (9223372036854775807 : Nat) ∧ ((1 : Nat) + n) * (1 : Nat) ≤ (140737488355328 : Nat) ∧ ∀ (a : Option Addr) (cp : Nat) (I'_1 : Mem), Mem.le I' I'_1 → RowF I' I'_1 a cp (1 : Nat) (Value.int IntKind.u8 (1 : Int) :: ys) → ∃ (a_3 : Option Addr), ∃ (n_1 : Nat), ∃ (c : Nat), Value.tuple #[Value.slice a ((1 : Nat) + n) cp, Value.int IntKind.i64 (0 : Int)] = Value.tuple #[Value.slice a_3 n_1 c, Value.int IntKind.i64 (if R = true then (0 : Int) else (350 : Int))] ∧ SlM I'_1 a_3 n_1 (1 : Nat) (List.map (Value.int IntKind.u8) (if R = true then w else [])) ∧ n_1 ≤ c ∧ c ≤ (9223372036854775807 : Nat) ∧ NewB I I'_1 (Value.slice a_3 n_1 c))) (by kernel_rfl) ?_
  refine C.mono fun v I1 l1 ⟨a, n, c, hv, hs⟩ => ⟨_, _, _, _, hv, Br.mk (fun h => ?_) (fun h => ?_)⟩
  · have h : R = false := by simpa using h
    rw [h]
    exact ⟨none, 0, 0, rfl, sl_nil _ _, by omega, by omega, newB_sl (fun hc => absurd hc (by omega)) (by omega)⟩
  have h : R = true := by simpa using h
  rw [h]
  obtain ⟨hs, hn, hc, hn2⟩ := hs h
  refine ⟨_, hs.len, hs.nil, hs.at_, one_ints, rfl, by omega, by omega, fun a2 cp I2 l2 hrow => ?_⟩
  have hl := hs.numLen
  have e : [Value.int .u8 1] ++ ints .u8 W = ints .u8 w := by rw [hw, hW]; rfl
  have hrow : RowF I1 I2 a2 cp 1 ([Value.int .u8 1] ++ ints .u8 W) := hrow
  rw [e] at hrow
  have hlw : w.length = 1 + n := by rw [hw, writeS, List.length_cons, ← hW]; omega
  have h1 := hrow.row.1
  rw [ints_len] at h1
  exact ⟨a2, 1 + n, cp, rfl, hrow.row.sl (by omega) (by rw [ints_len]; omega), by omega, hrow.row.2.1, newB_sl (hrow.newS.anti l1) (by omega)⟩
