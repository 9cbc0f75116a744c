/- Part of a proof by the rules of the symbolic walk (see the law's own text): contracts of functions of the program. -/
import Derived.Test.YtlkblbgmiodolaaGA
open Go Go.Proofs Go.SE Go.RowKit
/-- A want: its tag, whether it must be there, the least and the most. -/
abbrev Wnt := Int × Bool × Int × Int
def wc (w : Wnt) : List Value := [.int .i64 w.1, .bool w.2.1, .int .i64 w.2.2.1, .int .i64 w.2.2.2]
def okW (w : Wnt) : Prop := (-9223372036854775808 ≤ w.1 ∧ w.1 ≤ 9223372036854775807) ∧ (-9223372036854775808 ≤ w.2.2.1 ∧ w.2.2.1 ≤ 9223372036854775807) ∧ (-9223372036854775808 ≤ w.2.2.2 ∧ w.2.2.2 ≤ 9223372036854775807)
theorem wc_len : ∀ (ws : List Wnt), (ws.flatMap wc).length = ws.length * 4
  | [] => rfl
  | w :: r => by rw [List.flatMap_cons, List.length_append, wc_len r]; simp [wc]; omega
theorem wc_at : ∀ {ws : List Wnt} {j : Nat} {w : Wnt}, ws[j]? = some w → (ws.flatMap wc)[j * 4 + 0]? = some (.int .i64 w.1) ∧ (ws.flatMap wc)[j * 4 + 1]? = some (.bool w.2.1) ∧ (ws.flatMap wc)[j * 4 + 2]? = some (.int .i64 w.2.2.1) ∧ (ws.flatMap wc)[j * 4 + 3]? = some (.int .i64 w.2.2.2)
  | [], j, w, h => by simp at h
  | v :: r, 0, w, h => by
    simp at h; subst h
    simp [wc]
  | v :: r, j + 1, w, h => by
    have ih := wc_at (ws := r) (j := j) (w := w) (by simpa using h)
    have e : ∀ k, (j + 1) * 4 + k = (j * 4 + k) + 4 := fun k => by omega
    rw [e, e, e, e]
    simpa [wc] using ih
def WntM (I : Mem) (a : Option Addr) (n : Nat) (ws : List Wnt) : Prop := SlM I a n 4 (ws.flatMap wc) ∧ ∀ w ∈ ws, okW w
theorem WntM.mono {I J : Mem} {a : Option Addr} {n : Nat} {ws : List Wnt} (h : WntM I a n ws) (hle : I.le J) : WntM J a n ws := ⟨h.1.mono hle, h.2⟩
theorem WntM.len {I : Mem} {a : Option Addr} {n : Nat} {ws : List Wnt} (h : WntM I a n ws) : ws.length = n := by
  have := h.1.len
  rw [wc_len] at this
  omega
theorem WntM.isSome {I : Mem} {a : Option Addr} {n : Nat} {ws : List Wnt} (h : WntM I a n ws) (hn : 0 < n) : a.isSome = true := h.1.isSome hn
theorem WntM.at_ {I : Mem} {a : Option Addr} {n : Nat} {ws : List Wnt} (h : WntM I a n ws) {i : Int} (h0 : 0 ≤ i) (h1 : i < n) :
    ∃ w, ws[i.toNat]? = some w ∧ okW w ∧ atI I a (i.toNat * 4 + 0) = some (.int .i64 w.1) ∧ atI I a (i.toNat * 4 + 1) = some (.bool w.2.1) ∧ atI I a (i.toNat * 4 + 2) = some (.int .i64 w.2.2.1) ∧ atI I a (i.toNat * 4 + 3) = some (.int .i64 w.2.2.2) := by
  have hl := h.len
  have hg : ws[i.toNat]? = some ws[i.toNat] := List.getElem?_eq_getElem (by omega)
  obtain ⟨g1, g2, g3, g4⟩ := wc_at hg
  exact ⟨_, hg, h.2 _ (List.mem_of_getElem? hg), h.1.at_ _ _ g1, h.1.at_ _ _ g2, h.1.at_ _ _ g3, h.1.at_ _ _ g4⟩
def rightWS : Int → List Wnt → Bool
  | _, [] => true
  | last, w :: r => if w.1 ≤ last ∨ 200 < w.1 ∨ w.2.2.1 < 0 ∨ w.2.2.2 < w.2.2.1 ∨ 16384 < w.2.2.2 then false else rightWS w.1 r
def rightW (ws : List Wnt) : Bool := rightWS 0 ws && decide ((ws.length : Int) ≤ 64)
theorem ct31 (ws : List Wnt) (a : Option Addr) (n c : Nat) (I : Mem) (h : WntM I a n ws) (hn : n ≤ 1000000) :
    Ct Try.prog (fnv 31) #[.slice a n c] I (fun v _ => v = .bool (rightW ws)) := by
  refine viaR (ct_via (A := { loops := [(3, ⟨[(0, .keep), (3, .sh (.int .i64)), (6, .keep), (7, .keep), (8, .sh (.int .i64))], [], [], fun vals _ _ _ => match vals with | [.int .i64 last, .int .i64 j] => 0 ≤ j ∧ j ≤ n ∧ 0 ≤ last ∧ last ≤ 200 ∧ rightWS 0 ws = rightWS last (ws.drop j.toNat) | _ => False, fun vals _ => match vals with | [_, .int .i64 j] => (n - j).toNat | _ => 0⟩)] }) Try.func31 rfl Try.call31 rfl rfl) ((SV.v (Value.slice a n c) = SV.v (Value.slice a n c) ∧ SV.v (Value.slice a n c) = SV.v (Value.slice a n c) ∧ SV.v (Value.int IntKind.i64 (↑n : Int)) = SV.v (Value.int IntKind.i64 (↑n : Int)) ∧ (0 : Int) ≤ (0 : Int) ∧ (0 : Int) ≤ (↑n : Int) ∧ (0 : Int) ≤ (0 : Int) ∧ (0 : Int) ≤ (200 : Int) ∧ rightWS (0 : Int) ws = rightWS (0 : Int) ws) ∧ ∀ (I' G' : Mem), Mem.le I I' → ∀ (n_1 n_2 : Int), (0 : Int) ≤ n_2 ∧ n_2 ≤ (↑n : Int) ∧ (0 : Int) ≤ n_1 ∧ n_1 ≤ (200 : Int) ∧ rightWS (0 : Int) ws = rightWS n_1 (List.drop (Int.toNat n_2) ws) → Br (decide (n_2 < (↑n : Int))) ((0 : Int) ≤ n_2 ∧ n_2 < (↑n : Int) ∧ Option.isSome a = true ∧ (4 : Nat) = (4 : Nat) ∧ ∃ (n_3 : Int), atI I' a (Int.toNat n_2 * (4 : Nat) + (0 : Nat)) = some (Value.int IntKind.i64 n_3) ∧ ∃ (b : Bool), atI I' a (Int.toNat n_2 * (4 : Nat) + (1 : Nat)) = some (Value.bool b) ∧ ∃ (n_4 : Int), atI I' a (Int.toNat n_2 * (4 : Nat) + (2 : Nat)) = some (Value.int IntKind.i64 n_4) ∧ ∃ (n_5 : Int), atI I' a (Int.toNat n_2 * (4 : Nat) + (3 : Nat)) = some (Value.int IntKind.i64 n_5) ∧ Br (decide (n_3 ≤ n_1)) (Value.bool false = Value.bool (rightW ws)) (Br (decide ((200 : Int) < n_3)) (Value.bool false = Value.bool (rightW ws)) (Br (decide (n_4 < (0 : Int))) (Value.bool false = Value.bool (rightW ws)) (Br (decide (n_5 < n_4)) (Value.bool false = Value.bool (rightW ws)) (Br (decide ((16384 : Int) < n_5)) (Value.bool false = Value.bool (rightW ws)) (Wr IntKind.i64 (n_2 + (1 : Int)) fun (c_1 : Int) => SV.v (Value.slice a n c) = SV.v (Value.slice a n c) ∧ SV.v (Value.slice a n c) = SV.v (Value.slice a n c) ∧ SV.v (Value.int IntKind.i64 (↑n : Int)) = SV.v (Value.int IntKind.i64 (↑n : Int)) ∧ ((0 : Int) ≤ c_1 ∧ c_1 ≤ (↑n : Int) ∧ (0 : Int) ≤ n_3 ∧ n_3 ≤ (200 : Int) ∧ rightWS (0 : Int) ws = rightWS n_3 (List.drop (Int.toNat c_1) ws)) ∧ Int.toNat ((↑n : Int) - c_1) < Int.toNat ((↑n : Int) - n_2))))))) (Value.bool (decide ((↑n : Int) ≤ (64 : Int))) = Value.bool (rightW ws))) (by kernel_rfl) ?_
  simp only [eq_self, true_and, and_true]
  have hl := h.len
  refine ⟨by omega, fun I1 _ hI last j ⟨h0, h1, h2, h3, h6⟩ => Br.mk (fun hlt => ?_) (fun hge => ?_)⟩
  · have hlt := of_decide_eq_true hlt
    obtain ⟨w, hw, hok, e1, e2, e3, e4⟩ := (h.mono hI).at_ h0 hlt
    rw [drop_cons hw, rightWS] at h6
    have bad : (w.1 ≤ last ∨ 200 < w.1 ∨ w.2.2.1 < 0 ∨ w.2.2.2 < w.2.2.1 ∨ 16384 < w.2.2.2) → Value.bool false = Value.bool (rightW ws) := fun hc => by
      rw [if_pos hc] at h6
      rw [rightW, h6]; rfl
    refine ⟨h0, hlt, h.isSome (by omega), _, e1, _, e2, _, e3, _, e4, Br.mk (fun g1 => bad (.inl (of_decide_eq_true g1))) (fun g1 => Br.mk (fun g2 => bad (.inr (.inl (of_decide_eq_true g2)))) (fun g2 => Br.mk (fun g3 => bad (.inr (.inr (.inl (of_decide_eq_true g3))))) (fun g3 => Br.mk (fun g4 => bad (.inr (.inr (.inr (.inl (of_decide_eq_true g4)))))) (fun g4 => Br.mk (fun g5 => bad (.inr (.inr (.inr (.inr (of_decide_eq_true g5)))))) (fun g5 => ?_)))))⟩
    have g1 := of_decide_eq_false g1
    have g2 := of_decide_eq_false g2
    have g3 := of_decide_eq_false g3
    have g4 := of_decide_eq_false g4
    have g5 := of_decide_eq_false g5
    rw [if_neg (by omega)] at h6
    exact wr_i64 (by omega) (by omega) ⟨⟨by omega, by omega, by omega, by omega, by rw [h6, show (j + 1).toNat = j.toNat + 1 by omega]⟩, by omega⟩
  · have hge := of_decide_eq_false hge
    rw [List.drop_eq_nil_of_le (by omega)] at h6
    rw [rightW, h6, hl]; rfl
theorem ct33 (b : Nat) (t : Int) (y : Value) (w : Wnt) (I : Mem) (hb : I b = some (.cells #[.int .i64 t, y] 29)) :
    Ct Try.prog (.func (.func 33) #[] #[.pointer (some ⟨b, 0, none⟩)]) #[.agg #[.int .i64 w.1, .bool w.2.1, .int .i64 w.2.2.1, .int .i64 w.2.2.2]] I (fun v _ => v = .bool (w.1 == t)) := by
  refine viaR (ct_via (A := {}) Try.func33 rfl Try.call33 rfl rfl) (true = true ∧ ∃ (n : Int), atI I (some (Addr.mk b (0 : Nat) none)) (0 : Nat) = some (Value.int IntKind.i64 n) ∧ Value.bool (Prod.fst w == n) = Value.bool (Prod.fst w == t)) (by kernel_rfl) ?_
  exact ⟨rfl, t, by simp [atI, cellM, Addr.add, hb], rfl⟩
def idxW (p : Wnt → Bool) (ws : List Wnt) : Int := match ws.findIdx? p with | some i => (i : Int) | none => -1
theorem idxW_some {p : Wnt → Bool} {ws : List Wnt} {j : Int} {w : Wnt} (hw : ws[j.toNat]? = some w) (hp : p w = true) (h : ∀ (i : Nat) (x : Wnt), (i : Int) < j → ws[i]? = some x → p x = false) : idxW p ws = (j.toNat : Int) := by
  have : ws.findIdx? p = some j.toNat := by
    rw [List.findIdx?_eq_some_iff_getElem]
    obtain ⟨hl, hg⟩ := List.getElem?_eq_some_iff.1 hw
    exact ⟨hl, hg ▸ hp, fun i hi => by rw [h i _ (by omega) (List.getElem?_eq_getElem (by omega))]; simp⟩
  simp only [idxW, this]
theorem idxW_none {p : Wnt → Bool} {ws : List Wnt} (h : ∀ (i : Nat) (x : Wnt), ws[i]? = some x → p x = false) : idxW p ws = -1 := by
  have : ws.findIdx? p = none := by
    rw [List.findIdx?_eq_none_iff]
    intro x hx
    obtain ⟨i, hi, rfl⟩ := List.mem_iff_getElem.1 hx
    exact h i _ (List.getElem?_eq_getElem hi)
  simp only [idxW, this]
theorem ct32 (p : Wnt → Bool) (f : Value) (ws : List Wnt) (a : Option Addr) (n c : Nat) (I : Mem) (h : WntM I a n ws) (hn : n ≤ 1000000)
    (hf : ∀ (w : Wnt) (I' : Mem), I.le I' → Ct Try.prog f #[.agg #[.int .i64 w.1, .bool w.2.1, .int .i64 w.2.2.1, .int .i64 w.2.2.2]] I' fun v _ => v = .bool (p w)) :
    Ct Try.prog (fnv 32) #[.slice a n c, f] I (fun v _ => v = .int .i64 (idxW p ws)) := by
  refine viaR (ct_via (A := { loops := [(2, ⟨[(0, .keep), (1, .keep), (7, .keep), (8, .sh (.int .i64))], [], [], fun vals _ _ _ => match vals with | [.int .i64 j] => 0 ≤ j ∧ j ≤ n ∧ ∀ (i : Nat) (x : Wnt), (i : Int) < j → ws[i]? = some x → p x = false | _ => False, fun vals _ => match vals with | [.int .i64 j] => (n - j).toNat | _ => 0⟩)] }) Try.func32 rfl Try.call32 rfl rfl) ((SV.v (Value.slice a n c) = SV.v (Value.slice a n c) ∧ SV.v f = SV.v f ∧ SV.v (Value.int IntKind.i64 (↑n : Int)) = SV.v (Value.int IntKind.i64 (↑n : Int)) ∧ (0 : Int) ≤ (0 : Int) ∧ (0 : Int) ≤ (↑n : Int) ∧ ∀ (i : Nat) (x : Wnt), (↑i : Int) < (0 : Int) → ws[i]? = some x → p x = false) ∧ ∀ (I' G' : Mem), Mem.le I I' → ∀ (n_1 : Int), ((0 : Int) ≤ n_1 ∧ n_1 ≤ (↑n : Int) ∧ ∀ (i : Nat) (x : Wnt), (↑i : Int) < n_1 → ws[i]? = some x → p x = false) → Br (decide (n_1 < (↑n : Int))) ((0 : Int) ≤ n_1 ∧ n_1 < (↑n : Int) ∧ Option.isSome a = true ∧ (4 : Nat) = (4 : Nat) ∧ ∃ (n_2 : Int), atI I' a (Int.toNat n_1 * (4 : Nat) + (0 : Nat)) = some (Value.int IntKind.i64 n_2) ∧ ∃ (b : Bool), atI I' a (Int.toNat n_1 * (4 : Nat) + (1 : Nat)) = some (Value.bool b) ∧ ∃ (n_3 : Int), atI I' a (Int.toNat n_1 * (4 : Nat) + (2 : Nat)) = some (Value.int IntKind.i64 n_3) ∧ ∃ (n_4 : Int), atI I' a (Int.toNat n_1 * (4 : Nat) + (3 : Nat)) = some (Value.int IntKind.i64 n_4) ∧ Ct Try.prog f #[Value.agg #[Value.int IntKind.i64 n_2, Value.bool b, Value.int IntKind.i64 n_3, Value.int IntKind.i64 n_4]] I' fun (v : Value) (I' : Mem) => ∃ (b : Bool), v = Value.bool b ∧ Br b (Value.int IntKind.i64 n_1 = Value.int IntKind.i64 (idxW p ws)) (Wr IntKind.i64 (n_1 + (1 : Int)) fun (c_1 : Int) => SV.v (Value.slice a n c) = SV.v (Value.slice a n c) ∧ SV.v f = SV.v f ∧ SV.v (Value.int IntKind.i64 (↑n : Int)) = SV.v (Value.int IntKind.i64 (↑n : Int)) ∧ ((0 : Int) ≤ c_1 ∧ c_1 ≤ (↑n : Int) ∧ ∀ (i : Nat) (x : Wnt), (↑i : Int) < c_1 → ws[i]? = some x → p x = false) ∧ Int.toNat ((↑n : Int) - c_1) < Int.toNat ((↑n : Int) - n_1))) (Value.int IntKind.i64 (-1 : Int) = Value.int IntKind.i64 (idxW p ws))) (by kernel_rfl) ?_
  simp only [eq_self, true_and]
  have hl := h.len
  refine ⟨⟨by omega, by omega, fun i x hi => by omega⟩, fun I1 _ hI j ⟨h0, h1, h2⟩ => Br.mk (fun hlt => ?_) (fun hge => ?_)⟩
  · have hlt := of_decide_eq_true hlt
    obtain ⟨w, hw, hok, e1, e2, e3, e4⟩ := (h.mono hI).at_ h0 hlt
    refine ⟨h0, hlt, h.isSome (by omega), _, e1, _, e2, _, e3, _, e4, (hf w I1 hI).mono fun v I2 hle hv => ⟨_, hv, Br.mk (fun hp => ?_) (fun hp => wr_i64 (by omega) (by omega) ⟨⟨by omega, by omega, fun i y hi hy => ?_⟩, by omega⟩)⟩⟩
    · rw [idxW_some hw hp h2]
      congr 1; omega
    · by_cases hij : (i : Int) < j
      · exact h2 i y hij hy
      · have : i = j.toNat := by omega
        subst this
        rw [hw] at hy
        cases hy
        exact hp
  · have hge := of_decide_eq_false hge
    rw [idxW_none fun i x hx => h2 i x (by have := (List.getElem?_eq_some_iff.1 hx).1; omega) hx]
theorem weq (a b : Wnt) : (a.1 == b.1 && (a.2.1 == b.2.1 && (a.2.2.1 == b.2.2.1 && a.2.2.2 == b.2.2.2))) = decide (a = b) := by
  obtain ⟨a1, a2, a3, a4⟩ := a
  obtain ⟨b1, b2, b3, b4⟩ := b
  rw [Bool.eq_iff_iff]
  simp
theorem ct52 (w : Wnt) (ws : List Wnt) (a : Option Addr) (n c : Nat) (I : Mem) (h : WntM I a n ws) (hn : n ≤ 1000000) :
    Ct Try.prog (fnv 52) #[.slice a n c, .agg #[.int .i64 w.1, .bool w.2.1, .int .i64 w.2.2.1, .int .i64 w.2.2.2]] I (fun v _ => v = .int .i64 (idxW (fun x => decide (w = x)) ws)) := by
  refine viaR (ct_via (A := { loops := [(2, ⟨[(0, .keep), (3, .keep), (7, .keep), (8, .sh (.int .i64))], [(0, .keep)], [], fun vals _ _ _ => match vals with | [.int .i64 j] => 0 ≤ j ∧ j ≤ n ∧ ∀ (i : Nat) (x : Wnt), (i : Int) < j → ws[i]? = some x → decide (w = x) = false | _ => False, fun vals _ => match vals with | [.int .i64 j] => (n - j).toNat | _ => 0⟩)] }) Try.func52 rfl Try.call52 rfl rfl) ((Ent.mk (EO.cells [SV.v (Value.int IntKind.i64 (Prod.fst w)), SV.v (Value.bool (Prod.fst (Prod.snd w))), SV.v (Value.int IntKind.i64 (Prod.fst (Prod.snd (Prod.snd w)))), SV.v (Value.int IntKind.i64 (Prod.snd (Prod.snd (Prod.snd w))))] (31 : Nat)) none = Ent.mk (EO.cells [SV.v (Value.int IntKind.i64 (Prod.fst w)), SV.v (Value.bool (Prod.fst (Prod.snd w))), SV.v (Value.int IntKind.i64 (Prod.fst (Prod.snd (Prod.snd w)))), SV.v (Value.int IntKind.i64 (Prod.snd (Prod.snd (Prod.snd w))))] (31 : Nat)) none ∧ SV.v (Value.slice a n c) = SV.v (Value.slice a n c) ∧ SV.ptr (0 : Nat) (0 : Nat) = SV.ptr (0 : Nat) (0 : Nat) ∧ SV.v (Value.int IntKind.i64 (↑n : Int)) = SV.v (Value.int IntKind.i64 (↑n : Int)) ∧ (0 : Int) ≤ (0 : Int) ∧ (0 : Int) ≤ (↑n : Int) ∧ ∀ (i : Nat) (x : Wnt), (↑i : Int) < (0 : Int) → ws[i]? = some x → decide (w = x) = false) ∧ ∀ (I' G' : Mem), Mem.le I I' → ∀ (n_1 : Int), ((0 : Int) ≤ n_1 ∧ n_1 ≤ (↑n : Int) ∧ ∀ (i : Nat) (x : Wnt), (↑i : Int) < n_1 → ws[i]? = some x → decide (w = x) = false) → Br (decide (n_1 < (↑n : Int))) ((0 : Int) ≤ n_1 ∧ n_1 < (↑n : Int) ∧ Option.isSome a = true ∧ (4 : Nat) = (4 : Nat) ∧ ∃ (n_2 : Int), atI I' a (Int.toNat n_1 * (4 : Nat) + (0 : Nat)) = some (Value.int IntKind.i64 n_2) ∧ ∃ (b : Bool), atI I' a (Int.toNat n_1 * (4 : Nat) + (1 : Nat)) = some (Value.bool b) ∧ ∃ (n_3 : Int), atI I' a (Int.toNat n_1 * (4 : Nat) + (2 : Nat)) = some (Value.int IntKind.i64 n_3) ∧ ∃ (n_4 : Int), atI I' a (Int.toNat n_1 * (4 : Nat) + (3 : Nat)) = some (Value.int IntKind.i64 n_4) ∧ Br (Prod.fst w == n_2 && (Prod.fst (Prod.snd w) == b && (Prod.fst (Prod.snd (Prod.snd w)) == n_3 && (Prod.snd (Prod.snd (Prod.snd w)) == n_4 && true)))) (Value.int IntKind.i64 n_1 = Value.int IntKind.i64 (idxW (fun (x : Wnt) => decide (w = x)) ws)) (Wr IntKind.i64 (n_1 + (1 : Int)) fun (c_1 : Int) => Ent.mk (EO.cells [SV.v (Value.int IntKind.i64 (Prod.fst w)), SV.v (Value.bool (Prod.fst (Prod.snd w))), SV.v (Value.int IntKind.i64 (Prod.fst (Prod.snd (Prod.snd w)))), SV.v (Value.int IntKind.i64 (Prod.snd (Prod.snd (Prod.snd w))))] (31 : Nat)) none = Ent.mk (EO.cells [SV.v (Value.int IntKind.i64 (Prod.fst w)), SV.v (Value.bool (Prod.fst (Prod.snd w))), SV.v (Value.int IntKind.i64 (Prod.fst (Prod.snd (Prod.snd w)))), SV.v (Value.int IntKind.i64 (Prod.snd (Prod.snd (Prod.snd w))))] (31 : Nat)) none ∧ SV.v (Value.slice a n c) = SV.v (Value.slice a n c) ∧ SV.ptr (0 : Nat) (0 : Nat) = SV.ptr (0 : Nat) (0 : Nat) ∧ SV.v (Value.int IntKind.i64 (↑n : Int)) = SV.v (Value.int IntKind.i64 (↑n : Int)) ∧ ((0 : Int) ≤ c_1 ∧ c_1 ≤ (↑n : Int) ∧ ∀ (i : Nat) (x : Wnt), (↑i : Int) < c_1 → ws[i]? = some x → decide (w = x) = false) ∧ Int.toNat ((↑n : Int) - c_1) < Int.toNat ((↑n : Int) - n_1))) (Value.int IntKind.i64 (-1 : Int) = Value.int IntKind.i64 (idxW (fun (x : Wnt) => decide (w = x)) ws))) (by kernel_rfl) ?_
  simp only [eq_self, true_and, Bool.and_true]
  have hl := h.len
  refine ⟨⟨by omega, by omega, fun i x hi => by omega⟩, fun I1 _ hI j ⟨h0, h1, h2⟩ => Br.mk (fun hlt => ?_) (fun hge => ?_)⟩
  · have hlt := of_decide_eq_true hlt
    obtain ⟨y, hy, hok, e1, e2, e3, e4⟩ := (h.mono hI).at_ h0 hlt
    refine ⟨h0, hlt, h.isSome (by omega), _, e1, _, e2, _, e3, _, e4, ?_⟩
    rw [weq w y]
    refine Br.mk (fun hp => ?_) (fun hp => wr_i64 (by omega) (by omega) ⟨⟨by omega, by omega, fun i z hi hz => ?_⟩, by omega⟩)
    · rw [idxW_some hy hp h2]
      congr 1; omega
    · by_cases hij : (i : Int) < j
      · exact h2 i z hij hz
      · have : i = j.toNat := by omega
        subst this
        rw [hy] at hz
        cases hz
        exact hp
  · have hge := of_decide_eq_false hge
    rw [idxW_none fun i x hx => h2 i x (by have := (List.getElem?_eq_some_iff.1 hx).1; omega) hx]
theorem ct34 (w : Wnt) (ws : List Wnt) (a : Option Addr) (n c : Nat) (I : Mem) (h : WntM I a n ws) (hn : n ≤ 1000000) :
    Ct Try.prog (fnv 34) #[.slice a n c, .agg #[.int .i64 w.1, .bool w.2.1, .int .i64 w.2.2.1, .int .i64 w.2.2.2]] I (fun v _ => v = .bool (ws.contains w)) := by
  refine viaR (ct_via (A := {}) Try.func34 rfl Try.call34 rfl rfl) (Ct Try.prog (Value.func (Fn.func (52 : Nat)) #[] #[]) #[Value.slice a n c, Value.agg #[Value.int IntKind.i64 (Prod.fst w), Value.bool (Prod.fst (Prod.snd w)), Value.int IntKind.i64 (Prod.fst (Prod.snd (Prod.snd w))), Value.int IntKind.i64 (Prod.snd (Prod.snd (Prod.snd w)))]] I fun (v : Value) (I' : Mem) => ∃ (n : Int), v = Value.int IntKind.i64 n ∧ Value.bool (decide ((0 : Int) ≤ n)) = Value.bool (List.contains ws w)) (by kernel_rfl) ?_
  refine (ct52 w ws _ _ _ I h hn).mono fun v I1 _ hv => ⟨_, hv, ?_⟩
  congr 1
  cases hx : ws.findIdx? (fun x => decide (w = x)) with
  | none =>
    have : w ∉ ws := fun hm => by
      rw [List.findIdx?_eq_none_iff] at hx
      have := hx w hm
      simp at this
    have hc : ws.contains w = false := by simpa using this
    rw [hc]
    simp [idxW, hx]
  | some i =>
    have hm : w ∈ ws := by
      rw [List.findIdx?_eq_some_iff_getElem] at hx
      obtain ⟨hl, hg, _⟩ := hx
      have : w = ws[i] := by simpa using hg
      rw [this]
      exact List.getElem_mem hl
    have hc : ws.contains w = true := by simpa using hm
    rw [hc]
    simp [idxW, hx]
open Go Go.Proofs Go.SE Go.RowKit
theorem fstep_form (pre rest : List Int) (f : Int × List Int) (h : f.2.length ≤ 16384) :
    fstep (pre ++ (f.1 :: (formN f.2.length ++ (f.2 ++ rest)))) pre.length = some (f.2, pre.length + 1 + (formN f.2.length).length + f.2.length) := by
  have e : pre ++ (f.1 :: (formN f.2.length ++ (f.2 ++ rest))) = (pre ++ [f.1]) ++ (formN f.2.length ++ (f.2 ++ rest)) := by simp
  have hr := readN_form (pre ++ [f.1]) (f.2 ++ rest) f.2.length (by omega)
  have hp : ((pre ++ [f.1]).length : Int) = (pre.length : Int) + 1 := by simp
  rw [← e, hp] at hr
  have hi : intN (pre ++ (f.1 :: (formN f.2.length ++ (f.2 ++ rest)))) ((pre.length : Nat) + 1) 0 16384 = ((f.2.length : Int), ((formN f.2.length).length : Int), 0) := by
    unfold intN
    rw [hr, if_neg (by simp), if_neg (by simp only; omega)]
  have hl : (pre ++ (f.1 :: (formN f.2.length ++ (f.2 ++ rest)))).length = pre.length + 1 + (formN f.2.length).length + f.2.length + rest.length := by simp; omega
  unfold fstep
  rw [hi, if_neg (by simp only [hl]; omega)]
  simp only [Int.toNat_natCast]
  have hd : (pre ++ (f.1 :: (formN f.2.length ++ (f.2 ++ rest)))).drop ((pre.length : Int) + 1 + ((formN f.2.length).length : Int)).toNat = f.2 ++ rest := by
    have e2 : pre ++ (f.1 :: (formN f.2.length ++ (f.2 ++ rest))) = (pre ++ [f.1] ++ formN f.2.length) ++ (f.2 ++ rest) := by simp
    rw [e2, List.drop_left' (by simp; omega)]
  rw [hd, List.take_left' rfl]
  congr 2
theorem yields_form (pre : List Int) (f : Int × List Int) (r : List (Int × List Int)) (h : f.2.length ≤ 16384) :
    yields (pre ++ writeF (f :: r)) pre.length = (pre.length, f) :: yields ((pre ++ writeF [f]) ++ writeF r) (pre ++ writeF [f]).length := by
  have e : writeF (f :: r) = f.1 :: (formN f.2.length ++ (f.2 ++ writeF r)) := writeF_cons f r
  have e1 : writeF [f] = f.1 :: (formN f.2.length ++ f.2) := by rw [writeF_cons]; simp [writeF]
  have e2 : (pre ++ writeF [f]) ++ writeF r = pre ++ writeF (f :: r) := by rw [e, e1]; simp
  have hn : (pre ++ writeF [f]).length = pre.length + 1 + (formN f.2.length).length + f.2.length := by rw [e1]; simp; omega
  rw [e2, hn]
  rw [yields, dif_pos (by rw [e]; simp)]
  have hfs := fstep_form pre (writeF r) f h
  rw [← e] at hfs
  rw [hfs]
  simp only
  rw [dif_pos (by omega)]
  congr 2
  rw [List.getElem?_append_right (by omega), Nat.sub_self, e]; rfl
theorem goF_write : ∀ (r : List (Int × List Int)) (pre : List Int) (last left : Int) (out : List (Int × List Int)), left ≤ 16384 → rightStep last left r = true → out.length + r.length ≤ 64 →
    goF (yields (pre ++ writeF r) pre.length) last left out = (-1, out ++ r)
  | [], pre, last, left, out, _, _, _ => by
    rw [yields, dif_neg (by simp [writeF]), goF]; simp
  | f :: r, pre, last, left, out, hl, h, hn => by
    rw [rightStep] at h
    split at h
    · cases h
    · rename_i hc
      rw [yields_form pre f r (by omega), goF, if_neg (by simp only; simp at hn; omega)]
      simp only
      rw [goF_write r (pre ++ writeF [f]) f.1 (left - f.2.length) (out ++ [f]) (by omega) h (by simp at hn ⊢; omega)]
      simp
theorem write_len {l : List (Int × List Int)} (h : rightF l = true) : (writeF l).length ≤ 16384 + 640 := by
  obtain ⟨h1, h2⟩ := rightF_iff.1 h
  have h3 := right_len (by omega) h1 l.length
  rw [List.take_length] at h3
  omega
theorem write_len2 : ∀ {l : List (Int × List Int)} {last left : Int}, left ≤ 16384 → 0 ≤ left → rightStep last left l = true → ((writeF l).length : Int) ≤ left + 6 * l.length
  | [], last, left, _, h0, _ => by simp [writeF]; omega
  | g :: r, last, left, hl, h0, h => by
    rw [rightStep] at h
    split at h
    · cases h
    · rename_i hc
      have ih := write_len2 (by omega) (by omega) h
      have h3 : (formN g.2.length).length ≤ 3 := by
        rw [formN_len, sizeN]
        have : digN g.2.length ≤ 2 := digN_le (by omega)
        split <;> omega
      rw [writeF_cons]
      simp only [List.length_cons, List.length_append]
      omega
/-- What is written is read back. -/
theorem read_write {l : List (Int × List Int)} (h : rightF l = true) : readF (writeF l) = (l, 0, 0) := by
  obtain ⟨h1, h2⟩ := rightF_iff.1 h
  have h3 := write_len2 (by omega) (by omega) h1
  have hg := goF_write l [] 0 16384 [] (by omega) h1 (by simp; omega)
  simp only [List.nil_append, List.length_nil] at hg
  rw [readF, if_neg (by omega), hg]
  rfl
theorem write_bytes {l : List (Int × List Int)} (hr : rightF l = true) (hok : ∀ f ∈ l, okFld f) : byteL (writeF l) := fun z hz => by
  obtain ⟨h1, _⟩ := rightF_iff.1 hr
  simp only [writeF, List.mem_flatMap] at hz
  obtain ⟨f, hf, hz⟩ := hz
  have hra := right_at h1 f hf
  rcases List.mem_cons.1 hz with rfl | hz
  · omega
  · rcases List.mem_append.1 hz with hz | hz
    · exact formN_bytes (by omega) z hz
    · exact (hok f hf).2 z hz
theorem fstep_some {bs : List Int} (hbs : byteL bs) {at_ : Nat} {p : List Int × Nat} (h : fstep bs at_ = some p) :
    at_ < p.2 ∧ p.2 ≤ bs.length ∧ p.1.length ≤ 16384 ∧ bs.drop (at_ + 1) = formN p.1.length ++ (p.1 ++ bs.drop p.2) := by
  unfold fstep at h
  split at h
  · cases h
  · rename_i hc
    have he : (intN bs (at_ + 1) 0 16384).2.2 = 0 := by
      rcases Int.instDecidableEq (intN bs (at_ + 1) 0 16384).2.2 0 with hne | he
      · exact absurd (.inl hne) hc
      · exact he
    generalize hr : intN bs (at_ + 1) 0 16384 = r at h hc he
    obtain ⟨sz, k, e⟩ := r
    simp only at he hc h
    subst he
    obtain ⟨g1, g2, g3, g4, g5, g6⟩ := intN_ok hbs hr
    have hfl := formN_le sz.toNat (by omega)
    have hsz : ¬((bs.length : Int) - (at_ + 1 + k) < sz) := fun hx => hc (.inr hx)
    cases h
    simp only
    have hlen : ((bs.drop ((at_ : Int) + 1 + k).toNat).take sz.toNat).length = sz.toNat := by simp; omega
    refine ⟨by omega, by omega, by omega, ?_⟩
    rw [hlen]
    have e1 : ((at_ : Int) + 1).toNat = at_ + 1 := by omega
    rw [e1] at g5
    rw [g5]
    congr 1
    have e2 : ((at_ : Int) + 1 + k + sz).toNat = ((at_ : Int) + 1 + k).toNat + sz.toNat := by omega
    rw [e2, ← List.drop_drop, List.take_append_drop]
/-- What is read is written so. -/
theorem goF_back {bs : List Int} (hbs : byteL bs) : ∀ {at_ : Nat} {last left : Int} {out L : List (Int × List Int)}, 0 ≤ last → at_ ≤ bs.length → out.length ≤ 64 → goF (yields bs at_) last left out = (-1, L) →
    ∃ r, L = out ++ r ∧ rightStep last left r = true ∧ bs.drop at_ = writeF r ∧ L.length ≤ 64 := by
  intro at_
  induction hm : bs.length - at_ using Nat.strongRecOn generalizing at_ with
  | ind m ih =>
    intro last left out L h0 hat hout h
    rw [yields] at h
    split at h
    · rename_i hlt
      split at h
      · rw [goF, if_pos (.inl h0)] at h
        injection h with h1
        omega
      · rename_i p hp
        obtain ⟨g1, g2, g3, g4⟩ := fstep_some hbs hp
        rw [goF] at h
        split at h
        · injection h with h1
          simp only at h1
          omega
        · rename_i hc
          simp only at hc h
          have hb : (bs[at_]?).getD 0 = bs[at_] := by rw [List.getElem?_eq_getElem hlt]; rfl
          rw [hb] at hc h
          obtain ⟨r, r1, r2, r3, r4⟩ := ih (bs.length - p.2) (by omega) rfl (by omega) g2 (by simp; omega) h
          refine ⟨(bs[at_], p.1) :: r, by rw [r1]; simp, ?_, ?_, r4⟩
          · rw [rightStep, if_neg (by simp only; omega)]
            exact r2
          · rw [List.drop_eq_getElem_cons hlt, g4, writeF_cons, r3]
    · rw [goF] at h
      cases h
      refine ⟨[], by simp, rfl, ?_, hout⟩
      rw [List.drop_eq_nil_of_le (by omega)]; rfl
theorem goF_sign : ∀ {ys : List (Nat × (Int × List Int))} {last left : Int} {out : List (Int × List Int)}, (goF ys last left out).1 = -1 ∨ (0 ≤ (goF ys last left out).1 ∧ (goF ys last left out).2 = [])
  | [], _, _, _ => .inl rfl
  | y :: r, last, left, out => by
    rw [goF]
    split
    · exact .inr ⟨by simp, rfl⟩
    · exact goF_sign
theorem read_cases (bs : List Int) (hbs : byteL bs) : ((readF bs).2.2 = 0 ∧ (readF bs).2.1 = 0 ∧ rightF (readF bs).1 = true ∧ writeF (readF bs).1 = bs) ∨ ((readF bs).1 = [] ∧ ((readF bs).2.2 = 3 ∧ 16768 < bs.length ∨ (readF bs).2.2 = 21)) := by
  unfold readF
  split
  · exact .inr ⟨rfl, .inl ⟨rfl, by assumption⟩⟩
  · split
    · exact .inr ⟨rfl, .inr rfl⟩
    · rename_i h1 h2
      have hs := goF_sign (ys := yields bs 0) (last := 0) (left := 16384) (out := [])
      have hw : (goF (yields bs 0) 0 16384 []).1 = -1 := by omega
      obtain ⟨r, r1, r2, r3, r4⟩ := goF_back hbs (at_ := 0) (last := 0) (left := 16384) (out := []) (L := (goF (yields bs 0) 0 16384 []).2) (by omega) (by omega) (by simp) (by rw [← hw])
      rw [List.nil_append] at r1
      rw [List.drop_zero] at r3
      refine .inl ⟨rfl, rfl, rightF_iff.2 ⟨by rw [r1]; exact r2, r4⟩, by simp only [r1]; exact r3.symm⟩
theorem write_inj {k l : List (Int × List Int)} (hk : rightF k = true) (hl : rightF l = true) (h : writeF k = writeF l) : k = l := by
  have h1 := read_write hk
  rw [h, read_write hl] at h1
  injection h1 with h1
  exact h1.symm
theorem textAt_len (ts : List (List Int)) (i : Nat) : (textAt ts i).length ≤ 100 := by
  unfold textAt
  split
  · simp
  · simp; omega
theorem madeF_right (ts : List (List Int)) : ∀ (r : List Int) (i : Nat) (tag last left : Int), last ≤ tag → tag + 9 * r.length ≤ 200 → 100 * (r.length : Int) ≤ left → rightStep last left (madeF ts i tag r) = true
  | [], _, _, _, _, _, _, _ => rfl
  | g :: r, i, tag, last, left, h1, h2, h3 => by
    have := textAt_len ts i
    simp only [List.length_cons] at h2 h3
    rw [madeF, rightStep, if_neg (by simp only; omega)]
    exact madeF_right ts r (i + 1) (tag + (1 + g % 9)) (tag + (1 + g % 9)) (left - (textAt ts i).length) (by omega) (by omega) (by omega)
theorem madeF_len (ts : List (List Int)) : ∀ (r : List Int) (i : Nat) (tag : Int), (madeF ts i tag r).length = r.length
  | [], _, _ => rfl
  | g :: r, i, tag => by rw [madeF, List.length_cons, List.length_cons, madeF_len ts r]
theorem madeV_len (gs : List Int) (ts : List (List Int)) : (madeV gs ts).length ≤ 20 := by rw [madeV, madeF_len]; simp; omega
theorem madeV_right (gs : List Int) (ts : List (List Int)) : rightF (madeV gs ts) = true := by
  have h20 : (gs.take 20).length ≤ 20 := by simp; omega
  have := madeV_len gs ts
  exact rightF_iff.2 ⟨madeF_right ts _ 0 0 0 16384 (by omega) (by omega) (by omega), by omega⟩
theorem right_short {l : List (Int × List Int)} (h : rightF l = true) : ∀ f ∈ l, f.2.length ≤ 1000000 := fun f hf => by
  have := right_at (rightF_iff.1 h).1 f hf
  omega
open Go Go.Proofs Go.SE Go.RowKit
set_option linter.unusedVariables false
/-- What is left to be put out where a field is set. -/
def setR (f : Int × List Int) : Bool → List (Int × List Int) → List (Int × List Int)
  | false, [] => [f]
  | true, [] => []
  | false, x :: r => if f.1 ≤ x.1 then f :: (if x.1 ≠ f.1 then x :: setR f true r else setR f true r) else x :: setR f false r
  | true, x :: r => if x.1 ≠ f.1 then x :: setR f true r else setR f true r
def setF (l : List (Int × List Int)) (f : Int × List Int) : List (Int × List Int) × Int :=
  if rightF l && rightF (setR f false l) then (setR f false l, 0) else ([], 20)
theorem setR_len (f : Int × List Int) : ∀ (l : List (Int × List Int)) (d : Bool), (setR f d l).length ≤ l.length + 1
  | [], true => by simp [setR]
  | [], false => by simp [setR]
  | x :: r, true => by
    have := setR_len f r true
    rw [setR]
    split <;> simp <;> omega
  | x :: r, false => by
    have h1 := setR_len f r false
    have h2 : (setR f true r).length ≤ r.length := setR_len2 f r
    rw [setR]
    split
    · split <;> simp <;> omega
    · simp; omega
where setR_len2 (f : Int × List Int) : ∀ (l : List (Int × List Int)), (setR f true l).length ≤ l.length
  | [] => by simp [setR]
  | x :: r => by
    have := setR_len2 f r
    rw [setR]
    split <;> simp <;> omega
theorem FR.upd {I : Mem} {y : Value} : ∀ {j : Nat} {l : List (Int × List Int)} {xs : List Value} {f : Int × List Int}, FR I xs l → l[j]? = some f → BySl I y f.2 → FR I (splice xs (j * 2 + 1) [y]) l := by
  intro j
  induction j with
  | zero =>
    intro l xs f h hf hy
    rcases h.cases with ⟨rfl, rfl⟩ | ⟨x, y0, xs', f', l', rfl, rfl, h3, h4⟩
    · simp at hf
    · simp at hf
      subst hf
      exact ⟨⟨h3.1, h3.2.1, hy⟩, h4⟩
  | succ j ih =>
    intro l xs f h hf hy
    rcases h.cases with ⟨rfl, rfl⟩ | ⟨x, y0, xs', f', l', rfl, rfl, h3, h4⟩
    · simp at hf
    · have := ih h4 (by simpa using hf) hy
      rw [show (j + 1) * 2 + 1 = (j * 2 + 1) + 1 + 1 by omega]
      exact ⟨h3, this⟩
theorem splice_get1 {xs : List Value} {k i : Nat} {y : Value} : (splice xs k [y])[i]? = if i = k ∧ k < xs.length then some y else xs[i]? := by
  show (xs.set k y)[i]? = _
  rw [List.getElem?_set]
  split
  · rename_i h
    subst h
    split
    · rw [if_pos ⟨rfl, by assumption⟩]
    · rw [if_neg (by omega), List.getElem?_eq_none (by omega)]
  · rw [if_neg (by omega)]
theorem newR_of {I0 I : Mem} {xs : List Value} {L : List (Int × List Int)} (h : FR I xs L) (hn : ∀ (i : Nat) (v : Value), i < L.length → xs[i * 2 + 1]? = some v → NewB I0 I v) : NewR I0 I xs := fun v hv => by
  have hl := h.len
  obtain ⟨k, hk, hkv⟩ := List.mem_iff_getElem.1 hv
  have hkv := List.getElem?_eq_some_iff.2 ⟨hk, hkv⟩
  have hg : L[k / 2]? = some L[k / 2] := List.getElem?_eq_getElem (by omega)
  obtain ⟨_, g2, _⟩ := h.get hg
  rcases Nat.mod_two_eq_zero_or_one k with h0 | h1
  · rw [show k / 2 * 2 + 0 = k by omega, hkv] at g2
    rw [Option.some.inj g2]; exact newB_int
  · exact hn (k / 2) v (by omega) (by rw [show k / 2 * 2 + 1 = k by omega]; exact hkv)
theorem ct22N (l : List (Int × List Int)) (f : Int × List Int) (hok : okFld f) (hfl : f.2.length ≤ 1000000) (a b : Option Addr) (n c m d : Nat) (I : Mem) (h : FldM I a n l) (hn : n ≤ 1000000) (hs : SlM I b m 1 (ints .u8 f.2)) (hmd : m ≤ d) (hd : d ≤ maxLen) :
    Ct Try.prog (fnv 22) #[.slice a n c, .agg #[.int .i64 f.1, .slice b m d]] I (fun v I' => ∃ a' n' c', v = .tuple #[.slice a' n' c', .int .i64 (setF l f).2] ∧ FldM I' a' n' (setF l f).1 ∧ n' ≤ c' ∧ c' ≤ maxLen ∧ ∀ G, OvL (gained I I' G) a' n') := by
  refine viaR (ctF_via (A := { calls := [(50, .ro)], cuts := [(16, ⟨[(6, .row 1)], [(1, .row)], [], fun _ xss I' _ => match xss with | [xs] => rightF l = true ∧ FR I' xs (setR f false l) | _ => False, fun _ _ => 0⟩)], loops := [
    (6, ⟨[(3, .keep), (6, .row 1), (7, .sh .bool), (14, .keep), (15, .keep), (16, .sh (.int .i64))], [(0, .keep), (1, .row)], [(6, 2, 29)], fun vals xss I' _ => match vals, xss with | [.bool done, .int .i64 j], [xs] => 0 ≤ j ∧ j ≤ n ∧ rightF l = true ∧ ∃ L, FR I' xs L ∧ setR f false l = L ++ setR f done (l.drop j.toNat) | _, _ => False, fun vals _ => match vals with | [_, .int .i64 j] => (n - j).toNat | _ => 0⟩),
    (19, ⟨[(6, .row 1), (53, .keep), (54, .sh (.int .i64))], [(1, .row)], [], fun vals xss I' _ => match vals, xss with | [.int .i64 j], [xs] => 0 ≤ j ∧ j ≤ 65 ∧ FR I' xs (setR f false l) ∧ ∀ (i : Nat) (v : Value), (i : Int) < j → xs[i * 2 + 1]? = some v → NewB I I' v | _, _ => False, fun vals _ => match vals with | [.int .i64 j] => (65 - j).toNat | _ => 0⟩)] }) Try.func22 rfl Try.call22 rfl rfl) (Ct Try.prog (Value.func (Fn.func (19 : Nat)) #[] #[]) #[Value.slice a n c] I fun (v : Value) (I' : Mem) => ∃ (b_1 : Bool), v = Value.bool b_1 ∧ Br (!b_1) (∃ (a' : Option Addr), ∃ (n' : Nat), ∃ (c' : Nat), Value.tuple #[Value.slice none (0 : Nat) (0 : Nat), Value.int IntKind.i64 (20 : Int)] = Value.tuple #[Value.slice a' n' c', Value.int IntKind.i64 (Prod.snd (setF l f))] ∧ FldM I' a' n' (Prod.fst (setF l f)) ∧ n' ≤ c' ∧ c' ≤ (9223372036854775807 : Nat) ∧ ∀ (G : Mem), OvL (gained I I' G) a' n') ((Ent.mk (EO.cells [SV.v (Value.int IntKind.i64 (Prod.fst f)), SV.v (Value.slice b m d)] (29 : Nat)) none = Ent.mk (EO.cells [SV.v (Value.int IntKind.i64 (Prod.fst f)), SV.v (Value.slice b m d)] (29 : Nat)) none ∧ SV.ptr (0 : Nat) (0 : Nat) = SV.ptr (0 : Nat) (0 : Nat) ∧ (0 : Nat) = (0 : Nat) ∧ SV.v (Value.slice a n c) = SV.v (Value.slice a n c) ∧ SV.v (Value.int IntKind.i64 (↑n : Int)) = SV.v (Value.int IntKind.i64 (↑n : Int)) ∧ (0 : Int) ≤ (0 : Int) ∧ (0 : Int) ≤ (↑n : Int) ∧ rightF l = true ∧ ∃ (L : List (Int × List Int)), FR I' [] L ∧ setR f false l = L ++ setR f false l) ∧ ∀ (I'_1 G' : Mem), Mem.le I' I'_1 → ∀ (xs : List Value) (b_2 : Bool) (n_1 : Int), ((0 : Int) ≤ n_1 ∧ n_1 ≤ (↑n : Int) ∧ rightF l = true ∧ ∃ (L : List (Int × List Int)), FR I'_1 xs L ∧ setR f false l = L ++ setR f b_2 (List.drop (Int.toNat n_1) l)) → Br (decide (n_1 < (↑n : Int))) ((0 : Int) ≤ n_1 ∧ n_1 < (↑n : Int) ∧ Option.isSome a = true ∧ (2 : Nat) = (2 : Nat) ∧ ∃ (n_2 : Int), atI I'_1 a (Int.toNat n_1 * (2 : Nat) + (0 : Nat)) = some (Value.int IntKind.i64 n_2) ∧ ∃ (a_3 : Option Addr), ∃ (n_3 : Nat), ∃ (c_1 : Nat), atI I'_1 a (Int.toNat n_1 * (2 : Nat) + (1 : Nat)) = some (Value.slice a_3 n_3 c_1) ∧ Br (!b_2) (Br (decide (Prod.fst f ≤ n_2)) (List.length xs = List.length xs / (2 : Nat) * (2 : Nat) ∧ List.length xs / (2 : Nat) + (1 : Nat) ≤ (9223372036854775807 : Nat) ∧ (List.length xs / (2 : Nat) + (1 : Nat)) * (32 : Nat) ≤ (140737488355328 : Nat) ∧ Br (n_2 != Prod.fst f) (List.length (xs ++ [Value.int IntKind.i64 (Prod.fst f), Value.slice b m d]) = (List.length xs / (2 : Nat) + (1 : Nat)) * (2 : Nat) ∧ List.length xs / (2 : Nat) + (1 : Nat) + (1 : Nat) ≤ (9223372036854775807 : Nat) ∧ (List.length xs / (2 : Nat) + (1 : Nat) + (1 : Nat)) * (32 : Nat) ≤ (140737488355328 : Nat) ∧ Wr IntKind.i64 (n_1 + (1 : Int)) fun (c_2 : Int) => Ent.mk (EO.cells [SV.v (Value.int IntKind.i64 (Prod.fst f)), SV.v (Value.slice b m d)] (29 : Nat)) none = Ent.mk (EO.cells [SV.v (Value.int IntKind.i64 (Prod.fst f)), SV.v (Value.slice b m d)] (29 : Nat)) none ∧ SV.ptr (0 : Nat) (0 : Nat) = SV.ptr (0 : Nat) (0 : Nat) ∧ List.length xs / (2 : Nat) + (1 : Nat) + (1 : Nat) = List.length (xs ++ [Value.int IntKind.i64 (Prod.fst f), Value.slice b m d] ++ [Value.int IntKind.i64 n_2, Value.slice a_3 n_3 c_1]) / (2 : Nat) ∧ SV.v (Value.slice a n c) = SV.v (Value.slice a n c) ∧ SV.v (Value.int IntKind.i64 (↑n : Int)) = SV.v (Value.int IntKind.i64 (↑n : Int)) ∧ ((0 : Int) ≤ c_2 ∧ c_2 ≤ (↑n : Int) ∧ rightF l = true ∧ ∃ (L : List (Int × List Int)), FR I'_1 (xs ++ [Value.int IntKind.i64 (Prod.fst f), Value.slice b m d] ++ [Value.int IntKind.i64 n_2, Value.slice a_3 n_3 c_1]) L ∧ setR f false l = L ++ setR f true (List.drop (Int.toNat c_2) l)) ∧ Int.toNat ((↑n : Int) - c_2) < Int.toNat ((↑n : Int) - n_1)) (Wr IntKind.i64 (n_1 + (1 : Int)) fun (c_2 : Int) => Ent.mk (EO.cells [SV.v (Value.int IntKind.i64 (Prod.fst f)), SV.v (Value.slice b m d)] (29 : Nat)) none = Ent.mk (EO.cells [SV.v (Value.int IntKind.i64 (Prod.fst f)), SV.v (Value.slice b m d)] (29 : Nat)) none ∧ SV.ptr (0 : Nat) (0 : Nat) = SV.ptr (0 : Nat) (0 : Nat) ∧ List.length xs / (2 : Nat) + (1 : Nat) = List.length (xs ++ [Value.int IntKind.i64 (Prod.fst f), Value.slice b m d]) / (2 : Nat) ∧ SV.v (Value.slice a n c) = SV.v (Value.slice a n c) ∧ SV.v (Value.int IntKind.i64 (↑n : Int)) = SV.v (Value.int IntKind.i64 (↑n : Int)) ∧ ((0 : Int) ≤ c_2 ∧ c_2 ≤ (↑n : Int) ∧ rightF l = true ∧ ∃ (L : List (Int × List Int)), FR I'_1 (xs ++ [Value.int IntKind.i64 (Prod.fst f), Value.slice b m d]) L ∧ setR f false l = L ++ setR f true (List.drop (Int.toNat c_2) l)) ∧ Int.toNat ((↑n : Int) - c_2) < Int.toNat ((↑n : Int) - n_1))) (Br (n_2 != Prod.fst f) (List.length xs = List.length xs / (2 : Nat) * (2 : Nat) ∧ List.length xs / (2 : Nat) + (1 : Nat) ≤ (9223372036854775807 : Nat) ∧ (List.length xs / (2 : Nat) + (1 : Nat)) * (32 : Nat) ≤ (140737488355328 : Nat) ∧ Wr IntKind.i64 (n_1 + (1 : Int)) fun (c_2 : Int) => Ent.mk (EO.cells [SV.v (Value.int IntKind.i64 (Prod.fst f)), SV.v (Value.slice b m d)] (29 : Nat)) none = Ent.mk (EO.cells [SV.v (Value.int IntKind.i64 (Prod.fst f)), SV.v (Value.slice b m d)] (29 : Nat)) none ∧ SV.ptr (0 : Nat) (0 : Nat) = SV.ptr (0 : Nat) (0 : Nat) ∧ List.length xs / (2 : Nat) + (1 : Nat) = List.length (xs ++ [Value.int IntKind.i64 n_2, Value.slice a_3 n_3 c_1]) / (2 : Nat) ∧ SV.v (Value.slice a n c) = SV.v (Value.slice a n c) ∧ SV.v (Value.int IntKind.i64 (↑n : Int)) = SV.v (Value.int IntKind.i64 (↑n : Int)) ∧ ((0 : Int) ≤ c_2 ∧ c_2 ≤ (↑n : Int) ∧ rightF l = true ∧ ∃ (L : List (Int × List Int)), FR I'_1 (xs ++ [Value.int IntKind.i64 n_2, Value.slice a_3 n_3 c_1]) L ∧ setR f false l = L ++ setR f b_2 (List.drop (Int.toNat c_2) l)) ∧ Int.toNat ((↑n : Int) - c_2) < Int.toNat ((↑n : Int) - n_1)) (Wr IntKind.i64 (n_1 + (1 : Int)) fun (c_2 : Int) => Ent.mk (EO.cells [SV.v (Value.int IntKind.i64 (Prod.fst f)), SV.v (Value.slice b m d)] (29 : Nat)) none = Ent.mk (EO.cells [SV.v (Value.int IntKind.i64 (Prod.fst f)), SV.v (Value.slice b m d)] (29 : Nat)) none ∧ SV.ptr (0 : Nat) (0 : Nat) = SV.ptr (0 : Nat) (0 : Nat) ∧ List.length xs / (2 : Nat) = List.length xs / (2 : Nat) ∧ SV.v (Value.slice a n c) = SV.v (Value.slice a n c) ∧ SV.v (Value.int IntKind.i64 (↑n : Int)) = SV.v (Value.int IntKind.i64 (↑n : Int)) ∧ ((0 : Int) ≤ c_2 ∧ c_2 ≤ (↑n : Int) ∧ rightF l = true ∧ ∃ (L : List (Int × List Int)), FR I'_1 xs L ∧ setR f false l = L ++ setR f b_2 (List.drop (Int.toNat c_2) l)) ∧ Int.toNat ((↑n : Int) - c_2) < Int.toNat ((↑n : Int) - n_1)))) (Br (n_2 != Prod.fst f) (List.length xs = List.length xs / (2 : Nat) * (2 : Nat) ∧ List.length xs / (2 : Nat) + (1 : Nat) ≤ (9223372036854775807 : Nat) ∧ (List.length xs / (2 : Nat) + (1 : Nat)) * (32 : Nat) ≤ (140737488355328 : Nat) ∧ Wr IntKind.i64 (n_1 + (1 : Int)) fun (c_2 : Int) => Ent.mk (EO.cells [SV.v (Value.int IntKind.i64 (Prod.fst f)), SV.v (Value.slice b m d)] (29 : Nat)) none = Ent.mk (EO.cells [SV.v (Value.int IntKind.i64 (Prod.fst f)), SV.v (Value.slice b m d)] (29 : Nat)) none ∧ SV.ptr (0 : Nat) (0 : Nat) = SV.ptr (0 : Nat) (0 : Nat) ∧ List.length xs / (2 : Nat) + (1 : Nat) = List.length (xs ++ [Value.int IntKind.i64 n_2, Value.slice a_3 n_3 c_1]) / (2 : Nat) ∧ SV.v (Value.slice a n c) = SV.v (Value.slice a n c) ∧ SV.v (Value.int IntKind.i64 (↑n : Int)) = SV.v (Value.int IntKind.i64 (↑n : Int)) ∧ ((0 : Int) ≤ c_2 ∧ c_2 ≤ (↑n : Int) ∧ rightF l = true ∧ ∃ (L : List (Int × List Int)), FR I'_1 (xs ++ [Value.int IntKind.i64 n_2, Value.slice a_3 n_3 c_1]) L ∧ setR f false l = L ++ setR f b_2 (List.drop (Int.toNat c_2) l)) ∧ Int.toNat ((↑n : Int) - c_2) < Int.toNat ((↑n : Int) - n_1)) (Wr IntKind.i64 (n_1 + (1 : Int)) fun (c_2 : Int) => Ent.mk (EO.cells [SV.v (Value.int IntKind.i64 (Prod.fst f)), SV.v (Value.slice b m d)] (29 : Nat)) none = Ent.mk (EO.cells [SV.v (Value.int IntKind.i64 (Prod.fst f)), SV.v (Value.slice b m d)] (29 : Nat)) none ∧ SV.ptr (0 : Nat) (0 : Nat) = SV.ptr (0 : Nat) (0 : Nat) ∧ List.length xs / (2 : Nat) = List.length xs / (2 : Nat) ∧ SV.v (Value.slice a n c) = SV.v (Value.slice a n c) ∧ SV.v (Value.int IntKind.i64 (↑n : Int)) = SV.v (Value.int IntKind.i64 (↑n : Int)) ∧ ((0 : Int) ≤ c_2 ∧ c_2 ≤ (↑n : Int) ∧ rightF l = true ∧ ∃ (L : List (Int × List Int)), FR I'_1 xs L ∧ setR f false l = L ++ setR f b_2 (List.drop (Int.toNat c_2) l)) ∧ Int.toNat ((↑n : Int) - c_2) < Int.toNat ((↑n : Int) - n_1)))) (Br (!b_2) (List.length xs = List.length xs / (2 : Nat) * (2 : Nat) ∧ List.length xs / (2 : Nat) + (1 : Nat) ≤ (9223372036854775807 : Nat) ∧ (List.length xs / (2 : Nat) + (1 : Nat)) * (32 : Nat) ≤ (140737488355328 : Nat) ∧ List.length xs / (2 : Nat) + (1 : Nat) = List.length (xs ++ [Value.int IntKind.i64 (Prod.fst f), Value.slice b m d]) / (2 : Nat) ∧ rightF l = true ∧ FR I'_1 (xs ++ [Value.int IntKind.i64 (Prod.fst f), Value.slice b m d]) (setR f false l)) (List.length xs / (2 : Nat) = List.length xs / (2 : Nat) ∧ rightF l = true ∧ FR I'_1 xs (setR f false l)) ∧ ∀ (I' G' : Mem), Mem.le I'_1 I' → ∀ (xs : List Value), rightF l = true ∧ FR I' xs (setR f false l) → ∀ (a : Option Addr) (cp : Nat) (I'_2 : Mem), Mem.le I' I'_2 → RowM I'_2 a cp (2 : Nat) xs → Ct Try.prog (Value.func (Fn.func (19 : Nat)) #[] #[]) #[Value.slice a (List.length xs / (2 : Nat)) cp] I'_2 fun (v : Value) (x : Mem) => ∃ (b : Bool), v = Value.bool b ∧ Br (!b) (∃ (a' : Option Addr), ∃ (n' : Nat), ∃ (c' : Nat), Value.tuple #[Value.slice none (0 : Nat) (0 : Nat), Value.int IntKind.i64 (20 : Int)] = Value.tuple #[Value.slice a' n' c', Value.int IntKind.i64 (Prod.snd (setF l f))] ∧ FldM I' a' n' (Prod.fst (setF l f)) ∧ n' ≤ c' ∧ c' ≤ (9223372036854775807 : Nat) ∧ ∀ (G : Mem), OvL (gained I I' G) a' n') ((List.length xs / (2 : Nat) = List.length xs / (2 : Nat) ∧ SV.v (Value.int IntKind.i64 (↑(List.length xs / (2 : Nat)) : Int)) = SV.v (Value.int IntKind.i64 (↑(List.length xs / (2 : Nat)) : Int)) ∧ (0 : Int) ≤ (0 : Int) ∧ (0 : Int) ≤ (65 : Int) ∧ FR I' xs (setR f false l) ∧ ∀ (i : Nat) (v : Value), (↑i : Int) < (0 : Int) → xs[i * (2 : Nat) + (1 : Nat)]? = some v → NewB I I' v) ∧ ∀ (I'_3 G' : Mem), Mem.le I' I'_3 → ∀ (xs_1 : List Value) (n : Int), ((0 : Int) ≤ n ∧ n ≤ (65 : Int) ∧ FR I'_3 xs_1 (setR f false l) ∧ ∀ (i : Nat) (v : Value), (↑i : Int) < n → xs_1[i * (2 : Nat) + (1 : Nat)]? = some v → NewB I I'_3 v) → Br (decide (n < (↑(List.length xs / (2 : Nat)) : Int))) ((0 : Int) ≤ n ∧ n < (↑(List.length xs_1 / (2 : Nat)) : Int) ∧ List.length xs_1 / (2 : Nat) * (2 : Nat) ≤ List.length xs_1 ∧ ∃ (a : Option Addr), ∃ (n_2 : Nat), ∃ (c : Nat), xs_1[Int.toNat n * (2 : Nat) + (1 : Nat) + (0 : Nat)]? = some (Value.slice a n_2 c) ∧ Ct Try.prog (Value.func (Fn.func (42 : Nat)) #[] #[]) #[Value.slice a n_2 c] I'_3 fun (v : Value) (I' : Mem) => ∃ (a : Option Addr), ∃ (n_3 : Nat), ∃ (c : Nat), v = Value.slice a n_3 c ∧ (0 : Int) ≤ n ∧ n < (↑(List.length xs_1 / (2 : Nat)) : Int) ∧ List.length xs_1 / (2 : Nat) * (2 : Nat) ≤ List.length xs_1 ∧ Int.toNat n * (2 : Nat) + (1 : Nat) + (1 : Nat) ≤ List.length xs_1 ∧ (0 : Nat) < (1 : Nat) ∧ Wr IntKind.i64 (n + (1 : Int)) fun (c_1 : Int) => List.length xs_1 / (2 : Nat) = List.length (splice xs_1 (Int.toNat n * (2 : Nat) + (1 : Nat)) [Value.slice a n_3 c]) / (2 : Nat) ∧ SV.v (Value.int IntKind.i64 (↑(List.length xs / (2 : Nat)) : Int)) = SV.v (Value.int IntKind.i64 (↑(List.length xs / (2 : Nat)) : Int)) ∧ ((0 : Int) ≤ c_1 ∧ c_1 ≤ (65 : Int) ∧ FR I' (splice xs_1 (Int.toNat n * (2 : Nat) + (1 : Nat)) [Value.slice a n_3 c]) (setR f false l) ∧ ∀ (i : Nat) (v : Value), (↑i : Int) < c_1 → (splice xs_1 (Int.toNat n * (2 : Nat) + (1 : Nat)) [Value.slice a n_3 c])[i * (2 : Nat) + (1 : Nat)]? = some v → NewB I I' v) ∧ Int.toNat ((65 : Int) - c_1) < Int.toNat ((65 : Int) - n)) (∀ (a : Option Addr) (cp : Nat) (I' : Mem), Mem.le I'_3 I' → RowF I'_3 I' a cp (2 : Nat) xs_1 → ∃ (a' : Option Addr), ∃ (n' : Nat), ∃ (c' : Nat), Value.tuple #[Value.slice a (List.length xs_1 / (2 : Nat)) cp, Value.int IntKind.i64 (0 : Int)] = Value.tuple #[Value.slice a' n' c', Value.int IntKind.i64 (Prod.snd (setF l f))] ∧ FldM I' a' n' (Prod.fst (setF l f)) ∧ n' ≤ c' ∧ c' ≤ (9223372036854775807 : Nat) ∧ ∀ (G : Mem), OvL (gained I I' G) a' n'))))) (by kernel_rfl) ?_
  simp only [eq_self, true_and]
  have hl := h.len
  refine (ct19 l a n c I h hn).mono fun v I0 l0 hv => ⟨_, hv, Br.mk (fun hr => ?_) (fun hr => ?_)⟩
  · have hr : rightF l = false := by simpa using hr
    have : setF l f = ([], 20) := by rw [setF, hr]; rfl
    rw [this]
    exact ⟨none, 0, 0, rfl, fldM_nil _, by omega, by omega, fun G => ovl_nil _ _⟩
  have hr : rightF l = true := by simpa using hr
  obtain ⟨hs1, hl64⟩ := rightF_iff.1 hr
  have hsl := setR_len f l false
  refine ⟨⟨by omega, by omega, hr, [], trivial, rfl⟩, fun I1 _ l1 xs done j ⟨h0, h1, _, L, h4, h5⟩ => Br.mk (fun hlt => ?_) (fun hge => ?_)⟩
  · have hlt := of_decide_eq_true hlt
    obtain ⟨g, b', m', c', hg, hgok, e1, e2, hgs, hm1, hm2⟩ := (h.mono (Mem.le_trans l0 l1)).at_ h0 hlt
    have hxl := h4.len
    have hLl : L.length ≤ 65 := by
      have := congrArg List.length h5
      rw [List.length_append] at this
      omega
    rw [drop_cons hg] at h5
    have hj1 : (j + 1).toNat = j.toNat + 1 := by omega
    have hsI : BySl I1 (.slice b m d) f.2 := ⟨b, m, d, rfl, hs.mono (Mem.le_trans l0 l1), hmd, hd⟩
    have hgI : BySl I1 (.slice b' m' c') g.2 := ⟨b', m', c', rfl, hgs, hm1, hm2⟩
    have tl : ∀ (done' : Bool), setR f false l = (L ++ [g]) ++ setR f done' (l.drop (j.toNat + 1)) → xs.length = xs.length / 2 * 2 ∧ xs.length / 2 + 1 ≤ 9223372036854775807 ∧ (xs.length / 2 + 1) * 32 ≤ 140737488355328 ∧ Wr IntKind.i64 (j + 1) fun c_1 => xs.length / 2 + 1 = (xs ++ [Value.int IntKind.i64 g.1, Value.slice b' m' c']).length / 2 ∧
        (0 ≤ c_1 ∧ c_1 ≤ (n : Int) ∧ rightF l = true ∧ ∃ L, FR I1 (xs ++ [Value.int IntKind.i64 g.1, Value.slice b' m' c']) L ∧ setR f false l = L ++ setR f done' (List.drop c_1.toNat l)) ∧ ((n : Int) - c_1).toNat < ((n : Int) - j).toNat := fun done' he =>
      ⟨by omega, by omega, by omega, wr_i64 (by omega) (by omega) ⟨by simp, ⟨by omega, by omega, hr, _, FR.snoc h4 ⟨hgok, rfl, hgI⟩, by rw [hj1]; exact he⟩, by omega⟩⟩
    have tl2 : ∀ (done' : Bool), setR f false l = L ++ setR f done' (l.drop (j.toNat + 1)) → Wr IntKind.i64 (j + 1) fun c => (0 ≤ c ∧ c ≤ (n : Int) ∧ rightF l = true ∧ ∃ L, FR I1 xs L ∧ setR f false l = L ++ setR f done' (List.drop c.toNat l)) ∧ ((n : Int) - c).toNat < ((n : Int) - j).toNat := fun done' he =>
      wr_i64 (by omega) (by omega) ⟨⟨by omega, by omega, hr, L, h4, by rw [hj1]; exact he⟩, by omega⟩
    refine ⟨h0, hlt, h.isSome (by omega), g.1, e1, b', m', c', e2, Br.mk (fun hd0 => ?_) (fun hd1 => ?_)⟩
    · have hd0 : done = false := by simpa using hd0
      subst hd0
      rw [setR] at h5
      refine Br.mk (fun hfg => ?_) (fun hfg => ?_)
      · have hfg := of_decide_eq_true hfg
        rw [if_pos hfg] at h5
        have h4' := FR.snoc h4 ⟨hok, rfl, hsI⟩
        refine ⟨by omega, by omega, by omega, Br.mk (fun hne => ?_) (fun hne => ?_)⟩
        · have hne : g.1 ≠ f.1 := by simpa using hne
          rw [if_pos hne] at h5
          refine ⟨by simp; omega, by omega, by omega, wr_i64 (by omega) (by omega) ⟨by simp; omega, ⟨by omega, by omega, hr, _, FR.snoc h4' ⟨hgok, rfl, hgI⟩, ?_⟩, by omega⟩⟩
          rw [hj1, h5]; simp
        · have hne : g.1 = f.1 := by simpa using hne
          rw [if_neg (by simpa using hne)] at h5
          refine wr_i64 (by omega) (by omega) ⟨by simp, ⟨by omega, by omega, hr, _, h4', ?_⟩, by omega⟩
          rw [hj1, h5]; simp
      · have hfg := of_decide_eq_false hfg
        rw [if_neg hfg] at h5
        refine Br.t (by simp; omega) (tl _ (by rw [h5]; simp))
    · have hd1 : done = true := by simpa using hd1
      subst hd1
      rw [setR] at h5
      refine Br.mk (fun hne => ?_) (fun hne => ?_)
      · have hne : g.1 ≠ f.1 := by simpa using hne
        rw [if_pos hne] at h5
        exact tl _ (by rw [h5]; simp)
      · have hne : g.1 = f.1 := by simpa using hne
        rw [if_neg (by simpa using hne)] at h5
        exact tl2 _ h5
  · have hge := of_decide_eq_false hge
    rw [List.drop_eq_nil_of_le (by omega)] at h5
    have hxl := h4.len
    have hLl : L.length ≤ 65 := by
      have := congrArg List.length h5
      rw [List.length_append] at this
      omega
    have hsI : BySl I1 (.slice b m d) f.2 := ⟨b, m, d, rfl, hs.mono (Mem.le_trans l0 l1), hmd, hd⟩
    refine ⟨Br.mk (fun hd0 => ?_) (fun hd1 => ?_), fun I2 _ l2 ys ⟨_, hF⟩ a1 cp I3 l3 hrow => ?_⟩
    · have hd0 : done = false := by simpa using hd0
      subst hd0
      rw [setR] at h5
      refine ⟨by omega, by omega, by omega, by simp, hr, ?_⟩
      rw [h5]
      exact FR.snoc h4 ⟨hok, rfl, hsI⟩
    · have hd1 : done = true := by simpa using hd1
      subst hd1
      rw [setR, List.append_nil] at h5
      exact ⟨hr, by rw [h5]; exact h4⟩
    · have hyl := hF.len
      have hfm := fldM_row hrow (hF.mono l3)
      have e : ys.length / 2 = (setR f false l).length := by omega
      rw [e]
      refine (ct19 (setR f false l) a1 _ cp I3 hfm (by omega)).mono fun v I4 l4 hv => ⟨_, hv, Br.mk (fun hr2 => ?_) (fun hr2 => ?_)⟩
      · have hr2 : rightF (setR f false l) = false := by simpa using hr2
        have : setF l f = ([], 20) := by rw [setF, hr2]; simp
        rw [this]
        exact ⟨none, 0, 0, rfl, fldM_nil _, by omega, by omega, fun G => ovl_nil _ _⟩
      · have hr2 : rightF (setR f false l) = true := by simpa using hr2
        have hset : setF l f = (setR f false l, 0) := by rw [setF, hr, hr2]; rfl
        rw [hset]
        refine ⟨⟨by omega, by omega, hF, fun i v hi => by omega⟩, fun I5 _ l5 zs i ⟨i0, i1, hZ, hN⟩ => Br.mk (fun hlt => ?_) (fun hge => ?_)⟩
        · have hlt := of_decide_eq_true hlt
          have hzl := hZ.len
          have hg : (setR f false l)[i.toNat]? = some (setR f false l)[i.toNat] := List.getElem?_eq_getElem (by omega)
          generalize (setR f false l)[i.toNat] = g at hg
          obtain ⟨hgok, _, y, hy, b2, m2, c2, rfl, hgs, q1, q2⟩ := hZ.get hg
          have hg2 : g.2.length ≤ 16384 := by
            have := right_at (rightF_iff.1 hr2).1 g (List.mem_of_getElem? hg)
            omega
          have hm2 := hgs.numLen
          refine ⟨i0, by omega, by omega, b2, m2, c2, by rw [Nat.add_zero]; exact hy, (ct42N g.2 _ _ _ I5 hgs (by omega)).mono fun v I6 l6 ⟨hv, hnb⟩ => ?_⟩
          have hv2 := hv
          obtain ⟨b3, m3, c3, rfl, _⟩ := hv
          have hu := (hZ.mono l6).upd hg hv2
          have hul := hu.len
          have l15 : I.le I5 := Mem.le_trans l0 (Mem.le_trans l1 (Mem.le_trans l2 l5))
          exact ⟨_, _, _, rfl, i0, by omega, by omega, by omega, by omega, wr_i64 (by omega) (by omega) ⟨by omega, ⟨by omega, by omega, hu, fun i' w hi' hw => by
            rw [splice_get1] at hw
            split at hw
            · rw [← Option.some.inj hw]; exact hnb.anti l15
            · exact (hN i' w (by omega) hw).mono l6⟩, by omega⟩⟩
        · intro a2 cp2 I6 l6 hrow2
          have hge := of_decide_eq_false hge
          obtain ⟨a3, n3, c3, e1, e2, e3, e4⟩ := fr_row hrow2.row (hZ.mono l6)
          rw [e1]
          have hzl := hZ.len
          have hzn : NewR I I5 zs := newR_of hZ fun i v hi => hN i v (by omega)
          cases e1
          exact ⟨_, _, _, rfl, e2, e3, e4, fun G => ovl_row hrow2 (Mem.le_trans l0 (Mem.le_trans l1 (Mem.le_trans l2 l5))) l6 hZ hzn (by omega) G⟩
theorem ct22 (l : List (Int × List Int)) (f : Int × List Int) (hok : okFld f) (hfl : f.2.length ≤ 1000000) (a b : Option Addr) (n c m d : Nat) (I : Mem) (h : FldM I a n l) (hn : n ≤ 1000000) (hs : SlM I b m 1 (ints .u8 f.2)) (hmd : m ≤ d) (hd : d ≤ maxLen) :
    Ct Try.prog (fnv 22) #[.slice a n c, .agg #[.int .i64 f.1, .slice b m d]] I (fun v I' => ∃ a' n' c', v = .tuple #[.slice a' n' c', .int .i64 (setF l f).2] ∧ FldM I' a' n' (setF l f).1 ∧ n' ≤ c' ∧ c' ≤ maxLen) :=
  (ct22N l f hok hfl a b n c m d I h hn hs hmd hd).mono fun _ _ _ ⟨a', n', c', h1, h2, h3, h4, _⟩ => ⟨a', n', c', h1, h2, h3, h4⟩
open Go Go.Proofs Go.SE Go.RowKit
/-- The wants that are met; or the tag and the error where one is not. -/
def suitG (ws : List Wnt) : List (Int × List Int) → List Wnt → (List Wnt × Int × Int)
  | [], met => (met, 0, 0)
  | f :: r, met => match ws.find? fun w => w.1 == f.1 with
    | none => (met, f.1, 23)
    | some w => if (f.2.length : Int) < w.2.2.1 ∨ w.2.2.2 < f.2.length then (met, f.1, 24) else suitG ws r (met ++ [w])
def suitM (met : List Wnt) : List Wnt → Int × Int
  | [] => (0, 0)
  | w :: r => if w.2.1 && !met.contains w then (w.1, 25) else suitM met r
def suitF (l : List (Int × List Int)) (ws : List Wnt) : Int × Int :=
  if rightF l then (if rightW ws then (if (suitG ws l []).2.2 = 0 then suitM (suitG ws l []).1 ws else (suitG ws l []).2) else (0, 22)) else (0, 20)
theorem findW (p : Wnt → Bool) (ws : List Wnt) : (idxW p ws = -1 ∧ ws.find? p = none) ∨ ∃ (i : Nat) (w : Wnt), idxW p ws = i ∧ ws[i]? = some w ∧ ws.find? p = some w := by
  cases hx : ws.findIdx? p with
  | none =>
    refine .inl ⟨by simp [idxW, hx], ?_⟩
    rw [List.findIdx?_eq_none_iff] at hx
    rw [List.find?_eq_none]
    intro x hm
    simp [hx x hm]
  | some i =>
    have hx2 := hx
    rw [List.findIdx?_eq_some_iff_getElem] at hx2
    obtain ⟨hl, hg, hb⟩ := hx2
    refine .inr ⟨i, ws[i], by simp [idxW, hx], List.getElem?_eq_getElem hl, ?_⟩
    rw [List.find?_eq_some_iff_getElem]
    exact ⟨hg, i, hl, rfl, fun j hj => by simpa using hb j hj⟩
theorem suitG_pre (ws : List Wnt) : ∀ (l : List (Int × List Int)) (met : List Wnt), (suitG ws l met).2.2 = 0 ∨ (suitG ws l met).2.2 = 23 ∨ (suitG ws l met).2.2 = 24
  | [], _ => .inl rfl
  | f :: r, met => by
    rw [suitG]
    split
    · exact .inr (.inl rfl)
    · split
      · exact .inr (.inr rfl)
      · exact suitG_pre ws r _
theorem ct14 (l : List (Int × List Int)) (ws : List Wnt) (a b : Option Addr) (n c m d : Nat) (I : Mem) (h : FldM I a n l) (hn : n ≤ 1000000) (h' : WntM I b m ws) (hm : m ≤ 1000000) :
    Ct Try.prog (fnv 14) #[.slice a n c, .slice b m d] I (fun v _ => v = .tuple #[.int .i64 (suitF l ws).1, .int .i64 (suitF l ws).2]) := by
  refine viaR (ct_via (A := { calls := [(76, .ro)], hands := [(9, [1])], loops := [
    (7, ⟨[(1, .keep), (6, .row 0), (20, .keep), (21, .keep), (22, .sh (.int .i64))], [(0, .row)], [(6, 4, 31)], fun vals xss _ _ => match vals, xss with | [.int .i64 j], [xs] => 0 ≤ j ∧ j ≤ n ∧ rightF l = true ∧ rightW ws = true ∧ ∃ met, xs = met.flatMap wc ∧ (met.length : Int) ≤ j ∧ (∀ w ∈ met, okW w) ∧ suitG ws l [] = suitG ws (l.drop j.toNat) met | _, _ => False, fun vals _ => match vals with | [.int .i64 j] => (n - j).toNat | _ => 0⟩),
    (17, ⟨[(6, .row 0), (65, .keep), (66, .keep), (67, .sh (.int .i64))], [(0, .row)], [], fun vals xss _ _ => match vals, xss with | [.int .i64 j], [xs] => 0 ≤ j ∧ j ≤ m ∧ xs = (suitG ws l []).1.flatMap wc ∧ (∀ w ∈ (suitG ws l []).1, okW w) ∧ (suitG ws l []).1.length ≤ 64 ∧ suitF l ws = suitM (suitG ws l []).1 (ws.drop j.toNat) | _, _ => False, fun vals _ => match vals with | [.int .i64 j] => (m - j).toNat | _ => 0⟩)] }) Try.func14 rfl Try.call14 rfl rfl) (Ct Try.prog (Value.func (Fn.func (19 : Nat)) #[] #[]) #[Value.slice a n c] I fun (v : Value) (I' : Mem) => ∃ (b_1 : Bool), v = Value.bool b_1 ∧ Br (!b_1) (Value.tuple #[Value.int IntKind.i64 (0 : Int), Value.int IntKind.i64 (20 : Int)] = Value.tuple #[Value.int IntKind.i64 (Prod.fst (suitF l ws)), Value.int IntKind.i64 (Prod.snd (suitF l ws))]) (Ct Try.prog (Value.func (Fn.func (31 : Nat)) #[] #[]) #[Value.slice b m d] I' fun (v : Value) (I' : Mem) => ∃ (b_2 : Bool), v = Value.bool b_2 ∧ Br (!b_2) (Value.tuple #[Value.int IntKind.i64 (0 : Int), Value.int IntKind.i64 (22 : Int)] = Value.tuple #[Value.int IntKind.i64 (Prod.fst (suitF l ws)), Value.int IntKind.i64 (Prod.snd (suitF l ws))]) ((SV.v (Value.slice b m d) = SV.v (Value.slice b m d) ∧ (0 : Nat) = (0 : Nat) ∧ SV.v (Value.slice a n c) = SV.v (Value.slice a n c) ∧ SV.v (Value.int IntKind.i64 (↑n : Int)) = SV.v (Value.int IntKind.i64 (↑n : Int)) ∧ (0 : Int) ≤ (0 : Int) ∧ (0 : Int) ≤ (↑n : Int) ∧ rightF l = true ∧ rightW ws = true ∧ ∃ (met : List Wnt), [] = List.flatMap (fun (w : Wnt) => [Value.int IntKind.i64 (Prod.fst w), Value.bool (Prod.fst (Prod.snd w)), Value.int IntKind.i64 (Prod.fst (Prod.snd (Prod.snd w))), Value.int IntKind.i64 (Prod.snd (Prod.snd (Prod.snd w)))]) met ∧ (↑(List.length met) : Int) ≤ (0 : Int) ∧ (∀ (w : Wnt), w ∈ met → okW w) ∧ suitG ws l [] = suitG ws l met) ∧ ∀ (I'_1 G' : Mem), Mem.le I' I'_1 → ∀ (xs : List Value) (n_1 : Int), ((0 : Int) ≤ n_1 ∧ n_1 ≤ (↑n : Int) ∧ rightF l = true ∧ rightW ws = true ∧ ∃ (met : List Wnt), xs = List.flatMap (fun (w : Wnt) => [Value.int IntKind.i64 (Prod.fst w), Value.bool (Prod.fst (Prod.snd w)), Value.int IntKind.i64 (Prod.fst (Prod.snd (Prod.snd w))), Value.int IntKind.i64 (Prod.snd (Prod.snd (Prod.snd w)))]) met ∧ (↑(List.length met) : Int) ≤ n_1 ∧ (∀ (w : Wnt), w ∈ met → okW w) ∧ suitG ws l [] = suitG ws (List.drop (Int.toNat n_1) l) met) → Br (decide (n_1 < (↑n : Int))) ((0 : Int) ≤ n_1 ∧ n_1 < (↑n : Int) ∧ Option.isSome a = true ∧ (2 : Nat) = (2 : Nat) ∧ ∃ (n_2 : Int), atI I'_1 a (Int.toNat n_1 * (2 : Nat) + (0 : Nat)) = some (Value.int IntKind.i64 n_2) ∧ ∃ (a_3 : Option Addr), ∃ (n_3 : Nat), ∃ (c_1 : Nat), atI I'_1 a (Int.toNat n_1 * (2 : Nat) + (1 : Nat)) = some (Value.slice a_3 n_3 c_1) ∧ ∀ (b_3 : Nat) (I' : Mem), Mem.le I'_1 I' → I' b_3 = some (Obj.cells #[Value.int IntKind.i64 n_2, Value.slice a_3 n_3 c_1] (29 : Nat)) → Ct Try.prog (Value.func (Fn.func (32 : Nat)) #[] #[]) #[Value.slice b m d, Value.func (Fn.func (33 : Nat)) #[] #[Value.pointer (some (Addr.mk b_3 (0 : Nat) none))]] I' fun (v : Value) (I' : Mem) => ∃ (n_4 : Int), v = Value.int IntKind.i64 n_4 ∧ Br (decide (n_4 < (0 : Int))) (true = true ∧ ∃ (n : Int), atI I' (some (Addr.mk b_3 (0 : Nat) none)) (0 : Nat) = some (Value.int IntKind.i64 n) ∧ Value.tuple #[Value.int IntKind.i64 n, Value.int IntKind.i64 (23 : Int)] = Value.tuple #[Value.int IntKind.i64 (Prod.fst (suitF l ws)), Value.int IntKind.i64 (Prod.snd (suitF l ws))]) (true = true ∧ ∃ (a_6 : Option Addr), ∃ (n_5 : Nat), ∃ (c_2 : Nat), atI I' (some (Addr.mk b_3 (0 : Nat) none)) (1 : Nat) = some (Value.slice a_6 n_5 c_2) ∧ (0 : Int) ≤ n_4 ∧ n_4 < (↑m : Int) ∧ Option.isSome b = true ∧ Option.isSome b = true ∧ ∃ (n_6 : Int), atI I' b (Int.toNat n_4 * (4 : Nat) + (2 : Nat) + (0 : Nat)) = some (Value.int IntKind.i64 n_6) ∧ Br (decide ((↑n_5 : Int) < n_6)) (true = true ∧ ∃ (n : Int), atI I' (some (Addr.mk b_3 (0 : Nat) none)) (0 : Nat) = some (Value.int IntKind.i64 n) ∧ Value.tuple #[Value.int IntKind.i64 n, Value.int IntKind.i64 (24 : Int)] = Value.tuple #[Value.int IntKind.i64 (Prod.fst (suitF l ws)), Value.int IntKind.i64 (Prod.snd (suitF l ws))]) (true = true ∧ ∃ (a_7 : Option Addr), ∃ (n_7 : Nat), ∃ (c_3 : Nat), atI I' (some (Addr.mk b_3 (0 : Nat) none)) (1 : Nat) = some (Value.slice a_7 n_7 c_3) ∧ (0 : Int) ≤ n_4 ∧ n_4 < (↑m : Int) ∧ Option.isSome b = true ∧ Option.isSome b = true ∧ ∃ (n_8 : Int), atI I' b (Int.toNat n_4 * (4 : Nat) + (3 : Nat) + (0 : Nat)) = some (Value.int IntKind.i64 n_8) ∧ Br (decide (n_8 < (↑n_7 : Int))) (true = true ∧ ∃ (n : Int), atI I' (some (Addr.mk b_3 (0 : Nat) none)) (0 : Nat) = some (Value.int IntKind.i64 n) ∧ Value.tuple #[Value.int IntKind.i64 n, Value.int IntKind.i64 (24 : Int)] = Value.tuple #[Value.int IntKind.i64 (Prod.fst (suitF l ws)), Value.int IntKind.i64 (Prod.snd (suitF l ws))]) ((0 : Int) ≤ n_4 ∧ n_4 < (↑m : Int) ∧ Option.isSome b = true ∧ (4 : Nat) = (4 : Nat) ∧ ∃ (n_9 : Int), atI I' b (Int.toNat n_4 * (4 : Nat) + (0 : Nat)) = some (Value.int IntKind.i64 n_9) ∧ ∃ (b_4 : Bool), atI I' b (Int.toNat n_4 * (4 : Nat) + (1 : Nat)) = some (Value.bool b_4) ∧ ∃ (n_10 : Int), atI I' b (Int.toNat n_4 * (4 : Nat) + (2 : Nat)) = some (Value.int IntKind.i64 n_10) ∧ ∃ (n_11 : Int), atI I' b (Int.toNat n_4 * (4 : Nat) + (3 : Nat)) = some (Value.int IntKind.i64 n_11) ∧ List.length xs = List.length xs / (4 : Nat) * (4 : Nat) ∧ List.length xs / (4 : Nat) + (1 : Nat) ≤ (9223372036854775807 : Nat) ∧ (List.length xs / (4 : Nat) + (1 : Nat)) * (32 : Nat) ≤ (140737488355328 : Nat) ∧ Wr IntKind.i64 (n_1 + (1 : Int)) fun (c_4 : Int) => SV.v (Value.slice b m d) = SV.v (Value.slice b m d) ∧ List.length xs / (4 : Nat) + (1 : Nat) = List.length (xs ++ [Value.int IntKind.i64 n_9, Value.bool b_4, Value.int IntKind.i64 n_10, Value.int IntKind.i64 n_11]) / (4 : Nat) ∧ SV.v (Value.slice a n c) = SV.v (Value.slice a n c) ∧ SV.v (Value.int IntKind.i64 (↑n : Int)) = SV.v (Value.int IntKind.i64 (↑n : Int)) ∧ ((0 : Int) ≤ c_4 ∧ c_4 ≤ (↑n : Int) ∧ rightF l = true ∧ rightW ws = true ∧ ∃ (met : List Wnt), xs ++ [Value.int IntKind.i64 n_9, Value.bool b_4, Value.int IntKind.i64 n_10, Value.int IntKind.i64 n_11] = List.flatMap (fun (w : Wnt) => [Value.int IntKind.i64 (Prod.fst w), Value.bool (Prod.fst (Prod.snd w)), Value.int IntKind.i64 (Prod.fst (Prod.snd (Prod.snd w))), Value.int IntKind.i64 (Prod.snd (Prod.snd (Prod.snd w)))]) met ∧ (↑(List.length met) : Int) ≤ c_4 ∧ (∀ (w : Wnt), w ∈ met → okW w) ∧ suitG ws l [] = suitG ws (List.drop (Int.toNat c_4) l) met) ∧ Int.toNat ((↑n : Int) - c_4) < Int.toNat ((↑n : Int) - n_1))))) ((List.length xs / (4 : Nat) = List.length xs / (4 : Nat) ∧ SV.v (Value.slice b m d) = SV.v (Value.slice b m d) ∧ SV.v (Value.int IntKind.i64 (↑m : Int)) = SV.v (Value.int IntKind.i64 (↑m : Int)) ∧ (0 : Int) ≤ (0 : Int) ∧ (0 : Int) ≤ (↑m : Int) ∧ xs = List.flatMap (fun (w : Wnt) => [Value.int IntKind.i64 (Prod.fst w), Value.bool (Prod.fst (Prod.snd w)), Value.int IntKind.i64 (Prod.fst (Prod.snd (Prod.snd w))), Value.int IntKind.i64 (Prod.snd (Prod.snd (Prod.snd w)))]) (Prod.fst (suitG ws l [])) ∧ (∀ (w : Wnt), w ∈ Prod.fst (suitG ws l []) → okW w) ∧ List.length (Prod.fst (suitG ws l [])) ≤ (64 : Nat) ∧ suitF l ws = suitM (Prod.fst (suitG ws l [])) ws) ∧ ∀ (I' G' : Mem), Mem.le I'_1 I' → ∀ (xs : List Value) (n : Int), (0 : Int) ≤ n ∧ n ≤ (↑m : Int) ∧ xs = List.flatMap (fun (w : Wnt) => [Value.int IntKind.i64 (Prod.fst w), Value.bool (Prod.fst (Prod.snd w)), Value.int IntKind.i64 (Prod.fst (Prod.snd (Prod.snd w))), Value.int IntKind.i64 (Prod.snd (Prod.snd (Prod.snd w)))]) (Prod.fst (suitG ws l [])) ∧ (∀ (w : Wnt), w ∈ Prod.fst (suitG ws l []) → okW w) ∧ List.length (Prod.fst (suitG ws l [])) ≤ (64 : Nat) ∧ suitF l ws = suitM (Prod.fst (suitG ws l [])) (List.drop (Int.toNat n) ws) → Br (decide (n < (↑m : Int))) ((0 : Int) ≤ n ∧ n < (↑m : Int) ∧ Option.isSome b = true ∧ (4 : Nat) = (4 : Nat) ∧ ∃ (n_2 : Int), atI I' b (Int.toNat n * (4 : Nat) + (0 : Nat)) = some (Value.int IntKind.i64 n_2) ∧ ∃ (b_3 : Bool), atI I' b (Int.toNat n * (4 : Nat) + (1 : Nat)) = some (Value.bool b_3) ∧ ∃ (n_3 : Int), atI I' b (Int.toNat n * (4 : Nat) + (2 : Nat)) = some (Value.int IntKind.i64 n_3) ∧ ∃ (n_4 : Int), atI I' b (Int.toNat n * (4 : Nat) + (3 : Nat)) = some (Value.int IntKind.i64 n_4) ∧ Br b_3 (∀ (a : Option Addr) (cp : Nat) (I'_2 : Mem), Mem.le I' I'_2 → RowM I'_2 a cp (4 : Nat) xs → Ct Try.prog (Value.func (Fn.func (34 : Nat)) #[] #[]) #[Value.slice a (List.length xs / (4 : Nat)) cp, Value.agg #[Value.int IntKind.i64 n_2, Value.bool b_3, Value.int IntKind.i64 n_3, Value.int IntKind.i64 n_4]] I'_2 fun (v : Value) (x : Mem) => ∃ (b_4 : Bool), v = Value.bool b_4 ∧ Br (!b_4) (Value.tuple #[Value.int IntKind.i64 n_2, Value.int IntKind.i64 (25 : Int)] = Value.tuple #[Value.int IntKind.i64 (Prod.fst (suitF l ws)), Value.int IntKind.i64 (Prod.snd (suitF l ws))]) (Wr IntKind.i64 (n + (1 : Int)) fun (c : Int) => List.length xs / (4 : Nat) = List.length xs / (4 : Nat) ∧ SV.v (Value.slice b m d) = SV.v (Value.slice b m d) ∧ SV.v (Value.int IntKind.i64 (↑m : Int)) = SV.v (Value.int IntKind.i64 (↑m : Int)) ∧ ((0 : Int) ≤ c ∧ c ≤ (↑m : Int) ∧ xs = List.flatMap (fun (w : Wnt) => [Value.int IntKind.i64 (Prod.fst w), Value.bool (Prod.fst (Prod.snd w)), Value.int IntKind.i64 (Prod.fst (Prod.snd (Prod.snd w))), Value.int IntKind.i64 (Prod.snd (Prod.snd (Prod.snd w)))]) (Prod.fst (suitG ws l [])) ∧ (∀ (w : Wnt), w ∈ Prod.fst (suitG ws l []) → okW w) ∧ List.length (Prod.fst (suitG ws l [])) ≤ (64 : Nat) ∧ suitF l ws = suitM (Prod.fst (suitG ws l [])) (List.drop (Int.toNat c) ws)) ∧ Int.toNat ((↑m : Int) - c) < Int.toNat ((↑m : Int) - n))) (Wr IntKind.i64 (n + (1 : Int)) fun (c : Int) => List.length xs / (4 : Nat) = List.length xs / (4 : Nat) ∧ SV.v (Value.slice b m d) = SV.v (Value.slice b m d) ∧ SV.v (Value.int IntKind.i64 (↑m : Int)) = SV.v (Value.int IntKind.i64 (↑m : Int)) ∧ ((0 : Int) ≤ c ∧ c ≤ (↑m : Int) ∧ xs = List.flatMap (fun (w : Wnt) => [Value.int IntKind.i64 (Prod.fst w), Value.bool (Prod.fst (Prod.snd w)), Value.int IntKind.i64 (Prod.fst (Prod.snd (Prod.snd w))), Value.int IntKind.i64 (Prod.snd (Prod.snd (Prod.snd w)))]) (Prod.fst (suitG ws l [])) ∧ (∀ (w : Wnt), w ∈ Prod.fst (suitG ws l []) → okW w) ∧ List.length (Prod.fst (suitG ws l [])) ≤ (64 : Nat) ∧ suitF l ws = suitM (Prod.fst (suitG ws l [])) (List.drop (Int.toNat c) ws)) ∧ Int.toNat ((↑m : Int) - c) < Int.toNat ((↑m : Int) - n))) (Value.tuple #[Value.int IntKind.i64 (0 : Int), Value.int IntKind.i64 (0 : Int)] = Value.tuple #[Value.int IntKind.i64 (Prod.fst (suitF l ws)), Value.int IntKind.i64 (Prod.snd (suitF l ws))]))))) (by kernel_rfl) ?_
  simp only [eq_self, true_and]
  have hl := h.len
  have hwl := h'.len
  refine (ct19 l a n c I h hn).mono fun v I0 l0 hv => ⟨_, hv, Br.mk (fun hr => ?_) (fun hr => ?_)⟩
  · have hr : rightF l = false := by simpa using hr
    have : suitF l ws = (0, 20) := by rw [suitF, hr]; rfl
    rw [this]
  have hr : rightF l = true := by simpa using hr
  obtain ⟨hs1, hl64⟩ := rightF_iff.1 hr
  refine (ct31 ws b m d I0 (h'.mono l0) hm).mono fun v I1 l1 hv => ⟨_, hv, Br.mk (fun hw => ?_) (fun hw => ?_)⟩
  · have hw : rightW ws = false := by simpa using hw
    have : suitF l ws = (0, 22) := by rw [suitF, hr, hw]; rfl
    rw [this]
  have hw : rightW ws = true := by simpa using hw
  have hsf : suitF l ws = if (suitG ws l []).2.2 = 0 then suitM (suitG ws l []).1 ws else (suitG ws l []).2 := by rw [suitF, if_pos hr, if_pos hw]
  refine ⟨⟨by omega, by omega, hr, hw, [], rfl, by simp, (fun w hw => by cases hw), rfl⟩, fun I2 _ l2 xs j ⟨h0, h1, _, _, met, k1, k2, k3, k4⟩ => Br.mk (fun hlt => ?_) (fun hge => ?_)⟩
  · have hlt := of_decide_eq_true hlt
    obtain ⟨f, b', m', c', hf, hok, e1, e2, hfs, hm1, hm2⟩ := (h.mono (Mem.le_trans l0 (Mem.le_trans l1 l2))).at_ h0 hlt
    have hml := hfs.numLen
    rw [drop_cons hf, suitG] at k4
    refine ⟨h0, hlt, h.isSome (by omega), f.1, e1, b', m', c', e2, fun bk I3 l3 hbk => ?_⟩
    have hW3 := h'.mono (Mem.le_trans l0 (Mem.le_trans l1 (Mem.le_trans l2 l3)))
    refine (ct32 (fun w => w.1 == f.1) _ ws b m d I3 hW3 hm (fun w I' hle => ct33 bk f.1 _ w I' (hle _ _ hbk))).mono fun v I4 l4 hv => ⟨_, hv, ?_⟩
    have hc0 : atI I4 (some ⟨bk, 0, none⟩) 0 = some (.int .i64 f.1) := by simp [atI, cellM, Addr.add, l4 _ _ hbk]
    have hc1 : atI I4 (some ⟨bk, 0, none⟩) 1 = some (.slice b' m' c') := by simp [atI, cellM, Addr.add, l4 _ _ hbk]
    have hbad : ∀ e : Int, e ≠ 0 → suitG ws l [] = (met, f.1, e) → suitF l ws = (f.1, e) := fun e he hg => by rw [hsf, hg, if_neg he]
    rcases findW (fun w => w.1 == f.1) ws with ⟨hi, hfd⟩ | ⟨i, w, hi, hwi, hfd⟩
    · rw [hfd] at k4
      rw [hi]
      refine Br.t rfl ⟨f.1, hc0, ?_⟩
      rw [hbad 23 (by decide) k4]
    · rw [hfd] at k4
      simp only at k4
      rw [hi]
      have hil : i < ws.length := (List.getElem?_eq_some_iff.1 hwi).1
      obtain ⟨w', hw', hokw, a1, a2, a3, a4⟩ := (hW3.mono l4).at_ (i := (i : Int)) (by omega) (by omega)
      rw [Int.toNat_natCast, hwi] at hw'
      cases hw'
      have hbs := h'.isSome (by omega)
      refine Br.f (by simp) ⟨b', m', c', hc1, by omega, by omega, hbs, hbs, w.2.2.1, a3, Br.mk (fun q1 => ?_) (fun q1 => ⟨b', m', c', hc1, by omega, by omega, hbs, hbs, w.2.2.2, a4, Br.mk (fun q2 => ?_) (fun q2 => ?_)⟩)⟩
      · have q1 := of_decide_eq_true q1
        rw [if_pos (.inl (by omega))] at k4
        refine ⟨f.1, hc0, ?_⟩
        rw [hbad 24 (by decide) k4]
      · have q2 := of_decide_eq_true q2
        rw [if_pos (.inr (by omega))] at k4
        refine ⟨f.1, hc0, ?_⟩
        rw [hbad 24 (by decide) k4]
      · have q1 := of_decide_eq_false q1
        have q2 := of_decide_eq_false q2
        rw [if_neg (by omega)] at k4
        have hxl : xs.length = met.length * 4 := by rw [k1]; exact wc_len met
        refine ⟨by omega, by omega, hbs, _, a1, _, a2, _, a3, _, a4, by omega, by omega, by omega, wr_i64 (by omega) (by omega) ⟨by simp, ⟨by omega, by omega, hr, hw, met ++ [w], ?_, by simp; omega, fun v hv => ?_, ?_⟩, by omega⟩⟩
        · rw [k1, List.flatMap_append]; simp
        · rcases List.mem_append.1 hv with hv | hv
          · exact k3 v hv
          · cases List.mem_singleton.1 hv; exact hokw
        · rw [k4, show (j + 1).toNat = j.toNat + 1 by omega]
  · have hge := of_decide_eq_false hge
    rw [List.drop_eq_nil_of_le (by omega), suitG] at k4
    have k4' : (suitG ws l []).1 = met := by rw [k4]
    have k4e : (suitG ws l []).2.2 = 0 := by rw [k4]
    rw [if_pos k4e] at hsf
    rw [k4'] at hsf ⊢
    refine ⟨⟨by omega, by omega, k1, k3, by omega, hsf⟩, fun I3 _ l3 xs i ⟨i0, i1, i2, _, i4, i5⟩ => Br.mk (fun hlt => ?_) (fun hge => ?_)⟩
    · have hlt := of_decide_eq_true hlt
      obtain ⟨w, hwi, hokw, a1, a2, a3, a4⟩ := (h'.mono (Mem.le_trans l0 (Mem.le_trans l1 (Mem.le_trans l2 l3)))).at_ i0 hlt
      rw [drop_cons hwi, suitM] at i5
      have hxl : xs.length = met.length * 4 := by rw [i2]; exact wc_len met
      have e4 : xs.length / 4 = met.length := by omega
      refine ⟨i0, hlt, h'.isSome (by omega), _, a1, _, a2, _, a3, _, a4, Br.mk (fun hmust => ?_) (fun hmust => ?_)⟩
      · intro a7 cp I7 l7 hrow
        have hmt : WntM I7 a7 met.length met := ⟨by rw [i2] at hrow; exact hrow.sl (by omega) (wc_len met), k3⟩
        rw [e4]
        refine (ct34 w met a7 _ cp I7 hmt (by omega)).mono fun v I8 l8 hv => ⟨_, hv, Br.mk (fun hc => ?_) (fun hc => ?_)⟩
        · rw [hmust, hc, if_pos (show (true && true) = true from rfl)] at i5
          rw [i5]
        · rw [hmust, hc, if_neg (by simp)] at i5
          refine wr_i64 (by omega) (by omega) ⟨⟨by omega, by omega, i2, k3, i4, by rw [i5, show (i + 1).toNat = i.toNat + 1 by omega]⟩, by omega⟩
      · rw [hmust, if_neg (by simp)] at i5
        refine wr_i64 (by omega) (by omega) ⟨⟨by omega, by omega, i2, k3, i4, by rw [i5, show (i + 1).toNat = i.toNat + 1 by omega]⟩, by omega⟩
    · have hge := of_decide_eq_false hge
      rw [List.drop_eq_nil_of_le (by omega), suitM] at i5
      rw [i5]
open Go Go.Proofs Go.SE Go.RowKit
theorem r1 : readF [1, 2, 7] = ([], 0, 21) := by simp [readF, yields, fstep, intN, readN, goF]
theorem r2 : readF [1, 0, 1, 0] = ([], 2, 21) := by simp [readF, yields, fstep, intN, readN, goF]
theorem r3 : readF [1, 0, 0, 0] = ([], 2, 21) := by simp [readF, yields, fstep, intN, readN, goF]
theorem r4 : readF [1, 247, 5] = ([], 0, 21) := by
  have hf : fstep [1, 247, 5] 0 = none := by decide
  simp [readF, yields, hf, goF]
theorem r5 : formN 300 = [248, 1, 44] := by simp [formN, digN, be]
theorem w1 : rightF [(1, [7, 8]), (3, [])] = true := by decide
theorem w2 : writeF [(1, [7, 8]), (3, [])] = [1, 2, 7, 8, 3, 0] := by decide
theorem su1 : suitF [(1, [7, 8]), (3, [])] [(1, true, 2, 2), (2, false, 0, 9)] = (3, 23) := by decide
theorem su2 : suitF [(1, [7, 8])] [(1, true, 2, 2), (2, false, 0, 9)] = (0, 0) := by decide
theorem su3 : suitF [] [(1, true, 2, 2), (2, false, 0, 9)] = (1, 25) := by decide
theorem slG_take {I : Mem} {a : Option Addr} {n k sz : Nat} {xs : List Value} (h : SlM I a n sz xs) (hk : k ≤ n) : SlM I a k sz (xs.take (k * sz)) := by
  have hl := h.len
  have hks : k * sz ≤ n * sz := Nat.mul_le_mul_right sz hk
  refine ⟨by rw [List.length_take]; omega, fun ha => by have := h.nil ha; omega, Nat.le_trans hk h.max, fun j v hj => ?_⟩
  rw [List.getElem?_take] at hj
  split at hj
  · exact h.at_ j _ hj
  · cases hj
theorem FldM.take {I : Mem} {a : Option Addr} {n : Nat} {l : List (Int × List Int)} (h : FldM I a n l) {k : Nat} (hk : k ≤ n) : FldM I a k (l.take k) := by
  obtain ⟨xs, h1, h2⟩ := h
  exact ⟨_, slG_take h1 hk, h2.take k⟩
theorem bysl_cells {I : Mem} {b n : Nat} {bs : List Int} {el : TypeId} (h : I b = some (.cells (ints .u8 bs).toArray el)) (hn : n = bs.length) (hm : n ≤ 1000000) : BySl I (.slice (some ⟨b, 0, none⟩) n n) bs := by
  refine ⟨_, n, n, rfl, ?_, Nat.le_refl _, by simp only [maxLen]; omega⟩
  have := sl_cells (n := n) (sz := 1) h (by simp [ints]; omega) (by simp only [maxLen]; omega)
  simpa using this
theorem BySl.short {I : Mem} {b : Option Addr} {m c : Nat} {bs : List Int} (h : BySl I (.slice b m c) bs) : m = bs.length ∧ SlM I b m 1 (ints .u8 bs) ∧ m ≤ c ∧ c ≤ maxLen := by
  obtain ⟨_, _, _, e, h1, h2⟩ := h
  cases e
  exact ⟨h1.numLen, h1, h2⟩
theorem ct12 (I : Mem) : Ct Try.prog (fnv 12) #[] I (fun v _ => v = .bool true) := by
  refine viaR (ct_via (A := { befores := [(6, [3, 4, 5, 6])], loops := [(6, ⟨[(1, .keep), (42, .keep), (43, .keep), (44, .sh (.int .i64))], [(7, .vec)], [], fun vals xss I' _ => match vals, xss with | [.int .i64 j], [xs] => 0 ≤ j ∧ j ≤ 4 ∧ ∃ s1 s2 s3 s4, xs = [s1, .int .i64 0, s2, .int .i64 2, s3, .int .i64 2, s4, .int .i64 0] ∧ BySl I' s1 [1, 2, 7] ∧ BySl I' s2 [1, 0, 1, 0] ∧ BySl I' s3 [1, 0, 0, 0] ∧ BySl I' s4 [1, 247, 5] | _, _ => False, fun vals _ => match vals with | [.int .i64 j] => (4 - j).toNat | _ => 0⟩)] }) Try.func12 rfl Try.call12 rfl rfl) (∀ (b : Nat) (I' : Mem), Mem.le I I' → I' b = some (Obj.cells #[Value.int IntKind.u8 (7 : Int), Value.int IntKind.u8 (8 : Int)] (5 : Nat)) → ∀ (b_1 : Nat) (I'_1 : Mem), Mem.le I' I'_1 → I'_1 b_1 = some (Obj.cells #[Value.int IntKind.i64 (1 : Int), Value.slice (some (Addr.mk b (0 : Nat) none)) (2 : Nat) (2 : Nat), Value.int IntKind.i64 (3 : Int), Value.slice none (0 : Nat) (0 : Nat)] (29 : Nat)) → Ct Try.prog (Value.func (Fn.func (16 : Nat)) #[] #[]) #[Value.slice (some (Addr.mk b_1 (0 : Nat) none)) (2 : Nat) (2 : Nat)] I'_1 fun (v : Value) (I' : Mem) => ∃ (a : Option Addr), ∃ (n : Nat), ∃ (c : Nat), ∃ (n_1 : Int), v = Value.tuple #[Value.slice a n c, Value.int IntKind.i64 n_1] ∧ Br (n_1 != (0 : Int)) (Value.bool false = Value.bool true) (∀ (b : Nat) (I'_2 : Mem), Mem.le I' I'_2 → I'_2 b = some (Obj.cells #[Value.int IntKind.u8 (1 : Int), Value.int IntKind.u8 (2 : Int), Value.int IntKind.u8 (7 : Int), Value.int IntKind.u8 (8 : Int), Value.int IntKind.u8 (3 : Int), Value.int IntKind.u8 (0 : Int)] (5 : Nat)) → Ct Try.prog (Value.func (Fn.func (29 : Nat)) #[] #[]) #[Value.slice a n c, Value.slice (some (Addr.mk b (0 : Nat) none)) (6 : Nat) (6 : Nat)] I'_2 fun (v : Value) (I' : Mem) => ∃ (b : Bool), v = Value.bool b ∧ Br (!b) (Value.bool false = Value.bool true) (∀ (b : Nat) (I'_3 : Mem), Mem.le I' I'_3 → I'_3 b = some (Obj.cells #[Value.int IntKind.u8 (1 : Int), Value.int IntKind.u8 (2 : Int), Value.int IntKind.u8 (7 : Int)] (5 : Nat)) → ∀ (b_2 : Nat) (I' : Mem), Mem.le I'_3 I' → I' b_2 = some (Obj.cells #[Value.int IntKind.u8 (1 : Int), Value.int IntKind.u8 (0 : Int), Value.int IntKind.u8 (1 : Int), Value.int IntKind.u8 (0 : Int)] (5 : Nat)) → ∀ (b_3 : Nat) (I'_4 : Mem), Mem.le I' I'_4 → I'_4 b_3 = some (Obj.cells #[Value.int IntKind.u8 (1 : Int), Value.int IntKind.u8 (0 : Int), Value.int IntKind.u8 (0 : Int), Value.int IntKind.u8 (0 : Int)] (5 : Nat)) → ∀ (b_4 : Nat) (I' : Mem), Mem.le I'_4 I' → I' b_4 = some (Obj.cells #[Value.int IntKind.u8 (1 : Int), Value.int IntKind.u8 (247 : Int), Value.int IntKind.u8 (5 : Int)] (5 : Nat)) → ((none : Option Nat) = none ∧ SV.v (Value.slice (some (Addr.mk b_1 (0 : Nat) none)) (2 : Nat) (2 : Nat)) = SV.v (Value.slice (some (Addr.mk b_1 (0 : Nat) none)) (2 : Nat) (2 : Nat)) ∧ SV.xsl (7 : Nat) (0 : Nat) (4 : Nat) (4 : Nat) = SV.xsl (7 : Nat) (0 : Nat) (4 : Nat) (4 : Nat) ∧ SV.v (Value.int IntKind.i64 (4 : Int)) = SV.v (Value.int IntKind.i64 (4 : Int)) ∧ (0 : Int) ≤ (0 : Int) ∧ (0 : Int) ≤ (4 : Int) ∧ ∃ (s1 : Value), ∃ (s2 : Value), ∃ (s3 : Value), ∃ (s4 : Value), [Value.slice (some (Addr.mk b (0 : Nat) none)) (3 : Nat) (3 : Nat), Value.int IntKind.i64 (0 : Int), Value.slice (some (Addr.mk b_2 (0 : Nat) none)) (4 : Nat) (4 : Nat), Value.int IntKind.i64 (2 : Int), Value.slice (some (Addr.mk b_3 (0 : Nat) none)) (4 : Nat) (4 : Nat), Value.int IntKind.i64 (2 : Int), Value.slice (some (Addr.mk b_4 (0 : Nat) none)) (3 : Nat) (3 : Nat), Value.int IntKind.i64 (0 : Int)] = [s1, Value.int IntKind.i64 (0 : Int), s2, Value.int IntKind.i64 (2 : Int), s3, Value.int IntKind.i64 (2 : Int), s4, Value.int IntKind.i64 (0 : Int)] ∧ (∃ (b : Option Addr), ∃ (m : Nat), ∃ (c : Nat), s1 = Value.slice b m c ∧ SlM I' b m (1 : Nat) [Value.int IntKind.u8 (1 : Int), Value.int IntKind.u8 (2 : Int), Value.int IntKind.u8 (7 : Int)] ∧ m ≤ c ∧ c ≤ (9223372036854775807 : Nat)) ∧ (∃ (b : Option Addr), ∃ (m : Nat), ∃ (c : Nat), s2 = Value.slice b m c ∧ SlM I' b m (1 : Nat) [Value.int IntKind.u8 (1 : Int), Value.int IntKind.u8 (0 : Int), Value.int IntKind.u8 (1 : Int), Value.int IntKind.u8 (0 : Int)] ∧ m ≤ c ∧ c ≤ (9223372036854775807 : Nat)) ∧ (∃ (b : Option Addr), ∃ (m : Nat), ∃ (c : Nat), s3 = Value.slice b m c ∧ SlM I' b m (1 : Nat) [Value.int IntKind.u8 (1 : Int), Value.int IntKind.u8 (0 : Int), Value.int IntKind.u8 (0 : Int), Value.int IntKind.u8 (0 : Int)] ∧ m ≤ c ∧ c ≤ (9223372036854775807 : Nat)) ∧ ∃ (b : Option Addr), ∃ (m : Nat), ∃ (c : Nat), s4 = Value.slice b m c ∧ SlM I' b m (1 : Nat) [Value.int IntKind.u8 (1 : Int), Value.int IntKind.u8 (247 : Int), Value.int IntKind.u8 (5 : Int)] ∧ m ≤ c ∧ c ≤ (9223372036854775807 : Nat)) ∧ ∀ (I'_5 G' : Mem), Mem.le I' I'_5 → ∀ (xs : List Value) (n : Int), ((0 : Int) ≤ n ∧ n ≤ (4 : Int) ∧ ∃ (s1 : Value), ∃ (s2 : Value), ∃ (s3 : Value), ∃ (s4 : Value), xs = [s1, Value.int IntKind.i64 (0 : Int), s2, Value.int IntKind.i64 (2 : Int), s3, Value.int IntKind.i64 (2 : Int), s4, Value.int IntKind.i64 (0 : Int)] ∧ (∃ (b : Option Addr), ∃ (m : Nat), ∃ (c : Nat), s1 = Value.slice b m c ∧ SlM I'_5 b m (1 : Nat) [Value.int IntKind.u8 (1 : Int), Value.int IntKind.u8 (2 : Int), Value.int IntKind.u8 (7 : Int)] ∧ m ≤ c ∧ c ≤ (9223372036854775807 : Nat)) ∧ (∃ (b : Option Addr), ∃ (m : Nat), ∃ (c : Nat), s2 = Value.slice b m c ∧ SlM I'_5 b m (1 : Nat) [Value.int IntKind.u8 (1 : Int), Value.int IntKind.u8 (0 : Int), Value.int IntKind.u8 (1 : Int), Value.int IntKind.u8 (0 : Int)] ∧ m ≤ c ∧ c ≤ (9223372036854775807 : Nat)) ∧ (∃ (b : Option Addr), ∃ (m : Nat), ∃ (c : Nat), s3 = Value.slice b m c ∧ SlM I'_5 b m (1 : Nat) [Value.int IntKind.u8 (1 : Int), Value.int IntKind.u8 (0 : Int), Value.int IntKind.u8 (0 : Int), Value.int IntKind.u8 (0 : Int)] ∧ m ≤ c ∧ c ≤ (9223372036854775807 : Nat)) ∧ ∃ (b : Option Addr), ∃ (m : Nat), ∃ (c : Nat), s4 = Value.slice b m c ∧ SlM I'_5 b m (1 : Nat) [Value.int IntKind.u8 (1 : Int), Value.int IntKind.u8 (247 : Int), Value.int IntKind.u8 (5 : Int)] ∧ m ≤ c ∧ c ≤ (9223372036854775807 : Nat)) → Br (decide (n < (4 : Int))) ((0 : Int) ≤ n ∧ n < (4 : Int) ∧ (2 : Nat) = (2 : Nat) ∧ ∃ (a : Option Addr), ∃ (n_2 : Nat), ∃ (c : Nat), xs[(0 : Nat) + Int.toNat n * (2 : Nat) + (0 : Nat)]? = some (Value.slice a n_2 c) ∧ ∃ (n_3 : Int), xs[(0 : Nat) + Int.toNat n * (2 : Nat) + (1 : Nat)]? = some (Value.int IntKind.i64 n_3) ∧ Ct Try.prog (Value.func (Fn.func (17 : Nat)) #[] #[]) #[Value.slice a n_2 c] I'_5 fun (v : Value) (I' : Mem) => ∃ (a : Option Addr), ∃ (n_4 : Nat), ∃ (c : Nat), ∃ (n_5 : Int), ∃ (n_6 : Int), v = Value.tuple #[Value.slice a n_4 c, Value.int IntKind.i64 n_5, Value.int IntKind.i64 n_6] ∧ Br (n_5 != n_3) (Value.bool false = Value.bool true) (Br (n_6 != (21 : Int)) (Value.bool false = Value.bool true) (Wr IntKind.i64 (n + (1 : Int)) fun (c : Int) => (none : Option Nat) = none ∧ SV.v (Value.slice (some (Addr.mk b_1 (0 : Nat) none)) (2 : Nat) (2 : Nat)) = SV.v (Value.slice (some (Addr.mk b_1 (0 : Nat) none)) (2 : Nat) (2 : Nat)) ∧ SV.xsl (7 : Nat) (0 : Nat) (4 : Nat) (4 : Nat) = SV.xsl (7 : Nat) (0 : Nat) (4 : Nat) (4 : Nat) ∧ SV.v (Value.int IntKind.i64 (4 : Int)) = SV.v (Value.int IntKind.i64 (4 : Int)) ∧ ((0 : Int) ≤ c ∧ c ≤ (4 : Int) ∧ ∃ (s1 : Value), ∃ (s2 : Value), ∃ (s3 : Value), ∃ (s4 : Value), xs = [s1, Value.int IntKind.i64 (0 : Int), s2, Value.int IntKind.i64 (2 : Int), s3, Value.int IntKind.i64 (2 : Int), s4, Value.int IntKind.i64 (0 : Int)] ∧ (∃ (b : Option Addr), ∃ (m : Nat), ∃ (c : Nat), s1 = Value.slice b m c ∧ SlM I' b m (1 : Nat) [Value.int IntKind.u8 (1 : Int), Value.int IntKind.u8 (2 : Int), Value.int IntKind.u8 (7 : Int)] ∧ m ≤ c ∧ c ≤ (9223372036854775807 : Nat)) ∧ (∃ (b : Option Addr), ∃ (m : Nat), ∃ (c : Nat), s2 = Value.slice b m c ∧ SlM I' b m (1 : Nat) [Value.int IntKind.u8 (1 : Int), Value.int IntKind.u8 (0 : Int), Value.int IntKind.u8 (1 : Int), Value.int IntKind.u8 (0 : Int)] ∧ m ≤ c ∧ c ≤ (9223372036854775807 : Nat)) ∧ (∃ (b : Option Addr), ∃ (m : Nat), ∃ (c : Nat), s3 = Value.slice b m c ∧ SlM I' b m (1 : Nat) [Value.int IntKind.u8 (1 : Int), Value.int IntKind.u8 (0 : Int), Value.int IntKind.u8 (0 : Int), Value.int IntKind.u8 (0 : Int)] ∧ m ≤ c ∧ c ≤ (9223372036854775807 : Nat)) ∧ ∃ (b : Option Addr), ∃ (m : Nat), ∃ (c : Nat), s4 = Value.slice b m c ∧ SlM I' b m (1 : Nat) [Value.int IntKind.u8 (1 : Int), Value.int IntKind.u8 (247 : Int), Value.int IntKind.u8 (5 : Int)] ∧ m ≤ c ∧ c ≤ (9223372036854775807 : Nat)) ∧ Int.toNat ((4 : Int) - c) < Int.toNat ((4 : Int) - n)))) (∀ (b : Nat) (I' : Mem), Mem.le I'_5 I' → I' b = some (Obj.cells #[Value.int IntKind.i64 (1 : Int), Value.bool true, Value.int IntKind.i64 (2 : Int), Value.int IntKind.i64 (2 : Int), Value.int IntKind.i64 (2 : Int), Value.bool false, Value.int IntKind.i64 (0 : Int), Value.int IntKind.i64 (9 : Int)] (31 : Nat)) → Ct Try.prog (Value.func (Fn.func (14 : Nat)) #[] #[]) #[Value.slice (some (Addr.mk b_1 (0 : Nat) none)) (2 : Nat) (2 : Nat), Value.slice (some (Addr.mk b (0 : Nat) none)) (2 : Nat) (2 : Nat)] I' fun (v : Value) (I' : Mem) => ∃ (n : Int), ∃ (n_2 : Int), v = Value.tuple #[Value.int IntKind.i64 n, Value.int IntKind.i64 n_2] ∧ (0 : Int) ≤ (1 : Int) ∧ (1 : Int) ≤ (2 : Int) ∧ Ct Try.prog (Value.func (Fn.func (14 : Nat)) #[] #[]) #[Value.slice (some (Addr.mk b_1 (0 : Nat) none)) (1 : Nat) (2 : Nat), Value.slice (some (Addr.mk b (0 : Nat) none)) (2 : Nat) (2 : Nat)] I' fun (v : Value) (I' : Mem) => ∃ (n_3 : Int), ∃ (n_4 : Int), v = Value.tuple #[Value.int IntKind.i64 n_3, Value.int IntKind.i64 n_4] ∧ Ct Try.prog (Value.func (Fn.func (14 : Nat)) #[] #[]) #[Value.slice none (0 : Nat) (0 : Nat), Value.slice (some (Addr.mk b (0 : Nat) none)) (2 : Nat) (2 : Nat)] I' fun (v : Value) (I' : Mem) => ∃ (n_5 : Int), ∃ (n_6 : Int), v = Value.tuple #[Value.int IntKind.i64 n_5, Value.int IntKind.i64 n_6] ∧ Ct Try.prog (Value.func (Fn.func (27 : Nat)) #[] #[]) #[Value.int IntKind.i64 (5 : Int), Value.int IntKind.u64 (300 : Int)] I' fun (v : Value) (I' : Mem) => ∃ (n_7 : Int), ∃ (a : Option Addr), ∃ (n_8 : Nat), ∃ (c : Nat), v = Value.agg #[Value.int IntKind.i64 n_7, Value.slice a n_8 c] ∧ Br (n == (3 : Int)) (Br (n_2 == (23 : Int)) (Br (n_4 == (0 : Int)) (Br (n_5 == (1 : Int)) (Br (n_6 == (25 : Int)) (Br (n_7 == (5 : Int)) (∀ (b : Nat) (I'_6 : Mem), Mem.le I' I'_6 → I'_6 b = some (Obj.cells #[Value.int IntKind.u8 (248 : Int), Value.int IntKind.u8 (1 : Int), Value.int IntKind.u8 (44 : Int)] (5 : Nat)) → Ct Try.prog (Value.func (Fn.func (29 : Nat)) #[] #[]) #[Value.slice a n_8 c, Value.slice (some (Addr.mk b (0 : Nat) none)) (3 : Nat) (3 : Nat)] I'_6 fun (v : Value) (I' : Mem) => ∃ (b : Bool), v = Value.bool b ∧ Value.bool b = Value.bool true) (Value.bool false = Value.bool true)) (Value.bool false = Value.bool true)) (Value.bool false = Value.bool true)) (Value.bool false = Value.bool true)) (Value.bool false = Value.bool true)) (Value.bool false = Value.bool true))))) (by kernel_rfl) ?_
  simp only [eq_self, true_and]
  intro b1 I1 l1 hb1 b2 I2 l2 hb2
  have hB1 : BySl I1 (.slice (some ⟨b1, 0, none⟩) 2 2) [7, 8] := bysl_cells hb1 rfl (by omega)
  have hL : FldM I2 (some ⟨b2, 0, none⟩) 2 [(1, [7, 8]), (3, [])] :=
    ⟨_, sl_cells (n := 2) (sz := 2) hb2 rfl (by decide), FR.cons ⟨⟨by simp, by simp⟩, rfl, hB1.mono l2⟩ (FR.cons ⟨⟨by simp, by simp⟩, rfl, none, 0, 0, rfl, sl_nil _ _, by omega, by omega⟩ FR.nil)⟩
  refine (ct16 _ _ _ _ I2 hL (by omega)).mono fun v I3 l3 ⟨a', n', c', hv, hs, _, _⟩ => ⟨a', n', c', _, hv, Br.f (by rw [w1]; rfl) fun b3 I4 l4 hb3 => ?_⟩
  rw [w1, if_pos rfl, w2] at hs
  have hn' := hs.numLen
  have h3 := bysl_cells (n := 6) (bs := [1, 2, 7, 8, 3, 0]) hb3 rfl (by omega)
  refine (ct29 [1, 2, 7, 8, 3, 0] [1, 2, 7, 8, 3, 0] _ _ _ _ _ _ I4 (hs.mono l4) (BySl.short h3).2.1 (by simp at hn'; omega)).mono fun v I5 l5 hv => ⟨_, hv, Br.f rfl fun c1 J1 m1 hc1 c2 J2 m2 hc2 c3 J3 m3 hc3 c4 J4 m4 hc4 => ?_⟩
  have q1 : BySl J4 _ [1, 2, 7] := (bysl_cells (n := 3) (bs := [1, 2, 7]) hc1 rfl (by omega)).mono (Mem.le_trans m2 (Mem.le_trans m3 m4))
  have q2 : BySl J4 _ [1, 0, 1, 0] := (bysl_cells (n := 4) (bs := [1, 0, 1, 0]) hc2 rfl (by omega)).mono (Mem.le_trans m3 m4)
  have q3 : BySl J4 _ [1, 0, 0, 0] := (bysl_cells (n := 4) (bs := [1, 0, 0, 0]) hc3 rfl (by omega)).mono m4
  have q4 : BySl J4 _ [1, 247, 5] := bysl_cells (n := 3) (bs := [1, 247, 5]) hc4 rfl (by omega)
  refine ⟨⟨by omega, by omega, _, _, _, _, rfl, q1, q2, q3, q4⟩, fun J5 _ m5 xs j ⟨j0, j1, s1, s2, s3, s4, hxs, p1, p2, p3, p4⟩ => ?_⟩
  change BySl J5 s1 [1, 2, 7] at p1
  change BySl J5 s2 [1, 0, 1, 0] at p2
  change BySl J5 s3 [1, 0, 0, 0] at p3
  change BySl J5 s4 [1, 247, 5] at p4
  refine Br.mk (fun hlt => ?_) (fun _ => ?_)
  · have hlt := of_decide_eq_true hlt
    have hx : ∃ (s : Value) (bs : List Int) (k : Int), xs[0 + j.toNat * 2 + 0]? = some s ∧ xs[0 + j.toNat * 2 + 1]? = some (.int .i64 k) ∧ BySl J5 s bs ∧ byteL bs ∧ readF bs = ([], k, 21) ∧ bs.length ≤ 10 := by
      rw [hxs]
      rcases (by omega : j = 0 ∨ j = 1 ∨ j = 2 ∨ j = 3) with rfl | rfl | rfl | rfl
      · exact ⟨s1, _, 0, rfl, rfl, p1, by simp [byteL], r1, by simp⟩
      · exact ⟨s2, _, 2, rfl, rfl, p2, by simp [byteL], r2, by simp⟩
      · exact ⟨s3, _, 2, rfl, rfl, p3, by simp [byteL], r3, by simp⟩
      · exact ⟨s4, _, 0, rfl, rfl, p4, by simp [byteL], r4, by simp⟩
    obtain ⟨s, bs, k, e1, e2, ⟨b, m, d, rfl, hsl, hmd, hd⟩, hbl, hrd, hb10⟩ := hx
    have hm := hsl.numLen
    refine ⟨j0, hlt, b, m, d, e1, k, e2, (ct17 bs hbl b m d J5 hsl (by omega) hmd hd).mono fun v J6 m6 ⟨a7, n7, c7, hv, _, _, _⟩ => ⟨a7, n7, c7, _, _, hv, ?_⟩⟩
    rw [hrd]
    exact Br.f (by simp) (Br.f rfl (wr_i64 (by omega) (by omega) ⟨⟨by omega, by omega, s1, s2, s3, s4, hxs, p1.mono m6, p2.mono m6, p3.mono m6, p4.mono m6⟩, by omega⟩))
  · intro c5 J6 m6 hc5
    have hW : WntM J6 (some ⟨c5, 0, none⟩) 2 [(1, true, 2, 2), (2, false, 0, 9)] := by
      refine ⟨sl_cells (n := 2) (sz := 4) hc5 rfl (by decide), fun w hw => ?_⟩
      simp at hw
      rcases hw with rfl | rfl <;> simp [okW]
    have lA : I2.le J6 := Mem.le_trans l3 (Mem.le_trans l4 (Mem.le_trans l5 (Mem.le_trans m1 (Mem.le_trans m2 (Mem.le_trans m3 (Mem.le_trans m4 (Mem.le_trans m5 m6)))))))
    refine (ct14 _ _ _ _ _ _ _ _ J6 (hL.mono lA) (by omega) hW (by omega)).mono fun v J7 m7 hv => ⟨_, _, hv, by omega, by omega, ?_⟩
    refine (ct14 _ _ _ _ 1 2 _ _ J7 ((hL.mono (Mem.le_trans lA m7)).take (k := 1) (by omega)) (by omega) (hW.mono m7) (by omega)).mono fun v J8 m8 hv => ⟨_, _, hv, ?_⟩
    refine (ct14 [] _ none _ 0 0 _ _ J8 (fldM_nil _) (by omega) (hW.mono (Mem.le_trans m7 m8)) (by omega)).mono fun v J9 m9 hv => ⟨_, _, hv, ?_⟩
    refine (ct27 5 300 (by omega) J9).mono fun v J10 m10 ⟨y, hv, hy⟩ => ?_
    obtain ⟨b5, n5, d5, rfl, hs5, _, _⟩ := hy
    have hf5 : formN (300 : Int).toNat = [248, 1, 44] := r5
    rw [hf5] at hs5
    have hn5 := hs5.numLen
    have hs2' : suitF (List.take 1 [(1, [7, 8]), (3, [])]) [(1, true, 2, 2), (2, false, 0, 9)] = (0, 0) := su2
    refine ⟨_, _, _, _, hv, Br.t (by rw [su1]; rfl) (Br.t (by rw [su1]; rfl) (Br.t (by rw [hs2']; rfl) (Br.t (by rw [su3]; rfl) (Br.t (by rw [su3]; rfl) (Br.t rfl ?_)))))⟩
    intro b6 J11 m11 hb6
    have h6 := bysl_cells (n := 3) (bs := [248, 1, 44]) hb6 rfl (by omega)
    exact (ct29 [248, 1, 44] [248, 1, 44] _ _ _ _ _ _ J11 (hs5.mono m11) (BySl.short h6).2.1 (by simp at hn5; omega)).mono fun v _ _ hv => ⟨_, hv, rfl⟩
