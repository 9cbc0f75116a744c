/- Part of a proof by the rules of the symbolic walk (see the law's own text): contracts of functions of the program. -/
import Derived.Test.YtglkgdkdcmilcaaProg
import Derived.Test.YtglkgdkdcmilcaaSe19
open Go Go.Proofs Go.SE

theorem ct52 (m : Int) (I : Mem) : Ct Try.prog (fnv 52) #[.int .u8 m] I (fun v _ => v = .bool (decide (15 < m))) := by
  refine viaR (ct_via (A := {}) Try.func52 rfl Try.call52 rfl rfl) (Value.bool (decide ((15 : Int) < m)) = Value.bool (decide ((15 : Int) < m))) (by kernel_rfl) ?_
  rfl

/-- Where the first is that p holds of, or -1. -/
def idx (p : Int → Bool) (l : List Int) : Int := match l.findIdx? p with | some i => (i : Int) | none => -1

theorem ct60 (f : Value) (p : Int → Bool) (ms : List Int) (a : Option Addr) (n c : Nat) (I : Mem) (h : SlM I a n 1 (ints .u8 ms))
    (hf : ∀ (m : Int) (I' : Mem), Ct Try.prog f #[.int .u8 m] I' fun v _ => v = .bool (p m)) :
    Ct Try.prog (fnv 60) #[.slice a n c, f] I (fun v _ => v = .int .i64 (idx p ms)) := by
  refine viaR (ct_via (A := { loops := [(2, ⟨[(0, .keep), (1, .keep), (7, .keep), (8, .sh (.int .i64))], [], [], fun vals _ _ _ => match vals with
    | [.int .i64 j] => 0 ≤ j ∧ j ≤ n ∧ ∀ (i : Nat) (x : Int), (i : Int) < j → ms[i]? = some x → p x = false
    | _ => False, fun vals _ => match vals with | [.int .i64 j] => (n - j).toNat | _ => 0⟩)] }) Try.func60 rfl Try.call60 rfl rfl) ((SV.v (Value.slice a n c) = SV.v (Value.slice a n c) ∧ SV.v f = SV.v f ∧ SV.v (Value.int IntKind.i64 (↑n : Int)) = SV.v (Value.int IntKind.i64 (↑n : Int)) ∧ (0 : Int) ≤ (0 : Int) ∧ (0 : Int) ≤ (↑n : Int) ∧ ∀ (i : Nat) (x : Int), (↑i : Int) < (0 : Int) → ms[i]? = some x → p x = false) ∧ ∀ (I' G' : Mem), Mem.le I I' → ∀ (n_1 : Int), ((0 : Int) ≤ n_1 ∧ n_1 ≤ (↑n : Int) ∧ ∀ (i : Nat) (x : Int), (↑i : Int) < n_1 → ms[i]? = some x → p x = false) → Br (decide (n_1 < (↑n : Int))) ((0 : Int) ≤ n_1 ∧ n_1 < (↑n : Int) ∧ Option.isSome a = true ∧ ∃ (n_2 : Int), atI I' a (Int.toNat n_1 * (1 : Nat) + (0 : Nat)) = some (Value.int IntKind.u8 n_2) ∧ Ct Try.prog f #[Value.int IntKind.u8 n_2] I' fun (v : Value) (I' : Mem) => ∃ (b : Bool), v = Value.bool b ∧ Br b (Value.int IntKind.i64 n_1 = Value.int IntKind.i64 (idx p ms)) (Wr IntKind.i64 (n_1 + (1 : Int)) fun (c_1 : Int) => SV.v (Value.slice a n c) = SV.v (Value.slice a n c) ∧ SV.v f = SV.v f ∧ SV.v (Value.int IntKind.i64 (↑n : Int)) = SV.v (Value.int IntKind.i64 (↑n : Int)) ∧ ((0 : Int) ≤ c_1 ∧ c_1 ≤ (↑n : Int) ∧ ∀ (i : Nat) (x : Int), (↑i : Int) < c_1 → ms[i]? = some x → p x = false) ∧ Int.toNat ((↑n : Int) - c_1) < Int.toNat ((↑n : Int) - n_1))) (Value.int IntKind.i64 (-1 : Int) = Value.int IntKind.i64 (idx p ms))) (by kernel_rfl) ?_
  have hn := h.numLen
  have hmax := h.max
  simp only [maxLen] at hmax
  refine ⟨⟨rfl, rfl, rfl, by omega, by omega, fun i x hi => by omega⟩, fun I' _ hI j ⟨h0, h1, h2⟩ => Br.mk (fun hlt => ?_) (fun hge => ?_)⟩
  · have hlt := of_decide_eq_true hlt
    obtain ⟨x, hx, hat⟩ := (h.mono hI).intAt h0 hlt
    refine ⟨h0, hlt, h.isSome (by omega), x, hat, (hf x I').mono fun v I2 hle hv => ⟨_, hv, Br.mk (fun hp => ?_) (fun hp => ?_)⟩⟩
    · have : ms.findIdx? p = some j.toNat := by
        rw [List.findIdx?_eq_some_iff_getElem]
        obtain ⟨hl, hg⟩ := List.getElem?_eq_some_iff.1 hx
        exact ⟨hl, hg ▸ hp, fun i hi => by rw [h2 i _ (by omega) (List.getElem?_eq_getElem (by omega))]; simp⟩
      simp only [idx, this]
      congr 1; omega
    · refine wr_i64 (by omega) (by omega) ⟨rfl, rfl, rfl, ⟨by omega, by omega, fun i y hi hy => ?_⟩, by omega⟩
      by_cases hij : (i : Int) < j
      · exact h2 i y hij hy
      · have : i = j.toNat := by omega
        subst this
        rw [hx] at hy
        cases hy
        exact hp
  · have hge := of_decide_eq_false hge
    have : ms.findIdx? p = none := by
      rw [List.findIdx?_eq_none_iff]
      intro x hx
      obtain ⟨i, hi, rfl⟩ := List.mem_iff_getElem.1 hx
      exact h2 i _ (by omega) (List.getElem?_eq_getElem hi)
    simp only [idx, this]

theorem ct51 (f : Value) (p : Int → Bool) (ms : List Int) (a : Option Addr) (n c : Nat) (I : Mem) (h : SlM I a n 1 (ints .u8 ms))
    (hf : ∀ (m : Int) (I' : Mem), Ct Try.prog f #[.int .u8 m] I' fun v _ => v = .bool (p m)) :
    Ct Try.prog (fnv 51) #[.slice a n c, f] I (fun v _ => v = .bool (ms.any p)) := by
  refine viaR (ct_via (A := {}) Try.func51 rfl Try.call51 rfl rfl) (Ct Try.prog (Value.func (Fn.func (60 : Nat)) #[] #[]) #[Value.slice a n c, f] I fun (v : Value) (I' : Mem) => ∃ (n : Int), v = Value.int IntKind.i64 n ∧ Value.bool (decide ((0 : Int) ≤ n)) = Value.bool (List.any ms p)) (by kernel_rfl) ?_
  refine (ct60 f p ms a n c I h hf).mono fun v I' hle hv => ⟨_, hv, ?_⟩
  congr 1
  unfold idx
  cases hx : ms.findIdx? p with
  | none =>
    have : ms.any p = false := by
      rw [List.findIdx?_eq_none_iff] at hx
      simpa using hx
    simp [this]
  | some i =>
    rw [List.findIdx?_eq_some_iff_getElem] at hx
    obtain ⟨hl, hg, _⟩ := hx
    have : ms.any p = true := List.any_eq_true.2 ⟨_, List.getElem_mem hl, hg⟩
    simp [this]

/-- All of them are masks. -/
def okM (ms : List Int) : Bool := !ms.any fun m => decide (15 < m)
theorem ct32 (ms : List Int) (a : Option Addr) (n c : Nat) (I : Mem) (h : SlM I a n 1 (ints .u8 ms)) :
    Ct Try.prog (fnv 32) #[.slice a n c] I (fun v _ => v = .bool (okM ms)) := by
  refine viaR (ct_via (A := {}) Try.func32 rfl Try.call32 rfl rfl) (Ct Try.prog (Value.func (Fn.func (51 : Nat)) #[] #[]) #[Value.slice a n c, Value.func (Fn.func (52 : Nat)) #[] #[]] I fun (v : Value) (I' : Mem) => ∃ (b : Bool), v = Value.bool b ∧ (Value.bool !b) = Value.bool (okM ms)) (by kernel_rfl) ?_
  refine (ct51 _ _ ms a n c I h ct52).mono fun v I' hle hv => ⟨_, hv, ?_⟩
  rfl
theorem ct33 (m : Int) (ms : List Int) (a : Option Addr) (n c : Nat) (I : Mem) (h : SlM I a n 1 (ints .u8 ms)) :
    Ct Try.prog (fnv 33) #[.int .u8 m, .slice a n c] I (fun v _ => v = .tuple #[.int .u8 (if okM ms then m else 0), .int .i64 (if okM ms then 0 else 220)]) := by
  refine viaR (ct_via (A := {}) Try.func33 rfl Try.call33 rfl rfl) (Ct Try.prog (Value.func (Fn.func (32 : Nat)) #[] #[]) #[Value.slice a n c] I fun (v : Value) (I' : Mem) => ∃ (b : Bool), v = Value.bool b ∧ Br (!b) (Value.tuple #[Value.int IntKind.u8 (0 : Int), Value.int IntKind.i64 (220 : Int)] = Value.tuple #[Value.int IntKind.u8 (if okM ms = true then m else (0 : Int)), Value.int IntKind.i64 (if okM ms = true then (0 : Int) else (220 : Int))]) (Value.tuple #[Value.int IntKind.u8 m, Value.int IntKind.i64 (0 : Int)] = Value.tuple #[Value.int IntKind.u8 (if okM ms = true then m else (0 : Int)), Value.int IntKind.i64 (if okM ms = true then (0 : Int) else (220 : Int))])) (by kernel_rfl) ?_
  refine (ct32 ms a n c I h).mono fun v I' hle hv => ⟨_, hv, ?_⟩
  cases okM ms
  · rfl
  · rfl
theorem ct16 (m o : Int) (I : Mem) :
    Ct Try.prog (fnv 16) #[.int .u8 m, .int .u8 o] I (fun v _ => v = .bool (okM [m, o] && bitsV .andNot .u8 m o == 0)) := by
  refine viaR (ct_via (A := {}) Try.func16 rfl Try.call16 rfl rfl) (∀ (b : Nat) (I' : Mem), Mem.le I I' → I' b = some (Obj.cells #[Value.int IntKind.u8 m, Value.int IntKind.u8 o] (26 : Nat)) → Ct Try.prog (Value.func (Fn.func (32 : Nat)) #[] #[]) #[Value.slice (some (Addr.mk b (0 : Nat) none)) (2 : Nat) (2 : Nat)] I' fun (v : Value) (I' : Mem) => ∃ (b : Bool), v = Value.bool b ∧ Br b (Value.bool (bitsV BinOp.andNot IntKind.u8 m o == (0 : Int)) = Value.bool (okM [m, o] && bitsV BinOp.andNot IntKind.u8 m o == (0 : Int))) (Value.bool false = Value.bool (okM [m, o] && bitsV BinOp.andNot IntKind.u8 m o == (0 : Int)))) (by kernel_rfl) ?_
  intro b I' hI hb
  refine (ct32 [m, o] _ _ _ _ (sl_cells (n := 2) (sz := 1) hb rfl (by decide))).mono fun v I2 hle hv => ⟨_, hv, ?_⟩
  cases okM [m, o]
  · rfl
  · rfl
theorem ct27 (m : Int) (I : Mem) : Ct Try.prog (fnv 27) #[.int .u8 m] I (fun v _ => v = .bool (okM [m])) := by
  refine viaR (ct_via (A := {}) Try.func27 rfl Try.call27 rfl rfl) (∀ (b : Nat) (I' : Mem), Mem.le I I' → I' b = some (Obj.cells #[Value.int IntKind.u8 m] (26 : Nat)) → Ct Try.prog (Value.func (Fn.func (32 : Nat)) #[] #[]) #[Value.slice (some (Addr.mk b (0 : Nat) none)) (1 : Nat) (1 : Nat)] I' fun (v : Value) (I' : Mem) => ∃ (b : Bool), v = Value.bool b ∧ Value.bool b = Value.bool (okM [m])) (by kernel_rfl) ?_
  intro b I' hI hb
  exact (ct32 [m] _ _ _ _ (sl_cells (n := 1) (sz := 1) hb rfl (by decide))).mono fun v I2 hle hv => ⟨_, hv, rfl⟩
/-- What Hand tells. -/
def handV (m o : Int) : Int := if okM [m, o] then (if bitsV .and .u8 m 4 == 0 || !(bitsV .andNot .u8 o m == 0) then 221 else 0) else 220
theorem okM_comm (m o : Int) : okM [o, m] = okM [m, o] := by simp [okM, Bool.and_comm]
theorem ct15 (m o : Int) (I : Mem) : Ct Try.prog (fnv 15) #[.int .u8 m, .int .u8 o] I (fun v _ => v = .int .i64 (handV m o)) := by
  refine viaR (ct_via (A := {}) Try.func15 rfl Try.call15 rfl rfl) (∀ (b : Nat) (I' : Mem), Mem.le I I' → I' b = some (Obj.cells #[Value.int IntKind.u8 m, Value.int IntKind.u8 o] (26 : Nat)) → Ct Try.prog (Value.func (Fn.func (32 : Nat)) #[] #[]) #[Value.slice (some (Addr.mk b (0 : Nat) none)) (2 : Nat) (2 : Nat)] I' fun (v : Value) (I' : Mem) => ∃ (b : Bool), v = Value.bool b ∧ Br (!b) (Value.int IntKind.i64 (220 : Int) = Value.int IntKind.i64 (handV m o)) (Br (bitsV BinOp.and IntKind.u8 m (4 : Int) == (0 : Int)) (Value.int IntKind.i64 (221 : Int) = Value.int IntKind.i64 (handV m o)) (Ct Try.prog (Value.func (Fn.func (16 : Nat)) #[] #[]) #[Value.int IntKind.u8 o, Value.int IntKind.u8 m] I' fun (v : Value) (I' : Mem) => ∃ (b : Bool), v = Value.bool b ∧ Br (!b) (Value.int IntKind.i64 (221 : Int) = Value.int IntKind.i64 (handV m o)) (Value.int IntKind.i64 (0 : Int) = Value.int IntKind.i64 (handV m o))))) (by kernel_rfl) ?_
  intro b I' hI hb
  refine (ct32 [m, o] _ _ _ _ (sl_cells (n := 2) (sz := 1) hb rfl (by decide))).mono fun v I2 hle hv => ⟨_, hv, Br.mk (fun h => ?_) (fun h => Br.mk (fun h1 => ?_) (fun h1 => (ct16 o m I2).mono fun v I3 hle hv => ⟨_, hv, Br.mk (fun h2 => ?_) (fun h2 => ?_)⟩))⟩
  · rw [Bool.not_eq_true'] at h
    simp [handV, h]
  · rw [Bool.not_eq_false'] at h
    simp [handV, h, h1]
  · rw [Bool.not_eq_false'] at h
    rw [okM_comm, h] at h2
    simp only [Bool.true_and, Bool.not_eq_true'] at h2
    simp [handV, h, h2]
  · rw [Bool.not_eq_false'] at h
    rw [okM_comm, h] at h2
    simp only [Bool.true_and, Bool.not_eq_false'] at h2
    simp [handV, h, h2, h1]
def mkT (op : BinOp) (m o : Int) : Value := .tuple #[.int .u8 (if okM [m, o] then bitsV op .u8 m o else 0), .int .i64 (if okM [m, o] then 0 else 220)]
theorem ct20 (m o : Int) (I : Mem) : Ct Try.prog (fnv 20) #[.int .u8 m, .int .u8 o] I (fun v _ => v = mkT .and m o) := by
  refine viaR (ct_via (A := {}) Try.func20 rfl Try.call20 rfl rfl) (∀ (b : Nat) (I' : Mem), Mem.le I I' → I' b = some (Obj.cells #[Value.int IntKind.u8 m, Value.int IntKind.u8 o] (26 : Nat)) → Ct Try.prog (Value.func (Fn.func (33 : Nat)) #[] #[]) #[Value.int IntKind.u8 (bitsV BinOp.and IntKind.u8 m o), Value.slice (some (Addr.mk b (0 : Nat) none)) (2 : Nat) (2 : Nat)] I' fun (v : Value) (I' : Mem) => ∃ (n : Int), ∃ (n_1 : Int), v = Value.tuple #[Value.int IntKind.u8 n, Value.int IntKind.i64 n_1] ∧ Value.tuple #[Value.int IntKind.u8 n, Value.int IntKind.i64 n_1] = Value.tuple #[Value.int IntKind.u8 (if okM [m, o] = true then bitsV BinOp.and IntKind.u8 m o else (0 : Int)), Value.int IntKind.i64 (if okM [m, o] = true then (0 : Int) else (220 : Int))]) (by kernel_rfl) ?_
  intro b I' hI hb
  exact (ct33 _ [m, o] _ _ _ _ (sl_cells (n := 2) (sz := 1) hb rfl (by decide))).mono fun v I2 hle hv => ⟨_, _, hv, rfl⟩
theorem ct21 (m o : Int) (I : Mem) : Ct Try.prog (fnv 21) #[.int .u8 m, .int .u8 o] I (fun v _ => v = mkT .or m o) := by
  refine viaR (ct_via (A := {}) Try.func21 rfl Try.call21 rfl rfl) (∀ (b : Nat) (I' : Mem), Mem.le I I' → I' b = some (Obj.cells #[Value.int IntKind.u8 m, Value.int IntKind.u8 o] (26 : Nat)) → Ct Try.prog (Value.func (Fn.func (33 : Nat)) #[] #[]) #[Value.int IntKind.u8 (bitsV BinOp.or IntKind.u8 m o), Value.slice (some (Addr.mk b (0 : Nat) none)) (2 : Nat) (2 : Nat)] I' fun (v : Value) (I' : Mem) => ∃ (n : Int), ∃ (n_1 : Int), v = Value.tuple #[Value.int IntKind.u8 n, Value.int IntKind.i64 n_1] ∧ Value.tuple #[Value.int IntKind.u8 n, Value.int IntKind.i64 n_1] = Value.tuple #[Value.int IntKind.u8 (if okM [m, o] = true then bitsV BinOp.or IntKind.u8 m o else (0 : Int)), Value.int IntKind.i64 (if okM [m, o] = true then (0 : Int) else (220 : Int))]) (by kernel_rfl) ?_
  intro b I' hI hb
  exact (ct33 _ [m, o] _ _ _ _ (sl_cells (n := 2) (sz := 1) hb rfl (by decide))).mono fun v I2 hle hv => ⟨_, _, hv, rfl⟩
theorem ct22 (m o : Int) (I : Mem) : Ct Try.prog (fnv 22) #[.int .u8 m, .int .u8 o] I (fun v _ => v = mkT .andNot m o) := by
  refine viaR (ct_via (A := {}) Try.func22 rfl Try.call22 rfl rfl) (∀ (b : Nat) (I' : Mem), Mem.le I I' → I' b = some (Obj.cells #[Value.int IntKind.u8 m, Value.int IntKind.u8 o] (26 : Nat)) → Ct Try.prog (Value.func (Fn.func (33 : Nat)) #[] #[]) #[Value.int IntKind.u8 (bitsV BinOp.andNot IntKind.u8 m o), Value.slice (some (Addr.mk b (0 : Nat) none)) (2 : Nat) (2 : Nat)] I' fun (v : Value) (I' : Mem) => ∃ (n : Int), ∃ (n_1 : Int), v = Value.tuple #[Value.int IntKind.u8 n, Value.int IntKind.i64 n_1] ∧ Value.tuple #[Value.int IntKind.u8 n, Value.int IntKind.i64 n_1] = Value.tuple #[Value.int IntKind.u8 (if okM [m, o] = true then bitsV BinOp.andNot IntKind.u8 m o else (0 : Int)), Value.int IntKind.i64 (if okM [m, o] = true then (0 : Int) else (220 : Int))]) (by kernel_rfl) ?_
  intro b I' hI hb
  exact (ct33 _ [m, o] _ _ _ _ (sl_cells (n := 2) (sz := 1) hb rfl (by decide))).mono fun v I2 hle hv => ⟨_, _, hv, rfl⟩
theorem ct19 (m : Int) (I : Mem) : Ct Try.prog (fnv 19) #[.int .u8 m] I (fun v _ => v = .tuple #[.int .u8 (if okM [m] then bitsV .andNot .u8 15 m else 0), .int .i64 (if okM [m] then 0 else 220)]) := by
  refine viaR (ct_via (A := {}) Try.func19 rfl Try.call19 rfl rfl) (∀ (b : Nat) (I' : Mem), Mem.le I I' → I' b = some (Obj.cells #[Value.int IntKind.u8 m] (26 : Nat)) → Ct Try.prog (Value.func (Fn.func (33 : Nat)) #[] #[]) #[Value.int IntKind.u8 (bitsV BinOp.andNot IntKind.u8 (15 : Int) m), Value.slice (some (Addr.mk b (0 : Nat) none)) (1 : Nat) (1 : Nat)] I' fun (v : Value) (I' : Mem) => ∃ (n : Int), ∃ (n_1 : Int), v = Value.tuple #[Value.int IntKind.u8 n, Value.int IntKind.i64 n_1] ∧ Value.tuple #[Value.int IntKind.u8 n, Value.int IntKind.i64 n_1] = Value.tuple #[Value.int IntKind.u8 (if okM [m] = true then bitsV BinOp.andNot IntKind.u8 (15 : Int) m else (0 : Int)), Value.int IntKind.i64 (if okM [m] = true then (0 : Int) else (220 : Int))]) (by kernel_rfl) ?_
  intro b I' hI hb
  exact (ct33 _ [m] _ _ _ _ (sl_cells (n := 1) (sz := 1) hb rfl (by decide))).mono fun v I2 hle hv => ⟨_, _, hv, rfl⟩
theorem ct18 (m : Int) (I : Mem) : Ct Try.prog (fnv 18) #[.int .u8 m] I (fun v _ => v = .int .u8 (if okM [m] then bitsV .andNot .u8 15 m else 99)) := by
  refine viaR (ct_via (A := {}) Try.func18 rfl Try.call18 rfl rfl) (Ct Try.prog (Value.func (Fn.func (19 : Nat)) #[] #[]) #[Value.int IntKind.u8 m] I fun (v : Value) (I' : Mem) => ∃ (n : Int), ∃ (n_1 : Int), v = Value.tuple #[Value.int IntKind.u8 n, Value.int IntKind.i64 n_1] ∧ Br (n_1 != (0 : Int)) (Value.int IntKind.u8 (99 : Int) = Value.int IntKind.u8 (if okM [m] = true then bitsV BinOp.andNot IntKind.u8 (15 : Int) m else (99 : Int))) (Value.int IntKind.u8 n = Value.int IntKind.u8 (if okM [m] = true then bitsV BinOp.andNot IntKind.u8 (15 : Int) m else (99 : Int)))) (by kernel_rfl) ?_
  refine (ct19 m I).mono fun v I2 hle hv => ⟨_, _, hv, ?_⟩
  cases okM [m]
  · rfl
  · rfl
/-- What they all have. -/
def mostV (ms : List Int) : Int := ms.foldl (bitsV .and .u8) 15
theorem take_succ' {α : Type} {l : List α} {j : Nat} {x : α} (h : l[j]? = some x) : l.take (j + 1) = l.take j ++ [x] := by
  rw [List.take_add_one, h]; rfl
theorem ct17 (ms : List Int) (a : Option Addr) (n c : Nat) (I : Mem) (h : SlM I a n 1 (ints .u8 ms)) :
    Ct Try.prog (fnv 17) #[.slice a n c] I (fun v _ => v = .tuple #[.int .u8 (if okM ms then mostV ms else 0), .int .i64 (if okM ms then 0 else 220)]) := by
  refine viaR (ct_via (A := { loops := [(3, ⟨[(0, .keep), (4, .sh (.int .u8)), (7, .keep), (8, .keep), (9, .sh (.int .i64))], [], [], fun vals _ _ _ => match vals with
    | [.int .u8 v4, .int .i64 j] => 0 ≤ j ∧ j ≤ n ∧ v4 = mostV (ms.take j.toNat) | _ => False, fun vals _ => match vals with | [_, .int .i64 j] => (n - j).toNat | _ => 0⟩)] }) Try.func17 rfl Try.call17 rfl rfl) ((SV.v (Value.slice a n c) = SV.v (Value.slice a n c) ∧ SV.v (Value.slice a n c) = SV.v (Value.slice a n c) ∧ SV.v (Value.int IntKind.i64 (↑n : Int)) = SV.v (Value.int IntKind.i64 (↑n : Int)) ∧ (0 : Int) ≤ (0 : Int) ∧ (0 : Int) ≤ (↑n : Int) ∧ (15 : Int) = (15 : Int)) ∧ ∀ (I' G' : Mem), Mem.le I I' → ∀ (n_1 n_2 : Int), (0 : Int) ≤ n_2 ∧ n_2 ≤ (↑n : Int) ∧ n_1 = mostV (List.take (Int.toNat n_2) ms) → Br (decide (n_2 < (↑n : Int))) ((0 : Int) ≤ n_2 ∧ n_2 < (↑n : Int) ∧ Option.isSome a = true ∧ ∃ (n_3 : Int), atI I' a (Int.toNat n_2 * (1 : Nat) + (0 : Nat)) = some (Value.int IntKind.u8 n_3) ∧ Wr IntKind.i64 (n_2 + (1 : Int)) fun (c_1 : Int) => SV.v (Value.slice a n c) = SV.v (Value.slice a n c) ∧ SV.v (Value.slice a n c) = SV.v (Value.slice a n c) ∧ SV.v (Value.int IntKind.i64 (↑n : Int)) = SV.v (Value.int IntKind.i64 (↑n : Int)) ∧ ((0 : Int) ≤ c_1 ∧ c_1 ≤ (↑n : Int) ∧ bitsV BinOp.and IntKind.u8 n_1 n_3 = mostV (List.take (Int.toNat c_1) ms)) ∧ Int.toNat ((↑n : Int) - c_1) < Int.toNat ((↑n : Int) - n_2)) (Ct Try.prog (Value.func (Fn.func (33 : Nat)) #[] #[]) #[Value.int IntKind.u8 n_1, Value.slice a n c] I' fun (v : Value) (I' : Mem) => ∃ (n : Int), ∃ (n_3 : Int), v = Value.tuple #[Value.int IntKind.u8 n, Value.int IntKind.i64 n_3] ∧ Value.tuple #[Value.int IntKind.u8 n, Value.int IntKind.i64 n_3] = Value.tuple #[Value.int IntKind.u8 (if okM ms = true then mostV ms else (0 : Int)), Value.int IntKind.i64 (if okM ms = true then (0 : Int) else (220 : Int))])) (by kernel_rfl) ?_
  have hn := h.numLen
  have hmax := h.max
  simp only [maxLen] at hmax
  refine ⟨⟨rfl, rfl, rfl, by omega, by omega, rfl⟩, fun I' _ hI v4 j ⟨h0, h1, h2⟩ => Br.mk (fun hlt => ?_) (fun hge => ?_)⟩
  · have hlt := of_decide_eq_true hlt
    obtain ⟨x, hx, hat⟩ := (h.mono hI).intAt h0 hlt
    refine ⟨h0, hlt, h.isSome (by omega), x, hat, wr_i64 (by omega) (by omega) ⟨rfl, rfl, rfl, ⟨by omega, by omega, ?_⟩, by omega⟩⟩
    rw [show (j + 1).toNat = j.toNat + 1 by omega, take_succ' hx, h2]
    simp [mostV]
  · have hge := of_decide_eq_false hge
    refine (ct33 _ ms _ _ _ _ (h.mono hI)).mono fun v I2 hle hv => ⟨_, _, hv, ?_⟩
    rw [h2, List.take_of_length_le (by omega)]
/-- Where a chain does not hold, and why. -/
def handsV : List Int → Option (Nat × Int)
  | a :: b :: r => if handV a b ≠ 0 then some (0, handV a b) else (handsV (b :: r)).map fun p => (p.1 + 1, p.2)
  | _ => none
theorem handsV_some : ∀ {ms : List Int} {k : Nat} {x y : Int}, True → ms[k]? = some x → ms[k + 1]? = some y → handV x y ≠ 0 →
    (∀ (i : Nat) (x y : Int), i < k → ms[i]? = some x → ms[i + 1]? = some y → handV x y = 0) → handsV ms = some (k, handV x y)
  | [], k, x, y, _, hx, _, _, _ => by simp at hx
  | [a], k, x, y, _, hx, hy, _, _ => by simp at hy
  | a :: b :: r, 0, x, y, _, hx, hy, he, _ => by
    simp at hx hy
    subst hx; subst hy
    simp [handsV, he]
  | a :: b :: r, k + 1, x, y, _, hx, hy, he, hs => by
    have h0 := hs 0 a b (by omega) (by simp) (by simp)
    have ih := handsV_some (ms := b :: r) (k := k) trivial (by simpa using hx) (by simpa using hy) he fun i x y hi hx hy => hs (i + 1) x y (by omega) (by simpa using hx) (by simpa using hy)
    simp [handsV, h0, ih]
theorem handsV_none : ∀ {ms : List Int}, (∀ (i : Nat) (x y : Int), ms[i]? = some x → ms[i + 1]? = some y → handV x y = 0) → handsV ms = none
  | [], _ => rfl
  | [a], _ => rfl
  | a :: b :: r, hs => by
    have h0 := hs 0 a b (by simp) (by simp)
    have ih := handsV_none (ms := b :: r) fun i x y hx hy => hs (i + 1) x y (by simpa using hx) (by simpa using hy)
    simp [handsV, h0, ih]
def chainV (ms : List Int) : Int × Int :=
  match ms.findIdx? fun m => !okM [m] with
  | some i => ((i : Int), 220)
  | none => match handsV ms with
    | some (i, e) => ((i : Int) + 1, e)
    | none => (-1, 0)
theorem ct14 (ms : List Int) (a : Option Addr) (n c : Nat) (I : Mem) (h : SlM I a n 1 (ints .u8 ms)) :
    Ct Try.prog (fnv 14) #[.slice a n c] I (fun v _ => v = .tuple #[.int .i64 (chainV ms).1, .int .i64 (chainV ms).2]) := by
  refine viaR (ct_via (A := { loops := [(2, ⟨[(0, .keep), (8, .keep), (9, .keep), (10, .sh (.int .i64))], [], [], fun vals _ _ _ => match vals with
    | [.int .i64 j] => 0 ≤ j ∧ j ≤ n ∧ ∀ (i : Nat) (x : Int), (i : Int) < j → ms[i]? = some x → okM [x] = true | _ => False, fun vals _ => match vals with | [.int .i64 j] => (n - j).toNat | _ => 0⟩),
    (8, ⟨[(0, .keep), (6, .sh (.int .i64))], [], [], fun vals _ _ _ => match vals with
    | [.int .i64 j] => 1 ≤ j ∧ (j = 1 ∨ j ≤ n) ∧ ∀ (i : Nat) (x y : Int), (i : Int) + 1 < j → ms[i]? = some x → ms[i + 1]? = some y → handV x y = 0 | _ => False, fun vals _ => match vals with | [.int .i64 j] => (n - j).toNat | _ => 0⟩)] }) Try.func14 rfl Try.call14 rfl rfl) ((SV.v (Value.slice a n c) = SV.v (Value.slice a n c) ∧ SV.v (Value.slice a n c) = SV.v (Value.slice a n c) ∧ SV.v (Value.int IntKind.i64 (↑n : Int)) = SV.v (Value.int IntKind.i64 (↑n : Int)) ∧ (0 : Int) ≤ (0 : Int) ∧ (0 : Int) ≤ (↑n : Int) ∧ ∀ (i : Nat) (x : Int), (↑i : Int) < (0 : Int) → ms[i]? = some x → okM [x] = true) ∧ ∀ (I' G' : Mem), Mem.le I I' → ∀ (n_1 : Int), ((0 : Int) ≤ n_1 ∧ n_1 ≤ (↑n : Int) ∧ ∀ (i : Nat) (x : Int), (↑i : Int) < n_1 → ms[i]? = some x → okM [x] = true) → Br (decide (n_1 < (↑n : Int))) ((0 : Int) ≤ n_1 ∧ n_1 < (↑n : Int) ∧ Option.isSome a = true ∧ ∃ (n_2 : Int), atI I' a (Int.toNat n_1 * (1 : Nat) + (0 : Nat)) = some (Value.int IntKind.u8 n_2) ∧ ∀ (b : Nat) (I'_1 : Mem), Mem.le I' I'_1 → I'_1 b = some (Obj.cells #[Value.int IntKind.u8 n_2] (26 : Nat)) → Ct Try.prog (Value.func (Fn.func (32 : Nat)) #[] #[]) #[Value.slice (some (Addr.mk b (0 : Nat) none)) (1 : Nat) (1 : Nat)] I'_1 fun (v : Value) (I' : Mem) => ∃ (b : Bool), v = Value.bool b ∧ Br (!b) (Value.tuple #[Value.int IntKind.i64 n_1, Value.int IntKind.i64 (220 : Int)] = Value.tuple #[Value.int IntKind.i64 (Prod.fst (chainV ms)), Value.int IntKind.i64 (Prod.snd (chainV ms))]) (Wr IntKind.i64 (n_1 + (1 : Int)) fun (c_1 : Int) => SV.v (Value.slice a n c) = SV.v (Value.slice a n c) ∧ SV.v (Value.slice a n c) = SV.v (Value.slice a n c) ∧ SV.v (Value.int IntKind.i64 (↑n : Int)) = SV.v (Value.int IntKind.i64 (↑n : Int)) ∧ ((0 : Int) ≤ c_1 ∧ c_1 ≤ (↑n : Int) ∧ ∀ (i : Nat) (x : Int), (↑i : Int) < c_1 → ms[i]? = some x → okM [x] = true) ∧ Int.toNat ((↑n : Int) - c_1) < Int.toNat ((↑n : Int) - n_1))) ((SV.v (Value.slice a n c) = SV.v (Value.slice a n c) ∧ (1 : Int) ≤ (1 : Int) ∧ ((1 : Int) = (1 : Int) ∨ (1 : Int) ≤ (↑n : Int)) ∧ ∀ (i : Nat) (x y : Int), (↑i : Int) + (1 : Int) < (1 : Int) → ms[i]? = some x → ms[i + (1 : Nat)]? = some y → handV x y = (0 : Int)) ∧ ∀ (I'_1 G' : Mem), Mem.le I' I'_1 → ∀ (n_2 : Int), ((1 : Int) ≤ n_2 ∧ (n_2 = (1 : Int) ∨ n_2 ≤ (↑n : Int)) ∧ ∀ (i : Nat) (x y : Int), (↑i : Int) + (1 : Int) < n_2 → ms[i]? = some x → ms[i + (1 : Nat)]? = some y → handV x y = (0 : Int)) → Br (decide (n_2 < (↑n : Int))) (Wr IntKind.i64 (n_2 - (1 : Int)) fun (c_1 : Int) => (0 : Int) ≤ c_1 ∧ c_1 < (↑n : Int) ∧ Option.isSome a = true ∧ ∃ (n_3 : Int), atI I'_1 a (Int.toNat c_1 * (1 : Nat) + (0 : Nat)) = some (Value.int IntKind.u8 n_3) ∧ (0 : Int) ≤ n_2 ∧ n_2 < (↑n : Int) ∧ Option.isSome a = true ∧ ∃ (n_4 : Int), atI I'_1 a (Int.toNat n_2 * (1 : Nat) + (0 : Nat)) = some (Value.int IntKind.u8 n_4) ∧ Ct Try.prog (Value.func (Fn.func (15 : Nat)) #[] #[]) #[Value.int IntKind.u8 n_3, Value.int IntKind.u8 n_4] I'_1 fun (v : Value) (I' : Mem) => ∃ (n_5 : Int), v = Value.int IntKind.i64 n_5 ∧ Br (n_5 != (0 : Int)) (Value.tuple #[Value.int IntKind.i64 n_2, Value.int IntKind.i64 n_5] = Value.tuple #[Value.int IntKind.i64 (Prod.fst (chainV ms)), Value.int IntKind.i64 (Prod.snd (chainV ms))]) (Wr IntKind.i64 (n_2 + (1 : Int)) fun (c_2 : Int) => SV.v (Value.slice a n c) = SV.v (Value.slice a n c) ∧ ((1 : Int) ≤ c_2 ∧ (c_2 = (1 : Int) ∨ c_2 ≤ (↑n : Int)) ∧ ∀ (i : Nat) (x y : Int), (↑i : Int) + (1 : Int) < c_2 → ms[i]? = some x → ms[i + (1 : Nat)]? = some y → handV x y = (0 : Int)) ∧ Int.toNat ((↑n : Int) - c_2) < Int.toNat ((↑n : Int) - n_2))) (Value.tuple #[Value.int IntKind.i64 (-1 : Int), Value.int IntKind.i64 (0 : Int)] = Value.tuple #[Value.int IntKind.i64 (Prod.fst (chainV ms)), Value.int IntKind.i64 (Prod.snd (chainV ms))]))) (by kernel_rfl) ?_
  have hn := h.numLen
  have hmax := h.max
  simp only [maxLen] at hmax
  refine ⟨⟨rfl, rfl, rfl, by omega, by omega, fun i x hi => by omega⟩, fun I1 _ hI1 j ⟨h0, h1, h2⟩ => Br.mk (fun hlt => ?_) (fun hge => ?_)⟩
  · have hlt := of_decide_eq_true hlt
    obtain ⟨x, hx, hat⟩ := (h.mono hI1).intAt h0 hlt
    refine ⟨h0, hlt, h.isSome (by omega), x, hat, fun b I2 hI2 hb => (ct32 [x] _ _ _ _ (sl_cells (n := 1) (sz := 1) hb rfl (by decide))).mono fun v I2 hle hv => ⟨_, hv, Br.mk (fun hp => ?_) (fun hp => wr_i64 (by omega) (by omega) ⟨rfl, rfl, rfl, ⟨by omega, by omega, fun i y hi hy => ?_⟩, by omega⟩)⟩⟩
    · have hf : ms.findIdx? (fun m => !okM [m]) = some j.toNat := by
        rw [List.findIdx?_eq_some_iff_getElem]
        obtain ⟨hl, hg⟩ := List.getElem?_eq_some_iff.1 hx
        exact ⟨hl, hg ▸ hp, fun i hi => by rw [h2 i _ (by omega) (List.getElem?_eq_getElem (by omega))]; simp⟩
      simp only [chainV, hf]
      congr 4; omega
    · by_cases hij : (i : Int) < j
      · exact h2 i y hij hy
      · have : i = j.toNat := by omega
        subst this
        rw [hx] at hy
        cases hy
        simpa using hp
  · have hge := of_decide_eq_false hge
    have hf : ms.findIdx? (fun m => !okM [m]) = none := by
      rw [List.findIdx?_eq_none_iff]
      intro x hx
      obtain ⟨i, hi, rfl⟩ := List.mem_iff_getElem.1 hx
      rw [h2 i _ (by omega) (List.getElem?_eq_getElem hi)]; rfl
    refine ⟨⟨rfl, by omega, .inl rfl, fun i x y hi => by omega⟩, fun I2 _ hI2 j ⟨k0, k1, k2⟩ => Br.mk (fun hlt => ?_) (fun hge => ?_)⟩
    · have hlt := of_decide_eq_true hlt
      have hS := h.mono (Mem.le_trans hI1 hI2)
      obtain ⟨x, hx, hat⟩ := hS.intAt (i := j - 1) (by omega) (by omega)
      obtain ⟨y, hy, hat'⟩ := hS.intAt (i := j) (by omega) (by omega)
      refine wr_i64 (by omega) (by omega) ⟨by omega, by omega, h.isSome (by omega), x, hat, by omega, hlt, h.isSome (by omega), y, hat', (ct15 x y I2).mono fun v I3 hle hv => ⟨_, hv, Br.mk (fun he => ?_) (fun he => wr_i64 (by omega) (by omega) ⟨rfl, ⟨by omega, by omega, fun i x' y' hi hx' hy' => ?_⟩, by omega⟩)⟩⟩
      · have he : handV x y ≠ 0 := by simpa using he
        have hh : handsV ms = some ((j - 1).toNat, handV x y) := by
          refine handsV_some trivial hx (by rw [show (j-1).toNat + 1 = j.toNat by omega]; exact hy) he fun i x' y' hi hx' hy' => k2 i x' y' (by omega) hx' hy'
        simp only [chainV, hf, hh]
        congr 4; omega
      · by_cases hij : (i : Int) + 1 < j
        · exact k2 i x' y' hij hx' hy'
        · have : i = (j - 1).toNat := by omega
          subst this
          rw [hx] at hx'
          rw [show (j-1).toNat + 1 = j.toNat by omega, hy] at hy'
          cases hx'; cases hy'
          simpa using he
    · have hge := of_decide_eq_false hge
      have hh : handsV ms = none := handsV_none fun i x y hx hy => k2 i x y (by have := (List.getElem?_eq_some_iff.1 hy).1; omega) hx hy
      simp only [chainV, hf, hh]
