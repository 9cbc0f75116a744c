/- Part of a proof by the rules of the symbolic walk (see the law's own text): contracts of functions of the program. -/
import Derived.Test.YtglkgdkdcmilcaaRa1
import Derived.Test.YtglkgdkdcmilcaaSe19
import Derived.Test.YtglkgdkdcmilcaaShelf
open Go Go.Proofs Go.SE Go.RowKit

theorem ct45 (I : Mem) : Ct Try.prog (fnv 45) #[] I (fun v _ => v = .agg #[.string "send".toUTF8, .string "look".toUTF8, .string "grant".toUTF8, .string "cut".toUTF8]) := by
  refine viaR (ct_via (A := {}) Try.func45 rfl Try.call45 rfl rfl) (Value.agg #[Value.string (ByteArray.mk #[(115 : UInt8), (101 : UInt8), (110 : UInt8), (100 : UInt8)]), Value.string (ByteArray.mk #[(108 : UInt8), (111 : UInt8), (111 : UInt8), (107 : UInt8)]), Value.string (ByteArray.mk #[(103 : UInt8), (114 : UInt8), (97 : UInt8), (110 : UInt8), (116 : UInt8)]), Value.string (ByteArray.mk #[(99 : UInt8), (117 : UInt8), (116 : UInt8)])] = Value.agg #[Value.string (String.toUTF8 "send"), Value.string (String.toUTF8 "look"), Value.string (String.toUTF8 "grant"), Value.string (String.toUTF8 "cut")]) (by kernel_rfl) ?_
  rfl

def bitAt (m : Int) (i : Nat) : Bool := bitsV .and .u8 (m.fdiv (2 ^ min i 8)) 1 == 1
def bitsL (m : Int) : List Nat := (List.range 4).filter (bitAt m)
def cntB (m : Int) (j : Nat) : Nat := ((List.range j).filter (bitAt m)).length
theorem cntB_succ (m : Int) (j : Nat) : cntB m (j + 1) = cntB m j + (if bitAt m j then 1 else 0) := by
  simp only [cntB, List.range_succ, List.filter_append, List.length_append, List.filter_cons, List.filter_nil]
  cases bitAt m j <;> rfl
theorem cntB_at {m : Int} {j n : Nat} (h : j < n) (hb : bitAt m j = true) : ((List.range n).filter (bitAt m))[cntB m j]? = some j := by
  obtain ⟨r, rfl⟩ : ∃ r, n = (j + 1) + r := ⟨n - (j + 1), by omega⟩
  rw [List.range_add, List.range_succ, List.filter_append, List.filter_append, List.filter_cons, List.filter_nil, if_pos hb, List.append_assoc,
    List.getElem?_append_right (by simp [cntB])]
  simp [cntB]

theorem gives54 (b : Nat) (m : Int) (I : Mem) (hb : I b = some (.cells #[.int .u8 m] 26)) :
    Gives Try.prog (.func (.func 54) #[] #[.pointer (some ⟨b, 0, none⟩)]) I (bitsL m).length (fun k args _ => ∃ i, (bitsL m)[k]? = some i ∧ args = #[.int .i64 i]) := by
  refine ⟨fun Y W => ⟨54, _, run_semV_func.trans (Try.call54 _ _)⟩, fun Y J D I0 G0 hI0 hJ0 hJ hD hY => ?_⟩
  refine viaR (ctG_via (A := { loops := [(1, ⟨[(0, .keep), (1, .keep), (5, .keep), (6, .sh (.int .i64))], [], [], fun vals _ I' G' => match vals with
    | [.int .i64 j] => 0 ≤ j ∧ j ≤ 4 ∧ J (cntB m j.toNat) I' G' | _ => False, fun vals _ => match vals with | [.int .i64 j] => (4 - j).toNat | _ => 0⟩)], calls := [(17, .g)] }) Try.func54 rfl Try.call54 rfl rfl) (Ct Try.prog (Value.func (Fn.func (45 : Nat)) #[] #[]) #[] I0 fun (v : Value) (I' : Mem) => ∃ (q : ByteArray), ∃ (q_1 : ByteArray), ∃ (q_2 : ByteArray), ∃ (q_3 : ByteArray), v = Value.agg #[Value.string q, Value.string q_1, Value.string q_2, Value.string q_3] ∧ (SV.v Y = SV.v Y ∧ SV.v (Value.pointer (some (Addr.mk b (0 : Nat) none))) = SV.v (Value.pointer (some (Addr.mk b (0 : Nat) none))) ∧ SV.v (Value.int IntKind.i64 (4 : Int)) = SV.v (Value.int IntKind.i64 (4 : Int)) ∧ (0 : Int) ≤ (0 : Int) ∧ (0 : Int) ≤ (4 : Int) ∧ J (0 : Nat) I' G0) ∧ ∀ (I'_1 G' : Mem), Mem.le I' I'_1 → ∀ (n : Int), (0 : Int) ≤ n ∧ n ≤ (4 : Int) ∧ J (cntB m (Int.toNat n)) I'_1 G' → Br (decide (n < (4 : Int))) (∃ (n_1 : Int), atI I'_1 (some (Addr.mk b (0 : Nat) none)) (0 : Nat) = some (Value.int IntKind.u8 n_1) ∧ (0 : Int) ≤ n ∧ Br (bitsV BinOp.and IntKind.u8 (Int.fdiv n_1 ((2 : Int) ^ min (Int.toNat n) (8 : Nat))) (1 : Int) == (1 : Int)) (CtH Try.prog Y #[Value.int IntKind.i64 n] I'_1 G' fun (v : Value) (I' G' : Mem) => ∃ (b_1 : Bool), v = Value.bool b_1 ∧ Br (!b_1) (J (List.length (bitsL m)) I' G' ∨ D I' G') (Wr IntKind.i64 (n + (1 : Int)) fun (c : Int) => SV.v Y = SV.v Y ∧ SV.v (Value.pointer (some (Addr.mk b (0 : Nat) none))) = SV.v (Value.pointer (some (Addr.mk b (0 : Nat) none))) ∧ SV.v (Value.int IntKind.i64 (4 : Int)) = SV.v (Value.int IntKind.i64 (4 : Int)) ∧ ((0 : Int) ≤ c ∧ c ≤ (4 : Int) ∧ J (cntB m (Int.toNat c)) I' G') ∧ Int.toNat ((4 : Int) - c) < Int.toNat ((4 : Int) - n))) (Wr IntKind.i64 (n + (1 : Int)) fun (c : Int) => SV.v Y = SV.v Y ∧ SV.v (Value.pointer (some (Addr.mk b (0 : Nat) none))) = SV.v (Value.pointer (some (Addr.mk b (0 : Nat) none))) ∧ SV.v (Value.int IntKind.i64 (4 : Int)) = SV.v (Value.int IntKind.i64 (4 : Int)) ∧ ((0 : Int) ≤ c ∧ c ≤ (4 : Int) ∧ J (cntB m (Int.toNat c)) I'_1 G') ∧ Int.toNat ((4 : Int) - c) < Int.toNat ((4 : Int) - n))) (J (List.length (bitsL m)) I'_1 G' ∨ D I'_1 G')) (by kernel_rfl) ?_
  refine (ct45 I0).mono fun v I1 hI1 hv => ⟨_, _, _, _, hv, ⟨rfl, rfl, rfl, by omega, by omega, hJ 0 _ _ _ hJ0 hI1⟩, fun I2 G2 hI2 j ⟨h0, h1, h2⟩ => Br.mk (fun hlt => ?_) (fun hge => ?_)⟩
  · have hlt := of_decide_eq_true hlt
    have hle2 : I0.le I2 := Mem.le_trans hI1 hI2
    have hat : atI I2 (some ⟨b, 0, none⟩) 0 = some (.int .u8 m) := by
      have := hle2 _ _ (hI0 _ _ hb)
      simp [atI, cellM, Addr.add, this]
    have hs := cntB_succ m j.toNat
    rw [show j.toNat + 1 = (j + 1).toNat by omega] at hs
    refine ⟨m, hat, h0, Br.mk (fun hbit => ?_) (fun hbit => wr_i64 (by omega) (by omega) ⟨rfl, rfl, rfl, ⟨by omega, by omega, ?_⟩, by omega⟩)⟩
    · have hbit : bitAt m j.toNat = true := hbit
      have hget := cntB_at (n := 4) (by omega) hbit
      refine (hY (cntB m j.toNat) I2 G2 _ ((List.getElem?_eq_some_iff.1 hget).1) hle2 h2 ⟨j.toNat, hget, by rw [show ((j.toNat : Nat) : Int) = j by omega]⟩).mono fun v I3 G3 hI3 hv => ?_
      rcases hv with ⟨hv, hj⟩ | ⟨hv, hd⟩
      · refine ⟨true, hv, Br.mk (fun h => by cases h) (fun _ => wr_i64 (by omega) (by omega) ⟨rfl, rfl, rfl, ⟨by omega, by omega, ?_⟩, by omega⟩)⟩
        rw [hs, if_pos hbit]; exact hj
      · exact ⟨false, hv, Br.mk (fun _ => .inr hd) (fun h => by cases h)⟩
    · have hbit : bitAt m j.toNat = false := hbit
      rw [hs, if_neg (by simp [hbit])]; exact h2
  · have hge := of_decide_eq_false hge
    have : j.toNat = 4 := by omega
    rw [this] at h2
    exact .inl h2

theorem ct35 (m : Int) (I : Mem) : Ct Try.prog (fnv 35) #[.int .u8 m] I (fun v I' => ∃ b, I' b = some (.cells #[.int .u8 m] 26) ∧ v = .func (.func 54) #[] #[.pointer (some ⟨b, 0, none⟩)]) := by
  refine viaR (ct_via (A := {}) Try.func35 rfl Try.call35 rfl rfl) (∀ (b : Nat) (I' : Mem), Mem.le I I' → I' b = some (Obj.cells #[Value.int IntKind.u8 m] (26 : Nat)) → ∃ (b_1 : Nat), I' b_1 = some (Obj.cells #[Value.int IntKind.u8 m] (26 : Nat)) ∧ Value.func (Fn.func (54 : Nat)) #[] #[Value.pointer (some (Addr.mk b (0 : Nat) none))] = Value.func (Fn.func (54 : Nat)) #[] #[Value.pointer (some (Addr.mk b_1 (0 : Nat) none))]) (by kernel_rfl) ?_
  intro b I' hI hb
  exact ⟨b, hb, rfl⟩

/-- What is collected of an iterator that gives integers. -/
theorem ct53 (f : Value) (l : List Int) (I : Mem) (hl : l.length ≤ 1000) (h : Gives Try.prog f I l.length (fun k args _ => ∃ i, l[k]? = some i ∧ args = #[.int .i64 i])) :
    Ct Try.prog (fnv 53) #[.slice none 0 0, f] I (fun v I' => ∃ a c, SlM I' a l.length 1 (ints .i64 l) ∧ v = .slice a l.length c) := by
  refine viaR (ct_via (A := { rfs := [(3, { n := l.length, enc := fun k args _ => ∃ i, l[k]? = some i ∧ args = #[.int .i64 i], ps := [.sh (.int .i64)], pre := [(2, 1, 3)], ents := [(0, .cells [.row 1]), (1, .row)], inv := fun k vals xss _ _ => xss = [ints .i64 (l.take k)] })] }) Try.func53 rfl Try.call53 rfl rfl) (∀ (b bd br : Nat) (rc : Loop), Gives Try.prog f I (List.length l) (RF.enc (RF.mk (List.length l) (fun (k : Nat) (args : Array Value) (x : Mem) => ∃ (i : Int), l[k]? = some i ∧ args = #[Value.int IntKind.i64 i]) [PSh.sh (Sh.int IntKind.i64)] [((0 : Nat), EA.cells [TA.row (1 : Nat)]), ((1 : Nat), EA.row)] (fun (k : Nat) (vals : List Value) (xss : List (List Value)) (x x_1 : Mem) => xss = [ints IntKind.i64 (List.take k l)]) [((2 : Nat), (1 : Nat), (3 : TypeId))] [])) ∧ (∀ (k : Nat) (args : Array Value) (I : Mem), (∃ (i : Int), l[k]? = some i ∧ args = #[Value.int IntKind.i64 i]) → psOk [PSh.sh (Sh.int IntKind.i64)] (Array.toList args) = true) ∧ (Ent.mk (EO.raw (Obj.deferred (some []))) (some bd) = Ent.mk (EO.raw (Obj.deferred (some []))) (some bd) ∧ Ent.mk (EO.raw (Obj.loop (Loop.mk LoopState.ready none (Loop.fn rc) (Loop.tmps rc) (Loop.params rc) (Loop.assign rc) (Loop.body rc) (Loop.defers rc)))) (some br) = Ent.mk (EO.raw (Obj.loop (Loop.mk LoopState.ready none (Loop.fn rc) (Loop.tmps rc) (Loop.params rc) (Loop.assign rc) (Loop.body rc) (Loop.defers rc)))) (some br) ∧ some b = some b ∧ (0 : Nat) = (0 : Nat) ∧ ((b = b ∧ bd = bd ∧ br = br ∧ True) ∧ Obj.loop (Loop.mk LoopState.ready none (Loop.fn rc) (Loop.tmps rc) (Loop.params rc) (Loop.assign rc) (Loop.body rc) (Loop.defers rc)) = Obj.loop (Loop.mk LoopState.ready none (Loop.fn rc) (Loop.tmps rc) (Loop.params rc) (Loop.assign rc) (Loop.body rc) (Loop.defers rc))) ∧ ([[]] : List (List Value)) = [[]]) ∧ (∀ (k : Nat) (I' G' : Mem), k < List.length l → Mem.le I I' → ∀ (xs : List Value), [xs] = [List.map (Value.int IntKind.i64) (List.take k l)] → ∀ (I2 : Mem), Mem.le I' I2 → ∀ (n : Int), (∃ (i : Int), l[k]? = some i ∧ #[Value.int IntKind.i64 n] = #[Value.int IntKind.i64 i]) → Obj.loop (Loop.mk LoopState.ready none (Loop.fn rc) (Loop.tmps rc) (Loop.params rc) (Loop.assign rc) (Loop.body rc) (Loop.defers rc)) = Obj.loop (Loop.mk LoopState.ready none (Loop.fn rc) (Loop.tmps rc) (Loop.params rc) (Loop.assign rc) (Loop.body rc) (Loop.defers rc)) ∧ some br = some br ∧ List.length xs = List.length xs * (1 : Nat) ∧ List.length xs + (1 : Nat) ≤ (9223372036854775807 : Nat) ∧ (List.length xs + (1 : Nat)) * (8 : Nat) ≤ (140737488355328 : Nat) ∧ Obj.loop (Loop.mk LoopState.busy none (Loop.fn rc) (Loop.tmps rc) (Loop.params rc) (Loop.assign rc) (Loop.body rc) (Loop.defers rc)) = Obj.loop (Loop.mk LoopState.busy none (Loop.fn rc) (Loop.tmps rc) (Loop.params rc) (Loop.assign rc) (Loop.body rc) (Loop.defers rc)) ∧ some br = some br ∧ Ent.mk (EO.raw (Obj.deferred (some []))) (some bd) = Ent.mk (EO.raw (Obj.deferred (some []))) (some bd) ∧ Ent.mk (EO.raw (Obj.loop (Loop.mk LoopState.ready none (Loop.fn rc) (Loop.tmps rc) (Loop.params rc) (Loop.assign rc) (Loop.body rc) (Loop.defers rc)))) (some br) = Ent.mk (EO.raw (Obj.loop (Loop.mk LoopState.ready none (Loop.fn rc) (Loop.tmps rc) (Loop.params rc) (Loop.assign rc) (Loop.body rc) (Loop.defers rc)))) (some br) ∧ some b = some b ∧ List.length xs + (1 : Nat) = List.length (xs ++ [Value.int IntKind.i64 n]) ∧ ((b = b ∧ bd = bd ∧ br = br ∧ True) ∧ Obj.loop (Loop.mk LoopState.ready none (Loop.fn rc) (Loop.tmps rc) (Loop.params rc) (Loop.assign rc) (Loop.body rc) (Loop.defers rc)) = Obj.loop (Loop.mk LoopState.ready none (Loop.fn rc) (Loop.tmps rc) (Loop.params rc) (Loop.assign rc) (Loop.body rc) (Loop.defers rc))) ∧ [xs ++ [Value.int IntKind.i64 n]] = [List.map (Value.int IntKind.i64) (List.take (k + (1 : Nat)) l)]) ∧ (∀ (I' G' : Mem), Mem.le I I' → ∀ (xs : List Value), [xs] = [List.map (Value.int IntKind.i64) (List.take (List.length l) l)] → ∀ (I2 : Mem), Mem.le I' I2 → ∀ (a : Option Addr) (cp : Nat) (I' : Mem), Mem.le I2 I' → RowM I' a cp (1 : Nat) xs → ∃ (a_3 : Option Addr), ∃ (c : Nat), SlM I' a_3 (List.length l) (1 : Nat) (List.map (Value.int IntKind.i64) l) ∧ Value.slice a (List.length xs) cp = Value.slice a_3 (List.length l) c) ∧ True) (by kernel_rfl) ?_
  simp only [eq_self, true_and, and_true, List.cons.injEq]
  intro b bd br rc
  refine ⟨h, fun k args I ⟨i, _, ha⟩ => by subst ha; rfl, fun k I' G' hk hI xs hxs I2 hI2 n ⟨i, hi, hn⟩ => ?_, fun I' G' hI xs hxs I2 hI2 a cp I3 hI3 hrow => ?_⟩
  · have hlen : xs.length = k := by subst hxs; simp; omega
    cases hn
    refine ⟨by omega, by omega, by omega, by simp, ?_⟩
    rw [hxs, take_succ' hi]
    simp
  · have hlen : xs = ints .i64 l := by subst hxs; simp [ints]
    subst hlen
    exact ⟨a, cp, hrow.sl (by omega) (by simp [ints]), by simp [ints]⟩
theorem ct34 (f : Value) (l : List Int) (I : Mem) (hl : l.length ≤ 1000) (h : Gives Try.prog f I l.length (fun k args _ => ∃ i, l[k]? = some i ∧ args = #[.int .i64 i])) :
    Ct Try.prog (fnv 34) #[f] I (fun v I' => ∃ a c, SlM I' a l.length 1 (ints .i64 l) ∧ v = .slice a l.length c) := by
  refine viaR (ct_via (A := {}) Try.func34 rfl Try.call34 rfl rfl) (Ct Try.prog (Value.func (Fn.func (53 : Nat)) #[] #[]) #[Value.slice none (0 : Nat) (0 : Nat), f] I fun (v : Value) (I' : Mem) => ∃ (a : Option Addr), ∃ (n : Nat), ∃ (c : Nat), v = Value.slice a n c ∧ ∃ (a_1 : Option Addr), ∃ (c_1 : Nat), SlM I' a_1 (List.length l) (1 : Nat) (List.map (Value.int IntKind.i64) l) ∧ Value.slice a n c = Value.slice a_1 (List.length l) c_1) (by kernel_rfl) ?_
  exact (ct53 f l I hl h).mono fun v I' hI ⟨a, c, hs, hv⟩ => ⟨a, l.length, c, hv, a, c, hs, rfl⟩

theorem bitsL_le (m : Int) : (bitsL m).length ≤ 4 := by
  have := List.length_filter_le (bitAt m) (List.range 4)
  simpa [bitsL] using this
/-- How many rights a mask has. -/
def countV (m : Int) : Int := if okM [m] then ((bitsL m).length : Int) else 0
def bitsI (m : Int) : List Int := (bitsL m).map Int.ofNat
theorem bitsI_len (m : Int) : (bitsI m).length = (bitsL m).length := by simp [bitsI]
theorem gives54' (b : Nat) (m : Int) (I : Mem) (hb : I b = some (.cells #[.int .u8 m] 26)) :
    Gives Try.prog (.func (.func 54) #[] #[.pointer (some ⟨b, 0, none⟩)]) I (bitsI m).length (fun k args _ => ∃ i, (bitsI m)[k]? = some i ∧ args = #[.int .i64 i]) := by
  have h := gives54 b m I hb
  rw [bitsI_len]
  exact Gives.enc h fun k args I' _ ⟨i, hi, ha⟩ => ⟨i, by simp [bitsI, hi], ha⟩
theorem ct23 (m : Int) (I : Mem) : Ct Try.prog (fnv 23) #[.int .u8 m] I (fun v _ => v = .int .i64 (countV m)) := by
  refine viaR (ct_via (A := {}) Try.func23 rfl Try.call23 rfl rfl) (∀ (b : Nat) (I' : Mem), Mem.le I I' → I' b = some (Obj.cells #[Value.int IntKind.u8 m] (26 : Nat)) → Ct Try.prog (Value.func (Fn.func (32 : Nat)) #[] #[]) #[Value.slice (some (Addr.mk b (0 : Nat) none)) (1 : Nat) (1 : Nat)] I' fun (v : Value) (I' : Mem) => ∃ (b : Bool), v = Value.bool b ∧ Br (!b) (Value.int IntKind.i64 (0 : Int) = Value.int IntKind.i64 (countV m)) (Ct Try.prog (Value.func (Fn.func (35 : Nat)) #[] #[]) #[Value.int IntKind.u8 m] I' fun (v : Value) (I' : Mem) => ∃ (x : Value), v = x ∧ Ct Try.prog (Value.func (Fn.func (34 : Nat)) #[] #[]) #[x] I' fun (v : Value) (I' : Mem) => ∃ (a : Option Addr), ∃ (n : Nat), ∃ (c : Nat), v = Value.slice a n c ∧ Value.int IntKind.i64 (↑n : Int) = Value.int IntKind.i64 (countV m))) (by kernel_rfl) ?_
  intro b I1 hI1 hb
  refine (ct32 [m] _ _ _ _ (sl_cells (n := 1) (sz := 1) hb rfl (by decide))).mono fun v I2 hI2 hv => ⟨_, hv, Br.mk (fun h => ?_) (fun h => (ct35 m I2).mono fun v I3 hI3 ⟨b', hb', hv⟩ => ⟨_, rfl, ?_⟩)⟩
  · rw [Bool.not_eq_true'] at h
    simp [countV, h]
  · rw [Bool.not_eq_false'] at h
    subst hv
    refine (ct34 _ (bitsI m) I3 (by rw [bitsI_len]; exact Nat.le_trans (bitsL_le m) (by decide)) (gives54' b' m I3 hb')).mono fun v I4 hI4 ⟨a, c, hs, hv⟩ => ⟨_, _, _, hv, ?_⟩
    simp [countV, h, bitsI_len]

def strs (l : List ByteArray) : List Value := l.map .string
theorem strs_get {l : List ByteArray} {j : Nat} {y : ByteArray} (h : l[j]? = some y) : (strs l)[j]? = some (.string y) := by simp [strs, h]
/-- Strings, a separator between them. -/
def joinB (l : List ByteArray) (sep : ByteArray) : ByteArray := ⟨(Lib.join (l.map (·.data.toList)) sep.data.toList).toArray⟩
theorem ct46 (l : List ByteArray) (sep : ByteArray) (a : Option Addr) (cp : Nat) (I : Mem) (h : RowM I a cp 1 (strs l)) (hlen : (joinB l sep).size ≤ 140737488355328) (hN : l.length ≤ 140737488355328) :
    Ct Try.prog (fnv 46) #[.slice a l.length cp, .string sep] I (fun v _ => v = .string (joinB l sep)) := by
  obtain ⟨h1, h2, h3, h4⟩ := h
  have hl : l.length ≤ cp := by simpa [strs] using h1
  refine ct_of_calls Try.call46 fun w hI => ?_
  cases a with
  | none =>
    have hnil : l = [] := by
      have := (h3 rfl).1
      simpa [strs] using this
    subst hnil
    refine (Try.strings_Join_none _ _ _ w).mono fun e w' ⟨he, hw⟩ => ⟨⟨_, he, by rfl⟩, hw ▸ Below.refl _ _⟩
  | some ad =>
    cases l with
    | nil => exact (Try.strings_Join_none _ _ _ w).mono fun e w' ⟨he, hw⟩ => ⟨⟨_, he, by rfl⟩, hw ▸ Below.refl _ _⟩
    | cons x r =>
      have hc : ∀ (j : Nat) (y : ByteArray), (x :: r)[j]? = some y → w.cell? (ad.add j) = some (.string y) := fun j y hj =>
        cellM_world hI (h4 j _ (strs_get hj))
      have h0 := hc 0 x rfl
      obtain ⟨b, o, sp⟩ := ad
      obtain rfl : sp = none := by
        cases sp with
        | none => rfl
        | some s => have := h4 0 (.string x) rfl; simp only [atI, Option.bind_some, cellM, Addr.add, if_true] at this; split at this <;> simp at this
      have hlt : b < w.heap.size := by
        have := h4 0 (.string x) rfl
        simp only [atI, Option.bind_some, cellM, Addr.add, if_true] at this
        split at this
        · rename_i hb; exact Mem.inW_lt hI hb
        · cases this
      refine (Try.strings_Join b o cp (x :: r) sep w (fun j y hj => ?_) hlt hN hl hlen).mono fun e w' ⟨he, hw⟩ => ⟨⟨_, he, rfl⟩, hw⟩
      have := hc j y hj
      by_cases hj0 : j = 0
      · subst hj0; exact this
      · simpa [Addr.add, hj0] using this

theorem bitsL_eq (m : Int) : bitsL m = (if bitAt m 0 then [0] else []) ++ (if bitAt m 1 then [1] else []) ++ (if bitAt m 2 then [2] else []) ++ (if bitAt m 3 then [3] else []) := by
  show [0, 1, 2, 3].filter _ = _
  simp only [List.filter]
  cases bitAt m 0 <;> cases bitAt m 1 <;> cases bitAt m 2 <;> cases bitAt m 3 <;> rfl
def nameV (i : Nat) : ByteArray := ["send".toUTF8, "look".toUTF8, "grant".toUTF8, "cut".toUTF8].getD i ⟨#[]⟩
def textV (m : Int) : ByteArray := if okM [m] then (if m == 0 then "-".toUTF8 else joinB ((bitsL m).map nameV) "+".toUTF8) else ⟨#[]⟩
theorem ct26 (m : Int) (I : Mem) : Ct Try.prog (fnv 26) #[.int .u8 m] I (fun v _ => v = .tuple #[.string (textV m), .int .i64 (if okM [m] then 0 else 220)]) := by
  refine viaR (ct_via (A := { rfs := [(8, { n := (bitsL m).length, enc := fun k args _ => ∃ i, (bitsL m)[k]? = some i ∧ args = #[.int .i64 i], ps := [.sh (.int .i64)], pre := [(4, 1, 9)], ents := [(1, .cells [.row 2]), (2, .row)], inv := fun k vals xss _ _ => xss = [strs (((bitsL m).take k).map nameV)] })] }) Try.func26 rfl Try.call26 rfl rfl) (∀ (b : Nat) (I' : Mem),
        Mem.le I I' →
          I' b = some (Obj.cells #[Value.int IntKind.u8 m] (26 : Nat)) →
            Ct Try.prog (Value.func (Fn.func (32 : Nat)) #[] #[]) #[Value.slice (some (Addr.mk b (0 : Nat) none)) (1 : Nat) (1 : Nat)] I' fun (v : Value) (I' : Mem) =>
              ∃ (b : Bool),
                v = Value.bool b ∧
                  Br (!b) (Value.tuple #[Value.string (ByteArray.mk #[]), Value.int IntKind.i64 (220 : Int)] = Value.tuple #[Value.string (textV m), Value.int IntKind.i64 (if okM [m] = true then (0 : Int) else (220 : Int))])
                    (Br (m == (0 : Int)) (Value.tuple #[Value.string (ByteArray.mk #[(45 : UInt8)]), Value.int IntKind.i64 (0 : Int)] = Value.tuple #[Value.string (textV m), Value.int IntKind.i64 (if okM [m] = true then (0 : Int) else (220 : Int))])
                      (Ct Try.prog (Value.func (Fn.func (35 : Nat)) #[] #[]) #[Value.int IntKind.u8 m] I' fun (v : Value) (I' : Mem) =>
                        ∃ (x : Value),
                          v = x ∧
                            ∀ (b bd br : Nat) (rc : Loop),
                              Gives Try.prog x I' (List.length (bitsL m)) (RF.enc (RF.mk (List.length (bitsL m)) (fun (k : Nat) (args : Array Value) (x : Mem) => ∃ (i : Nat), (bitsL m)[k]? = some i ∧ args = #[Value.int IntKind.i64 (↑i : Int)]) [PSh.sh (Sh.int IntKind.i64)] [((1 : Nat), EA.cells [TA.row (2 : Nat)]), ((2 : Nat), EA.row)] (fun (k : Nat) (vals : List Value) (xss : List (List Value)) (x x_1 : Mem) => xss = [strs (List.map nameV (List.take k (bitsL m)))]) [((4 : Nat), (1 : Nat), (9 : TypeId))] [])) ∧
                                (∀ (k : Nat) (args : Array Value) (I : Mem), (∃ (i : Nat), (bitsL m)[k]? = some i ∧ args = #[Value.int IntKind.i64 (↑i : Int)]) → psOk [PSh.sh (Sh.int IntKind.i64)] (Array.toList args) = true) ∧
                                  (Ent.mk (EO.raw (Obj.deferred (some []))) (some bd) = Ent.mk (EO.raw (Obj.deferred (some []))) (some bd) ∧ Ent.mk (EO.raw (Obj.loop (Loop.mk LoopState.ready none (Loop.fn rc) (Loop.tmps rc) (Loop.params rc) (Loop.assign rc) (Loop.body rc) (Loop.defers rc)))) (some br) = Ent.mk (EO.raw (Obj.loop (Loop.mk LoopState.ready none (Loop.fn rc) (Loop.tmps rc) (Loop.params rc) (Loop.assign rc) (Loop.body rc) (Loop.defers rc)))) (some br) ∧ some b = some b ∧ (0 : Nat) = (0 : Nat) ∧ ((b = b ∧ bd = bd ∧ br = br ∧ True) ∧ Obj.loop (Loop.mk LoopState.ready none (Loop.fn rc) (Loop.tmps rc) (Loop.params rc) (Loop.assign rc) (Loop.body rc) (Loop.defers rc)) = Obj.loop (Loop.mk LoopState.ready none (Loop.fn rc) (Loop.tmps rc) (Loop.params rc) (Loop.assign rc) (Loop.body rc) (Loop.defers rc))) ∧ ([[]] : List (List Value)) = [[]]) ∧
                                    (∀ (k : Nat) (I'_1 G' : Mem),
                                        k < List.length (bitsL m) →
                                          Mem.le I' I'_1 →
                                            ∀ (xs : List Value),
                                              [xs] = [strs (List.map (fun (i : Nat) => List.getD [String.toUTF8 "send", String.toUTF8 "look", String.toUTF8 "grant", String.toUTF8 "cut"] i (ByteArray.mk #[])) (List.take k (bitsL m)))] →
                                                ∀ (I2 : Mem),
                                                  Mem.le I'_1 I2 →
                                                    ∀ (n : Int),
                                                      (∃ (i : Nat), (bitsL m)[k]? = some i ∧ #[Value.int IntKind.i64 n] = #[Value.int IntKind.i64 (↑i : Int)]) →
                                                        Obj.loop (Loop.mk LoopState.ready none (Loop.fn rc) (Loop.tmps rc) (Loop.params rc) (Loop.assign rc) (Loop.body rc) (Loop.defers rc)) = Obj.loop (Loop.mk LoopState.ready none (Loop.fn rc) (Loop.tmps rc) (Loop.params rc) (Loop.assign rc) (Loop.body rc) (Loop.defers rc)) ∧
                                                          some br = some br ∧
                                                            (Ct Try.prog (Value.func (Fn.func (45 : Nat)) #[] #[]) #[] I2 fun (v : Value) (I' : Mem) =>
                                                                ∃ (q : ByteArray),
                                                                  ∃ (q_1 : ByteArray),
                                                                    ∃ (q_2 : ByteArray),
                                                                      ∃ (q_3 : ByteArray),
                                                                        v = Value.agg #[Value.string q, Value.string q_1, Value.string q_2, Value.string q_3] ∧
                                                                          (0 : Int) ≤ n ∧
                                                                            n < (4 : Int) ∧
                                                                              ∃ (q_4 : ByteArray),
                                                                                (Option.bind [SV.v (Value.string q), SV.v (Value.string q_1), SV.v (Value.string q_2), SV.v (Value.string q_3)][Int.toNat n * (1 : Nat) + (0 : Nat)]? fun (x : SV) =>
                                                                                      match x with
                                                                                      | SV.v x => some x
                                                                                      | x => none) =
                                                                                    some (Value.string q_4) ∧
                                                                                  List.length xs = List.length xs * (1 : Nat) ∧ List.length xs + (1 : Nat) ≤ (9223372036854775807 : Nat) ∧ (List.length xs + (1 : Nat)) * (16 : Nat) ≤ (140737488355328 : Nat) ∧ Obj.loop (Loop.mk LoopState.busy none (Loop.fn rc) (Loop.tmps rc) (Loop.params rc) (Loop.assign rc) (Loop.body rc) (Loop.defers rc)) = Obj.loop (Loop.mk LoopState.busy none (Loop.fn rc) (Loop.tmps rc) (Loop.params rc) (Loop.assign rc) (Loop.body rc) (Loop.defers rc)) ∧ some br = some br ∧ Ent.mk (EO.raw (Obj.deferred (some []))) (some bd) = Ent.mk (EO.raw (Obj.deferred (some []))) (some bd) ∧ Ent.mk (EO.raw (Obj.loop (Loop.mk LoopState.ready none (Loop.fn rc) (Loop.tmps rc) (Loop.params rc) (Loop.assign rc) (Loop.body rc) (Loop.defers rc)))) (some br) = Ent.mk (EO.raw (Obj.loop (Loop.mk LoopState.ready none (Loop.fn rc) (Loop.tmps rc) (Loop.params rc) (Loop.assign rc) (Loop.body rc) (Loop.defers rc)))) (some br) ∧ some b = some b ∧ List.length xs + (1 : Nat) = List.length (xs ++ [Value.string q_4]) ∧ ((b = b ∧ bd = bd ∧ br = br ∧ True) ∧ Obj.loop (Loop.mk LoopState.ready none (Loop.fn rc) (Loop.tmps rc) (Loop.params rc) (Loop.assign rc) (Loop.body rc) (Loop.defers rc)) = Obj.loop (Loop.mk LoopState.ready none (Loop.fn rc) (Loop.tmps rc) (Loop.params rc) (Loop.assign rc) (Loop.body rc) (Loop.defers rc))) ∧ [xs ++ [Value.string q_4]] = [strs (List.map (fun (i : Nat) => List.getD [String.toUTF8 "send", String.toUTF8 "look", String.toUTF8 "grant", String.toUTF8 "cut"] i (ByteArray.mk #[])) (List.take (k + (1 : Nat)) (bitsL m)))]) ∧
                                                              Ct Try.prog (Value.func (Fn.func (45 : Nat)) #[] #[]) #[] I2 fun (v : Value) (I' : Mem) =>
                                                                ∃ (q : ByteArray),
                                                                  ∃ (q_1 : ByteArray),
                                                                    ∃ (q_2 : ByteArray),
                                                                      ∃ (q_3 : ByteArray),
                                                                        v = Value.agg #[Value.string q, Value.string q_1, Value.string q_2, Value.string q_3] ∧
                                                                          (0 : Int) ≤ n ∧
                                                                            n < (4 : Int) ∧
                                                                              ∃ (q_4 : ByteArray),
                                                                                (Option.bind [SV.v (Value.string q), SV.v (Value.string q_1), SV.v (Value.string q_2), SV.v (Value.string q_3)][Int.toNat n * (1 : Nat) + (0 : Nat)]? fun (x : SV) =>
                                                                                      match x with
                                                                                      | SV.v x => some x
                                                                                      | x => none) =
                                                                                    some (Value.string q_4) ∧
                                                                                  (List.length xs = List.length xs * (1 : Nat) ∧ List.length xs + (1 : Nat) ≤ (9223372036854775807 : Nat) ∧ (List.length xs + (1 : Nat)) * (16 : Nat) ≤ (140737488355328 : Nat) ∧ Obj.loop (Loop.mk LoopState.busy none (Loop.fn rc) (Loop.tmps rc) (Loop.params rc) (Loop.assign rc) (Loop.body rc) (Loop.defers rc)) = Obj.loop (Loop.mk LoopState.busy none (Loop.fn rc) (Loop.tmps rc) (Loop.params rc) (Loop.assign rc) (Loop.body rc) (Loop.defers rc)) ∧ some br = some br ∧ Ent.mk (EO.raw (Obj.deferred (some []))) (some bd) = Ent.mk (EO.raw (Obj.deferred (some []))) (some bd) ∧ Ent.mk (EO.raw (Obj.loop (Loop.mk LoopState.ready none (Loop.fn rc) (Loop.tmps rc) (Loop.params rc) (Loop.assign rc) (Loop.body rc) (Loop.defers rc)))) (some br) = Ent.mk (EO.raw (Obj.loop (Loop.mk LoopState.ready none (Loop.fn rc) (Loop.tmps rc) (Loop.params rc) (Loop.assign rc) (Loop.body rc) (Loop.defers rc)))) (some br) ∧ some b = some b ∧ List.length xs + (1 : Nat) = List.length (xs ++ [Value.string q_4]) ∧ ((b = b ∧ bd = bd ∧ br = br ∧ True) ∧ Obj.loop (Loop.mk LoopState.ready none (Loop.fn rc) (Loop.tmps rc) (Loop.params rc) (Loop.assign rc) (Loop.body rc) (Loop.defers rc)) = Obj.loop (Loop.mk LoopState.ready none (Loop.fn rc) (Loop.tmps rc) (Loop.params rc) (Loop.assign rc) (Loop.body rc) (Loop.defers rc))) ∧ [xs ++ [Value.string q_4]] = [strs (List.map (fun (i : Nat) => List.getD [String.toUTF8 "send", String.toUTF8 "look", String.toUTF8 "grant", String.toUTF8 "cut"] i (ByteArray.mk #[])) (List.take (k + (1 : Nat)) (bitsL m)))]) ∧ List.length xs = List.length xs * (1 : Nat) ∧ List.length xs + (1 : Nat) ≤ (9223372036854775807 : Nat) ∧ (List.length xs + (1 : Nat)) * (16 : Nat) ≤ (140737488355328 : Nat) ∧ Obj.loop (Loop.mk LoopState.busy none (Loop.fn rc) (Loop.tmps rc) (Loop.params rc) (Loop.assign rc) (Loop.body rc) (Loop.defers rc)) = Obj.loop (Loop.mk LoopState.busy none (Loop.fn rc) (Loop.tmps rc) (Loop.params rc) (Loop.assign rc) (Loop.body rc) (Loop.defers rc)) ∧ some br = some br ∧ Ent.mk (EO.raw (Obj.deferred (some []))) (some bd) = Ent.mk (EO.raw (Obj.deferred (some []))) (some bd) ∧ Ent.mk (EO.raw (Obj.loop (Loop.mk LoopState.ready none (Loop.fn rc) (Loop.tmps rc) (Loop.params rc) (Loop.assign rc) (Loop.body rc) (Loop.defers rc)))) (some br) = Ent.mk (EO.raw (Obj.loop (Loop.mk LoopState.ready none (Loop.fn rc) (Loop.tmps rc) (Loop.params rc) (Loop.assign rc) (Loop.body rc) (Loop.defers rc)))) (some br) ∧ some b = some b ∧ List.length xs + (1 : Nat) = List.length (xs ++ [Value.string q_4]) ∧ ((b = b ∧ bd = bd ∧ br = br ∧ True) ∧ Obj.loop (Loop.mk LoopState.ready none (Loop.fn rc) (Loop.tmps rc) (Loop.params rc) (Loop.assign rc) (Loop.body rc) (Loop.defers rc)) = Obj.loop (Loop.mk LoopState.ready none (Loop.fn rc) (Loop.tmps rc) (Loop.params rc) (Loop.assign rc) (Loop.body rc) (Loop.defers rc))) ∧ [xs ++ [Value.string q_4]] = [strs (List.map (fun (i : Nat) => List.getD [String.toUTF8 "send", String.toUTF8 "look", String.toUTF8 "grant", String.toUTF8 "cut"] i (ByteArray.mk #[])) (List.take (k + (1 : Nat)) (bitsL m)))]) ∧
                                      (∀ (I'_1 G' : Mem), Mem.le I' I'_1 → ∀ (xs : List Value), [xs] = [strs (List.map (fun (i : Nat) => List.getD [String.toUTF8 "send", String.toUTF8 "look", String.toUTF8 "grant", String.toUTF8 "cut"] i (ByteArray.mk #[])) (List.take (List.length (bitsL m)) (bitsL m)))] → ∀ (I2 : Mem), Mem.le I'_1 I2 → ∀ (a : Option Addr) (cp : Nat) (I' : Mem), Mem.le I2 I' → RowM I' a cp (1 : Nat) xs → Ct Try.prog (Value.func (Fn.func (46 : Nat)) #[] #[]) #[Value.slice a (List.length xs) cp, Value.string (ByteArray.mk #[(43 : UInt8)])] I' fun (v : Value) (I' : Mem) => ∃ (q : ByteArray), v = Value.string q ∧ Value.tuple #[Value.string q, Value.int IntKind.i64 (0 : Int)] = Value.tuple #[Value.string (textV m), Value.int IntKind.i64 (if okM [m] = true then (0 : Int) else (220 : Int))]) ∧ True))) (by kernel_rfl) ?_
  simp only [eq_self, true_and, and_true, List.cons.injEq]
  intro b I1 hI1 hb
  refine (ct32 [m] _ _ _ _ (sl_cells (n := 1) (sz := 1) hb rfl (by decide))).mono fun v I2 hI2 hv => ⟨_, hv, Br.mk (fun h => ?_) (fun h => Br.mk (fun h0 => ?_) (fun h0 => (ct35 m I2).mono fun v I3 hI3 ⟨b', hb', hv⟩ => ⟨_, rfl, fun _ bd br rc => ⟨?_, ?_, ?_, ?_⟩⟩))⟩
  · rw [Bool.not_eq_true'] at h
    simp [textV, h]
  · rw [Bool.not_eq_false'] at h
    simp only [textV, h, h0, if_true]; rfl
  · subst hv; exact gives54 b' m I3 hb'
  · rintro k args I ⟨i, _, rfl⟩; rfl
  · rintro k I4 G4 hk hI4 xs hxs I5 hI5 n ⟨i, hi, hn⟩
    cases hn
    have hi4 : i < 4 := by
      have := List.mem_of_getElem? hi
      simp only [bitsL, List.mem_filter, List.mem_range] at this
      exact this.1
    have hlen : xs.length = k := by subst hxs; simp [strs]; omega
    have hk4 := bitsL_le m
    have hnx : xs ++ [Value.string (nameV i)] = strs (((bitsL m).take (k + 1)).map nameV) := by
      rw [show xs = strs (((bitsL m).take k).map nameV) from hxs, take_succ' hi]
      simp [strs]
    have hnm : ([SV.v (.string "send".toUTF8), SV.v (.string "look".toUTF8), SV.v (.string "grant".toUTF8), SV.v (.string "cut".toUTF8)][(i : Int).toNat * 1 + 0]?.bind fun x => match x with | SV.v x => some x | x => none) = some (.string (nameV i)) := by
      match i, hi4 with
      | 0, _ => rfl
      | 1, _ => rfl
      | 2, _ => rfl
      | 3, _ => rfl
      | n + 4, h => omega
    refine ⟨(ct45 I5).mono fun v I6 hI6 hv => ⟨_, _, _, _, hv, by omega, by omega, _, hnm, by omega, by omega, by omega, by simp, hnx⟩, (ct45 I5).mono fun v I6 hI6 hv => ⟨_, _, _, _, hv, by omega, by omega, _, hnm, ⟨by omega, by omega, by omega, by simp, hnx⟩, by omega, by omega, by omega, by simp, hnx⟩⟩
  · intro I4 G4 hI4 xs hxs I5 hI5 a cp I6 hI6 hrow
    rw [List.take_length] at hxs
    have hl : xs.length = ((bitsL m).map nameV).length := by rw [hxs]; simp [strs]
    rw [hl]
    refine (ct46 _ _ a cp I6 (hxs ▸ hrow) ?_ (by have := bitsL_le m; simp; omega)).mono fun v I7 hI7 hv => ⟨_, hv, ?_⟩
    · rw [bitsL_eq]
      cases bitAt m 0 <;> cases bitAt m 1 <;> cases bitAt m 2 <;> cases bitAt m 3 <;> decide
    · rw [Bool.not_eq_false'] at h
      simp only [textV, h, h0, if_true]; rfl
