/- Part of a proof by the rules of the symbolic walk (see the law's own text): contracts of functions of the program. -/
import Derived.Test.YthfgpdjplknleaaGreatDoorLS13
import Derived.Test.YthfgpdjplknleaaGreatDoorGT
import Derived.Test.YthfgpdjplknleaaGreatDoorSe22
open Go Go.Proofs Go.SE Go.RowKit
set_option linter.unusedVariables false
set_option maxRecDepth 100000
theorem cells39 : Tryz.prog.cellsOf 39 = 6 := by kernel_rfl
theorem cells5 : Tryz.prog.cellsOf 5 = 1 := by kernel_rfl
theorem cells9 : Tryz.prog.cellsOf 9 = 1 := by kernel_rfl
theorem cells37 : Tryz.prog.cellsOf 37 = 1 := by kernel_rfl
theorem cells2 : Tryz.prog.cellsOf 2 = 1 := by kernel_rfl
theorem cells3 : Tryz.prog.cellsOf 3 = 1 := by kernel_rfl
def Q39 (I : Mem) (v : Value) : Prop := ∃ x, v = .agg (smV x).toArray ∧ okSm x
def Q3 (I : Mem) (v : Value) : Prop := ∃ n, v = .int .i64 n ∧ i64R n
def Q5 (I : Mem) (v : Value) : Prop := ∃ n, v = .int .u8 n ∧ 0 ≤ n ∧ n ≤ 255
def Q37 (I : Mem) (v : Value) : Prop := ∃ n, v = .int .u32 n ∧ 0 ≤ n ∧ n ≤ 4294967295
def Q24 (I : Mem) (v : Value) : Prop := ∃ a n c bs, v = .slice a n c ∧ SlM I a n 1 (ints .u8 bs) ∧ n ≤ c ∧ c ≤ maxLen ∧ byteL bs
theorem opc39 (W : World) : OpC Tryz.prog W 39 fun cs => ∃ x, cs = smV x ∧ okSm x := by
  refine (opc_struct (P := Tryz.prog) (W := W) Tryz.underlying39 cells39 (.cons rfl cells5 (opc_int Tryz.underlying5) (.cons rfl cells9 (opc_str Tryz.underlying9) (.cons rfl cells37 (opc_int Tryz.underlying37) (.cons rfl cells37 (opc_int Tryz.underlying37) (.cons rfl cells37 (opc_int Tryz.underlying37) (.cons rfl cells2 (opc_int Tryz.underlying2) .nil))))))).mono ?_
  rintro cs ⟨hl, ⟨k, h1, k1, k2⟩, ⟨s, h2, k3⟩, ⟨a, h3, k4, k5⟩, ⟨b, h4, k6, k7⟩, ⟨c, h5, k8, k9⟩, ⟨v, h6, k10, k11⟩, _⟩
  match cs, hl with
  | [y0, y1, y2, y3, y4, y5], _ =>
    simp only [List.drop_succ_cons, List.drop_zero, List.take_succ_cons, List.take_zero, List.cons.injEq, and_true] at h1 h2 h3 h4 h5 h6
    subst h1; subst h2; subst h3; subst h4; subst h5; subst h6
    have hr : reachBytes ≤ maxLen := by decide
    exact ⟨⟨k, s, a, b, c, v⟩, rfl, ⟨k1, k2⟩, Nat.le_trans k3 hr, ⟨k4, k5⟩, ⟨k6, k7⟩, ⟨k8, k9⟩, ⟨k10, k11⟩⟩
section
variable {H : Type} {enc : TypeId × Value → H} {W : World} {r : Reach} {b0 : Nat} {v : Value} {d : DataW H} {ps : List MemPlace}
theorem op39 (hval : Value.okWide Tryz.prog W r b0 39 v) (hd : DataW.Trod enc Tryz.prog W 0 (fun _ => true) true 39 v d ps) (hw : ∀ n ∈ d.weights Tryz.prog 39, n ≤ reachBytes) : Q39 (memW W) v := by
  obtain ⟨cs, rfl, x, e, hx⟩ := opc_top_struct (opc39 W) Tryz.underlying39 hval hd hw
  exact ⟨x, by rw [← e], hx⟩
theorem op3 (hval : Value.okWide Tryz.prog W r b0 3 v) (hd : DataW.Trod enc Tryz.prog W 0 (fun _ => true) true 3 v d ps) (hw : ∀ n ∈ d.weights Tryz.prog 3, n ≤ reachBytes) : Q3 (memW W) v := by
  obtain ⟨n, rfl, h1, h2⟩ := opI Tryz.underlying3 hval
  exact ⟨n, rfl, h1, h2⟩
theorem op5 (hval : Value.okWide Tryz.prog W r b0 5 v) (hd : DataW.Trod enc Tryz.prog W 0 (fun _ => true) true 5 v d ps) (hw : ∀ n ∈ d.weights Tryz.prog 5, n ≤ reachBytes) : Q5 (memW W) v := by
  obtain ⟨n, rfl, h1, h2⟩ := opI Tryz.underlying5 hval
  exact ⟨n, rfl, h1, h2⟩
theorem op37 (hval : Value.okWide Tryz.prog W r b0 37 v) (hd : DataW.Trod enc Tryz.prog W 0 (fun _ => true) true 37 v d ps) (hw : ∀ n ∈ d.weights Tryz.prog 37, n ≤ reachBytes) : Q37 (memW W) v := by
  obtain ⟨n, rfl, h1, h2⟩ := opI Tryz.underlying37 hval
  exact ⟨n, rfl, h1, h2⟩
theorem op24 (hval : Value.okWide Tryz.prog W r b0 24 v) (hd : DataW.Trod enc Tryz.prog W 0 (fun _ => true) true 24 v d ps) (hw : ∀ n ∈ d.weights Tryz.prog 24, n ≤ reachBytes) : Q24 (memW W) v := by
  obtain ⟨a, n, c, zs, rfl, h1, h2, h3, h4⟩ := opSl Tryz.underlying24 Tryz.underlying5 cells5 hval hd
  exact ⟨a, n, c, zs, rfl, h1, h2, h3, h4⟩
end
theorem ct6Q (I : Mem) (hG : Globs I) (v0 v1 v2 : Value) (h0 : Q39 I v0) (h1 : Q37 I v1) (h2 : Q24 I v2) : Ct Tryz.prog (fnv 6) #[v0, v1, v2] I (fun v _ => v = .bool true) := by
  obtain ⟨x, rfl, hx⟩ := h0
  obtain ⟨n, rfl, hn1, hn2⟩ := h1
  obtain ⟨a, m, c, bs, rfl, hs, hc, hm, hb⟩ := h2
  exact ct6 I hG x hx n ⟨hn1, hn2⟩ a m c bs hs hc hm hb
