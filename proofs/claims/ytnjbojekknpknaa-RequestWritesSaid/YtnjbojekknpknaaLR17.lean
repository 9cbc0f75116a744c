/- Part of a proof by the rules of the symbolic walk (see the law's own text): contracts of functions of the program. -/
import Derived.Test.YtnjbojekknpknaaGS
import Derived.Test.YtnjbojekknpknaaSe22
open Go Go.Proofs Go.SE Go.RowKit
set_option linter.unusedVariables false
theorem cells27 : Try.prog.cellsOf 27 = 6 := by kernel_rfl
theorem cells5 : Try.prog.cellsOf 5 = 1 := by kernel_rfl
theorem cells9 : Try.prog.cellsOf 9 = 1 := by kernel_rfl
theorem cells25 : Try.prog.cellsOf 25 = 1 := by kernel_rfl
theorem cells2 : Try.prog.cellsOf 2 = 1 := by kernel_rfl
theorem cells3 : Try.prog.cellsOf 3 = 1 := by kernel_rfl
def Q27 (I : Mem) (v : Value) : Prop := ∃ x, v = .agg (smV x).toArray ∧ okSm x
def Q3 (I : Mem) (v : Value) : Prop := ∃ n, v = .int .i64 n ∧ i64R n
def Q5 (I : Mem) (v : Value) : Prop := ∃ n, v = .int .u8 n ∧ 0 ≤ n ∧ n ≤ 255
set_option maxRecDepth 100000 in
theorem opc27 (W : World) : OpC Try.prog W 27 fun cs => ∃ x, cs = smV x ∧ okSm x := by
  refine (opc_struct (P := Try.prog) (W := W) Try.underlying27 cells27 (.cons rfl cells5 (opc_int Try.underlying5) (.cons rfl cells9 (opc_str Try.underlying9) (.cons rfl cells25 (opc_int Try.underlying25) (.cons rfl cells25 (opc_int Try.underlying25) (.cons rfl cells25 (opc_int Try.underlying25) (.cons rfl cells2 (opc_int Try.underlying2) .nil))))))).mono ?_
  rintro cs ⟨hl, ⟨k, h1, k1, k2⟩, ⟨s, h2, k3⟩, ⟨a, h3, k4, k5⟩, ⟨b, h4, k6, k7⟩, ⟨c, h5, k8, k9⟩, ⟨v, h6, k10, k11⟩, _⟩
  match cs, hl with
  | [y0, y1, y2, y3, y4, y5], _ =>
    simp only [List.drop_succ_cons, List.drop_zero, List.take_succ_cons, List.take_zero, List.cons.injEq, and_true] at h1 h2 h3 h4 h5 h6
    subst h1; subst h2; subst h3; subst h4; subst h5; subst h6
    have hr : reachBytes ≤ maxLen := by decide
    exact ⟨⟨k, s, a, b, c, v⟩, rfl, ⟨k1, k2⟩, Nat.le_trans k3 hr, ⟨k4, k5⟩, ⟨k6, k7⟩, ⟨k8, k9⟩, ⟨k10, k11⟩⟩
section
variable {H : Type} {enc : TypeId × Value → H} {W : World} {r : Reach} {b0 : Nat} {v : Value} {d : DataW H} {ps : List MemPlace}
set_option maxRecDepth 100000 in
theorem op27 (hval : Value.okWide Try.prog W r b0 27 v) (hd : DataW.Trod enc Try.prog W 0 (fun _ => true) true 27 v d ps) (hw : ∀ n ∈ d.weights Try.prog 27, n ≤ reachBytes) : Q27 (memW W) v := by
  obtain ⟨cs, rfl, x, e, hx⟩ := opc_top_struct (opc27 W) Try.underlying27 hval hd hw
  exact ⟨x, by rw [← e], hx⟩
set_option maxRecDepth 100000 in
theorem op3 (hval : Value.okWide Try.prog W r b0 3 v) (hd : DataW.Trod enc Try.prog W 0 (fun _ => true) true 3 v d ps) (hw : ∀ n ∈ d.weights Try.prog 3, n ≤ reachBytes) : Q3 (memW W) v := by
  obtain ⟨n, rfl, h1, h2⟩ := opI Try.underlying3 hval
  exact ⟨n, rfl, h1, h2⟩
set_option maxRecDepth 100000 in
theorem op5 (hval : Value.okWide Try.prog W r b0 5 v) (hd : DataW.Trod enc Try.prog W 0 (fun _ => true) true 5 v d ps) (hw : ∀ n ∈ d.weights Try.prog 5, n ≤ reachBytes) : Q5 (memW W) v := by
  obtain ⟨n, rfl, h1, h2⟩ := opI Try.underlying5 hval
  exact ⟨n, rfl, h1, h2⟩
end
theorem ct4Q (I : Mem) (v0 v1 v2 : Value) (h0 : Q27 I v0) (h1 : Q3 I v1) (h2 : Q5 I v2) : Ct Try.prog (fnv 4) #[v0, v1, v2] I (fun v _ => v = .bool true) := by
  obtain ⟨x, rfl, hx⟩ := h0
  obtain ⟨n, rfl, hn⟩ := h1
  obtain ⟨w, rfl, hw1, hw2⟩ := h2
  exact ct4 I x hx n hn w ⟨hw1, hw2⟩
