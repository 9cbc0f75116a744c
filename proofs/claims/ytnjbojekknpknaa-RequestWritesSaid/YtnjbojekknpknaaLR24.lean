/- Part of a proof by the rules of the symbolic walk (see the law's own text): contracts of functions of the program. -/
import Derived.Test.YtnjbojekknpknaaLR17
open Go Go.Proofs Go.SE Go.RowKit
set_option linter.unusedVariables false
theorem cells22 : Try.prog.cellsOf 22 = 1 := by kernel_rfl
theorem cells29 : Try.prog.cellsOf 29 = 12 := by kernel_rfl
def Q22 (I : Mem) (v : Value) : Prop := ∃ (a : Option Addr) (n c : Nat) (bs : List Int), v = .slice a n c ∧ SlM I a n 1 (ints .u8 bs) ∧ n ≤ c ∧ c ≤ maxLen ∧ byteL bs
def Q49 (I : Mem) (v : Value) : Prop := ∃ n, v = .int .u16 n ∧ 0 ≤ n ∧ n ≤ 65535
def Q29 (I : Mem) (v : Value) : Prop := ∃ r y, v = .agg (rqV r y).toArray ∧ okRq r ∧ BySl I y r.fed ∧ r.name.size ≤ maxLen
set_option maxRecDepth 100000 in
theorem opc29 (W : World) : OpC Try.prog W 29 fun cs => ∃ r y, cs = rqV r y ∧ okRq r ∧ BySl (memW W) y r.fed ∧ r.name.size ≤ maxLen := by
  refine (opc_struct (P := Try.prog) (W := W) Try.underlying29 cells29 (.cons rfl cells5 (opc_int Try.underlying5) (.cons rfl cells5 (opc_int Try.underlying5) (.cons rfl cells9 (opc_str Try.underlying9) (.cons rfl cells3 (opc_int Try.underlying3) (.cons rfl cells3 (opc_int Try.underlying3) (.cons rfl cells3 (opc_int Try.underlying3) (.cons rfl cells3 (opc_int Try.underlying3) (.cons rfl cells3 (opc_int Try.underlying3) (.cons rfl cells3 (opc_int Try.underlying3) (.cons rfl cells3 (opc_int Try.underlying3) (.cons rfl cells2 (opc_int Try.underlying2) (.cons rfl cells22 (opc_ints Try.underlying22 Try.underlying5 cells5) .nil))))))))))))).mono ?_
  rintro cs ⟨hl, ⟨k, h0, k0⟩, ⟨w, h1, k1⟩, ⟨s, h2, k2⟩, ⟨p3, h3, k3⟩, ⟨p4, h4, k4⟩, ⟨p5, h5, k5⟩, ⟨p6, h6, k6⟩, ⟨p7, h7, k7⟩, ⟨p8, h8, k8⟩, ⟨p9, h9, k9⟩, ⟨vv, h10, k10⟩, ⟨a, n, c, zs, h11, g1, g2, g3, g4, _⟩, _⟩
  match cs, hl with
  | [y0, y1, y2, y3, y4, y5, y6, y7, y8, y9, y10, y11], _ =>
    simp only [List.drop_succ_cons, List.drop_zero, List.take_succ_cons, List.take_zero, List.cons.injEq, and_true] at h0 h1 h2 h3 h4 h5 h6 h7 h8 h9 h10 h11
    subst h0; subst h1; subst h2; subst h3; subst h4; subst h5; subst h6; subst h7; subst h8; subst h9; subst h10; subst h11
    have hr : reachBytes ≤ maxLen := by decide
    exact ⟨⟨k, w, s, p3, p4, p5, p6, p7, p8, p9, vv, zs⟩, .slice a n c, rfl, ⟨k0, k1, k3, k4, k5, k6, k7, k8, k9, k10, g4⟩, ⟨a, n, c, rfl, g1, g2, g3⟩, Nat.le_trans k2 hr⟩
section
variable {H : Type} {enc : TypeId × Value → H} {W : World} {r : Reach} {b0 : Nat} {v : Value} {d : DataW H} {ps : List MemPlace}
set_option maxRecDepth 100000 in
theorem op29 (hval : Value.okWide Try.prog W r b0 29 v) (hd : DataW.Trod enc Try.prog W 0 (fun _ => true) true 29 v d ps) (hw : ∀ n ∈ d.weights Try.prog 29, n ≤ reachBytes) : Q29 (memW W) v := by
  obtain ⟨cs, rfl, x, y, e, hx⟩ := opc_top_struct (opc29 W) Try.underlying29 hval hd hw
  exact ⟨x, y, by rw [← e], hx⟩
set_option maxRecDepth 100000 in
theorem op49 (hval : Value.okWide Try.prog W r b0 49 v) (hd : DataW.Trod enc Try.prog W 0 (fun _ => true) true 49 v d ps) (hw : ∀ n ∈ d.weights Try.prog 49, n ≤ reachBytes) : Q49 (memW W) v := by
  obtain ⟨n, rfl, h1, h2⟩ := opI Try.underlying49 hval
  exact ⟨n, rfl, h1, h2⟩
set_option maxRecDepth 100000 in
theorem op22 (hval : Value.okWide Try.prog W r b0 22 v) (hd : DataW.Trod enc Try.prog W 0 (fun _ => true) true 22 v d ps) (hw : ∀ n ∈ d.weights Try.prog 22, n ≤ reachBytes) : Q22 (memW W) v := by
  obtain ⟨a, n, c, zs, rfl, h1, h2, h3, h4⟩ := opSl Try.underlying22 Try.underlying5 cells5 hval hd
  exact ⟨a, n, c, zs, rfl, h1, h2, h3, h4⟩
end
