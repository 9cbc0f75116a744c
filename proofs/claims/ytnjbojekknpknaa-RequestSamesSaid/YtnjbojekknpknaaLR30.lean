/- Part of a proof by the rules of the symbolic walk (see the law's own text): contracts of functions of the program. -/
import Derived.Test.YtnjbojekknpknaaLR24
import Derived.Test.YtnjbojekknpknaaLR29
open Go Go.Proofs Go.SE Go.RowKit
set_option linter.unusedVariables false
theorem ct8Q (I : Mem) (v0 v1 v2 : Value) (h0 : Q27 I v0) (h1 : Q27 I v1) (h2 : Q5 I v2) : Ct Try.prog (fnv 8) #[v0, v1, v2] I (fun v _ => v = .bool true) := by
  obtain ⟨x, rfl, hx⟩ := h0
  obtain ⟨y, rfl, hy⟩ := h1
  obtain ⟨w, rfl, hw1, hw2⟩ := h2
  exact ct8 I x y hx hy w ⟨hw1, hw2⟩
