/- Part of a proof by the rules of the symbolic walk (see the law's own text): contracts of functions of the program. -/
import Derived.Test.YtnjbojekknpknaaLR24
import Derived.Test.YtnjbojekknpknaaLR26
open Go Go.Proofs Go.SE Go.RowKit
set_option linter.unusedVariables false
theorem ct7Q (I : Mem) (v0 v1 : Value) (h0 : Q27 I v0) (h1 : Q5 I v1) : Ct Try.prog (fnv 7) #[v0, v1] I (fun v _ => v = .bool true) := by
  obtain ⟨x, rfl, hx⟩ := h0
  obtain ⟨w, rfl, hw1, hw2⟩ := h1
  exact ct7 I x hx w ⟨hw1, hw2⟩
