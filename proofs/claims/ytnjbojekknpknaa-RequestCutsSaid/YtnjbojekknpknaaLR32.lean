/- Part of a proof by the rules of the symbolic walk (see the law's own text): contracts of functions of the program. -/
import Derived.Test.YtnjbojekknpknaaLR24
import Derived.Test.YtnjbojekknpknaaLR31
open Go Go.Proofs Go.SE Go.RowKit
set_option linter.unusedVariables false
theorem ct9Q (I : Mem) (v0 v1 v2 v3 : Value) (h0 : Q27 I v0) (h1 : Q49 I v1) (h2 : Q5 I v2) (h3 : Q5 I v3) : Ct Try.prog (fnv 9) #[v0, v1, v2, v3] I (fun v _ => v = .bool true) := by
  obtain ⟨x, rfl, hx⟩ := h0
  obtain ⟨w, rfl, hw1, hw2⟩ := h1
  obtain ⟨c, rfl, hc1, hc2⟩ := h2
  obtain ⟨k, rfl, hk1, hk2⟩ := h3
  exact ct9 I x hx w ⟨hw1, hw2⟩ c ⟨hc1, hc2⟩ k ⟨hk1, hk2⟩
