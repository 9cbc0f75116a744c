/- Part of a proof by the rules of the symbolic walk (see the law's own text): contracts of functions of the program. -/
import Derived.Test.YtdmhilnnendcoaaLQ24
open Go Go.Proofs Go.SE Go.RowKit
set_option linter.unusedVariables false
theorem ct6Q (I : Mem) (v0 v1 v2 : Value) (h0 : Q28 I v0) (h1 : Q23 I v1) (h2 : Q5 I v2) : Ct Try.prog (fnv 6) #[v0, v1, v2] I (fun v _ => v = .bool true) := by
  obtain ⟨s, ls, vs, a, b, n, m, c, d, rfl, hs⟩ := h0
  obtain ⟨w, rfl, hw1, hw2⟩ := h1
  obtain ⟨z, rfl, hz1, hz2⟩ := h2
  exact ct6 s ls vs a b n m c d I hs w ⟨hw1, hw2⟩ z ⟨hz1, hz2⟩
