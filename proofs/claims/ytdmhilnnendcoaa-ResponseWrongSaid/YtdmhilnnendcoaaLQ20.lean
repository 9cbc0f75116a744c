/- Part of a proof by the rules of the symbolic walk (see the law's own text): contracts of functions of the program. -/
import Derived.Test.YtdmhilnnendcoaaLQ18
import Derived.Test.YtdmhilnnendcoaaGT
open Go Go.Proofs Go.SE Go.RowKit
set_option linter.unusedVariables false
theorem ct3Q (I : Mem) (v0 v1 v2 : Value) (h0 : Q28 I v0) (h1 : Q3 I v1) (h2 : Q5 I v2) : Ct Try.prog (fnv 3) #[v0, v1, v2] I (fun v _ => v = .bool true) := by
  obtain ⟨s, ls, vs, a, b, n, m, c, d, rfl, hs⟩ := h0
  obtain ⟨x, rfl, hx⟩ := h1
  obtain ⟨w, rfl, hw1, hw2⟩ := h2
  exact ct3 s ls vs a b n m c d I hs x hx w ⟨hw1, hw2⟩
