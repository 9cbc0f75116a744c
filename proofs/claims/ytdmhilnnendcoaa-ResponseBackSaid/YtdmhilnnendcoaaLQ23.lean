/- Part of a proof by the rules of the symbolic walk (see the law's own text): contracts of functions of the program. -/
import Derived.Test.YtdmhilnnendcoaaLQ22
open Go Go.Proofs Go.SE Go.RowKit
set_option linter.unusedVariables false
theorem ct4Q (I : Mem) (v0 v1 v2 : Value) (h0 : Q28 I v0) (h1 : Q28 I v1) (h2 : Q47 I v2) : Ct Try.prog (fnv 4) #[v0, v1, v2] I (fun v _ => v = .bool true) := by
  obtain ⟨s, ls, vs, a, b, n, m, c, d, rfl, hs⟩ := h0
  obtain ⟨s', ls', vs', a', b', n', m', c', d', rfl, hs'⟩ := h1
  obtain ⟨u, w, x, bs, rfl, hu, hwx, hx, hb⟩ := h2
  exact ct4 s ls vs a b n m c d I hs s' ls' vs' a' b' n' m' c' d' hs' bs hb u w x hu hwx hx
