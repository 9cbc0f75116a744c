/- Arguments that are arrays. -/
import Derived.Test.YtdmhilnnendcoaaSe22
import Derived.OpenShut
namespace Go.SE
open Go.RowKit Go.ChangeShapes Go.WideShapes Go.ChangeAt Go.ChangeMaps
theorem opc_array {P : Program} {W : World} {t e : TypeId} {n m k : Nat} {Q : List Value → Prop} (ht : P.underlying t = some (.array n e)) (hc : P.cellsOf e = m) (hk : P.cellsOf t = k) (he : OpC P W e Q) :
    OpC P W t fun cs => cs.length = k ∧ ∀ i, i < n → Q ((cs.drop (i * m)).take m) := by
  intro H enc fuel cs d ps h hw
  obtain ⟨xs, q, _, hx, h1, h2, h3⟩ := DataW.trod_array ht h
  cases hx
  refine ⟨by rw [h1, hk], fun i hi => ?_⟩
  have h4 := h3 i hi
  rw [hc] at h4
  have h5 : xs[i]? = some xs[i] := List.getElem?_eq_getElem (by omega)
  rw [h5] at h4
  refine he H enc q _ xs[i].1 xs[i].2 h4 fun z hz => hw z ?_
  have : (xs.map (·.1))[i]? = some xs[i].1 := by rw [List.getElem?_map, h5]; rfl
  simp only [DataW.weights, ht]
  exact weights_all this z hz
end Go.SE
