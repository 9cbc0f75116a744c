/- Proved: the law RequestSmall of fermatalaw34 returns true for every input, and its arguments read behind the call as they did before. Conditions: none. -/
import Derived.Test.YtnjbojekknpknaaRows
import Derived.Test.YtnjbojekknpknaaSma6
import Derived.Test.YtnjbojekknpknaaSma3
import Derived.ProofKit
import Derived.OpenShut
namespace Go.Proofs.Ytnjbojekknpknaa.requestSmall
open Go.ChangeShapes Go.WideShapes Go.ChangeAt Go.RowKit
set_option linter.unusedVariables false

theorem own : ownKnob Try.prog.godebug = none := by kernel_rfl
theorem laidOut : laidOutB Try.prog = true := by kernel_rfl

/-! ### The row's step (after the seat's proof-skeleton) -/
set_option maxRecDepth 100000 in
theorem lifted (os : Os) (started : os.Started) (H : Type) (enc : TypeId × Value → H) :
    ReturnsInHanded {} Try.checked os 10 .any (Rows.requestSmallSpec.pre6 enc Try.prog Try.f10 Rows.requestSmallRow.domain false) (Rows.requestSmallSpec.post enc Try.prog Try.f10 false true false false) := by
  refine returnsInHanded_of_change_sized (C := Try.checked) own started (by kernel_rfl) Try.func10
    (ChangeSpec.witness6 (enc := enc) (C := Try.checked) false ⟨#[], #[], []⟩ 8 (by kernel_rfl) (by kernel_rfl) (by kernel_rfl) (by kernel_rfl)) ?_
  intro W base args ds gs before hval0 hW hcnd hsz _
  have hval : ∀ (j : Nat) t v, Try.f10.params[j]? = some t → args[j]? = some v → Value.okWide Try.prog W .any base t v := hval0
  have hW' := hW
  obtain ⟨p, q, hA0, hV, rfl, hfz, hnd⟩ := hW
  have hA : DataW.TrodAll enc Try.prog W 0 (fun _ => true) true Try.f10.params.toList args.toList ds p := hA0
  have hA1 := hA
  rw [Try.params10] at hA hval
  obtain ⟨rfl, rfl, rfl⟩ := trodAll_none hA
  obtain ⟨rfl, rfl⟩ := trodVars_none hV
  clear hA0 hval0
  simp only [List.append_nil] at hW' hA1
  have hlt := fun (x : MemPlace) hx => (show x.block < W.heap.size by simpa using hW'.lt x hx)
  refine (Go.SE.calls_of_ct Try.call10 (ct10Q (Go.SE.memW W) ) (Go.SE.memW_in W)).mono fun e W' ⟨⟨v, _, he, hv⟩, hb⟩ => ?_
  subst hv; subst he
  exact ⟨_, rfl, ⟨_, _, _, [], _, [], hW', trodAll_mk1 (shut_bool Try.underlying4 _), Go.SE.trodAll_below laidOut hb (by kernel_rfl) hA1 hlt, rfl, hb.frame _, fun h => by cases h⟩⟩

theorem over : Rows.requestSmallRow.holds Try.pinned (OpenSpec.ofChange Rows.requestSmallSpec) :=
  OpenClaim.holds_of_wide 10 Try.f10 rfl rfl rfl rfl rfl rfl rfl ⟨rfl, rfl, rfl, rfl, rfl⟩ rfl rfl rfl rfl rfl (by kernel_rfl) Try.func10 (by kernel_rfl)
    (of_decide_eq_true (by kernel_rfl)) (by unfold Func.isWrapper; first | (rw [if_pos (by decide +kernel)]; kernel_rfl) | (rw [if_neg (by decide +kernel)]; exact ⟨rfl, rfl⟩))
    (fun os started H enc _ => lifted os started H enc)

/-- The statement. -/
theorem proved : Rows.RequestSmallSaid :=
  over
#print axioms proved
end Go.Proofs.Ytnjbojekknpknaa.requestSmall
