/- Proved: the law ResponseSames of fermatalaw35 returns true for every input, and its arguments read behind the call as they did before. Conditions: none. -/
import Derived.Test.YtdmhilnnendcoaaRows
import Derived.Test.YtdmhilnnendcoaaSam6
import Derived.Test.YtdmhilnnendcoaaSam3
import Derived.ProofKit
import Derived.OpenShut
namespace Go.Proofs.Ytdmhilnnendcoaa.responseSames
open Go.ChangeShapes Go.WideShapes Go.ChangeAt Go.RowKit
set_option linter.unusedVariables false

theorem own : ownKnob Try.prog.godebug = none := by kernel_rfl
theorem laidOut : laidOutB Try.prog = true := by kernel_rfl

/-! ### The row's step (after the seat's proof-skeleton) -/
set_option maxRecDepth 100000 in
theorem lifted (os : Os) (started : os.Started) (H : Type) (enc : TypeId × Value → H) :
    ReturnsInHanded {} Try.checked os 5 .any (Rows.responseSamesSpec.pre6 enc Try.prog Try.f5 Rows.responseSamesRow.domain false) (Rows.responseSamesSpec.post enc Try.prog Try.f5 false true false false) := by
  refine returnsInHanded_of_change_sized (C := Try.checked) own started (by kernel_rfl) Try.func5
    (ChangeSpec.witness6 (enc := enc) (C := Try.checked) false ⟨#[], #[.agg #[.int .u32 0, .int .u32 0, .int .u32 0, .int .u32 0, .int .u32 0, .int .u8 0, .bool false, .int .u16 0, .int .u16 0, .int .u16 0, .slice none 0 0, .slice none 0 0], .int .u8 0], []⟩ 8 (by kernel_rfl) (by kernel_rfl) (by kernel_rfl) (by kernel_rfl)) ?_
  intro W base args ds gs before hval0 hW hcnd hsz _
  have hval : ∀ (j : Nat) t v, Try.f5.params[j]? = some t → args[j]? = some v → Value.okWide Try.prog W .any base t v := hval0
  have hW' := hW
  obtain ⟨p, q, hA0, hV, rfl, hfz, hnd⟩ := hW
  have hA : DataW.TrodAll enc Try.prog W 0 (fun _ => true) true Try.f5.params.toList args.toList ds p := hA0
  have hA1 := hA
  rw [Try.params5] at hA hval
  obtain ⟨v0, vs0, d0, ds0, p0, q0, hargs, rfl, rfl, h0, r0⟩ := trodAll_cons hA
  obtain ⟨v1, vs1, d1, ds1, p1, q1, rfl, rfl, rfl, h1, r1⟩ := trodAll_cons r0
  obtain ⟨rfl, rfl, rfl⟩ := trodAll_nil r1
  obtain rfl : args = #[v0, v1] := by cases args; simp_all
  obtain ⟨rfl, rfl⟩ := trodVars_none hV
  clear hA0 hval0
  simp only [List.append_nil] at hW' hA1
  have hlt := fun (x : MemPlace) hx => (show x.block < W.heap.size by simpa using hW'.lt x hx)
  refine (Go.SE.calls_of_ct Try.call5 (ct5Q (Go.SE.memW W) v0 v1 (op28 (hval 0 28 v0 rfl rfl) h0 (Go.SE.weights_at hsz (j := 0) (t := 28) (d := d0) (by rw [Try.params5]; rfl) rfl)) (op5 (hval 1 5 v1 rfl rfl) h1 (Go.SE.weights_at hsz (j := 1) (t := 5) (d := d1) (by rw [Try.params5]; rfl) rfl))) (Go.SE.memW_in W)).mono fun e W' ⟨⟨v, _, he, hv⟩, hb⟩ => ?_
  subst hv; subst he
  exact ⟨_, rfl, ⟨_, _, _, [], _, [], hW', trodAll_mk1 (shut_bool Try.underlying4 _), Go.SE.trodAll_below laidOut hb (by kernel_rfl) hA1 hlt, rfl, hb.frame _, fun h => by cases h⟩⟩

theorem over : Rows.responseSamesRow.holds Try.pinned (OpenSpec.ofChange Rows.responseSamesSpec) :=
  OpenClaim.holds_of_wide 5 Try.f5 rfl rfl rfl rfl rfl rfl rfl ⟨rfl, rfl, rfl, rfl, rfl⟩ rfl rfl rfl rfl rfl (by kernel_rfl) Try.func5 (by kernel_rfl)
    (of_decide_eq_true (by kernel_rfl)) (by unfold Func.isWrapper; first | (rw [if_pos (by decide +kernel)]; kernel_rfl) | (rw [if_neg (by decide +kernel)]; exact ⟨rfl, rfl⟩))
    (fun os started H enc _ => lifted os started H enc)

/-- The statement. -/
theorem proved : Rows.ResponseSamesSaid :=
  over
#print axioms proved
end Go.Proofs.Ytdmhilnnendcoaa.responseSames
