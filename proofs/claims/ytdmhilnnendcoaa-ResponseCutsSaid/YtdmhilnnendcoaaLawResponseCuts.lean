/- Proved: the law ResponseCuts of fermatalaw35 returns true for every input, and its arguments read behind the call as they did before. Conditions: none. -/
import Derived.Test.YtdmhilnnendcoaaRows
import Derived.Test.YtdmhilnnendcoaaLQ25
import Derived.Test.YtdmhilnnendcoaaSe21
import Derived.ProofKit
import Derived.OpenShut
namespace Go.Proofs.Ytdmhilnnendcoaa.responseCuts
open Go.ChangeShapes Go.WideShapes Go.ChangeAt Go.RowKit
set_option linter.unusedVariables false

theorem own : ownKnob Try.prog.godebug = none := by kernel_rfl
theorem laidOut : laidOutB Try.prog = true := by kernel_rfl

/-! ### The row's step (after the seat's proof-skeleton) -/
set_option maxRecDepth 100000 in
theorem lifted (os : Os) (started : os.Started) (H : Type) (enc : TypeId × Value → H) :
    ReturnsInHanded {} Try.checked os 6 .any (Rows.responseCutsSpec.pre6 enc Try.prog Try.f6 Rows.responseCutsRow.domain false) (Rows.responseCutsSpec.post enc Try.prog Try.f6 false true false false) := by
  refine returnsInHanded_of_change_sized (C := Try.checked) own started (by kernel_rfl) Try.func6
    (ChangeSpec.witness6 (enc := enc) (C := Try.checked) false ⟨#[], #[.agg #[.int .u32 0, .int .u32 0, .int .u32 0, .int .u32 0, .int .u32 0, .int .u8 0, .bool false, .int .u16 0, .int .u16 0, .int .u16 0, .slice none 0 0, .slice none 0 0], .int .u16 0, .int .u8 0], []⟩ 8 (by kernel_rfl) (by kernel_rfl) (by kernel_rfl) (by kernel_rfl)) ?_
  intro W base args ds gs before hval0 hW hcnd hsz _
  have hval : ∀ (j : Nat) t v, Try.f6.params[j]? = some t → args[j]? = some v → Value.okWide Try.prog W .any base t v := hval0
  have hW' := hW
  obtain ⟨p, q, hA0, hV, rfl, hfz, hnd⟩ := hW
  have hA : DataW.TrodAll enc Try.prog W 0 (fun _ => true) true Try.f6.params.toList args.toList ds p := hA0
  have hA1 := hA
  rw [Try.params6] at hA hval
  obtain ⟨v0, vs0, d0, ds0, p0, q0, hargs, rfl, rfl, h0, r0⟩ := trodAll_cons hA
  obtain ⟨v1, vs1, d1, ds1, p1, q1, rfl, rfl, rfl, h1, r1⟩ := trodAll_cons r0
  obtain ⟨v2, vs2, d2, ds2, p2, q2, rfl, rfl, rfl, h2, r2⟩ := trodAll_cons r1
  obtain ⟨rfl, rfl, rfl⟩ := trodAll_nil r2
  obtain rfl : args = #[v0, v1, v2] := by cases args; simp_all
  obtain ⟨rfl, rfl⟩ := trodVars_none hV
  clear hA0 hval0
  simp only [List.append_nil] at hW' hA1
  have hlt := fun (x : MemPlace) hx => (show x.block < W.heap.size by simpa using hW'.lt x hx)
  refine (Go.SE.calls_of_ct Try.call6 (ct6Q (Go.SE.memW W) v0 v1 v2 (op28 (hval 0 28 v0 rfl rfl) h0 (Go.SE.weights_at hsz (j := 0) (t := 28) (d := d0) (by rw [Try.params6]; rfl) rfl)) (op23 (hval 1 23 v1 rfl rfl) h1 (Go.SE.weights_at hsz (j := 1) (t := 23) (d := d1) (by rw [Try.params6]; rfl) rfl)) (op5 (hval 2 5 v2 rfl rfl) h2 (Go.SE.weights_at hsz (j := 2) (t := 5) (d := d2) (by rw [Try.params6]; rfl) rfl))) (Go.SE.memW_in W)).mono fun e W' ⟨⟨v, _, he, hv⟩, hb⟩ => ?_
  subst hv; subst he
  exact ⟨_, rfl, ⟨_, _, _, [], _, [], hW', trodAll_mk1 (shut_bool Try.underlying4 _), Go.SE.trodAll_below laidOut hb (by kernel_rfl) hA1 hlt, rfl, hb.frame _, fun h => by cases h⟩⟩

theorem over : Rows.responseCutsRow.holds Try.pinned (OpenSpec.ofChange Rows.responseCutsSpec) :=
  OpenClaim.holds_of_wide 6 Try.f6 rfl rfl rfl rfl rfl rfl rfl ⟨rfl, rfl, rfl, rfl, rfl⟩ rfl rfl rfl rfl rfl (by kernel_rfl) Try.func6 (by kernel_rfl)
    (of_decide_eq_true (by kernel_rfl)) (by unfold Func.isWrapper; first | (rw [if_pos (by decide +kernel)]; kernel_rfl) | (rw [if_neg (by decide +kernel)]; exact ⟨rfl, rfl⟩))
    (fun os started H enc _ => lifted os started H enc)

/-- The statement. -/
theorem proved : Rows.ResponseCutsSaid :=
  over
#print axioms proved
end Go.Proofs.Ytdmhilnnendcoaa.responseCuts
