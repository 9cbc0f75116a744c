/- Proved: the law ResponseReads of fermatalaw35 returns true for every input, and its arguments read behind the call as they did before. Conditions: none. -/
import Derived.Test.YtdmhilnnendcoaaGreatRows
import Derived.Test.YtdmhilnnendcoaaGreatRea7
import Derived.Test.YtdmhilnnendcoaaGreatRea3
import Derived.ProofKit
import Derived.OpenShut
namespace Go.Proofs.YtdmhilnnendcoaaGreat.responseReads
open Go.ChangeShapes Go.WideShapes Go.ChangeAt Go.RowKit
set_option linter.unusedVariables false

theorem own : ownKnob Tryz.prog.godebug = none := by kernel_rfl
theorem laidOut : laidOutB Tryz.prog = true := by kernel_rfl

/-! ### The row's step (after the seat's proof-skeleton) -/
set_option maxRecDepth 100000 in
theorem lifted (os : Os) (started : os.Started) (H : Type) (enc : TypeId × Value → H) :
    ReturnsInHanded {} Tryz.checked os 3 .any (Rows.responseReadsSpec.pre6 enc Tryz.prog Tryz.f3 Rows.responseReadsRow.domain false) (Rows.responseReadsSpec.post enc Tryz.prog Tryz.f3 false true false false) := by
  refine returnsInHanded_of_change_sized (C := Tryz.checked) own started (by kernel_rfl) Tryz.func3
    (ChangeSpec.witness6 (enc := enc) (C := Tryz.checked) false ⟨#[], #[.slice none 0 0], []⟩ 8 (by kernel_rfl) (by kernel_rfl) (by kernel_rfl) (by kernel_rfl)) ?_
  intro W base args ds gs before hval0 hW hcnd hsz _
  have hval : ∀ (j : Nat) t v, Tryz.f3.params[j]? = some t → args[j]? = some v → Value.okWide Tryz.prog W .any base t v := hval0
  have hW' := hW
  obtain ⟨p, q, hA0, hV, rfl, hfz, hnd⟩ := hW
  have hA : DataW.TrodAll enc Tryz.prog W 0 (fun _ => true) true Tryz.f3.params.toList args.toList ds p := hA0
  have hA1 := hA
  rw [Tryz.params3] at hA hval
  obtain ⟨v0, vs0, d0, ds0, p0, q0, hargs, rfl, rfl, h0, r0⟩ := trodAll_cons hA
  obtain ⟨rfl, rfl, rfl⟩ := trodAll_nil r0
  obtain rfl : args = #[v0] := by cases args; simp_all
  obtain ⟨rfl, rfl⟩ := trodVars_none hV
  clear hA0 hval0
  simp only [List.append_nil] at hW' hA1
  have hlt := fun (x : MemPlace) hx => (show x.block < W.heap.size by simpa using hW'.lt x hx)
  refine (Go.SE.calls_of_ct Tryz.call3 (ct3Q (Go.SE.memW W) v0 (op22 (hval 0 22 v0 rfl rfl) h0 (Go.SE.weights_at hsz (j := 0) (t := 22) (d := d0) (by rw [Tryz.params3]; rfl) rfl))) (Go.SE.memW_in W)).mono fun e W' ⟨⟨v, _, he, hv⟩, hb⟩ => ?_
  subst hv; subst he
  exact ⟨_, rfl, ⟨_, _, _, [], _, [], hW', trodAll_mk1 (shut_bool Tryz.underlying4 _), Go.SE.trodAll_below laidOut hb (by kernel_rfl) hA1 hlt, rfl, hb.frame _, fun h => by cases h⟩⟩

theorem over : Rows.responseReadsRow.holds Tryz.pinned (OpenSpec.ofChange Rows.responseReadsSpec) :=
  OpenClaim.holds_of_wide 3 Tryz.f3 rfl rfl rfl rfl rfl rfl rfl ⟨rfl, rfl, rfl, rfl, rfl⟩ rfl rfl rfl rfl rfl (by kernel_rfl) Tryz.func3 (by kernel_rfl)
    (of_decide_eq_true (by kernel_rfl)) (by unfold Func.isWrapper; first | (rw [if_pos (by decide +kernel)]; kernel_rfl) | (rw [if_neg (by decide +kernel)]; exact ⟨rfl, rfl⟩))
    (fun os started H enc _ => lifted os started H enc)

/-- The statement. -/
theorem proved : Rows.ResponseReadsSaid :=
  over
#print axioms proved
end Go.Proofs.YtdmhilnnendcoaaGreat.responseReads
