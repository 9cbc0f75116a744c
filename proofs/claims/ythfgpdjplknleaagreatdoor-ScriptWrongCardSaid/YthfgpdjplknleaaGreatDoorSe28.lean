/- A function that has own memory of a known look at first (entries), beside memory that functions that are given may write. -/
import Derived.Test.YthfgpdjplknleaaGreatDoorSe17S
import Derived.Test.YthfgpdjplknleaaGreatDoorSe15R
namespace Go.SE
open Go.RowKit
variable {P : Program}
theorem ctGS_of_se {f : FuncId} {fn : Func} {cd : Code} {A : Ann} (hf : P.funcs[f]? = some fn) (hb : fn.body = some cd)
    (hcall : ∀ (args : Array Value) (w : World), (callFunc f args).run P w = .ok (.enter f args) w)
    {e : Env} {sargs : List SV} {H : List Ent} {first cap given : Array Value} {I G Gr : Mem} (hO : OwnE e H Gr) (hgr : G.apart Gr) (hargs : denL e sargs = (first ++ given ++ cap).toList) {post : Value → Mem → Mem → Prop}
    (h : se P A cd (initX sargs H fn.ntmps I G) (endX (finG P fn post))) (hrd : A.rd = false := by rfl) : CtH P (.func (.func f) first cap) given I (join G Gr) post := by
  intro W hI hG hap
  refine callV_func hcall (args := denL e sargs) hargs.symm ?_
  have hGin : ∀ {b : Nat}, G b ≠ none → join G Gr b ≠ none := fun {b} hb hn => hb (join_eq_none hn).1
  have hRin : ∀ {b : Nat}, Gr b ≠ none → join G Gr b ≠ none := fun {b} hb hn => hb (join_eq_none hn).2
  let c : Ctx := { W0 := W, I0 := I, hf := fun b => if (join G Gr b).isNone then W.heap[b]? else none }
  have hfn : ∀ {b : Nat}, join G Gr b ≠ none → c.hf b = none := fun {b} hb => by
    simp only [c]
    rw [if_neg]
    intro hn
    exact hb (by simpa using hn)
  have hmem : ∀ {id : Nat} {x : Ent}, H[id]? = some x → alive x.obj = true → e.nil id = false → Gr (e.blk id) ≠ none := fun hx hal hn => holds_blk (hO.hold _ _ hx hal) hal hn
  have hS : SatX c e (initX sargs H fn.ntmps I G) W := by
    refine ⟨⟨Same.refl _, Nat.le_refl _, hI, fun b o hb => ?_, fun b _ h0 => h0, fun id x hx hal => ⟨?_, fun hn => ⟨?_, ?_⟩⟩, hO.apart, hO.names⟩, fun b o hb => ?_, fun b hb => ⟨?_, hfn (hGin hb)⟩, fun id x hx hal hn => ?_⟩
    · simp only [c] at hb
      split at hb
      · exact hb
      · cases hb
    · refine holds_mem (fun hn => ?_) (hO.hold id x hx hal)
      obtain ⟨o, ho⟩ := Option.ne_none_iff_exists'.1 (hmem hx hal hn)
      rw [ho]
      exact hG _ o (join_right hgr ho)
    · exact (hap _).resolve_right (hRin (hmem hx hal hn))
    · exact hfn (hRin (hmem hx hal hn))
    · exact hG b o (join_some hb)
    · exact (hap b).resolve_right (hGin hb)
    · exact (hgr _).resolve_right (hmem hx hal hn)
  refine core_of_se hrd hf hb (by simp) hS h (fun e' s' a' w' hK hS' hA' hle => ?_)
  obtain ⟨xs, h2, _⟩ := resL_sound hK hS'.toSat hA'
  obtain ⟨s2, h3, hS0, hA2, hle2, _, hls⟩ := hand_sound h2 hS'.toSat hA'
  have hS2 := hls.x hS' hS0
  obtain ⟨ys, h4, h5⟩ := resL_sound h3 hS2.toSat hA2
  split at h4
  · rename_i v hv
    have hfb : ∀ b, b < W.heap.size → join G Gr b = none → c.hf b = W.heap[b]? := fun b _ hg => by simp [c, hg]
    have hne : ∀ b, b < W.heap.size → join G Gr b = none → c.hf b ≠ none := fun b hb hg => by rw [hfb b hb hg, Array.getElem?_eq_getElem hb]; simp
    refine ⟨v, results_of h5 hv, v, s2.I, s2.G, rfl, Mem.le_trans hle hle2, hS2.I, hS2.gIn, fun b => ?_, hS2.size, hS2.same, ?_, ?_, h4⟩
    · cases hg : s2.G b with
      | none => exact .inr rfl
      | some o => exact .inl (hS2.gI b (by rw [hg]; simp)).1
    · intro b hb hg
      have := hfb b hb hg
      rw [Array.getElem?_eq_getElem hb] at this
      rw [hS2.hf b _ this, Array.getElem?_eq_getElem hb]
    · intro b hb hg
      refine ⟨?_, fun h0 => hS2.old b (hne b hb hg) h0⟩
      cases hgb : s2.G b with
      | none => rfl
      | some o => exact absurd (hS2.gI b (by rw [hgb]; simp)).2 (hne b hb hg)
  · exact h4.elim
theorem ctGS_via {f : FuncId} {fn : Func} {cd : Code} {A : Ann} (hf : P.funcs[f]? = some fn) (hb : fn.body = some cd)
    (hcall : ∀ (args : Array Value) (w : World), (callFunc f args).run P w = .ok (.enter f args) w)
    {e : Env} {sargs : List SV} {H : List Ent} {first cap given : Array Value} {I G Gr : Mem} (hO : OwnE e H Gr) (hgr : G.apart Gr) (hargs : denL e sargs = (first ++ given ++ cap).toList) {post : Value → Mem → Mem → Prop} (hrd : A.rd = false)
    (h : se P A cd (initX sargs H fn.ntmps I G) (endX (finG P fn post))) : CtH P (.func (.func f) first cap) given I (join G Gr) post :=
  ctGS_of_se hf hb hcall hO hgr hargs h hrd
end Go.SE
