/- Contracts of functions to which memory is lent. -/
import Derived.Test.YthfgpdjplknleaaGreatDoorSe17
namespace Go.SE
open Go.RowKit

section
variable {P : Program} {c : Ctx} {e : Env} {s : St} {w : World} {a : Act}

def lentEnv (e : Env) (ids : List Nat) : Env := { blk := fun j => e.blk (ids.getD j 0), cap := fun j => e.cap (ids.getD j 0), nil := fun j => e.nil (ids.getD j 0) }
def lentMem (e : Env) (ids : List Nat) (w : World) : Mem := fun b => if ids.any (fun id => !e.nil id && e.blk id == b) then w.heap[b]? else none

theorem lentMem_dom {ids : List Nat} {b : Nat} (hb : lentMem e ids w b ≠ none) : ∃ id, id ∈ ids ∧ e.nil id = false ∧ e.blk id = b := by
  simp only [lentMem] at hb
  split at hb
  · rename_i hany
    obtain ⟨id, hid, h2⟩ := List.any_eq_true.1 hany
    simp only [Bool.and_eq_true, Bool.not_eq_true', beq_iff_eq] at h2
    exact ⟨id, hid, h2.1, h2.2⟩
  · exact absurd rfl hb
theorem lentMem_in {ids : List Nat} : (lentMem e ids w).inW w := fun b o hb => by
  simp only [lentMem] at hb
  split at hb
  · exact hb
  · cases hb

theorem own_lent (X : Sat c e s w) {ids : List Nat} {H0 : List Ent} (hH0 : entsAt s.H ids = some H0) (hnd : nodupB ids = true) (hin : H0.all (fun x => allIn ids (entRefs x)) = true) :
    OwnE (lentEnv e ids) (H0.map (renE fun i => posOf i ids)) (lentMem e ids w) := by
  obtain ⟨hl0, hat⟩ := entsAt_spec hH0
  have e1at : ∀ {j id : Nat}, ids[j]? = some id → (lentEnv e ids).blk j = e.blk id ∧ (lentEnv e ids).nil j = e.nil id ∧ (lentEnv e ids).cap j = e.cap id := fun {j id} hj => by simp [lentEnv, List.getD_eq_getElem?_getD, hj]
  have hH1 : ∀ {j : Nat} {x : Ent}, (H0.map (renE fun i => posOf i ids))[j]? = some x → ∃ id x0, ids[j]? = some id ∧ H0[j]? = some x0 ∧ s.H[id]? = some x0 ∧ alive x0.obj = true ∧ x = renE (fun i => posOf i ids) x0 := by
    intro j x hx
    rw [List.getElem?_map, Option.map_eq_some_iff] at hx
    obtain ⟨x0, hx0, rfl⟩ := hx
    have hjl : j < ids.length := by rw [← hl0]; exact (List.getElem?_eq_some_iff.1 hx0).1
    obtain ⟨x0', h2, h3, h4⟩ := hat j ids[j] (List.getElem?_eq_getElem hjl)
    rw [hx0] at h2
    cases h2
    exact ⟨ids[j], x0, List.getElem?_eq_getElem hjl, hx0, h3, h4, rfl⟩
  refine ⟨fun j x hx hal => ?_, fun i j x y hx hy hal1 hal2 hn1 hn2 hij => ?_, fun b hb => ?_, fun j x b hx hb => ?_⟩
  · obtain ⟨id, x0, hid, hx0, hs0, hal0, rfl⟩ := hH1 hx
    obtain ⟨a1, a2, a3⟩ := e1at hid
    refine holds_ren a1 a2 a3 (fun hnl o ho => ?_) (fun sv i ⟨cs, el, k, hcs, hk⟩ hr => ?_) (X.owned id x0 hs0 hal0).1
    · simp only [lentMem]
      rw [if_pos (List.any_eq_true.2 ⟨id, List.mem_of_getElem? hid, by simp [hnl]⟩)]
      exact ho
    · have hi : i ∈ ids := memB_true (List.all_eq_true.1 (List.all_eq_true.1 hin x0 (List.mem_of_getElem? hx0)) i (by
        simp only [entRefs, hcs]
        exact refsL_mem (refsL_of hk hr)))
      obtain ⟨b1, b2, b3⟩ := e1at (posOf_get hi)
      exact ⟨b1, b2, fun _ => b3⟩
  · obtain ⟨id, x0, hid, _, hs0, hal0, rfl⟩ := hH1 hx
    obtain ⟨id', y0, hid', _, hs0', hal0', rfl⟩ := hH1 hy
    obtain ⟨a1, a2, _⟩ := e1at hid
    obtain ⟨b1, b2, _⟩ := e1at hid'
    rw [a1, b1]
    refine X.apart id id' x0 y0 hs0 hs0' hal0 hal0' (a2 ▸ hn1) (b2 ▸ hn2) (fun hii => hij ?_)
    subst hii
    rw [← posOf_at hnd hid, ← posOf_at hnd hid']
  · obtain ⟨id, hid, hnl, rfl⟩ := lentMem_dom hb
    have hj := posOf_get hid
    obtain ⟨x0, hx0, hs0, hal0⟩ := hat _ _ hj
    obtain ⟨a1, a2, _⟩ := e1at hj
    refine ⟨posOf id ids, renE (fun i => posOf i ids) x0, by rw [List.getElem?_map, hx0]; rfl, by rw [(renE_alive _ x0).1]; exact hal0, a2.trans hnl, a1⟩
  · obtain ⟨id, x0, hid, hx0, hs0, hal0, rfl⟩ := hH1 hx
    obtain ⟨a1, a2, _⟩ := e1at hid
    rw [(renE_alive _ x0).2] at hb
    rw [a1, a2]
    exact X.names id x0 b hs0 hb

/-- A CONTRACT OF A FUNCTION TO WHICH MEMORY IS LENT. -/
theorem ctS_of_se {f : FuncId} {fn : Func} {cd : Code} {A : Ann} (hf : P.funcs[f]? = some fn) (hb : fn.body = some cd)
    (hcall : ∀ (args : Array Value) (w : World), (callFunc f args).run P w = .ok (.enter f args) w) {fv : SV} {first cap args sargs : List SV}
    (hfv : ∀ e, den e fv = .func (.func f) (denL e first).toArray (denL e cap).toArray) (hargs : first ++ args ++ cap = sargs) {H : List Ent} {I : Mem} {outs : List Nat} {post : SV → List Ent → Mem → Prop}
    (h : se P A cd (initX sargs H fn.ntmps I Mem.emp) (endX (finS P fn outs post))) (hrd : A.rd = false := by rfl) : CtS P fv args H I post := by
  intro e hp hO W hI hhp hap
  rw [hfv e]
  refine callV_func hcall (args := denL e sargs) (by subst hargs; simp [denL_eq]) ?_
  let c : Ctx := { W0 := W, I0 := I, hf := fun b => if (hp b).isNone then W.heap[b]? else none }
  have hmem : ∀ {id : Nat} {x : Ent}, H[id]? = some x → alive x.obj = true → e.nil id = false → hp (e.blk id) ≠ none := fun hx hal hn => holds_blk (hO.hold _ _ hx hal) hal hn
  have hfn : ∀ {b : Nat}, hp b ≠ none → c.hf b = none := fun {b} hb => by
    simp only [c]
    rw [if_neg]
    intro hn
    exact hb (by simpa using hn)
  have hS : SatX c e (initX sargs H fn.ntmps I Mem.emp) W := by
    refine ⟨⟨Same.refl _, Nat.le_refl _, hI, fun b o hb => ?_, fun b _ h0 => h0, fun id x hx hal => ⟨?_, fun hn => ⟨?_, ?_⟩⟩, hO.apart, hO.names⟩, fun b o hb => (by cases hb), fun b hb => absurd rfl hb, fun id x hx hal hn => rfl⟩
    · simp only [c] at hb
      split at hb
      · exact hb
      · cases hb
    · refine holds_mem (fun hn => ?_) (hO.hold id x hx hal)
      obtain ⟨o, ho⟩ := Option.ne_none_iff_exists'.1 (hmem hx hal hn)
      rw [ho]
      exact hhp _ o ho
    · exact (hap _).resolve_right (hmem hx hal hn)
    · exact hfn (hmem hx hal hn)
  refine core_of_se hrd hf hb (by simp) hS h (fun e' s' a' w' hK hS' hA' hle => ?_)
  obtain ⟨xs, h2, _⟩ := resL_sound hK hS'.toSat hA'
  obtain ⟨s2, h3, hS0, hA2, hle2, _, hls⟩ := hand_sound h2 hS'.toSat hA'
  have hS2 := hls.x hS' hS0
  obtain ⟨ys, h4, h5⟩ := resL_sound h3 hS2.toSat hA2
  split at h4
  case h_2 => exact h4.elim
  rename_i H0 hH0
  split at h4
  case isFalse => exact h4.elim
  rename_i hok
  simp only [Bool.and_eq_true] at hok
  obtain ⟨hnd, hin, hinH⟩ := hok
  have hOwn := own_lent hS2.toSat hH0 hnd hinH
  obtain ⟨hl0, hat⟩ := entsAt_spec hH0
  have hfb : ∀ b, b < W.heap.size → hp b = none → c.hf b = W.heap[b]? := fun b _ hg => by simp [c, hg]
  have hne : ∀ b, b < W.heap.size → hp b = none → c.hf b ≠ none := fun b hb hg => by rw [hfb b hb hg, Array.getElem?_eq_getElem hb]; simp
  have hown : ∀ {b : Nat}, lentMem e' outs w' b ≠ none → s2.I b = none ∧ c.hf b = none := by
    intro b hb
    obtain ⟨id, hid, hnl, rfl⟩ := lentMem_dom hb
    obtain ⟨x0, _, hs0, hal0⟩ := hat _ _ (posOf_get hid)
    exact (hS2.owned id x0 hs0 hal0).2 hnl
  have hres : (results fn a'.tmps).run P w' = .ok (den e' (resV ys)) w' := by
    have hr : (results fn a'.tmps).run P w' = .ok (if h : (denL e' ys).toArray.size = 1 then (denL e' ys).toArray[0] else .tuple (denL e' ys).toArray) w' := by
      have h6 : (fn.results.mapM (semRes a')).run P w' = .ok (denL e' ys).toArray w' := by
        rw [Array.mapM_eq_mapM_toList, Sem.run_map, h5]
        rfl
      unfold results
      simp only [Sem.run_bind]
      show ((fn.results.mapM (semRes a')).run P w').andThen _ = _
      rw [h6]
      rfl
    rw [hr]
    congr 1
    match ys with
    | [] => simp [resV, den, denL]
    | [x] => simp [resV, denL]
    | x :: y :: r => simp [resV, den, denL]
  refine ⟨_, hres, _, s2.I, lentMem e' outs w', rfl, Mem.le_trans hle hle2, hS2.I, lentMem_in, fun b => ?_, hS2.size, hS2.same, ?_, ?_, lentEnv e' outs, _, _, ?_, hOwn, h4⟩
  · by_cases hb : lentMem e' outs w' b = none
    · exact .inr hb
    · exact .inl (hown hb).1
  · intro b hb hg
    have := hfb b hb hg
    rw [Array.getElem?_eq_getElem hb] at this
    rw [hS2.hf b _ this, Array.getElem?_eq_getElem hb]
  · intro b hb hg
    refine ⟨?_, fun h0 => hS2.old b (hne b hb hg) h0⟩
    by_cases hb2 : lentMem e' outs w' b = none
    · exact hb2
    · exact absurd (hown hb2).2 (hne b hb hg)
  · refine ((den_ren (e1 := lentEnv e' outs) (e := e') (f := fun i => posOf i outs) (x := resV ys) (fun i hi => ?_)).1).symm
    have hm : i ∈ outs := memB_true (List.all_eq_true.1 hin i (refs_mem hi))
    have hj := posOf_get hm
    simp [lentEnv, List.getD_eq_getElem?_getD, hj]

theorem ctS_fn {f : FuncId} {fn : Func} {cd : Code} {A : Ann} (hf : P.funcs[f]? = some fn) (hb : fn.body = some cd)
    (hcall : ∀ (args : Array Value) (w : World), (callFunc f args).run P w = .ok (.enter f args) w) {args : List SV}
    {H : List Ent} {I : Mem} (outs : List Nat) {post : SV → List Ent → Mem → Prop}
    (h : se P A cd (initX args H fn.ntmps I Mem.emp) (endX (finS P fn outs post))) (hrd : A.rd = false := by rfl) : CtS P (.v (fnv f)) args H I post :=
  ctS_of_se hf hb hcall (first := []) (cap := []) (fun e => by simp [den, fnv, denL]) (by simp) h hrd

end
end Go.SE
