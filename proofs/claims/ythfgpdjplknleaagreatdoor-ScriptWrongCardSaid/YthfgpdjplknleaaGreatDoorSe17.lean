/- Functions: a contract from a symbolic run of the body. -/
import Derived.Test.YthfgpdjplknleaaGreatDoorSe16S
import Derived.RangeFuncRecord
namespace Go.SE
open Go.RowKit

def resOne (P : Program) (s : St) (r : ResultVar) (K : SV → Prop) : Prop :=
  match r with
  | .tmp t => if isJunk (ev s (.tmp t)) then False else K (ev s (.tmp t))
  | .cell a t => sLoad P s t (ev s (.tmp a)) fun x => if isJunk x then False else K x
def resL (P : Program) (s : St) : List ResultVar → (List SV → Prop) → Prop
  | [], K => K []
  | r :: rs, K => resOne P s r fun x => resL P s rs fun xs => K (x :: xs)
def resV (xs : List SV) : SV :=
  match xs with
  | [x] => x
  | xs => .tup xs

/-- The end of a body. -/
def unmark : List Nat → St → (St → Prop) → Prop
  | [], s, K => K { s with marks := [] }
  | id :: r, s, K => match s.H[id]? with
    | some ⟨.raw (.deferred (some [])), _⟩ => unmark r { s with H := s.H.set id ⟨.dead, none⟩ } K
    | _ => False
def endX (K : St → Prop) : SX → St → Prop
  | .exit _, _ => False
  | _, s => unmark s.marks s K
/-- What is returned, handed over. -/
def finG (P : Program) (fn : Func) (post : Value → Mem → Mem → Prop) (s : St) : Prop :=
  resL P s fn.results.toList fun xs => hand P 100 (refsOf (resV xs)) s fun s' =>
    resL P s' fn.results.toList fun ys => match valS (resV ys) with
      | some v => post v s'.I s'.G
      | none => False
/-- What is returned, and the entries that go with it. -/
def finS (P : Program) (fn : Func) (outs : List Nat) (post : SV → List Ent → Mem → Prop) (s : St) : Prop :=
  resL P s fn.results.toList fun xs => hand P 100 ((refsOf (resV xs)).filter fun i => !memB i outs) s fun s' =>
    resL P s' fn.results.toList fun ys => match entsAt s'.H outs with
      | some H0 => if nodupB outs && (allIn outs (refsOf (resV ys)) && H0.all (fun x => allIn outs (entRefs x))) then
          post (renF (fun i => posOf i outs) (resV ys)) (H0.map (renE fun i => posOf i outs)) s'.I
        else False
      | none => False

def initX (args : List SV) (H : List Ent) (n : Nat) (I G : Mem) : St :=
  { tm := args ++ List.replicate (n - args.length) (.v undef), H := H, I := I, marks := [], G := G }
def initS (args : List Value) (n : Nat) (I : Mem) : St := initX (args.map .v) [] n I Mem.emp

section
variable {P : Program} {c : Ctx} {e : Env} {s : St} {w : World} {a : Act}

def semRes (a : Act) (r : ResultVar) : Sem Value :=
  match r with
  | .tmp t => pure (a.tmps.getD t undef)
  | .cell q t => do loadVar t (← asAddr (a.tmps.getD q undef))

theorem resOne_sound {r : ResultVar} {K : SV → Prop} (h : resOne P s r K) (hS : Sat c e s w) (hA : SatA e s a) :
    ∃ sv, K sv ∧ (semRes a r).run P w = .ok (den e sv) w := by
  cases r with
  | tmp t =>
    simp only [resOne] at h
    split at h
    · exact h.elim
    · rename_i hj
      simp only [Bool.not_eq_true] at hj
      refine ⟨_, h, ?_⟩
      have := ev_ok hA (.tmp t) hj
      simp only [Act.eval] at this
      simp [semRes, this]
  | cell q t =>
    simp only [resOne] at h
    obtain ⟨sv, h1, h2⟩ := sLoad_sound (c := c) h
    split at h1
    · exact h1.elim
    · rename_i hj
      obtain ⟨x, h3, h4⟩ := h2 e a w hS hA
      have h5 := h3 none 0 "" #[] none
      rcases h4 with h4 | rfl
      · exact absurd h4 hj
      refine ⟨sv, h1, ?_⟩
      simp only [execOp, Act.eval, Instr.loadAt, Sem.run_bind] at h5
      simp only [semRes, Sem.run_bind]
      cases hv : a.tmps.getD q undef with
      | pointer p =>
        cases p with
        | none => simp [hv, Instr.sureAddr] at h5
        | some ad =>
          simp only [hv, Instr.sureAddr, Sem.run_pure, Result.andThen_ok] at h5
          simp only [asAddr, Sem.run_pure, Result.andThen_ok]
          cases hl : (loadVar t ad).run P w with
          | ok y w' =>
            simp only [hl, Result.andThen_ok, Result.ok.injEq, Next.value.injEq] at h5
            rw [h5.1, h5.2]
          | halt y w' => simp [hl] at h5
      | _ => simp [hv, Instr.sureAddr] at h5

theorem resL_sound : ∀ {rs : List ResultVar} {K : List SV → Prop}, resL P s rs K → Sat c e s w → SatA e s a →
    ∃ xs, K xs ∧ (rs.mapM (semRes a)).run P w = .ok (denL e xs) w
  | [], K, h, hS, hA => ⟨[], h, by simp [denL]⟩
  | r :: rs, K, h, hS, hA => by
    obtain ⟨x, h1, h2⟩ := resOne_sound h hS hA
    obtain ⟨xs, h3, h4⟩ := resL_sound h1 hS hA
    exact ⟨_, h3, by simp only [List.mapM_cons, Sem.run_bind, h2, h4, Result.andThen_ok, Sem.run_pure, denL]⟩

theorem results_of {fn : Func} {xs : List SV} {v : Value} (h : (fn.results.toList.mapM (semRes a)).run P w = .ok (denL e xs) w) (hv : valS (resV xs) = some v) :
    (results fn a.tmps).run P w = .ok v w := by
  have hr : (results fn a.tmps).run P w = .ok (if h : (denL e xs).toArray.size = 1 then (denL e xs).toArray[0] else .tuple (denL e xs).toArray) w := by
    have h2 : (fn.results.mapM (semRes a)).run P w = .ok (denL e xs).toArray w := by
      rw [Array.mapM_eq_mapM_toList, Sem.run_map, h]
      rfl
    unfold results
    simp only [Sem.run_bind]
    show ((fn.results.mapM (semRes a)).run P w).andThen _ = _
    rw [h2]
    rfl
  rw [hr]
  congr 1
  have hd := (valS_den (e := e) hv).1
  match xs, hd with
  | [], hd => simpa [resV, den, denL] using hd
  | [x], hd => simpa [resV, denL] using hd
  | x :: y :: r, hd => simpa [resV, den, denL] using hd

theorem unmark_sound {fn : Func} {tmps : Array Value} {R : Ending → World → Prop} {Kf : St → Prop} : ∀ {l : List Nat} {s : St} {w : World}, unmark l s Kf → SatX c e s w →
    (tmps.size = s.tm.length ∧ ∀ (t : Nat) (sv : SV), s.tm[t]? = some sv → isJunk sv = false → tmps[t]? = some (den e sv)) →
    (∀ (s2 : St) (w2 : World), Kf s2 → SatX c e s2 w2 → (tmps.size = s2.tm.length ∧ ∀ (t : Nat) (sv : SV), s2.tm[t]? = some sv → isJunk sv = false → tmps[t]? = some (den e sv)) → s2.I = s.I →
      ∃ v, (results fn tmps).run P w2 = .ok v w2 ∧ R (.returned v) w2) →
    LeavesInM Fence.wide 0 P fn tmps R (l.map (mark e)) .returning w
  | [], s, w, h, hS, hT, hR => by
    simp only [unmark] at h
    exact hR _ w h ⟨⟨hS.same, hS.size, hS.I, hS.hf, hS.old, hS.owned, hS.apart, hS.names⟩, hS.gIn, hS.gI, hS.gOwn⟩ hT rfl
  | id :: r, s, w, h, hS, hT, hR => by
    simp only [unmark] at h
    split at h
    · rename_i nm hH
      obtain ⟨⟨hnil, hb⟩, _⟩ := hS.owned id _ hH rfl
      simp only at hb
      have hrun := run_takeDeferred (P := P) hb
      have hlt := (Array.getElem?_eq_some_iff.1 hb).1
      let a0 : Act := { tmps := tmps, defers := s.marks.map (mark e) }
      have hA0 : SatA e s a0 := ⟨hT.1, hT.2, rfl⟩
      obtain ⟨h1, h2⟩ := hS.toSat.store hA0 (w' := w.putObj (e.blk id) (.deferred none)) (obj := .dead) hH rfl hnil (by simp [World.putObj]) ⟨rfl, rfl, rfl⟩ (fun b hb => World.putObj_heap_other hb) trivial
      have hdead : ∀ {id' : Nat} {x : Ent}, (s.H.set id ⟨.dead, none⟩)[id']? = some x → alive x.obj = true → id' ≠ id ∧ s.H[id']? = some x := by
        intro id' x hx hal
        rcases getElem?_set' hx with ⟨_, rfl, _⟩ | ⟨hne, hx⟩
        · cases hal
        · exact ⟨hne, hx⟩
      have hS2 : SatX c e { s with H := s.H.set id ⟨.dead, none⟩ } (w.putObj (e.blk id) (.deferred none)) := by
        refine ⟨⟨h1.same, h1.size, h1.I, h1.hf, h1.old, fun j x hx hal => ?_, fun i j x y hx hy hal1 hal2 => ?_, fun j x b hx hb => ?_⟩, fun b o hb => ?_, hS.gI, fun j x hx hal => ?_⟩
        · obtain ⟨hne, hx'⟩ := hdead hx hal
          exact h1.owned j x (by show (s.H.set id _)[j]? = some x; rw [List.getElem?_set_ne (Ne.symm hne)]; exact hx') hal
        · exact hS.apart i j x y (hdead hx hal1).2 (hdead hy hal2).2 hal1 hal2
        · rcases getElem?_set' hx with ⟨_, rfl, _⟩ | ⟨_, hx⟩
          · cases hb
          · exact hS.names j x b hx hb
        · have hne : b ≠ e.blk id := fun h => by
            have := hS.gOwn id _ hH rfl hnil
            have hb' : s.G b = some o := hb
            rw [h, this] at hb'
            cases hb'
          rw [World.putObj_heap_other hne]
          exact hS.gIn b o hb
        · exact hS.gOwn j x (hdead hx hal).2 hal
      refine ⟨by simp, .inl ⟨e.blk id, _, rfl, hrun, ?_⟩⟩
      exact unmark_sound h hS2 hT (fun s2 w2 hK2 hSx hTx hI => hR s2 w2 hK2 hSx hTx hI)
    · exact h.elim

theorem core_of_se {f : FuncId} {fn : Func} {cd : Code} {A : Ann} (hrd : A.rd = false) (hf : P.funcs[f]? = some fn) (hb : fn.body = some cd) {c : Ctx} {e0 : Env} {sargs : List SV} {H : List Ent} {I G : Mem} {W : World} {args : Array Value}
    (hargs : denL e0 sargs = args.toList) (hS : SatX c e0 (initX sargs H fn.ntmps I G) W) {Kf : St → Prop} (h : se P A cd (initX sargs H fn.ntmps I G) (endX Kf)) {R : Ending → World → Prop}
    (hR : ∀ (e' : Env) (s' : St) (a' : Act) (w' : World), Kf s' → SatX c e' s' w' → SatA e' s' a' → I.le s'.I → ∃ v, (results fn a'.tmps).run P w' = .ok v w' ∧ R (.returned v) w') :
    CallsIn Fence.wide 0 P f args W R := by
  have hlen : sargs.length = args.size := by
    have := congrArg List.length hargs
    simpa [denL_eq] using this
  have hA : SatA e0 (initX sargs H fn.ntmps I G) { tmps := args ++ Array.replicate (fn.ntmps - args.size) undef, defers := [] } := by
    refine ⟨by simp [initX, hlen], fun t sv ht hj => ?_, rfl⟩
    simp only [initX, List.getElem?_append, List.getElem?_replicate] at ht
    simp only [Array.getElem?_append, Array.getElem?_replicate]
    by_cases hlt : t < sargs.length
    · rw [if_pos hlt] at ht
      rw [if_pos (by omega)]
      have : (denL e0 sargs)[t]? = some (den e0 sv) := by rw [denL_eq, List.getElem?_map, ht]; rfl
      rw [hargs] at this
      simpa using this
    · rw [if_neg hlt] at ht
      rw [if_neg (by omega)]
      split at ht
      · rename_i h2
        simp only [Option.some.injEq] at ht
        subst ht
        rw [if_pos (by omega)]
        simp [den]
      · cases ht
  refine callsIn_of_wp_marks hf hb trivial ?_ rfl
  refine se_sound (r := none) (c := c) (e := e0) cd h (fun x e' s' a' w' hK hS' hA' hle hlen => ?_) hS hA hrd
  have key : ∀ {x : SX}, (x = .norm ∨ x = .ret) → endX Kf x s' → LeavesInM Fence.wide 0 P fn a'.tmps R a'.defers .returning w' := by
    intro x hx hK
    have hK : unmark s'.marks s' Kf := by rcases hx with rfl | rfl <;> exact hK
    rw [hA'.defers]
    exact unmark_sound hK hS' ⟨hA'.size, hA'.tm⟩ (fun s2 w2 hK2 hS2 hT hI2 => by
      obtain ⟨v, h1, h2⟩ := hR e' s2 { a' with defers := s2.marks.map (mark e') } w2 hK2 hS2 ⟨hT.1, hT.2, rfl⟩ (by rw [hI2]; exact hle)
      exact ⟨v, h1, h2⟩)
  cases x with
  | norm => exact key (.inl rfl) hK
  | ret => exact key (.inr rfl) hK
  | exit id => exact hK.elim

theorem callV_func {f : FuncId} {first cap given : Array Value} {args : List Value} {W : World} {R : Ending → World → Prop}
    (hcall : ∀ (args : Array Value) (w : World), (callFunc f args).run P w = .ok (.enter f args) w) (hargs : (first ++ given ++ cap).toList = args)
    (h : CallsIn Fence.wide 0 P f args.toArray W R) : CallV P (.func (.func f) first cap) given W R := by
  have hargs' : first ++ given ++ cap = args.toArray := by rw [← hargs]
  have h1 : (semV (.func (.func f) first cap) given).run P W = .ok (.enter f args.toArray) W := by
    rw [run_semV_func, hcall, hargs']
  unfold CallV
  rw [h1]
  exact h

theorem denL_vs (e : Env) : ∀ l : List Value, denL e (l.map .v) = l
  | [] => rfl
  | x :: xs => by simp [denL, den, denL_vs e xs]

/-- A CONTRACT OF A FUNCTION from its body's symbolic run, where memory is given that functions may write. -/
theorem ctG_of_se {f : FuncId} {fn : Func} {cd : Code} {A : Ann} (hf : P.funcs[f]? = some fn) (hb : fn.body = some cd)
    (hcall : ∀ (args : Array Value) (w : World), (callFunc f args).run P w = .ok (.enter f args) w)
    {args : List Value} {first cap given : Array Value} (hargs : (first ++ given ++ cap).toList = args) {I G : Mem} {post : Value → Mem → Mem → Prop}
    (h : se P A cd (initX (args.map .v) [] fn.ntmps I G) (endX (finG P fn post))) (hrd : A.rd = false := by rfl) : CtH P (.func (.func f) first cap) given I G post := by
  intro W hI hG hap
  refine callV_func hcall hargs ?_
  let c : Ctx := { W0 := W, I0 := I, hf := fun b => if (G b).isNone then W.heap[b]? else none }
  let e0 : Env := { blk := fun _ => 0, cap := fun _ => 0, nil := fun _ => false }
  have hS : SatX c e0 (initX (args.map .v) [] fn.ntmps I G) W := by
    refine ⟨⟨Same.refl _, Nat.le_refl _, hI, fun b o hb => ?_, fun b _ h0 => h0, ?_, ?_, ?_⟩, hG, fun b hb => ⟨(hap b).resolve_right hb, ?_⟩, ?_⟩
    · simp only [c] at hb
      split at hb
      · exact hb
      · cases hb
    · intro id x hx; simp [initX] at hx
    · intro i j x y hx; simp [initX] at hx
    · intro id x b hx; simp [initX] at hx
    · simp only [c]
      rw [if_neg]
      intro hn
      exact hb (show G b = none by simpa using hn)
    · intro id x hx; simp [initX] at hx
  refine core_of_se hrd hf hb (by simpa using denL_vs e0 args) hS h (fun e' s' a' w' hK hS' hA' hle => ?_)
  obtain ⟨xs, h2, _⟩ := resL_sound hK hS'.toSat hA'
  obtain ⟨s2, h3, hS0, hA2, hle2, _, hls⟩ := hand_sound h2 hS'.toSat hA'
  have hS2 := hls.x hS' hS0
  obtain ⟨ys, h4, h5⟩ := resL_sound h3 hS2.toSat hA2
  split at h4
  · rename_i v hv
    have hfb : ∀ b, b < W.heap.size → G b = none → c.hf b = W.heap[b]? := fun b _ hg => by simp [c, hg]
    have hne : ∀ b, b < W.heap.size → G b = none → c.hf b ≠ none := fun b hb hg => by rw [hfb b hb hg, Array.getElem?_eq_getElem hb]; simp
    refine ⟨v, results_of h5 hv, v, s2.I, s2.G, rfl, Mem.le_trans hle hle2, hS2.I, hS2.gIn, fun b => ?_, hS2.size, hS2.same, ?_, ?_, h4⟩
    · cases hg : s2.G b with
      | none => exact .inr rfl
      | some o => exact .inl (hS2.gI b (by rw [hg]; simp)).1
    · intro b hb hg
      have := hfb b hb hg
      rw [Array.getElem?_eq_getElem hb] at this
      rw [hS2.hf b _ this, Array.getElem?_eq_getElem hb]
    · intro b hb hg
      refine ⟨?_, fun h0 => hS2.old b (hne b hb hg) h0⟩
      cases hgb : s2.G b with
      | none => rfl
      | some o => exact absurd (hS2.gI b (by rw [hgb]; simp)).2 (hne b hb hg)
  · exact h4.elim

/-- A CONTRACT OF A FUNCTION from its body's symbolic run. -/
theorem ct_of_se {f : FuncId} {fn : Func} {cd : Code} {A : Ann} (hf : P.funcs[f]? = some fn) (hb : fn.body = some cd)
    (hcall : ∀ (args : Array Value) (w : World), (callFunc f args).run P w = .ok (.enter f args) w)
    {args : List Value} {first cap given : Array Value} (hargs : (first ++ given ++ cap).toList = args) {I : Mem} {post : Value → Mem → Prop}
    (h : se P A cd (initS args fn.ntmps I) (endX (finG P fn fun v I' _ => post v I'))) (hrd : A.rd = false := by rfl) : Ct P (.func (.func f) first cap) given I post :=
  ctG_of_se hf hb hcall hargs h hrd

end
end Go.SE
