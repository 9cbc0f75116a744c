/- Contracts that tell which memory is new. -/
import Derived.Test.YthfgpdjplknleaaGreatDoorSe17S
import Derived.Test.YthfgpdjplknleaaGreatDoorSe19
namespace Go.SE
open Go.RowKit

/-- A row that has been handed over; its block is new, and it is known whole. -/
structure RowF (I I' : Mem) (a : Option Addr) (cp sz : Nat) (xs : List Value) (el : TypeId) : Prop where
  row : RowM I' a cp sz xs
  new : ∀ ad, a = some ad → I ad.block = none ∧ ad.off = 0 ∧ ad.spot = none ∧ ∃ c : Array Value, I' ad.block = some (.cells c el (0, 0)) ∧ c.size = cp * sz

/-- Own memory is handed over, what it names first; it is new to the memory that is read. -/
def handF (P : Program) : Nat → List Nat → St → (St → Prop) → Prop
  | 0, _, _, _ => False
  | _ + 1, [], s, K => K s
  | n + 1, id :: r, s, K => match s.H[id]? with
    | some ⟨.cells cs el, nm⟩ => match refL1 cs with
      | some i => handF P n (i :: id :: r) s K
      | none => match valL cs with
        | some vs => match nm with
          | some b => ∀ I' : Mem, s.I.le I' → s.I b = none → I' b = some (.cells vs.toArray el (0, 0)) → handF P n r (handS id (.blk b) I' s) K
          | none => ∀ (b : Nat) (I' : Mem), s.I.le I' → s.I b = none → I' b = some (.cells vs.toArray el (0, 0)) → handF P n r (handS id (.blk b) I' s) K
        | none => False
    | some ⟨.vec xs el, nm⟩ => match nm with
      | some b => ∀ I' : Mem, s.I.le I' → s.I b = none → I' b = some (.cells xs.toArray el (0, 0)) → handF P n r (handS id (.blk b) I' s) K
      | none => ∀ (b : Nat) (I' : Mem), s.I.le I' → s.I b = none → I' b = some (.cells xs.toArray el (0, 0)) → handF P n r (handS id (.blk b) I' s) K
    | some ⟨.row xs sz el, _⟩ => ∀ (a : Option Addr) (cp : Nat) (I' : Mem), s.I.le I' → RowF s.I I' a cp sz xs el → handF P n r (handS id (.row a cp) I' s) K
    | _ => handF P n r s K

/-- What is returned, handed over as new memory. -/
def finF (P : Program) (fn : Func) (post : Value → Mem → Mem → Prop) (s : St) : Prop :=
  resL P s fn.results.toList fun xs => handF P 100 (refsOf (resV xs)) s fun s' =>
    resL P s' fn.results.toList fun ys => match valS (resV ys) with
      | some v => post v s'.I s'.G
      | none => False

section
variable {P : Program} {c : Ctx} {e : Env} {s : St} {w : World} {a : Act}

theorem handF_sound : ∀ {n : Nat} {l : List Nat} {s : St} {K : St → Prop}, handF P n l s K → Sat c e s w → SatA e s a →
    ∃ s', K s' ∧ Sat c e s' w ∧ SatA e s' a ∧ s.I.le s'.I ∧ s'.tm.length = s.tm.length ∧ Less e s s'
  | 0, _, _, _, h, _, _ => h.elim
  | n + 1, [], s, K, h, hS, hA => ⟨s, h, hS, hA, Mem.le_refl _, rfl, Less.refl s⟩
  | n + 1, id :: r, s, K, h, hS, hA => by
    simp only [handF] at h
    have go : ∀ {s1 : St} {K : St → Prop}, handF P n r s1 K → Sat c e s1 w → SatA e s1 a → s.I.le s1.I → s1.tm.length = s.tm.length → Less e s s1 →
        ∃ s', K s' ∧ Sat c e s' w ∧ SatA e s' a ∧ s.I.le s'.I ∧ s'.tm.length = s.tm.length ∧ Less e s s' := by
      intro s1 K h1 hS1 hA1 hle hlen hls
      obtain ⟨s', g1, g2, g3, g4, g5, g6⟩ := handF_sound h1 hS1 hA1
      exact ⟨s', g1, g2, g3, Mem.le_trans hle g4, g5.trans hlen, hls.trans g6⟩
    split at h
    · rename_i cs el nm hH
      split at h
      · exact handF_sound h hS hA
      · split at h
        · rename_i vs hvs
          obtain ⟨⟨hnil, cur, hb, h2, h3⟩, hfr⟩ := hS.owned id _ hH rfl
          obtain ⟨I', hle, hS', hA', hI', hrd⟩ := hS.hand1 hA (n := .blk (e.blk id)) hH rfl rfl
          have hcur : cur = vs.toArray := by
            obtain ⟨v1, v2⟩ := valL_den (e := e) hvs
            rw [denL_eq] at v1
            apply Array.ext_getElem?
            intro k
            by_cases hk : k < cs.length
            · have hkk := List.getElem?_eq_getElem hk
              rw [h3 k _ hkk (v2 _ (List.mem_of_getElem? hkk)), ← v1]
              simp [hkk]
            · have : vs.length = cs.length := by rw [← v1]; simp
              rw [Array.getElem?_eq_none (by omega), Array.getElem?_eq_none (by simp; omega)]
          subst hcur
          split at h
          · rename_i b
            obtain rfl := (hS.names id _ b hH rfl).1
            exact go (h I' hle (hfr hnil).1 ((hI' hnil).trans hb)) hS' hA' hle (handS_len ..) (Less.handS _ _ _ hH rfl hrd)
          · exact go (h _ I' hle (hfr hnil).1 ((hI' hnil).trans hb)) hS' hA' hle (handS_len ..) (Less.handS _ _ _ hH rfl hrd)
        · exact h.elim
    · rename_i xs el nm hH
      obtain ⟨⟨hnil, hb⟩, hfr⟩ := hS.owned id _ hH rfl
      obtain ⟨I', hle, hS', hA', hI', hrd⟩ := hS.hand1 hA (n := .blk (e.blk id)) hH rfl rfl
      split at h
      · rename_i b
        obtain rfl := (hS.names id _ b hH rfl).1
        exact go (h I' hle (hfr hnil).1 ((hI' hnil).trans hb)) hS' hA' hle (handS_len ..) (Less.handS _ _ _ hH rfl hrd)
      · exact go (h _ I' hle (hfr hnil).1 ((hI' hnil).trans hb)) hS' hA' hle (handS_len ..) (Less.handS _ _ _ hH rfl hrd)
    · rename_i xs sz el nm hH
      obtain ⟨⟨hsz, hn, hrow⟩, hfr⟩ := hS.owned id _ hH rfl
      obtain ⟨I', hle, hS', hA', hI', hrd⟩ := hS.hand1 hA (n := .row (if e.nil id then none else some ⟨e.blk id, 0, none⟩) (e.cap id)) hH rfl ⟨rfl, rfl⟩
      refine go (h _ _ I' hle ?_) hS' hA' hle (handS_len ..) (Less.handS _ _ _ hH rfl hrd)
      rcases hrow with ⟨h1, h2, rfl⟩ | ⟨hnil, cur, hb, h2, h3, h4, h5⟩
      · exact ⟨⟨by simp, by rw [h2]; exact Nat.zero_le _, fun _ => ⟨rfl, h2⟩, fun j v hj => by simp at hj⟩, fun ad had => by simp [h1] at had⟩
      · refine ⟨⟨by rw [← h2]; exact h4, h3, fun h => by simp [hnil] at h, fun j v hj => ?_⟩, fun ad had => ?_⟩
        rotate_left
        · simp only [hnil, Bool.false_eq_true, if_false, Option.some.injEq] at had
          subst had
          exact ⟨(hfr hnil).1, rfl, rfl, cur, (hI' hnil).trans hb, h2⟩
        have hc := (holds_row_owned hS hH _ _ hj).2
        simp only [hnil, Bool.false_eq_true, if_false, atI, Option.bind_some, Addr.add_lit, Nat.zero_add, cellM]
        rw [hI' hnil]
        simp only at hb
        simp only [World.cell?, hb] at hc ⊢
        exact hc
    · exact go h hS hA (Mem.le_refl _) rfl (Less.refl s)


/-- A CONTRACT OF A FUNCTION from its body's symbolic run, where memory is given that functions may write. -/
theorem ctGF_of_se {f : FuncId} {fn : Func} {cd : Code} {A : Ann} (hf : P.funcs[f]? = some fn) (hb : fn.body = some cd)
    (hcall : ∀ (args : Array Value) (w : World), (callFunc f args).run P w = .ok (.enter f args) w)
    {args : List Value} {first cap given : Array Value} (hargs : (first ++ given ++ cap).toList = args) {I G : Mem} {post : Value → Mem → Mem → Prop}
    (h : se P A cd (initX (args.map .v) [] fn.ntmps I G) (endX (finF P fn post))) (hrd : A.rd = false := by rfl) : CtH P (.func (.func f) first cap) given I G post := by
  intro W hI hG hap
  refine callV_func hcall hargs ?_
  let c : Ctx := { W0 := W, I0 := I, hf := fun b => if (G b).isNone then W.heap[b]? else none }
  let e0 : Env := { blk := fun _ => 0, cap := fun _ => 0, nil := fun _ => false }
  have hS : SatX c e0 (initX (args.map .v) [] fn.ntmps I G) W := by
    refine ⟨⟨Same.refl _, Nat.le_refl _, hI, fun b o hb => ?_, fun b _ h0 => h0, ?_, ?_, ?_⟩, hG, fun b hb => ⟨(hap b).resolve_right hb, ?_⟩, ?_⟩
    · simp only [c] at hb
      split at hb
      · exact hb
      · cases hb
    · intro id x hx; simp [initX] at hx
    · intro i j x y hx; simp [initX] at hx
    · intro id x b hx; simp [initX] at hx
    · simp only [c]
      rw [if_neg]
      intro hn
      exact hb (show G b = none by simpa using hn)
    · intro id x hx; simp [initX] at hx
  refine core_of_se hrd hf hb (by simpa using denL_vs e0 args) hS h (fun e' s' a' w' hK hS' hA' hle => ?_)
  obtain ⟨xs, h2, _⟩ := resL_sound hK hS'.toSat hA'
  obtain ⟨s2, h3, hS0, hA2, hle2, _, hls⟩ := handF_sound h2 hS'.toSat hA'
  have hS2 := hls.x hS' hS0
  obtain ⟨ys, h4, h5⟩ := resL_sound h3 hS2.toSat hA2
  split at h4
  · rename_i v hv
    have hfb : ∀ b, b < W.heap.size → G b = none → c.hf b = W.heap[b]? := fun b _ hg => by simp [c, hg]
    have hne : ∀ b, b < W.heap.size → G b = none → c.hf b ≠ none := fun b hb hg => by rw [hfb b hb hg, Array.getElem?_eq_getElem hb]; simp
    refine ⟨v, results_of h5 hv, v, s2.I, s2.G, rfl, Mem.le_trans hle hle2, hS2.I, hS2.gIn, fun b => ?_, hS2.size, hS2.same, ?_, ?_, h4⟩
    · cases hg : s2.G b with
      | none => exact .inr rfl
      | some o => exact .inl (hS2.gI b (by rw [hg]; simp)).1
    · intro b hb hg
      have := hfb b hb hg
      rw [Array.getElem?_eq_getElem hb] at this
      rw [hS2.hf b _ this, Array.getElem?_eq_getElem hb]
    · intro b hb hg
      refine ⟨?_, fun h0 => hS2.old b (hne b hb hg) h0⟩
      cases hgb : s2.G b with
      | none => rfl
      | some o => exact absurd (hS2.gI b (by rw [hgb]; simp)).2 (hne b hb hg)
  · exact h4.elim

/-- A CONTRACT OF A FUNCTION from its body's symbolic run. -/
theorem ctF_of_se {f : FuncId} {fn : Func} {cd : Code} {A : Ann} (hf : P.funcs[f]? = some fn) (hb : fn.body = some cd)
    (hcall : ∀ (args : Array Value) (w : World), (callFunc f args).run P w = .ok (.enter f args) w)
    {args : List Value} {first cap given : Array Value} (hargs : (first ++ given ++ cap).toList = args) {I : Mem} {post : Value → Mem → Prop}
    (h : se P A cd (initS args fn.ntmps I) (endX (finF P fn fun v I' _ => post v I'))) (hrd : A.rd = false := by rfl) : Ct P (.func (.func f) first cap) given I post :=
  ctGF_of_se hf hb hcall hargs h hrd


theorem ctF_via {f : FuncId} {fn : Func} {cd : Code} {A : Ann} (hf : P.funcs[f]? = some fn) (hb : fn.body = some cd)
    (hcall : ∀ (args : Array Value) (w : World), (callFunc f args).run P w = .ok (.enter f args) w)
    {args : List Value} {first cap given : Array Value} (hargs : (first ++ given ++ cap).toList = args) (hrd : A.rd = false) {I : Mem} {post : Value → Mem → Prop}
    (h : se P A cd (initS args fn.ntmps I) (endX (finF P fn fun v I' _ => post v I'))) : Ct P (.func (.func f) first cap) given I post :=
  ctF_of_se hf hb hcall hargs h hrd

/-- The new memory of a call is owned by the caller. -/
def gained (I I1 G : Mem) : Mem := fun b => match I b with
  | some _ => G b
  | none => match I1 b with
    | some o => some o
    | none => G b
theorem gained_new {I I1 G : Mem} {b : Nat} {o : Obj} (h : I b = none) (h1 : I1 b = some o) : gained I I1 G b = some o := by simp [gained, h, h1]
theorem ct_own {fv : Value} {args : Array Value} {I G : Mem} {post : Value → Mem → Prop} (h : Ct P fv args I post) :
    CtH P fv args I G fun v I' G' => I' = I ∧ ∃ I1, I.le I1 ∧ post v I1 ∧ G' = gained I I1 G := by
  intro W hI hG hap
  refine (h W hI (Mem.emp_inW W) (Mem.apart_emp _)).mono ?_
  rintro en W' ⟨v, I1, hp', rfl, h1, h2, h3, h4, h5, h6, h7, h8, h9⟩
  have lt : ∀ {b : Nat}, G b ≠ none → b < W.heap.size := fun hb => by
    obtain ⟨o, ho⟩ := Option.ne_none_iff_exists'.1 hb
    exact Mem.inW_lt hG ho
  refine ⟨v, I, gained I I1 G, rfl, Mem.le_refl _, Mem.inW_of_le h1 h2, fun b o hb => ?_, fun b => ?_, h5, h6, fun b hb _ => h7 b hb rfl, fun b hb hg => ⟨?_, id⟩, rfl, I1, h1, h9, rfl⟩
  · unfold gained at hb
    split at hb
    · rw [h7 b (lt (by rw [hb]; simp)) rfl]; exact hG b o hb
    · split at hb
      · cases hb; exact h2 _ _ (by assumption)
      · rw [h7 b (lt (by rw [hb]; simp)) rfl]; exact hG b o hb
  · cases hb : I b with
    | none => exact .inl rfl
    | some o => exact .inr (by simp only [gained, hb]; exact (hap b).resolve_left (by rw [hb]; simp))
  · unfold gained
    split
    · exact hg
    · rename_i h0
      rw [(h8 b hb rfl).2 h0]
      exact hg

/-- What may be read and what is owned, together. -/
def both (I G : Mem) : Mem := fun b => match I b with
  | some o => some o
  | none => G b
theorem both_le (I G : Mem) : I.le (both I G) := fun b o h => by simp [both, h]
theorem both_own {I G : Mem} {b : Nat} {o : Obj} (hap : I b = none) (h : G b = some o) : both I G b = some o := by simp [both, hap, h]
/-- A call that reads what is owned, too, and of whose new memory nothing is needed. -/
theorem ct_both {fv : Value} {args : Array Value} {I G : Mem} {post : Value → Mem → Prop} (h : I.apart G → Ct P fv args (both I G) post) :
    CtH P fv args I G fun v I' G' => I' = I ∧ G' = G ∧ ∃ I1, post v I1 := by
  intro W hI hG hap
  have hB : (both I G).inW W := fun b o hb => by
    unfold both at hb
    split at hb
    · cases hb; exact hI _ _ (by assumption)
    · exact hG b o hb
  refine (h hap W hB (Mem.emp_inW W) (Mem.apart_emp _)).mono ?_
  rintro en W' ⟨v, I1, hp', rfl, h1, h2, h3, h4, h5, h6, h7, h8, h9⟩
  have keep : ∀ {M : Mem}, M.inW W → M.inW W' := fun hM b o hb => by
    rw [h7 b (Mem.inW_lt hM hb) rfl]; exact hM b o hb
  exact ⟨v, I, G, rfl, Mem.le_refl _, keep hI, keep hG, hap, h5, h6, fun b hb _ => h7 b hb rfl, fun b hb hg => ⟨hg, id⟩, rfl, rfl, I1, h9⟩

theorem le_gained {I I1 G : Mem} (h : I.le I1) : I1.le (both I (gained I I1 G)) := fun b o hb => by
  unfold both
  split
  · rename_i o' ho
    have := h b _ ho
    rw [hb] at this
    cases this
    rfl
  · rename_i h0
    exact gained_new h0 hb
theorem both_mono {I I2 G : Mem} (h : I.le I2) (hap : I2.apart G) : (both I G).le (both I2 G) := fun b o hb => by
  unfold both at hb ⊢
  split at hb
  · rename_i o' ho
    cases hb
    rw [h b _ ho]
  · rw [(hap b).resolve_right (by rw [hb]; simp)]
    exact hb

/-- A slice whose memory, as far as it may grow, is new. -/
def NewS (sz : Nat) (I0 I : Mem) (a : Option Addr) (c : Nat) : Prop :=
  0 < c → ∃ (b off : Nat) (cur : Array Value) (el : TypeId), a = some ⟨b, off, none⟩ ∧ I0 b = none ∧ I b = some (.cells cur el (0, 0)) ∧ off + c * sz ≤ cur.size
theorem NewS.mono {sz : Nat} {I0 I J : Mem} {a : Option Addr} {c : Nat} (h : NewS sz I0 I a c) (hle : I.le J) : NewS sz I0 J a c := fun hc => by
  obtain ⟨b, off, cur, el, h1, h2, h3, h4⟩ := h hc
  exact ⟨b, off, cur, el, h1, h2, hle _ _ h3, h4⟩
theorem Mem.none_of_le {I J : Mem} (h : I.le J) {b : Nat} (hb : J b = none) : I b = none := by
  cases hi : I b with
  | none => rfl
  | some o => rw [h b o hi] at hb; cases hb
theorem NewS.anti {sz : Nat} {I0 J0 I : Mem} {a : Option Addr} {c : Nat} (h : NewS sz I0 I a c) (hle : J0.le I0) : NewS sz J0 I a c := fun hc => by
  obtain ⟨b, off, cur, el, h1, h2, h3, h4⟩ := h hc
  exact ⟨b, off, cur, el, h1, Mem.none_of_le hle h2, h3, h4⟩
theorem RowF.newS {I I' : Mem} {a : Option Addr} {cp sz : Nat} {xs : List Value} {el : TypeId} (h : RowF I I' a cp sz xs el) : NewS sz I I' a cp := fun hc => by
  cases a with
  | none => have := (h.row.2.2.1 rfl).2; omega
  | some ad =>
    obtain ⟨h1, h2, h3, cur, h4, h5⟩ := h.new ad rfl
    obtain ⟨b, off, spot⟩ := ad
    simp only at h1 h2 h3 h4
    subst h2
    subst h3
    exact ⟨b, 0, cur, el, rfl, h1, h4, by omega⟩
/-- A slice whose memory is owned, as far as it may grow. -/
def OwnS (sz : Nat) (G : Mem) (a : Option Addr) (c : Nat) : Prop :=
  0 < c → ∃ (b off : Nat) (cur : Array Value) (el : TypeId), a = some ⟨b, off, none⟩ ∧ G b = some (.cells cur el (0, 0)) ∧ off + c * sz ≤ cur.size
theorem NewS.own {sz : Nat} {I I1 G : Mem} {a : Option Addr} {c : Nat} (h : NewS sz I I1 a c) : OwnS sz (gained I I1 G) a c := fun hc => by
  obtain ⟨b, off, cur, el, h1, h2, h3, h4⟩ := h hc
  exact ⟨b, off, cur, el, h1, gained_new h2 h3, h4⟩

end
end Go.SE
