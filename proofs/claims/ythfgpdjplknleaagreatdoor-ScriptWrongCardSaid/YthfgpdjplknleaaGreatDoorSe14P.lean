/- Calls to which own memory is lent: the law. -/
import Derived.Test.YthfgpdjplknleaaGreatDoorSe14N
namespace Go.SE
open Go.RowKit

section
variable {P : Program} {c : Ctx} {e : Env} {s : St} {w : World} {a : Act} {r : Option Nat}

/-- The names behind the call. -/
def envL (e e' : Env) (ids : List Nat) (n : Nat) : Env :=
  { blk := fun i => if i ∈ ids then e'.blk (posOf i ids) else if i < n then e.blk i else e'.blk (ids.length + (i - n))
    cap := fun i => if i ∈ ids then e'.cap (posOf i ids) else if i < n then e.cap i else e'.cap (ids.length + (i - n))
    nil := fun i => if i ∈ ids then e'.nil (posOf i ids) else if i < n then e.nil i else e'.nil (ids.length + (i - n)) }

theorem envL_bck {e' : Env} {ids : List Nat} {n : Nat} (hnd : nodupB ids = true) (hlt : ∀ i ∈ ids, i < n) (j : Nat) :
    (envL e e' ids n).blk (bck ids n j) = e'.blk j ∧ (envL e e' ids n).nil (bck ids n j) = e'.nil j ∧ (envL e e' ids n).cap (bck ids n j) = e'.cap j := by
  unfold bck
  split
  · rename_i id hid
    have hm := List.mem_of_getElem? hid
    have hp := posOf_at hnd hid
    simp [envL, hm, hp]
  · rename_i hid
    have hlen : ids.length ≤ j := by simpa using hid
    have h1 : n + (j - ids.length) ∉ ids := fun h => by have := hlt _ h; omega
    have h2 : ids.length + (n + (j - ids.length) - n) = j := by omega
    have h3 : ¬ (n + (j - ids.length) < n) := by omega
    simp only [envL, if_neg h1, if_neg h3, h2]
    exact ⟨trivial, trivial, trivial⟩
theorem envL_old {e' : Env} {ids : List Nat} {n i : Nat} (h1 : i ∉ ids) (h2 : i < n) :
    (envL e e' ids n).blk i = e.blk i ∧ (envL e e' ids n).nil i = e.nil i ∧ (envL e e' ids n).cap i = e.cap i := by
  simp [envL, h1, h2]

theorem junkL_den {e2 : Env} {jl ids : List Nat} {x : SV} (h : ∀ i, refs i x = true → i ∉ jl → e2.blk i = e.blk i ∧ e2.nil i = e.nil i ∧ (i ∉ ids → e2.cap i = e.cap i)) (hj : isJunk (junkL jl ids x) = false) :
    junkL jl ids x = x ∧ den e2 (junkL jl ids x) = den e x := by
  unfold junkL at hj ⊢
  cases hc : ((refsOf x).any (fun i => memB i jl) || (refsOf x).any (fun i => memB i ids && rslR i x)) with
  | true => rw [hc] at hj; cases hj
  | false =>
    rw [cond_false]
    refine ⟨rfl, ?_⟩
    simp only [Bool.or_eq_false_iff, List.any_eq_false, Bool.and_eq_true, not_and, Bool.not_eq_true] at hc
    have := (den_ren (e1 := e2) (e := e) (f := fun i => i) (x := x) (fun i hi => by
      have hm := refs_mem hi
      obtain ⟨h1, h2, h3⟩ := h i hi (memB_false (hc.1 i hm))
      refine ⟨h1, h2, fun hr => h3 (fun hin => ?_)⟩
      have := hc.2 i hm (memB_mem hin)
      rw [hr] at this
      cases this)).1
    rwa [renF_id] at this

theorem holds_junkL {e2 : Env} {jl ids : List Nat} {id : Nat} {h h' : Nat → Option Obj} {x : Ent} (hb : e2.blk id = e.blk id) (hn : e2.nil id = e.nil id) (hc : e2.cap id = e.cap id)
    (hh : e.nil id = false → h' (e.blk id) = h (e.blk id))
    (hr : ∀ (sv : SV) i, (∃ (cs : List SV) (el : TypeId) (k : Nat), x.obj = .cells cs el ∧ cs[k]? = some sv) → refs i sv = true → i ∉ jl → e2.blk i = e.blk i ∧ e2.nil i = e.nil i ∧ (i ∉ ids → e2.cap i = e.cap i))
    (H : holds e id h x.obj) : holds e2 id h' (junkEL jl ids x).obj := by
  unfold junkEL
  cases hx : x.obj with
  | cells cs el =>
    rw [hx] at H
    obtain ⟨h0, cc, h1, h2, h3⟩ := H
    refine ⟨hn ▸ h0, cc, by rw [hb, hh h0]; exact h1, by simpa using h2, fun k sv hk hj => ?_⟩
    rw [List.getElem?_map, Option.map_eq_some_iff] at hk
    obtain ⟨sv0, hk0, rfl⟩ := hk
    obtain ⟨d1, d2⟩ := junkL_den (e := e) (e2 := e2) (fun i hi => hr sv0 i ⟨cs, el, k, hx, hk0⟩ hi) hj
    rw [d2]
    exact h3 k sv0 hk0 (by rw [d1] at hj; exact hj)
  | vec xs el => rw [hx] at H; simp only [hx]; exact ⟨hn ▸ H.1, by rw [hb, hh H.1]; exact H.2⟩
  | row xs sz el =>
    rw [hx] at H
    simp only [hx]
    refine ⟨H.1, H.2.1, ?_⟩
    rw [hb, hn, hc]
    rcases H.2.2 with h | ⟨h0, cc, h3, h4⟩
    · exact .inl h
    · exact .inr ⟨h0, cc, by rw [hh h0]; exact h3, h4⟩
  | raw o => rw [hx] at H; simp only [hx]; exact ⟨hn ▸ H.1, by rw [hb, hh H.1]; exact H.2⟩
  | dead => simp only [hx]; trivial

theorem refsL_of {i : Nat} : ∀ {l : List SV} {k : Nat} {sv : SV}, l[k]? = some sv → refs i sv = true → refsL i l = true
  | x :: xs, 0, sv, h, hr => by simp only [List.getElem?_cons_zero, Option.some.injEq] at h; subst h; simp [refsL, hr]
  | x :: xs, k + 1, sv, h, hr => by simp [refsL, refsL_of (l := xs) (k := k) (by simpa using h) hr]
mutual
theorem refs_below {n i : Nat} : ∀ {x : SV}, below n x = true → refs i x = true → i < n
  | .ptr j _, hb, h | .sptr j _, hb, h | .rsl j _, hb, h | .xsl j _ _ _, hb, h => by
    simp only [refs, beq_iff_eq] at h
    subst h
    simpa [below] using hb
  | .fn _ a b, hb, h => by
    simp only [below, Bool.and_eq_true] at hb
    simp only [refs, Bool.or_eq_true] at h
    exact h.elim (refsL_below hb.1) (refsL_below hb.2)
  | .agg xs, hb, h => by simp only [below] at hb; simp only [refs] at h; exact refsL_below hb h
  | .tup xs, hb, h => by simp only [below] at hb; simp only [refs] at h; exact refsL_below hb h
  | .v _, _, h | .ep _ _, _, h | .junk, _, h => by simp [refs] at h
theorem refsL_below {n i : Nat} : ∀ {l : List SV}, belowL n l = true → refsL i l = true → i < n
  | x :: xs, hb, h => by
    simp only [belowL, Bool.and_eq_true] at hb
    simp only [refsL, Bool.or_eq_true] at h
    exact h.elim (refs_below hb.1) (refsL_below hb.2)
end
theorem nameL_len {g : Nat → Nat} : ∀ {i : Nat} {l : List Ent}, (nameL g i l).length = l.length
  | i, [] => rfl
  | i, x :: r => by simp [nameL, nameL_len]

theorem seLend_sound {o : Oper} {cl : Call} {ids : List Nat} {res : RSh} {ents : List ESh} (ho : o.op = .call cl) {K : SV → St → Prop} (h : seLend P s cl ids res ents K) (hS : SatX c e s w) (hA : SatA e s a)
    {next : Act → World → Prop} {Q : Exit → Act → World → Prop}
    (hn : ∀ (sv : SV) (e' : Env) (s' : St) (x : Value) (w' : World), K sv s' → SatX c e' s' w' → SatA e' s' a → s.I.le s'.I → s'.tm.length = s.tm.length → x = den e' sv → Evo false ids s e w s' e' w' → next (a.put o.dst x) w') :
    o.wpIn (Fr r) 0 P a w next Q := by
  obtain ⟨callee, args, ts⟩ := cl
  unfold seLend at h
  split at h
  case h_2 => exact h.elim
  rename_i fo hcal
  simp only at hcal
  subst hcal
  obtain ⟨s1, h, hS1, hA1, hle1, hlen1, hls⟩ := hand_sound h hS.toSat hA
  have X := hls.x hS hS1
  split at h
  case h_2 => exact h.elim
  rename_i H0 hH0
  obtain ⟨hl0, hat⟩ := entsAt_spec hH0
  split at h
  case isFalse => exact h.elim
  rename_i hok
  simp only [lendOk, Bool.and_eq_true, List.all_eq_true, Nat.blt_eq, Bool.not_eq_true', allIn] at hok
  obtain ⟨hnd, hlt, hmk, hwf, hin, hinH, hnj, hrnd⟩ := hok
  have hwf0 := hwf
  simp only [wfSt, Bool.and_eq_true, List.all_eq_true] at hwf
  generalize hf : (fun i => posOf i ids) = f at h
  let e1 : Env := { blk := fun j => e.blk (ids.getD j 0), cap := fun j => e.cap (ids.getD j 0), nil := fun j => e.nil (ids.getD j 0) }
  have h1 := nameQ_sound (fun j => e1.blk j) (i := 0) h
  have e1at : ∀ {j id : Nat}, ids[j]? = some id → e1.blk j = e.blk id ∧ e1.nil j = e.nil id ∧ e1.cap j = e.cap id := fun {j id} hj => by simp [e1, List.getD_eq_getElem?_getD, hj]
  have e1f : ∀ {i : Nat}, i ∈ ids → e1.blk (f i) = e.blk i ∧ e1.nil (f i) = e.nil i ∧ e1.cap (f i) = e.cap i := fun {i} hi => by subst hf; exact e1at (posOf_get hi)
  -- the entries that are lent
  have hH1 : ∀ {j : Nat} {x : Ent}, (nameL (fun j => e1.blk j) 0 (H0.map (renE f)))[j]? = some x → ∃ id x0, ids[j]? = some id ∧ H0[j]? = some x0 ∧ s1.H[id]? = some x0 ∧ alive x0.obj = true ∧ x = name1 (e1.blk j) (renE f x0) := by
    intro j x hx
    obtain ⟨y, hy, hxy⟩ := nameL_get hx
    rw [List.getElem?_map, Option.map_eq_some_iff] at hy
    obtain ⟨x0, hx0, rfl⟩ := hy
    have hjl : j < ids.length := by rw [← hl0]; exact (List.getElem?_eq_some_iff.1 hx0).1
    obtain ⟨x0', h2, h3, h4⟩ := hat j ids[j] (List.getElem?_eq_getElem hjl)
    rw [hx0] at h2
    cases h2
    exact ⟨ids[j], x0, List.getElem?_eq_getElem hjl, hx0, h3, h4, by simpa using hxy⟩
  have hobj : ∀ {j : Nat} {x0 : Ent}, (name1 (e1.blk j) (renE f x0)).obj = (renE f x0).obj := name1_obj _ _
  let hp : Mem := fun b => if ids.any (fun id => !e.nil id && e.blk id == b) then w.heap[b]? else none
  have hpat : ∀ {id : Nat}, id ∈ ids → e.nil id = false → hp (e.blk id) = w.heap[e.blk id]? := fun {id} hid hnl => by
    simp only [hp]
    rw [if_pos]
    exact List.any_eq_true.2 ⟨id, hid, by simp [hnl]⟩
  have hpdom : ∀ {b : Nat}, hp b ≠ none → ∃ id, id ∈ ids ∧ e.nil id = false ∧ e.blk id = b := fun {b} hb => by
    simp only [hp] at hb
    split at hb
    · rename_i hany
      obtain ⟨id, hid, h2⟩ := List.any_eq_true.1 hany
      simp only [Bool.and_eq_true, Bool.not_eq_true', beq_iff_eq] at h2
      exact ⟨id, hid, h2.1, h2.2⟩
    · exact absurd rfl hb
  have lent : ∀ {id : Nat}, id ∈ ids → ∃ x0, s1.H[id]? = some x0 ∧ alive x0.obj = true := fun {id} hid => by
    obtain ⟨x0, _, h3, h4⟩ := hat _ _ (posOf_get hid)
    exact ⟨x0, h3, h4⟩
  have hO : OwnE e1 (nameL (fun j => e1.blk j) 0 (H0.map (renE f))) hp := by
    refine ⟨fun j x hx hal => ?_, fun i j x y hx hy hal1 hal2 hn1 hn2 hij => ?_, fun b hb => ?_, fun j x b hx hb => ?_⟩
    · obtain ⟨id, x0, hid, hx0, hs0, hal0, rfl⟩ := hH1 hx
      obtain ⟨a1, a2, a3⟩ := e1at hid
      rw [hobj]
      have hm := List.mem_of_getElem? hid
      refine holds_ren a1 a2 a3 (fun hnl o ho => by rw [hpat hm hnl]; exact ho) (fun sv i ⟨cs, el, k, hcs, hk⟩ hr => ?_) (X.owned id x0 hs0 hal0).1
      have hi : i ∈ ids := by
        have := hinH x0 (List.mem_of_getElem? hx0) i (by
          simp only [entRefs, hcs]
          exact refsL_mem (refsL_of hk hr))
        exact memB_true this
      obtain ⟨b1, b2, b3⟩ := e1f hi
      exact ⟨b1, b2, fun _ => b3⟩
    · obtain ⟨id, x0, hid, _, hs0, hal0, rfl⟩ := hH1 hx
      obtain ⟨id', y0, hid', _, hs0', hal0', rfl⟩ := hH1 hy
      obtain ⟨a1, a2, _⟩ := e1at hid
      obtain ⟨b1, b2, _⟩ := e1at hid'
      rw [a1, b1]
      refine X.apart id id' x0 y0 hs0 hs0' hal0 hal0' (a2 ▸ hn1) (b2 ▸ hn2) (fun hii => hij ?_)
      subst hii
      rw [← posOf_at hnd hid, ← posOf_at hnd hid']
    · obtain ⟨id, hid, hnl, rfl⟩ := hpdom hb
      have hj := posOf_get hid
      obtain ⟨x0, hx0, hs0, hal0⟩ := hat _ _ hj
      obtain ⟨a1, a2, _⟩ := e1at hj
      obtain ⟨y, hy⟩ : ∃ y, (nameL (fun j => e1.blk j) 0 (H0.map (renE f)))[posOf id ids]? = some y := by
        have : posOf id ids < (nameL (fun j => e1.blk j) 0 (H0.map (renE f))).length := by
          rw [nameL_len, List.length_map]
          exact (List.getElem?_eq_some_iff.1 hx0).1
        exact ⟨_, List.getElem?_eq_getElem this⟩
      obtain ⟨id', x0', hid', hx0', hs0', hal0', rfl⟩ := hH1 hy
      rw [hj] at hid'
      cases hid'
      refine ⟨posOf id ids, _, hy, ?_, a2.trans hnl, a1⟩
      rw [hobj, (renE_alive f x0').1]
      exact hal0'
    · obtain ⟨id, x0, hid, hx0, hs0, hal0, rfl⟩ := hH1 hx
      obtain ⟨a1, a2, _⟩ := e1at hid
      rw [a1, a2]
      have hown := (X.owned id x0 hs0 hal0).1
      obtain ⟨ob, nm⟩ := x0
      cases ob <;> cases nm <;> simp only [renE, name1, Option.some.injEq, reduceCtorEq] at hb <;>
        first
          | exact absurd hal0 Bool.false_ne_true
          | exact X.names id _ b hs0 (congrArg some hb)
          | exact ⟨a1 ▸ hb, holds_nil hown (fun _ _ _ h => by cases h) rfl⟩
  have hap : s1.I.apart hp := fun b => by
    by_cases hb : hp b = none
    · exact .inr hb
    · obtain ⟨id, hid, hnl, rfl⟩ := hpdom hb
      obtain ⟨x0, hs0, hal0⟩ := lent hid
      exact .inl ((X.owned id x0 hs0 hal0).2 hnl).1
  have hpin : hp.inW w := fun b o hb => by
    simp only [hp] at hb
    split at hb
    · exact hb
    · cases hb
  have hren : ∀ {x : SV}, (∀ i, refs i x = true → i ∈ ids) → den e1 (renF f x) = den e x := fun {x} hx => (den_ren (fun i hi => by
    obtain ⟨b1, b2, b3⟩ := e1f (hx i hi)
    exact ⟨b1, b2, fun _ => b3⟩)).1
  have hrefs : ∀ {x : SV}, x ∈ (fo :: args.toList).map (ev s1) → ∀ i, refs i x = true → i ∈ ids := fun {x} hx i hi => by
    obtain ⟨k, hk⟩ := List.mem_iff_getElem?.1 hx
    exact memB_true (hin i (refsL_mem (refsL_of hk hi)))
  have hfo : a.eval fo = den e1 (renF f (ev s1 fo)) := by
    rw [hren (hrefs (by simp)), ev_ok hA1 fo (hnj _ (by simp))]
  have hargs : args.map a.eval = (denL e1 (renFL f (args.toList.map (ev s1)))).toArray := by
    rw [← Array.toList_inj, Array.toList_map, renFL_eq, denL_eq]
    simp only [List.map_map]
    apply List.map_congr_left
    intro x hx
    have hm : ev s1 x ∈ (fo :: args.toList).map (ev s1) := List.mem_map.2 ⟨x, List.mem_cons_of_mem _ hx, rfl⟩
    simp only [Function.comp]
    rw [hren (hrefs hm), ev_ok hA1 x (hnj _ hm)]
  refine wpIn_call (f := fo) (args := args) (ts := ts) ho (R := _) (by rw [hfo, hargs]; exact h1 e1 hp hO w X.I hpin hap) ?_
  intro en w' he
  obtain ⟨v, I', hp', rfl, hle2, hI', hhp', hap', hsz, hsame, hold, hnew, e', sv, H', hv, hO', hpost⟩ := he
  obtain ⟨sv0, hpost⟩ := exR_sound hpost
  obtain ⟨H2, ⟨rfl, rfl, hK⟩, hnames⟩ := exEs_sound hpost
  have hb2 : ∀ j, (envL e e' ids s1.H.length).blk (bck ids s1.H.length j) = e'.blk j ∧ (envL e e' ids s1.H.length).nil (bck ids s1.H.length j) = e'.nil j ∧ (envL e e' ids s1.H.length).cap (bck ids s1.H.length j) = e'.cap j :=
    fun j => envL_bck hnd hlt j
  have hold2 : ∀ {i : Nat}, i ∉ ids → i < s1.H.length → (envL e e' ids s1.H.length).blk i = e.blk i ∧ (envL e e' ids s1.H.length).nil i = e.nil i ∧ (envL e e' ids s1.H.length).cap i = e.cap i := fun h1 h2 => envL_old h1 h2
  have lblk : ∀ {b : Nat}, hp' b ≠ none → w.heap.size ≤ b ∨ ∃ (id : Nat) (x : Ent), id ∈ ids ∧ s1.H[id]? = some x ∧ alive x.obj = true ∧ e.nil id = false ∧ b = e.blk id := fun {b} hb => by
    by_cases hlb : b < w.heap.size
    · have hne : hp b ≠ none := fun h0 => hb (hnew b hlb h0).1
      obtain ⟨id, hid, hnl, rfl⟩ := hpdom hne
      obtain ⟨x0, hs0, hal0⟩ := lent hid
      exact .inr ⟨id, x0, hid, hs0, hal0, hnl, rfl⟩
    · exact .inl (by omega)
  have agree : ∀ i, i < s1.H.length → i ∉ moved ids H' → (envL e e' ids s1.H.length).blk i = e.blk i ∧ (envL e e' ids s1.H.length).nil i = e.nil i ∧ (i ∉ ids → (envL e e' ids s1.H.length).cap i = e.cap i) := by
    intro i hi hm
    by_cases hid : i ∈ ids
    · obtain ⟨y, b, hy, hyb⟩ := moved_spec (posOf_get hid) hm
      rcases hnames _ y hy with h0 | ⟨z, hz, hzn⟩
      · rw [hyb] at h0; cases h0
      · obtain ⟨c1, c2⟩ := hO'.names _ y b hy hyb
        obtain ⟨d1, d2⟩ := hO.names _ z b hz (by rw [← hzn]; exact hyb)
        obtain ⟨g1, g2, _⟩ := e1at (posOf_get hid)
        obtain ⟨k1, k2, _⟩ := hb2 (posOf i ids)
        have hbk : bck ids s1.H.length (posOf i ids) = i := by unfold bck; rw [posOf_get hid]
        rw [hbk] at k1 k2
        exact ⟨by rw [k1, c1, ← g1, d1], by rw [k2, c2, ← g2, d2], fun h => absurd hid h⟩
    · obtain ⟨k1, k2, k3⟩ := hold2 hid hi
      exact ⟨k1, k2, fun _ => k3⟩
  have cls : ∀ {id : Nat} {x : Ent}, (afterL s1 ids H' I').H[id]? = some x → alive x.obj = true →
      (∃ j y, H'[j]? = some y ∧ alive y.obj = true ∧ x = renE (bck ids s1.H.length) y ∧ id = bck ids s1.H.length j) ∨
      (id ∉ ids ∧ id < s1.H.length ∧ ∃ x0, s1.H[id]? = some x0 ∧ alive x0.obj = true ∧ x = junkEL (moved ids H') ids x0) := by
    intro id x hx hal
    rcases newH_get (i := 0) hx with ⟨x0, h3, h4⟩ | ⟨h3, y, h4, h5⟩
    · rw [Nat.zero_add] at h4
      rcases h4 with ⟨hm, ⟨y, hy, rfl⟩ | rfl⟩ | ⟨hm, rfl⟩
      · refine .inl ⟨posOf id ids, y, hy, (renE_alive _ y).1 ▸ hal, rfl, ?_⟩
        unfold bck
        rw [posOf_get (memB_true hm)]
      · cases hal
      · exact .inr ⟨memB_false hm, (List.getElem?_eq_some_iff.1 h3).1, x0, h3, (junkEL_alive _ _ x0).1 ▸ hal, rfl⟩
    · subst h5
      refine .inl ⟨_, y, h4, (renE_alive _ y).1 ▸ hal, rfl, ?_⟩
      unfold bck
      rw [List.getElem?_eq_none (by omega)]
      simp only
      omega
  have nb : ∀ {id : Nat} {x : Ent}, id ∉ ids → s1.H[id]? = some x → alive x.obj = true → e.nil id = false → e.blk id < w.heap.size ∧ hp (e.blk id) = none := by
    intro id x hid hx hal hnl
    refine ⟨blk_lt X.toSat hx hal hnl, ?_⟩
    cases hb : hp (e.blk id) with
    | none => rfl
    | some o =>
      obtain ⟨id', hid', hnl', hbe⟩ := hpdom (b := e.blk id) (by rw [hb]; simp)
      obtain ⟨x0, hs0, hal0⟩ := lent hid'
      exact absurd hbe (X.apart id' id x0 x hs0 hx hal0 hal hnl' hnl (fun h => hid (h ▸ hid')))
  have hfp : ∀ {b : Nat} {o : Obj}, c.hf b = some o → b < w.heap.size ∧ hp b = none := by
    intro b o hb
    refine ⟨Mem.inW_lt X.hf hb, ?_⟩
    cases hpb : hp b with
    | none => rfl
    | some o' =>
      obtain ⟨id', hid', hnl', rfl⟩ := hpdom (b := b) (by rw [hpb]; simp)
      obtain ⟨x0, hs0, hal0⟩ := lent hid'
      rw [((X.owned id' x0 hs0 hal0).2 hnl').2] at hb
      cases hb
  have newb : ∀ {j : Nat} {y : Ent}, H'[j]? = some y → alive y.obj = true → e'.nil j = false → hp' (e'.blk j) ≠ none := fun hy haly hnl => holds_blk (hO'.hold _ _ hy haly) haly hnl
  have hGp : ∀ {b : Nat}, s1.G b ≠ none → b < w.heap.size ∧ hp b = none := by
    intro b hb
    obtain ⟨o, ho⟩ := Option.ne_none_iff_exists'.1 hb
    refine ⟨Mem.inW_lt X.gIn ho, ?_⟩
    cases hpb : hp b with
    | none => rfl
    | some o' =>
      obtain ⟨id', hid', hnl', rfl⟩ := hpdom (b := b) (by rw [hpb]; simp)
      obtain ⟨x0, hs0, hal0⟩ := lent hid'
      exact absurd (X.gOwn id' x0 hs0 hal0 hnl') hb
  have hSat : Sat c (envL e e' ids s1.H.length) (afterL s1 ids H' I') w' := by
    refine ⟨X.same.trans hsame, Nat.le_trans X.size hsz, hI', fun b o hb => ?_, fun b hb h0 => ?_, fun id x hx hal => ?_, fun i j x y hx hy hal1 hal2 hn1 hn2 hij => ?_, fun id x b hx hb => ?_⟩
    · obtain ⟨g1, g2⟩ := hfp hb
      rw [hold b g1 g2]
      exact X.hf b o hb
    · obtain ⟨o, ho⟩ := Option.ne_none_iff_exists'.1 hb
      obtain ⟨g1, g2⟩ := hfp ho
      exact (hnew b g1 g2).2 (X.old b hb h0)
    · rcases cls hx hal with ⟨j, y, hy, haly, rfl, rfl⟩ | ⟨hid, hlt', x0, hx0, hal0, rfl⟩
      · obtain ⟨k1, k2, k3⟩ := hb2 j
        refine ⟨holds_ren k1 k2 k3 (fun _ o ho => hhp' _ o ho) (fun sv i _ _ => ⟨(hb2 i).1, (hb2 i).2.1, fun _ => (hb2 i).2.2⟩) (hO'.hold j y hy haly), fun hnl => ?_⟩
        rw [k2] at hnl
        rw [k1]
        have hne := newb hy haly hnl
        refine ⟨(hap' _).resolve_right hne, ?_⟩
        cases hf2 : c.hf (e'.blk j) with
        | none => rfl
        | some o =>
          obtain ⟨g1, g2⟩ := hfp hf2
          exact absurd (hnew _ g1 g2).1 hne
      · obtain ⟨k1, k2, k3⟩ := hold2 hid hlt'
        obtain ⟨g1, g2⟩ := X.owned id x0 hx0 hal0
        refine ⟨holds_junkL k1 k2 k3 (fun hnl => hold _ (nb hid hx0 hal0 hnl).1 (nb hid hx0 hal0 hnl).2) (fun sv i ⟨cs, el, k, hcs, hk⟩ hr hm => ?_) g1, fun hnl => ?_⟩
        · refine agree i ?_ hm
          have hb := hwf.1.2 x0 (List.mem_of_getElem? hx0)
          simp only [entBelow, hcs] at hb
          exact refs_below (belowL_get hb hk) hr
        · rw [k2] at hnl
          rw [k1]
          obtain ⟨n1, n2⟩ := nb hid hx0 hal0 hnl
          exact ⟨(hnew _ n1 n2).2 (g2 hnl).1, (g2 hnl).2⟩
    · have crs : ∀ {i : Nat} {x0 : Ent} {j : Nat} {y : Ent}, i ∉ ids → i < s1.H.length → s1.H[i]? = some x0 → alive x0.obj = true → e.nil i = false → H'[j]? = some y → alive y.obj = true → e'.nil j = false → e.blk i ≠ e'.blk j := by
        intro i x0 j y hid _ hx0 hal0 hnl hy haly hnl' hbe
        obtain ⟨n1, n2⟩ := nb hid hx0 hal0 hnl
        exact newb hy haly hnl' (hbe ▸ (hnew _ n1 n2).1)
      rcases cls hx hal1 with ⟨k, z, hz, halz, rfl, rfl⟩ | ⟨hid, hlt', x0, hx0, hal0, rfl⟩ <;> rcases cls hy hal2 with ⟨k', z', hz', halz', rfl, rfl⟩ | ⟨hid', hlt'', y0, hy0, hal0', rfl⟩
      · rw [(hb2 k).2.1] at hn1
        rw [(hb2 k').2.1] at hn2
        rw [(hb2 k).1, (hb2 k').1]
        exact hO'.apart k k' z z' hz hz' halz halz' hn1 hn2 (fun h => hij (by rw [h]))
      · rw [(hb2 k).2.1] at hn1
        rw [(hold2 hid' hlt'').2.1] at hn2
        rw [(hb2 k).1, (hold2 hid' hlt'').1]
        exact (crs hid' hlt'' hy0 hal0' hn2 hz halz hn1).symm
      · rw [(hold2 hid hlt').2.1] at hn1
        rw [(hb2 k').2.1] at hn2
        rw [(hb2 k').1, (hold2 hid hlt').1]
        exact crs hid hlt' hx0 hal0 hn1 hz' halz' hn2
      · rw [(hold2 hid hlt').2.1] at hn1
        rw [(hold2 hid' hlt'').2.1] at hn2
        rw [(hold2 hid hlt').1, (hold2 hid' hlt'').1]
        exact X.apart i j x0 y0 hx0 hy0 hal0 hal0' hn1 hn2 hij
    · rcases newH_get (i := 0) hx with ⟨x0, h3, h4⟩ | ⟨h3, y, h4, rfl⟩
      · rw [Nat.zero_add] at h4
        rcases h4 with ⟨hm, ⟨y, hy, rfl⟩ | rfl⟩ | ⟨hm, rfl⟩
        · rw [(renE_alive _ y).2] at hb
          have hbk : bck ids s1.H.length (posOf id ids) = id := by unfold bck; rw [posOf_get (memB_true hm)]
          obtain ⟨k1, k2, _⟩ := hb2 (posOf id ids)
          rw [hbk] at k1 k2
          rw [k1, k2]
          exact hO'.names _ y b hy hb
        · cases hb
        · rw [(junkEL_alive _ _ x0).2] at hb
          obtain ⟨k1, k2, _⟩ := hold2 (memB_false hm) (List.getElem?_eq_some_iff.1 h3).1
          rw [k1, k2]
          exact X.names id x0 b h3 hb
      · rw [(renE_alive _ y).2] at hb
        have hbk : bck ids s1.H.length (ids.length + (id - s1.H.length)) = id := by
          unfold bck
          rw [List.getElem?_eq_none (by omega)]
          simp only
          omega
        obtain ⟨k1, k2, _⟩ := hb2 (ids.length + (id - s1.H.length))
        rw [hbk] at k1 k2
        rw [k1, k2]
        exact hO'.names _ y b h4 hb
  refine ⟨v, rfl, hn _ (envL e e' ids s1.H.length) _ v w' hK ⟨hSat, ?_, ?_, ?_⟩ ⟨?_, ?_, ?_⟩ (Mem.le_trans hle1 hle2) (by simp [afterL, hlen1]) ?_ ?_⟩
  · intro b o hb
    obtain ⟨g1, g2⟩ := hGp (b := b) (by show s1.G b ≠ none; rw [show s1.G b = some o from hb]; simp)
    rw [hold b g1 g2]
    exact X.gIn b o hb
  · intro b hb
    obtain ⟨g1, g2⟩ := hGp hb
    exact ⟨(hnew b g1 g2).2 (X.gI b hb).1, (X.gI b hb).2⟩
  · intro id x hx hal hnl
    show s1.G _ = none
    cases hg : s1.G ((envL e e' ids s1.H.length).blk id) with
    | none => rfl
    | some o =>
      exfalso
      obtain ⟨g1, g2⟩ := hGp (b := (envL e e' ids s1.H.length).blk id) (by rw [hg]; simp)
      rcases cls hx hal with ⟨j, y, hy, haly, rfl, rfl⟩ | ⟨hid, hlt', x0, hx0, hal0, rfl⟩
      · rw [(hb2 j).2.1] at hnl
        rw [(hb2 j).1] at g1 g2
        exact newb hy haly hnl (hnew _ g1 g2).1
      · obtain ⟨k1, k2, _⟩ := hold2 hid hlt'
        rw [k2] at hnl
        rw [k1, X.gOwn id x0 hx0 hal0 hnl] at hg
        cases hg
  · simpa [afterL] using hA1.size
  · intro t sv ht hj
    simp only [afterL, List.getElem?_map, Option.map_eq_some_iff] at ht
    obtain ⟨sv1, ht1, rfl⟩ := ht
    obtain ⟨d1, d2⟩ := junkL_den (e := e) (e2 := envL e e' ids s1.H.length) (fun i hi hm => agree i (refs_below (belowL_get hwf.1.1 ht1) hi) hm) hj
    rw [d2]
    exact hA1.tm t sv1 ht1 (by rw [d1] at hj; exact hj)
  · rw [hA1.defers]
    simp only [afterL]
    apply List.map_congr_left
    intro m hm
    have h3 := hwf.2 m hm
    simp only [mark, (hold2 (memB_false (hmk m hm)) (by simpa using h3)).1]
  · rw [hv]
    exact ((den_ren (fun i _ => ⟨(hb2 i).1, (hb2 i).2.1, fun _ => (hb2 i).2.2⟩)).1).symm
  · refine ⟨fun b hb _ hm => ?_, hsz, fun id hid hm => ?_, fun id x hid hm hx hal hnl => ?_, fun id x hid hx hal hnl => ?_, by rw [hls.len]; exact newH_len, fun id x hid hx hal => ?_, fun b hb hg => by show s1.G b = none; rw [hls.g]; exact hg, fun _ => hls.g, fun b hb _ h0 => ?_⟩
    · refine hold b hb ?_
      cases hpb : hp b with
      | none => rfl
      | some o =>
        obtain ⟨id', hid', hnl', rfl⟩ := hpdom (b := b) (by rw [hpb]; simp)
        obtain ⟨x0, hs0, hal0⟩ := lent hid'
        obtain ⟨x1, hx1, hal1⟩ := hls.live id' x0 hs0 hal0
        exact absurd rfl (hm id' x1 hid' hx1 hal1 hnl')
    · obtain ⟨k1, k2, k3⟩ := hold2 hm (by rw [← hls.len]; exact hid)
      exact ⟨k1.symm, k3.symm, k2.symm⟩
    · rcases cls hx hal with ⟨j, y, hy, haly, rfl, rfl⟩ | ⟨hid', _, _⟩
      · rw [(hb2 j).2.1] at hnl
        rw [(hb2 j).1]
        rcases lblk (newb hy haly hnl) with h3 | ⟨id', x0, hid', hs0, hal0, hnl', hbe⟩
        · exact .inl h3
        · obtain ⟨x1, hx1, hal1⟩ := hls.live id' x0 hs0 hal0
          exact .inr ⟨id', x1, hid', hx1, hal1, hnl', hbe⟩
      · exact absurd hm hid'
    · rcases cls hx hal with ⟨j, y, hy, haly, rfl, rfl⟩ | ⟨_, hlt', _⟩
      · rw [(hb2 j).2.1] at hnl
        rw [(hb2 j).1]
        rcases lblk (newb hy haly hnl) with h3 | ⟨id', x0, hid', hs0, hal0, hnl', hbe⟩
        · exact .inl h3
        · obtain ⟨x1, hx1, hal1⟩ := hls.live id' x0 hs0 hal0
          exact .inr ⟨id', x1, hid', hx1, hal1, hnl', hbe⟩
      · rw [hls.len] at hid
        omega
    · rcases cls hx hal with ⟨j, y, hy, haly, rfl, rfl⟩ | ⟨_, _, x0, hx0, hal0, rfl⟩
      · rw [hls.len] at hid
        unfold bck at hid ⊢
        split at hid
        · rename_i id' hj
          obtain ⟨x0, hs0, hal0⟩ := lent (List.mem_of_getElem? hj)
          exact hls.live id' x0 hs0 hal0
        · omega
      · exact hls.live id x0 hx0 hal0
    · rcases hls.rd b h0 with h3 | h3
      · by_cases hpb : hp b = none
        · exact .inl ((hnew b hb hpb).2 h3)
        · obtain ⟨id', hid', hnl', rfl⟩ := hpdom hpb
          obtain ⟨x0, hs0, hal0⟩ := lent hid'
          obtain ⟨x1, hx1, hal1⟩ := hls.live id' x0 hs0 hal0
          exact .inr ⟨id', x1, hx1, hal1, hnl', rfl⟩
      · exact .inr h3

end
end Go.SE
