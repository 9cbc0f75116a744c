/- Part of a proof by the rules of the symbolic walk (see the law's own text): contracts of functions of the program. -/
import Derived.Test.YtjjjbafnplmjoaaGreatDoorse1
import Derived.Maps.RangeRun
import Derived.OrdersIn
import Derived.RangeFuncRecord
set_option linter.unusedVariables false
set_option linter.unusedSimpArgs false
namespace Go.SE
open Go.RowKit
section
variable {P : Program} {c : Ctx} {e : Env} {s : St} {w : World} {a : Act} {r : Option Nat}
theorem entsAt_spec {H : List Ent} : ∀ {ids : List Nat} {H0 : List Ent}, entsAt H ids = some H0 -> H0.length = ids.length /\
 ∀ (j id : Nat), ids[j]? = some id -> ∃ x, H0[j]? = some x /\ H[id]? = some x /\ alive x.obj = true
 | [], H0, h => by simp only [entsAt, Option.some.injEq] at h; subst h; simp
 | id :: r, H0, h => by
   simp only [entsAt] at h
   split at h
   · rename_i x l hx hl
     split at h
     · rename_i hal
       simp only [Option.some.injEq] at h;subst h;obtain ⟨h1, h2⟩ := entsAt_spec hl
       refine ⟨by simp [h1], fun j id' hj => ?_⟩
       cases j with
       | zero => simp only [List.getElem?_cons_zero, Option.some.injEq] at hj; subst hj; exact ⟨x, rfl, hx, hal⟩
       | succ j => exact (by simpa using h2 j id' (by simpa using hj))
     · cases h
   · cases h
def name1 (b : Nat) (x : Ent) : Ent :=
 match x with
 | ⟨.row xs sz el, _⟩ => ⟨.row xs sz el, none⟩
 | ⟨o, some b'⟩ => ⟨o, some b'⟩
 | ⟨o, none⟩ => ⟨o, some b⟩
def nameL (g : Nat -> Nat) : Nat -> List Ent -> List Ent
 | _, [] => []
 | i, x :: r => name1 (g i) x :: nameL g (i + 1) r
theorem nameL_get {g : Nat -> Nat} : ∀ {i : Nat} {l : List Ent} {k : Nat} {x : Ent}, (nameL g i l)[k]? = some x -> ∃ y, l[k]? = some y /\ x = name1 (g (i + k)) y
 | i, [], k, x, h => by simp [nameL] at h
 | i, y :: r, k, x, h => by
   simp only [nameL] at h
   cases k with
   | zero => simp only [List.getElem?_cons_zero, Option.some.injEq] at h; exact ⟨y, rfl, h.symm⟩
   | succ k =>
     obtain ⟨z, h1, h2⟩ := nameL_get (i := i + 1) (k := k) (by simpa using h)
     exact ⟨z, by simpa using h1, by rw [h2, show i + (k + 1) = i + 1 + k from by omega]⟩
theorem nameQ_sound (g : Nat -> Nat) : ∀ {l : List Ent} {i : Nat} {F : List Ent -> Prop}, nameQ l F -> F (nameL g i l)
 | [], i, F, h => h
 | x :: r, i, F, h => by
   obtain ⟨o, nm⟩ := x
   cases o <;> cases nm <;> simp only [nameQ] at h <;>
    first
     | exact nameQ_sound g (i := i + 1) h
     | exact nameQ_sound g (i := i + 1) (h (g i))
theorem name1_obj (b : Nat) (x : Ent) : (name1 b x).obj = x.obj := by
 obtain ⟨o, nm⟩ := x
 cases o <;> cases nm <;> rfl
mutual
theorem exR_sound : ∀ {sh : RSh} {F : SV -> Prop}, exR sh F -> ∃ sv, F sv
 | .sh s, F, h => by
   simp only [exR] at h;obtain ⟨_, sv, h1, _⟩ := ExV1_sound h;exact ⟨sv, h1⟩
 | .row j, F, h => by obtain ⟨n, h⟩ := h; exact ⟨_, h⟩
 | .ptr j off, F, h => ⟨_, h⟩
 | .agg l, F, h => by obtain ⟨xs, h⟩ := exRs_sound h; exact ⟨_, h⟩
 | .tup l, F, h => by obtain ⟨xs, h⟩ := exRs_sound h; exact ⟨_, h⟩
theorem exRs_sound : ∀ {l : List RSh} {F : List SV -> Prop}, exRs l F -> ∃ xs, F xs
 | [], F, h => ⟨[], h⟩
 | sh :: l, F, h => by
   obtain ⟨x, h⟩ := exR_sound h;obtain ⟨xs, h⟩ := exRs_sound h;exact ⟨_, h⟩
end
theorem exE_sound {o : Option Ent} {sh : ESh} {F : Ent -> Prop} (h : exE o sh F) : ∃ x, F x /\ (x.name = none \/ ∃ y, o = some y /\ x.name = y.name) := by
 cases sh <;> simp only [exE] at h
 case same =>
  split at h
  · exact ⟨_, h, .inr ⟨_, rfl, rfl⟩⟩
  · exact h.elim
 case dead => exact ⟨_, h, .inl rfl⟩
 case row sz el => obtain ⟨xs, h⟩ := h; exact ⟨_, h, .inl rfl⟩
 case vec el =>
  obtain ⟨xs, h⟩ := h;refine ⟨_, h, ?_⟩
  cases o with
  | none => exact .inl rfl
  | some y => exact .inr ⟨y, rfl, rfl⟩
 case cells l el =>
  obtain ⟨xs, h⟩ := exRs_sound h;refine ⟨_, h, ?_⟩
  cases o with
  | none => exact .inl rfl
  | some y => exact .inr ⟨y, rfl, rfl⟩
 case mp =>
  obtain ⟨es, clk, h⟩ := h;refine ⟨_, h, ?_⟩
  cases o with
  | none => exact .inl rfl
  | some y => exact .inr ⟨y, rfl, rfl⟩
theorem exEs_sound : ∀ {H : List Ent} {l : List ESh} {F : List Ent -> Prop}, exEs H l F -> ∃ H2, F H2 /\ ∀ (j : Nat) (x : Ent), H2[j]? = some x -> x.name = none \/ ∃ y, H[j]? = some y /\ x.name = y.name
 | H, [], F, h => ⟨[], by cases H <;> exact h, fun j x hx => by simp at hx⟩
 | [], sh :: r, F, h => by
   obtain ⟨x, h, hx⟩ := exE_sound h;obtain ⟨H2, h, h2⟩ := exEs_sound h;refine ⟨_, h, fun j y hy => ?_⟩
   cases j with
   | zero =>
     simp only [List.getElem?_cons_zero, Option.some.injEq] at hy;subst hy
     rcases hx with hx | ⟨_, h0, _⟩
     · exact .inl hx
     · cases h0
   | succ j => exact (by simpa using h2 j y (by simpa using hy))
 | z :: H, sh :: r, F, h => by
   obtain ⟨x, h, hx⟩ := exE_sound h;obtain ⟨H2, h, h2⟩ := exEs_sound h;refine ⟨_, h, fun j y hy => ?_⟩
   cases j with
   | zero =>
     simp only [List.getElem?_cons_zero, Option.some.injEq] at hy;subst hy
     rcases hx with hx | ⟨y', h0, h1⟩
     · exact .inl hx
     · cases h0; exact .inr ⟨_, rfl, h1⟩
   | succ j => exact (by simpa using h2 j y (by simpa using hy))
theorem moved_spec : ∀ {ids : List Nat} {H' : List Ent} {j id : Nat}, ids[j]? = some id -> id ∉ moved ids H' -> ∃ y b, H'[j]? = some y /\ y.name = some b
 | [], _, j, id, h, _ => by simp at h
 | i :: r, [], j, id, h, hm => by
   exfalso;simp only [moved, List.mem_cons, not_or] at hm
   cases j with
   | zero => simp only [List.getElem?_cons_zero, Option.some.injEq] at h; exact hm.1 h.symm
   | succ j =>
     obtain ⟨_, _, h1, _⟩ := moved_spec (ids := r) (H' := []) (j := j) (by simpa using h) hm.2
     simp at h1
 | i :: r, ⟨o, none⟩ :: l, j, id, h, hm => by
   simp only [moved, List.mem_cons, not_or] at hm
   cases j with
   | zero => simp only [List.getElem?_cons_zero, Option.some.injEq] at h; exact absurd h.symm hm.1
   | succ j => exact (by simpa using moved_spec (j := j) (by simpa using h) hm.2)
 | i :: r, ⟨o, some b⟩ :: l, j, id, h, hm => by
   simp only [moved] at hm
   cases j with
   | zero => exact ⟨_, b, rfl, rfl⟩
   | succ j => exact (by simpa using moved_spec (j := j) (by simpa using h) hm)
theorem newH_get {jl ids : List Nat} {H' : List Ent} {n : Nat} : ∀ {i : Nat} {l : List Ent} {k : Nat} {x : Ent}, (newH jl ids H' n i l)[k]? = some x ->
 (∃ x0, l[k]? = some x0 /\ ((memB (i + k) ids = true /\ ((∃ y, H'[posOf (i + k) ids]? = some y /\ x = renE (bck ids n) y) \/ x = ⟨.dead, none⟩)) \/ (memB (i + k) ids = false /\ x = junkEL jl ids x0))) \/
 (l.length <= k /\ ∃ y, H'[ids.length + (k - l.length)]? = some y /\ x = renE (bck ids n) y)
 | i, [], k, x, h => by
   simp only [newH, List.getElem?_map, List.getElem?_drop, Option.map_eq_some_iff] at h;obtain ⟨y, h1, h2⟩ := h
   exact .inr ⟨Nat.zero_le _, y, by simpa using h1, h2.symm⟩
 | i, x0 :: l, k, x, h => by
   simp only [newH] at h
   cases k with
   | zero =>
     simp only [List.getElem?_cons_zero, Option.some.injEq] at h;refine .inl ⟨x0, rfl, ?_⟩
     cases hm : memB i ids with
     | true =>
       rw [hm, cond_true] at h
       refine .inl ⟨by simp, ?_⟩
       split at h
       · rename_i y hy; exact .inl ⟨y, hy, h.symm⟩
       · exact .inr h.symm
     | false => rw [hm, cond_false] at h; exact .inr ⟨by simp, h.symm⟩
   | succ k =>
     have hi : i + 1 + k = i + (k + 1) := by omega
     rcases newH_get (i := i + 1) (k := k) (by simpa using h) with ⟨x1, h1, h2⟩ | ⟨h1, y, h2, h3⟩
     · rw [hi] at h2
       exact .inl ⟨x1, by simpa using h1, h2⟩
     · refine .inr ⟨by simpa using h1, y, ?_, h3⟩
       simp only [List.length_cons]
       rw [show k + 1 - (l.length + 1) = k - l.length from by omega]
       exact h2
theorem newH_len {jl ids : List Nat} {H' : List Ent} {n : Nat} : ∀ {i : Nat} {l : List Ent}, l.length <= (newH jl ids H' n i l).length
 | i, [] => Nat.zero_le _
 | i, x :: l => by simp only [newH, List.length_cons]; exact Nat.succ_le_succ newH_len
theorem junkEL_alive (jl ids : List Nat) (x : Ent) : alive (junkEL jl ids x).obj = alive x.obj /\ (junkEL jl ids x).name = x.name := by
 unfold junkEL;split
 · rename_i h; simp [h, alive]
 · exact ⟨rfl, rfl⟩
theorem holds_ren {e1 : Env} {f : Nat -> Nat} {id j : Nat} {h h' : Nat -> Option Obj} {x : Ent} (hb : e1.blk j = e.blk id) (hn : e1.nil j = e.nil id) (hc : e1.cap j = e.cap id)
 (hh : e.nil id = false -> ∀ o, h (e.blk id) = some o -> h' (e.blk id) = some o) (hr : ∀ sv i, (∃ (cs : List SV) (el : TypeId) (k : Nat), x.obj = .cells cs el /\ cs[k]? = some sv) -> refs i sv = true -> e1.blk (f i) = e.blk i /\ e1.nil (f i) = e.nil i /\ (rslR i sv = true -> e1.cap (f i) = e.cap i))
 (H : holds e id h x.obj) : holds e1 j h' (renE f x).obj := by
 unfold renE
 cases hx : x.obj with
 | cells cs el =>
   rw [hx] at H;obtain ⟨h0, cc, h1, h2, h3⟩ := H
   refine ⟨hn ▸ h0, cc, by rw [hb]; exact hh h0 _ h1, by simpa [renFL_eq] using h2, fun k sv hk hj => ?_⟩
   rw [renFL_eq, List.getElem?_map, Option.map_eq_some_iff] at hk;obtain ⟨sv0, hk0, rfl⟩ := hk;obtain ⟨d1, d2⟩ := den_ren (e1 := e1) (e := e) (f := f) (x := sv0) (fun i hi => hr sv0 i ⟨cs, el, k, hx, hk0⟩ hi);rw [d2] at hj;rw [d1];exact h3 k sv0 hk0 hj
 | vec xs el => rw [hx] at H; simp only [hx]; exact ⟨hn ▸ H.1, by rw [hb]; exact hh H.1 _ H.2⟩
 | row xs sz el =>
   rw [hx] at H;simp only [hx];refine ⟨H.1, H.2.1, ?_⟩;rw [hb, hn, hc]
   rcases H.2.2 with h | ⟨h0, cc, fz, h3, h4⟩
   · exact .inl h
   · exact .inr ⟨h0, cc, fz, hh h0 _ h3, h4⟩
 | raw o => rw [hx] at H; simp only [hx]; exact ⟨hn ▸ H.1, by rw [hb]; exact hh H.1 _ H.2⟩
 | dead => simp only [hx]; trivial
theorem holds_nil {id : Nat} {h : Nat -> Option Obj} {o : EO} (H : holds e id h o) (hr : ∀ xs sz el, o ≠ .row xs sz el) (hal : alive o = true) : e.nil id = false := by
 cases o with
 | cells cs el => exact H.1
 | vec xs el => exact H.1
 | row xs sz el => exact absurd rfl (hr xs sz el)
 | raw o => exact H.1
 | dead => cases hal
theorem holds_blk {id : Nat} {h : Nat -> Option Obj} {o : EO} (H : holds e id h o) (hal : alive o = true) (hn : e.nil id = false) : h (e.blk id) ≠ none := by
 cases o with
 | cells cs el => obtain ⟨_, cc, h1, _⟩ := H; rw [h1]; simp
 | vec xs el => rw [H.2]; simp
 | row xs sz el =>
   rcases H.2.2 with h | ⟨_, cc, _, h1, _⟩
   · rw [h.1] at hn; cases hn
   · rw [h1]; simp
 | raw o => rw [H.2]; simp
 | dead => cases hal
end
end Go.SE
namespace Go.SE
open Go.RowKit
section
variable {P : Program} {c : Ctx} {e : Env} {s : St} {w : World} {a : Act} {r : Option Nat}
def envL (e e' : Env) (ids : List Nat) (n : Nat) : Env :=
 { blk := fun i => if i ∈ ids then e'.blk (posOf i ids) else if i < n then e.blk i else e'.blk (ids.length + (i - n))
   cap := fun i => if i ∈ ids then e'.cap (posOf i ids) else if i < n then e.cap i else e'.cap (ids.length + (i - n))
   nil := fun i => if i ∈ ids then e'.nil (posOf i ids) else if i < n then e.nil i else e'.nil (ids.length + (i - n)) }
theorem envL_bck {e' : Env} {ids : List Nat} {n : Nat} (hnd : nodupB ids = true) (hlt : ∀ i ∈ ids, i < n) (j : Nat) :
 (envL e e' ids n).blk (bck ids n j) = e'.blk j /\ (envL e e' ids n).nil (bck ids n j) = e'.nil j /\ (envL e e' ids n).cap (bck ids n j) = e'.cap j := by
 unfold bck;split
 · rename_i id hid
   have hm := List.mem_of_getElem? hid;have hp := posOf_at hnd hid;simp [envL, hm, hp]
 · rename_i hid
   have hlen : ids.length <= j := by simpa using hid
   have h1 : n + (j - ids.length) ∉ ids := fun h => by have := hlt _ h; omega
   have h2 : ids.length + (n + (j - ids.length) - n) = j := by omega
   have h3 : ¬ (n + (j - ids.length) < n) := by omega
   simp only [envL, if_neg h1, if_neg h3, h2];exact ⟨trivial, trivial, trivial⟩
theorem envL_old {e' : Env} {ids : List Nat} {n i : Nat} (h1 : i ∉ ids) (h2 : i < n) :
 (envL e e' ids n).blk i = e.blk i /\ (envL e e' ids n).nil i = e.nil i /\ (envL e e' ids n).cap i = e.cap i := by
 simp [envL, h1, h2]
theorem junkL_den {e2 : Env} {jl ids : List Nat} {x : SV} (h : ∀ i, refs i x = true -> i ∉ jl -> e2.blk i = e.blk i /\ e2.nil i = e.nil i /\ (i ∉ ids -> e2.cap i = e.cap i)) (hj : isJunk (junkL jl ids x) = false) :
 junkL jl ids x = x /\ den e2 (junkL jl ids x) = den e x := by
 unfold junkL at hj ⊢
 cases hc : ((refsOf x).any (fun i => memB i jl) || (refsOf x).any (fun i => memB i ids && rslR i x)) with
 | true => rw [hc] at hj; cases hj
 | false =>
   rw [cond_false];refine ⟨rfl, ?_⟩;simp only [Bool.or_eq_false_iff, List.any_eq_false, Bool.and_eq_true, not_and, Bool.not_eq_true] at hc
   have := (den_ren (e1 := e2) (e := e) (f := fun i => i) (x := x) (fun i hi => by
    have hm := refs_mem hi;obtain ⟨h1, h2, h3⟩ := h i hi (memB_false (hc.1 i hm));refine ⟨h1, h2, fun hr => h3 (fun hin => ?_)⟩;have := hc.2 i hm (memB_mem hin);rw [hr] at this
    cases this)).1
   rwa [renF_id] at this
theorem holds_junkL {e2 : Env} {jl ids : List Nat} {id : Nat} {h h' : Nat -> Option Obj} {x : Ent} (hb : e2.blk id = e.blk id) (hn : e2.nil id = e.nil id) (hc : e2.cap id = e.cap id)
 (hh : e.nil id = false -> h' (e.blk id) = h (e.blk id))
 (hr : ∀ (sv : SV) i, (∃ (cs : List SV) (el : TypeId) (k : Nat), x.obj = .cells cs el /\ cs[k]? = some sv) -> refs i sv = true -> i ∉ jl -> e2.blk i = e.blk i /\ e2.nil i = e.nil i /\ (i ∉ ids -> e2.cap i = e.cap i))
 (H : holds e id h x.obj) : holds e2 id h' (junkEL jl ids x).obj := by
 unfold junkEL
 cases hx : x.obj with
 | cells cs el =>
   rw [hx] at H;obtain ⟨h0, cc, h1, h2, h3⟩ := H
   refine ⟨hn ▸ h0, cc, by rw [hb, hh h0]; exact h1, by simpa using h2, fun k sv hk hj => ?_⟩
   rw [List.getElem?_map, Option.map_eq_some_iff] at hk;obtain ⟨sv0, hk0, rfl⟩ := hk;obtain ⟨d1, d2⟩ := junkL_den (e := e) (e2 := e2) (fun i hi => hr sv0 i ⟨cs, el, k, hx, hk0⟩ hi) hj;rw [d2]
   exact h3 k sv0 hk0 (by rw [d1] at hj; exact hj)
 | vec xs el => rw [hx] at H; simp only [hx]; exact ⟨hn ▸ H.1, by rw [hb, hh H.1]; exact H.2⟩
 | row xs sz el =>
   rw [hx] at H;simp only [hx];refine ⟨H.1, H.2.1, ?_⟩;rw [hb, hn, hc]
   rcases H.2.2 with h | ⟨h0, cc, fz, h3, h4⟩
   · exact .inl h
   · exact .inr ⟨h0, cc, fz, by rw [hh h0]; exact h3, h4⟩
 | raw o => rw [hx] at H; simp only [hx]; exact ⟨hn ▸ H.1, by rw [hb, hh H.1]; exact H.2⟩
 | dead => simp only [hx]; trivial
theorem refsL_of {i : Nat} : ∀ {l : List SV} {k : Nat} {sv : SV}, l[k]? = some sv -> refs i sv = true -> refsL i l = true
 | x :: xs, 0, sv, h, hr => by simp only [List.getElem?_cons_zero, Option.some.injEq] at h; subst h; simp [refsL, hr]
 | x :: xs, k + 1, sv, h, hr => by simp [refsL, refsL_of (l := xs) (k := k) (by simpa using h) hr]
mutual
theorem refs_below {n i : Nat} : ∀ {x : SV}, below n x = true -> refs i x = true -> i < n
 | .ptr j _, hb, h | .sptr j _, hb, h | .rsl j _, hb, h | .xsl j _ _ _, hb, h => by
   simp only [refs, beq_iff_eq] at h;subst h;simpa [below] using hb
 | .fn _ a b, hb, h => by
   simp only [below, Bool.and_eq_true] at hb;simp only [refs, Bool.or_eq_true] at h;exact h.elim (refsL_below hb.1) (refsL_below hb.2)
 | .agg xs, hb, h => by simp only [below] at hb; simp only [refs] at h; exact refsL_below hb h
 | .tup xs, hb, h => by simp only [below] at hb; simp only [refs] at h; exact refsL_below hb h
 | .v _, _, h | .ep _ _, _, h | .junk, _, h => by simp [refs] at h
theorem refsL_below {n i : Nat} : ∀ {l : List SV}, belowL n l = true -> refsL i l = true -> i < n
 | x :: xs, hb, h => by
   simp only [belowL, Bool.and_eq_true] at hb;simp only [refsL, Bool.or_eq_true] at h;exact h.elim (refs_below hb.1) (refsL_below hb.2)
end
theorem nameL_len {g : Nat -> Nat} : ∀ {i : Nat} {l : List Ent}, (nameL g i l).length = l.length
 | i, [] => rfl
 | i, x :: r => by simp [nameL, nameL_len]
theorem seLend_sound {o : Oper} {cl : Call} {ids : List Nat} {res : RSh} {ents : List ESh} (ho : o.op = .call cl) {K : SV -> St -> Prop} (h : seLend P s cl ids res ents K) (hS : SatX c e s w) (hA : SatA e s a)
 {next : Act -> World -> Prop} {Q : Exit -> Act -> World -> Prop}
 (hn : ∀ (sv : SV) (e' : Env) (s' : St) (x : Value) (w' : World), K sv s' -> SatX c e' s' w' -> SatA e' s' a -> s.I.le s'.I -> s'.tm.length = s.tm.length -> x = den e' sv -> Evo false ids s e w s' e' w' -> next (a.put o.dst x) w') :
 o.wpIn (Fr r) 0 P a w next Q := by
 obtain ⟨callee, args, ts⟩ := cl;unfold seLend at h
 split at h
 case h_2 => exact h.elim
 rename_i fo hcal
 simp only at hcal
 subst hcal;obtain ⟨s1, h, hS1, hA1, hle1, hlen1, hls⟩ := hand_sound h hS.toSat hA;have X := hls.x hS hS1
 split at h
 case h_2 => exact h.elim
 rename_i H0 hH0;obtain ⟨hl0, hat⟩ := entsAt_spec hH0
 split at h
 case isFalse => exact h.elim
 rename_i hok;simp only [lendOk, Bool.and_eq_true, List.all_eq_true, Nat.blt_eq, Bool.not_eq_true', allIn] at hok;obtain ⟨hnd, hlt, hmk, hwf, hin, hinH, hnj, hrnd⟩ := hok;have hwf0 := hwf;simp only [wfSt, Bool.and_eq_true, List.all_eq_true] at hwf;generalize hf : (fun i => posOf i ids) = f at h
 let e1 : Env := { blk := fun j => e.blk (ids.getD j 0), cap := fun j => e.cap (ids.getD j 0), nil := fun j => e.nil (ids.getD j 0) }
 have h1 := nameQ_sound (fun j => e1.blk j) (i := 0) h
 have e1at : ∀ {j id : Nat}, ids[j]? = some id -> e1.blk j = e.blk id /\ e1.nil j = e.nil id /\ e1.cap j = e.cap id := fun {j id} hj => by simp [e1, List.getD_eq_getElem?_getD, hj]
 have e1f : ∀ {i : Nat}, i ∈ ids -> e1.blk (f i) = e.blk i /\ e1.nil (f i) = e.nil i /\ e1.cap (f i) = e.cap i := fun {i} hi => by subst hf; exact e1at (posOf_get hi)
 have hH1 : ∀ {j : Nat} {x : Ent}, (nameL (fun j => e1.blk j) 0 (H0.map (renE f)))[j]? = some x -> ∃ id x0, ids[j]? = some id /\ H0[j]? = some x0 /\ s1.H[id]? = some x0 /\ alive x0.obj = true /\ x = name1 (e1.blk j) (renE f x0) := by
  intro j x hx;obtain ⟨y, hy, hxy⟩ := nameL_get hx;rw [List.getElem?_map, Option.map_eq_some_iff] at hy;obtain ⟨x0, hx0, rfl⟩ := hy
  have hjl : j < ids.length := by rw [<- hl0]; exact (List.getElem?_eq_some_iff.1 hx0).1
  obtain ⟨x0', h2, h3, h4⟩ := hat j ids[j] (List.getElem?_eq_getElem hjl);rw [hx0] at h2;cases h2
  exact ⟨ids[j], x0, List.getElem?_eq_getElem hjl, hx0, h3, h4, by simpa using hxy⟩
 have hobj : ∀ {j : Nat} {x0 : Ent}, (name1 (e1.blk j) (renE f x0)).obj = (renE f x0).obj := name1_obj _ _
 let hp : Mem := fun b => if ids.any (fun id => !e.nil id && e.blk id == b) then w.heap[b]? else none
 have hpat : ∀ {id : Nat}, id ∈ ids -> e.nil id = false -> hp (e.blk id) = w.heap[e.blk id]? := fun {id} hid hnl => by
  simp only [hp];rw [if_pos]
  exact List.any_eq_true.2 ⟨id, hid, by simp [hnl]⟩
 have hpdom : ∀ {b : Nat}, hp b ≠ none -> ∃ id, id ∈ ids /\ e.nil id = false /\ e.blk id = b := fun {b} hb => by
  simp only [hp] at hb
  split at hb
  · rename_i hany
    obtain ⟨id, hid, h2⟩ := List.any_eq_true.1 hany;simp only [Bool.and_eq_true, Bool.not_eq_true', beq_iff_eq] at h2;exact ⟨id, hid, h2.1, h2.2⟩
  · exact absurd rfl hb
 have lent : ∀ {id : Nat}, id ∈ ids -> ∃ x0, s1.H[id]? = some x0 /\ alive x0.obj = true := fun {id} hid => by
  obtain ⟨x0, _, h3, h4⟩ := hat _ _ (posOf_get hid);exact ⟨x0, h3, h4⟩
 have hO : OwnE e1 (nameL (fun j => e1.blk j) 0 (H0.map (renE f))) hp := by
  refine ⟨fun j x hx hal => ?_, fun i j x y hx hy hal1 hal2 hn1 hn2 hij => ?_, fun b hb => ?_, fun j x b hx hb => ?_⟩
  · obtain ⟨id, x0, hid, hx0, hs0, hal0, rfl⟩ := hH1 hx
    obtain ⟨a1, a2, a3⟩ := e1at hid;rw [hobj];have hm := List.mem_of_getElem? hid
    refine holds_ren a1 a2 a3 (fun hnl o ho => by rw [hpat hm hnl]; exact ho) (fun sv i ⟨cs, el, k, hcs, hk⟩ hr => ?_) (X.owned id x0 hs0 hal0).1
    have hi : i ∈ ids := by
     have := hinH x0 (List.mem_of_getElem? hx0) i (by
      simp only [entRefs, hcs];exact refsL_mem (refsL_of hk hr))
     exact memB_true this
    obtain ⟨b1, b2, b3⟩ := e1f hi;exact ⟨b1, b2, fun _ => b3⟩
  · obtain ⟨id, x0, hid, _, hs0, hal0, rfl⟩ := hH1 hx
    obtain ⟨id', y0, hid', _, hs0', hal0', rfl⟩ := hH1 hy;obtain ⟨a1, a2, _⟩ := e1at hid;obtain ⟨b1, b2, _⟩ := e1at hid';rw [a1, b1];refine X.apart id id' x0 y0 hs0 hs0' hal0 hal0' (a2 ▸ hn1) (b2 ▸ hn2) (fun hii => hij ?_);subst hii;rw [<- posOf_at hnd hid, <- posOf_at hnd hid']
  · obtain ⟨id, hid, hnl, rfl⟩ := hpdom hb
    have hj := posOf_get hid;obtain ⟨x0, hx0, hs0, hal0⟩ := hat _ _ hj;obtain ⟨a1, a2, _⟩ := e1at hj
    obtain ⟨y, hy⟩ : ∃ y, (nameL (fun j => e1.blk j) 0 (H0.map (renE f)))[posOf id ids]? = some y := by
     have : posOf id ids < (nameL (fun j => e1.blk j) 0 (H0.map (renE f))).length := by
      rw [nameL_len, List.length_map];exact (List.getElem?_eq_some_iff.1 hx0).1
     exact ⟨_, List.getElem?_eq_getElem this⟩
    obtain ⟨id', x0', hid', hx0', hs0', hal0', rfl⟩ := hH1 hy;rw [hj] at hid'
    cases hid'
    refine ⟨posOf id ids, _, hy, ?_, a2.trans hnl, a1⟩;rw [hobj, (renE_alive f x0').1];exact hal0'
  · obtain ⟨id, x0, hid, hx0, hs0, hal0, rfl⟩ := hH1 hx
    obtain ⟨a1, a2, _⟩ := e1at hid;rw [a1, a2];have hown := (X.owned id x0 hs0 hal0).1;obtain ⟨ob, nm⟩ := x0
    cases ob <;> cases nm <;> simp only [renE, name1, Option.some.injEq, reduceCtorEq] at hb <;>
     first
      | exact absurd hal0 Bool.false_ne_true
      | exact X.names id _ b hs0 (congrArg some hb)
      | exact ⟨a1 ▸ hb, holds_nil hown (fun _ _ _ h => by cases h) rfl⟩
 have hap : s1.I.apart hp := fun b => by
  by_cases hb : hp b = none
  · exact .inr hb
  · obtain ⟨id, hid, hnl, rfl⟩ := hpdom hb
    obtain ⟨x0, hs0, hal0⟩ := lent hid;exact .inl ((X.owned id x0 hs0 hal0).2 hnl).1
 have hpin : hp.inW w := fun b o hb => by
  simp only [hp] at hb
  split at hb
  · exact hb
  · cases hb
 have hren : ∀ {x : SV}, (∀ i, refs i x = true -> i ∈ ids) -> den e1 (renF f x) = den e x := fun {x} hx => (den_ren (fun i hi => by
  obtain ⟨b1, b2, b3⟩ := e1f (hx i hi);exact ⟨b1, b2, fun _ => b3⟩)).1
 have hrefs : ∀ {x : SV}, x ∈ (fo :: args.toList).map (ev s1) -> ∀ i, refs i x = true -> i ∈ ids := fun {x} hx i hi => by
  obtain ⟨k, hk⟩ := List.mem_iff_getElem?.1 hx;exact memB_true (hin i (refsL_mem (refsL_of hk hi)))
 have hfo : a.eval fo = den e1 (renF f (ev s1 fo)) := by
  rw [hren (hrefs (by simp)), ev_ok hA1 fo (hnj _ (by simp))]
 have hargs : args.map a.eval = (denL e1 (renFL f (args.toList.map (ev s1)))).toArray := by
  rw [<- Array.toList_inj, Array.toList_map, renFL_eq, denL_eq];simp only [List.map_map];apply List.map_congr_left;intro x hx;have hm : ev s1 x ∈ (fo :: args.toList).map (ev s1) := List.mem_map.2 ⟨x, List.mem_cons_of_mem _ hx, rfl⟩;simp only [Function.comp];rw [hren (hrefs hm), ev_ok hA1 x (hnj _ hm)]
 refine wpIn_call (f := fo) (args := args) (ts := ts) ho (R := _) (by rw [hfo, hargs]; exact h1 e1 hp hO w X.I hpin hap) ?_
 intro en w' he;obtain ⟨v, I', hp', rfl, hle2, hI', hhp', hap', hsz, hsame, hold, hnew, e', sv, H', hv, hO', hpost⟩ := he;obtain ⟨sv0, hpost⟩ := exR_sound hpost;obtain ⟨H2, ⟨rfl, rfl, hK⟩, hnames⟩ := exEs_sound hpost
 have hb2 : ∀ j, (envL e e' ids s1.H.length).blk (bck ids s1.H.length j) = e'.blk j /\ (envL e e' ids s1.H.length).nil (bck ids s1.H.length j) = e'.nil j /\ (envL e e' ids s1.H.length).cap (bck ids s1.H.length j) = e'.cap j :=
  fun j => envL_bck hnd hlt j
 have hold2 : ∀ {i : Nat}, i ∉ ids -> i < s1.H.length -> (envL e e' ids s1.H.length).blk i = e.blk i /\ (envL e e' ids s1.H.length).nil i = e.nil i /\ (envL e e' ids s1.H.length).cap i = e.cap i := fun h1 h2 => envL_old h1 h2
 have lblk : ∀ {b : Nat}, hp' b ≠ none -> w.heap.size <= b \/ ∃ (id : Nat) (x : Ent), id ∈ ids /\ s1.H[id]? = some x /\ alive x.obj = true /\ e.nil id = false /\ b = e.blk id := fun {b} hb => by
  by_cases hlb : b < w.heap.size
  · have hne : hp b ≠ none := fun h0 => hb (hnew b hlb h0).1
    obtain ⟨id, hid, hnl, rfl⟩ := hpdom hne;obtain ⟨x0, hs0, hal0⟩ := lent hid;exact .inr ⟨id, x0, hid, hs0, hal0, hnl, rfl⟩
  · exact .inl (by omega)
 have agree : ∀ i, i < s1.H.length -> i ∉ moved ids H' -> (envL e e' ids s1.H.length).blk i = e.blk i /\ (envL e e' ids s1.H.length).nil i = e.nil i /\ (i ∉ ids -> (envL e e' ids s1.H.length).cap i = e.cap i) := by
  intro i hi hm
  by_cases hid : i ∈ ids
  · obtain ⟨y, b, hy, hyb⟩ := moved_spec (posOf_get hid) hm
    rcases hnames _ y hy with h0 | ⟨z, hz, hzn⟩
    · rw [hyb] at h0; cases h0
    · obtain ⟨c1, c2⟩ := hO'.names _ y b hy hyb
      obtain ⟨d1, d2⟩ := hO.names _ z b hz (by rw [<- hzn]; exact hyb)
      obtain ⟨g1, g2, _⟩ := e1at (posOf_get hid);obtain ⟨k1, k2, _⟩ := hb2 (posOf i ids)
      have hbk : bck ids s1.H.length (posOf i ids) = i := by unfold bck; rw [posOf_get hid]
      rw [hbk] at k1 k2
      exact ⟨by rw [k1, c1, <- g1, d1], by rw [k2, c2, <- g2, d2], fun h => absurd hid h⟩
  · obtain ⟨k1, k2, k3⟩ := hold2 hid hi
    exact ⟨k1, k2, fun _ => k3⟩
 have cls : ∀ {id : Nat} {x : Ent}, (afterL s1 ids H' I').H[id]? = some x -> alive x.obj = true ->
  (∃ j y, H'[j]? = some y /\ alive y.obj = true /\ x = renE (bck ids s1.H.length) y /\ id = bck ids s1.H.length j) \/
  (id ∉ ids /\ id < s1.H.length /\ ∃ x0, s1.H[id]? = some x0 /\ alive x0.obj = true /\ x = junkEL (moved ids H') ids x0) := by
  intro id x hx hal
  rcases newH_get (i := 0) hx with ⟨x0, h3, h4⟩ | ⟨h3, y, h4, h5⟩
  · rw [Nat.zero_add] at h4
    rcases h4 with ⟨hm, ⟨y, hy, rfl⟩ | rfl⟩ | ⟨hm, rfl⟩
    · refine .inl ⟨posOf id ids, y, hy, (renE_alive _ y).1 ▸ hal, rfl, ?_⟩
      unfold bck;rw [posOf_get (memB_true hm)]
    · cases hal
    · exact .inr ⟨memB_false hm, (List.getElem?_eq_some_iff.1 h3).1, x0, h3, (junkEL_alive _ _ x0).1 ▸ hal, rfl⟩
  · subst h5
    refine .inl ⟨_, y, h4, (renE_alive _ y).1 ▸ hal, rfl, ?_⟩;unfold bck
    rw [List.getElem?_eq_none (by omega)]
    simp only
    omega
 have nb : ∀ {id : Nat} {x : Ent}, id ∉ ids -> s1.H[id]? = some x -> alive x.obj = true -> e.nil id = false -> e.blk id < w.heap.size /\ hp (e.blk id) = none := by
  intro id x hid hx hal hnl;refine ⟨blk_lt X.toSat hx hal hnl, ?_⟩
  cases hb : hp (e.blk id) with
  | none => rfl
  | some o =>
    obtain ⟨id', hid', hnl', hbe⟩ := hpdom (b := e.blk id) (by rw [hb]; simp)
    obtain ⟨x0, hs0, hal0⟩ := lent hid';exact absurd hbe (X.apart id' id x0 x hs0 hx hal0 hal hnl' hnl (fun h => hid (h ▸ hid')))
 have hfp : ∀ {b : Nat} {o : Obj}, c.hf b = some o -> b < w.heap.size /\ hp b = none := by
  intro b o hb;refine ⟨Mem.inW_lt X.hf hb, ?_⟩
  cases hpb : hp b with
  | none => rfl
  | some o' =>
    obtain ⟨id', hid', hnl', rfl⟩ := hpdom (b := b) (by rw [hpb]; simp)
    obtain ⟨x0, hs0, hal0⟩ := lent hid';rw [((X.owned id' x0 hs0 hal0).2 hnl').2] at hb;cases hb
 have newb : ∀ {j : Nat} {y : Ent}, H'[j]? = some y -> alive y.obj = true -> e'.nil j = false -> hp' (e'.blk j) ≠ none := fun hy haly hnl => holds_blk (hO'.hold _ _ hy haly) haly hnl
 have hGp : ∀ {b : Nat}, s1.G b ≠ none -> b < w.heap.size /\ hp b = none := by
  intro b hb;obtain ⟨o, ho⟩ := Option.ne_none_iff_exists'.1 hb;refine ⟨Mem.inW_lt X.gIn ho, ?_⟩
  cases hpb : hp b with
  | none => rfl
  | some o' =>
    obtain ⟨id', hid', hnl', rfl⟩ := hpdom (b := b) (by rw [hpb]; simp)
    obtain ⟨x0, hs0, hal0⟩ := lent hid';exact absurd (X.gOwn id' x0 hs0 hal0 hnl') hb
 have hSat : Sat c (envL e e' ids s1.H.length) (afterL s1 ids H' I') w' := by
  refine ⟨X.same.trans hsame, Nat.le_trans X.size hsz, hI', fun b o hb => ?_, fun b hb h0 => ?_, fun id x hx hal => ?_, fun i j x y hx hy hal1 hal2 hn1 hn2 hij => ?_, fun id x b hx hb => ?_⟩
  · obtain ⟨g1, g2⟩ := hfp hb
    rw [hold b g1 g2];exact X.hf b o hb
  · obtain ⟨o, ho⟩ := Option.ne_none_iff_exists'.1 hb
    obtain ⟨g1, g2⟩ := hfp ho;exact (hnew b g1 g2).2 (X.old b hb h0)
  · rcases cls hx hal with ⟨j, y, hy, haly, rfl, rfl⟩ | ⟨hid, hlt', x0, hx0, hal0, rfl⟩
    · obtain ⟨k1, k2, k3⟩ := hb2 j
      refine ⟨holds_ren k1 k2 k3 (fun _ o ho => hhp' _ o ho) (fun sv i _ _ => ⟨(hb2 i).1, (hb2 i).2.1, fun _ => (hb2 i).2.2⟩) (hO'.hold j y hy haly), fun hnl => ?_⟩;rw [k2] at hnl;rw [k1];have hne := newb hy haly hnl;refine ⟨(hap' _).resolve_right hne, ?_⟩
      cases hf2 : c.hf (e'.blk j) with
      | none => rfl
      | some o =>
        obtain ⟨g1, g2⟩ := hfp hf2;exact absurd (hnew _ g1 g2).1 hne
    · obtain ⟨k1, k2, k3⟩ := hold2 hid hlt'
      obtain ⟨g1, g2⟩ := X.owned id x0 hx0 hal0;refine ⟨holds_junkL k1 k2 k3 (fun hnl => hold _ (nb hid hx0 hal0 hnl).1 (nb hid hx0 hal0 hnl).2) (fun sv i ⟨cs, el, k, hcs, hk⟩ hr hm => ?_) g1, fun hnl => ?_⟩
      · refine agree i ?_ hm
        have hb := hwf.1.2 x0 (List.mem_of_getElem? hx0);simp only [entBelow, hcs] at hb;exact refs_below (belowL_get hb hk) hr
      · rw [k2] at hnl
        rw [k1];obtain ⟨n1, n2⟩ := nb hid hx0 hal0 hnl;exact ⟨(hnew _ n1 n2).2 (g2 hnl).1, (g2 hnl).2⟩
  · have crs : ∀ {i : Nat} {x0 : Ent} {j : Nat} {y : Ent}, i ∉ ids -> i < s1.H.length -> s1.H[i]? = some x0 -> alive x0.obj = true -> e.nil i = false -> H'[j]? = some y -> alive y.obj = true -> e'.nil j = false -> e.blk i ≠ e'.blk j := by
     intro i x0 j y hid _ hx0 hal0 hnl hy haly hnl' hbe;obtain ⟨n1, n2⟩ := nb hid hx0 hal0 hnl;exact newb hy haly hnl' (hbe ▸ (hnew _ n1 n2).1)
    rcases cls hx hal1 with ⟨k, z, hz, halz, rfl, rfl⟩ | ⟨hid, hlt', x0, hx0, hal0, rfl⟩ <;> rcases cls hy hal2 with ⟨k', z', hz', halz', rfl, rfl⟩ | ⟨hid', hlt'', y0, hy0, hal0', rfl⟩
    · rw [(hb2 k).2.1] at hn1
      rw [(hb2 k').2.1] at hn2;rw [(hb2 k).1, (hb2 k').1]
      exact hO'.apart k k' z z' hz hz' halz halz' hn1 hn2 (fun h => hij (by rw [h]))
    · rw [(hb2 k).2.1] at hn1
      rw [(hold2 hid' hlt'').2.1] at hn2;rw [(hb2 k).1, (hold2 hid' hlt'').1];exact (crs hid' hlt'' hy0 hal0' hn2 hz halz hn1).symm
    · rw [(hold2 hid hlt').2.1] at hn1
      rw [(hb2 k').2.1] at hn2;rw [(hb2 k').1, (hold2 hid hlt').1];exact crs hid hlt' hx0 hal0 hn1 hz' halz' hn2
    · rw [(hold2 hid hlt').2.1] at hn1
      rw [(hold2 hid' hlt'').2.1] at hn2;rw [(hold2 hid hlt').1, (hold2 hid' hlt'').1];exact X.apart i j x0 y0 hx0 hy0 hal0 hal0' hn1 hn2 hij
  · rcases newH_get (i := 0) hx with ⟨x0, h3, h4⟩ | ⟨h3, y, h4, rfl⟩
    · rw [Nat.zero_add] at h4
      rcases h4 with ⟨hm, ⟨y, hy, rfl⟩ | rfl⟩ | ⟨hm, rfl⟩
      · rw [(renE_alive _ y).2] at hb
        have hbk : bck ids s1.H.length (posOf id ids) = id := by unfold bck; rw [posOf_get (memB_true hm)]
        obtain ⟨k1, k2, _⟩ := hb2 (posOf id ids);rw [hbk] at k1 k2;rw [k1, k2];exact hO'.names _ y b hy hb
      · cases hb
      · rw [(junkEL_alive _ _ x0).2] at hb
        obtain ⟨k1, k2, _⟩ := hold2 (memB_false hm) (List.getElem?_eq_some_iff.1 h3).1;rw [k1, k2];exact X.names id x0 b h3 hb
    · rw [(renE_alive _ y).2] at hb
      have hbk : bck ids s1.H.length (ids.length + (id - s1.H.length)) = id := by
       unfold bck
       rw [List.getElem?_eq_none (by omega)]
       simp only
       omega
      obtain ⟨k1, k2, _⟩ := hb2 (ids.length + (id - s1.H.length));rw [hbk] at k1 k2;rw [k1, k2];exact hO'.names _ y b h4 hb
 refine ⟨v, rfl, hn _ (envL e e' ids s1.H.length) _ v w' hK ⟨hSat, ?_, ?_, ?_⟩ ⟨?_, ?_, ?_⟩ (Mem.le_trans hle1 hle2) (by simp [afterL, hlen1]) ?_ ?_⟩
 · intro b o hb
   obtain ⟨g1, g2⟩ := hGp (b := b) (by show s1.G b ≠ none; rw [show s1.G b = some o from hb]; simp)
   rw [hold b g1 g2];exact X.gIn b o hb
 · intro b hb
   obtain ⟨g1, g2⟩ := hGp hb;exact ⟨(hnew b g1 g2).2 (X.gI b hb).1, (X.gI b hb).2⟩
 · intro id x hx hal hnl
   show s1.G _ = none
   cases hg : s1.G ((envL e e' ids s1.H.length).blk id) with
   | none => rfl
   | some o =>
     exfalso
     obtain ⟨g1, g2⟩ := hGp (b := (envL e e' ids s1.H.length).blk id) (by rw [hg]; simp)
     rcases cls hx hal with ⟨j, y, hy, haly, rfl, rfl⟩ | ⟨hid, hlt', x0, hx0, hal0, rfl⟩
     · rw [(hb2 j).2.1] at hnl
       rw [(hb2 j).1] at g1 g2;exact newb hy haly hnl (hnew _ g1 g2).1
     · obtain ⟨k1, k2, _⟩ := hold2 hid hlt'
       rw [k2] at hnl;rw [k1, X.gOwn id x0 hx0 hal0 hnl] at hg;cases hg
 · simpa [afterL] using hA1.size
 · intro t sv ht hj
   simp only [afterL, List.getElem?_map, Option.map_eq_some_iff] at ht;obtain ⟨sv1, ht1, rfl⟩ := ht;obtain ⟨d1, d2⟩ := junkL_den (e := e) (e2 := envL e e' ids s1.H.length) (fun i hi hm => agree i (refs_below (belowL_get hwf.1.1 ht1) hi) hm) hj;rw [d2]
   exact hA1.tm t sv1 ht1 (by rw [d1] at hj; exact hj)
 · rw [hA1.defers]
   simp only [afterL];apply List.map_congr_left;intro m hm;have h3 := hwf.2 m hm
   simp only [mark, (hold2 (memB_false (hmk m hm)) (by simpa using h3)).1]
 · rw [hv]
   exact ((den_ren (fun i _ => ⟨(hb2 i).1, (hb2 i).2.1, fun _ => (hb2 i).2.2⟩)).1).symm
 · refine ⟨fun b hb _ hm => ?_, hsz, fun id hid hm => ?_, fun id x hid hm hx hal hnl => ?_, fun id x hid hx hal hnl => ?_, by rw [hls.len]; exact newH_len, fun id x hid hx hal => ?_, fun b hb hg => by show s1.G b = none; rw [hls.g]; exact hg, fun _ => hls.g, fun b hb _ h0 => ?_⟩
   · refine hold b hb ?_
     cases hpb : hp b with
     | none => rfl
     | some o =>
       obtain ⟨id', hid', hnl', rfl⟩ := hpdom (b := b) (by rw [hpb]; simp)
       obtain ⟨x0, hs0, hal0⟩ := lent hid';obtain ⟨x1, hx1, hal1⟩ := hls.live id' x0 hs0 hal0;exact absurd rfl (hm id' x1 hid' hx1 hal1 hnl')
   · obtain ⟨k1, k2, k3⟩ := hold2 hm (by rw [<- hls.len]; exact hid)
     exact ⟨k1.symm, k3.symm, k2.symm⟩
   · rcases cls hx hal with ⟨j, y, hy, haly, rfl, rfl⟩ | ⟨hid', _, _⟩
     · rw [(hb2 j).2.1] at hnl
       rw [(hb2 j).1]
       rcases lblk (newb hy haly hnl) with h3 | ⟨id', x0, hid', hs0, hal0, hnl', hbe⟩
       · exact .inl h3
       · obtain ⟨x1, hx1, hal1⟩ := hls.live id' x0 hs0 hal0
         exact .inr ⟨id', x1, hid', hx1, hal1, hnl', hbe⟩
     · exact absurd hm hid'
   · rcases cls hx hal with ⟨j, y, hy, haly, rfl, rfl⟩ | ⟨_, hlt', _⟩
     · rw [(hb2 j).2.1] at hnl
       rw [(hb2 j).1]
       rcases lblk (newb hy haly hnl) with h3 | ⟨id', x0, hid', hs0, hal0, hnl', hbe⟩
       · exact .inl h3
       · obtain ⟨x1, hx1, hal1⟩ := hls.live id' x0 hs0 hal0
         exact .inr ⟨id', x1, hid', hx1, hal1, hnl', hbe⟩
     · rw [hls.len] at hid
       omega
   · rcases cls hx hal with ⟨j, y, hy, haly, rfl, rfl⟩ | ⟨_, _, x0, hx0, hal0, rfl⟩
     · rw [hls.len] at hid
       unfold bck at hid ⊢
       split at hid
       · rename_i id' hj
         obtain ⟨x0, hs0, hal0⟩ := lent (List.mem_of_getElem? hj);exact hls.live id' x0 hs0 hal0
       · omega
     · exact hls.live id x0 hx0 hal0
   · rcases hls.rd b h0 with h3 | h3
     · by_cases hpb : hp b = none
       · exact .inl ((hnew b hb hpb).2 h3)
       · obtain ⟨id', hid', hnl', rfl⟩ := hpdom hpb
         obtain ⟨x0, hs0, hal0⟩ := lent hid';obtain ⟨x1, hx1, hal1⟩ := hls.live id' x0 hs0 hal0;exact .inr ⟨id', x1, hx1, hal1, hnl', rfl⟩
     · exact .inr h3
end
end Go.SE
namespace Go.SE
open Go.RowKit
def lastTup : List SV -> Option (Value × Value) -> Option (Value × Value)
 | [], acc => acc
 | .v (.tuple ⟨[.bool true, k, v]⟩) :: r, _ => lastTup r (some (k, v))
 | _ :: r, acc => lastTup r acc
def allEs (F : MapEntry -> Prop) : List MapEntry -> Prop
 | [] => True
 | [e] => F e
 | e :: r => F e /\ allEs F r
theorem allEs_mem {F : MapEntry -> Prop} : ∀ {l : List MapEntry}, allEs F l -> ∀ e ∈ l, F e
 | [], _, e, he => by cases he
 | [x], h, e, he => by rw [List.mem_singleton.1 he]; exact h
 | x :: y :: r, h, e, he => by
   rcases List.mem_cons.1 he with rfl | he
   · exact h.1
   · exact allEs_mem h.2 e he
def seM (P : Program) (s : St) (o : Op) (K : SV -> St -> Prop) : Prop :=
 match o with
 | .makeMap _ none => ∀ b : Nat, if wfSt s then K (.v (.map (some b))) { s with H := s.H ++ [⟨.raw (.map #[] 0), some b⟩] } else False
 | .insert t m k x | .mapUpdate t m k x => match P.underlying t with
   | some (.map kt _) => match P.underlying kt, ev s m, ev s k, ev s x, mapEnt 0 s.H none with
     | some d, .v (.map (some b')), .v kv, .v xv, some (id, b, es, clk) => b' = b /\ isKeyB d kv = true /\ findM d kv es = some none /\
        K (.v undef) { s with H := s.H.set id ⟨.raw (.map (es.push { key := kv, val := xv, born := clk }) (clk + 1)), some b⟩ }
     | _, _, _, _, _ => False
   | _ => False
 | .range t x => match P.underlying t, ev s x with
   | some (.map _ _), .v (.map (some b')) => match mapEnt 0 s.H none with
     | some (_, b, _, clk) => b' = b /\ if wfSt s then K (.ptr s.H.length 0) (addE s (.raw (.mapIter (some b) clk #[] clk))) else False
     | none => False
   | some .string, .v (.string q) => if wfSt s then K (.ptr s.H.length 0) (addE s (.raw (.stringIter q 0))) else False
   | _, _ => False
 | .next x true => match ev s x with
   | .ptr id 0 => match s.H[id]? with
     | some ⟨.raw (.stringIter q p), nm⟩ => Br (Nat.blt p q.size)
        (K (.v (.tuple #[.bool true, .int .i64 (p : Int), .int .i32 ((Utf8.decode q p).1 : Int)])) { s with H := s.H.set id ⟨.raw (.stringIter q (p + (Utf8.decode q p).2)), nm⟩ })
        (K (.v (.tuple #[.bool false])) s)
     | _ => False
   | _ => False
 | .next x false => match ev s x, mapEnt 0 s.H none with
   | .ptr id 0, some (_, b, es, clk) => match s.H[id]? with
     | some ⟨.raw (.mapIter (some b') since seen c0), nm⟩ => b' = b /\ (es.toList.all fun e => e.born.blt since) = true /\ since <= c0 /\
        ((leftOf es seen).size = 0 -> K (.v (.tuple #[.bool false])) s) /\
        allEs (fun e => seen.contains e.born = false -> K (.v (.tuple #[.bool true, e.key, e.val])) { s with H := s.H.set id ⟨.raw (.mapIter (some b') since (seen.push e.born) clk), nm⟩ }) es.toList
     | _ => False
   | _, _ => False
 | .entry x => match ev s x, mapEnt 0 s.H none, lastTup s.tm none with
   | .ptr id 0, some (_, b, es, clk), some (k, v) => match s.H[id]? with
     | some ⟨.raw (.mapIter (some b') _ seen c0), _⟩ => b' = b /\ c0 = clk /\ (es.toList.map (·.born)).Nodup /\
        (∃ (seen0 : Array Nat) (n : Nat), seen = seen0.push n /\ ({ key := k, val := v, born := n } : MapEntry) ∈ es.toList) /\ K (.v (.tuple #[k, v])) s
     | _ => False
   | _, _, _ => False
 | _ => False
section
variable {P : Program} {c : Ctx} {e : Env} {s : St} {w : World} {a : Act} {K : SV -> St -> Prop}
theorem Evo.sameObj {gm : Bool} {mods : List Nat} {s s1 s2 : St} {e e' : Env} {w w' : World} (h : Evo gm mods s e w s1 e' w')
 (ho : ∀ (id : Nat) (x : Ent), s2.H[id]? = some x -> ∃ y, s1.H[id]? = some y /\ y.obj = x.obj) (hl : s2.H.length = s1.H.length) (hI : s2.I = s1.I) (hG : s2.G = s1.G) : Evo gm mods s e w s2 e' w' := by
 refine ⟨h.heap, h.size, h.same, fun id x' h1 h2 h3 h4 h5 => ?_, fun id x' h1 h3 h4 h5 => ?_, hl ▸ h.len, fun id x' h1 h2 h3 => ?_, fun b hb h0 => hG ▸ h.gN b hb h0, fun hg => hG ▸ h.gEq hg, fun b hb h1 h2 => hI ▸ h.rd b hb h1 h2⟩
 · obtain ⟨y, g1, g2⟩ := ho id x' h3
   exact h.mod id y h1 h2 g1 (g2 ▸ h4) h5
 · obtain ⟨y, g1, g2⟩ := ho id x' h3
   exact h.new id y h1 g1 (g2 ▸ h4) h5
 · obtain ⟨y, g1, g2⟩ := ho id x' h2
   exact h.live id y h1 g1 (g2 ▸ h3)
theorem Sat.nameLast {l : List Ent} {obj : EO} {b : Nat} {e : Env} (hS : Sat c e { s with H := l ++ [⟨obj, none⟩] } w) (hA : SatA e { s with H := l ++ [⟨obj, none⟩] } a) (hb : e.blk l.length = b) (hn : e.nil l.length = false) :
 Sat c e { s with H := l ++ [⟨obj, some b⟩] } w /\ SatA e { s with H := l ++ [⟨obj, some b⟩] } a := by
 have back : ∀ {id : Nat} {x : Ent}, (l ++ [⟨obj, some b⟩])[id]? = some x -> ∃ y, (l ++ [⟨obj, none⟩])[id]? = some y /\ y.obj = x.obj /\ (x.name = y.name \/ (x.name = some b /\ id = l.length)) := by
  intro id x hx
  rcases getElem?_append_one hx with hx | ⟨rfl, rfl⟩
  · exact ⟨x, by rw [List.getElem?_append_left (List.getElem?_eq_some_iff.1 hx).1]; exact hx, rfl, .inl rfl⟩
  · exact ⟨⟨obj, none⟩, by simp, rfl, .inr ⟨rfl, rfl⟩⟩
 refine ⟨⟨hS.same, hS.size, hS.I, hS.hf, hS.old, fun id x hx hal => ?_, fun i j x y hx hy h1 h2 h3 h4 h5 => ?_, fun id x b' hx hb' => ?_⟩, hA.size, hA.tm, hA.defers⟩
 · obtain ⟨y, g1, g2, _⟩ := back hx
   rw [<- g2];exact hS.owned id y g1 (g2 ▸ hal)
 · obtain ⟨x', g1, g2, _⟩ := back hx
   obtain ⟨y', g3, g4, _⟩ := back hy;exact hS.apart i j x' y' g1 g3 (g2 ▸ h1) (g4 ▸ h2) h3 h4 h5
 · obtain ⟨y, g1, g2, g3⟩ := back hx
   rcases g3 with g3 | ⟨g3, rfl⟩
   · exact hS.names id y b' g1 (g3 ▸ hb')
   · rw [g3] at hb'
     cases hb'
     exact ⟨hb, hn⟩
theorem Evo.refl (s : St) (e : Env) (w : World) (mods : List Nat) : Evo false mods s e w s e w :=
 Evo.still rfl (fun _ x' h1 h2 => ⟨x', h1, h2⟩) (fun _ _ h0 => .inl h0) rfl
theorem sMakeMap_sound {t : TypeId} (h : seM P s (.makeMap t none) K) (hS : Sat c e s w) (hA : SatA e s a) : ∃ sv s', K sv s' /\ EffOk P (.makeMap t none) c s a w sv s' e := by
 simp only [seM] at h;have h := h w.heap.size
 split at h
 · rename_i hw
   obtain ⟨h1, h2⟩ := hS.add (w' := w.alloc (.map #[] 0)) (obj := .raw (.map #[] 0)) (b := w.heap.size) (cp := 0) (nl := false) hA hw (fun k hk => heap_alloc_old w (.map #[] 0) k hk) (by show w.heap.size <= (w.heap.push _).size; simp) ⟨rfl, rfl, rfl⟩ (fun _ => Nat.le_refl _)
    ⟨upd_eq.2.2, by simp only [upd_eq.1]; exact heap_alloc_new w _⟩
   obtain ⟨h3, h4⟩ := h1.nameLast h2 upd_eq.1 upd_eq.2.2
   refine ⟨_, _, h, _, w.alloc (.map #[] 0), .map (some w.heap.size), fun d ty pos af g => .inl ?_, h3, h4, rfl, Mem.le_refl _, .inr (by simp [den]), ?_⟩
   · simp [execOp, Instr.makeMap, newObj, Sem.run, Result.andThen]
   · refine (evo_push (o := .map #[] 0) (obj := .raw (.map #[] 0)) (cp := 0) rfl).sameObj (fun id x hx => ?_) (by simp) rfl rfl
     rcases getElem?_append_one hx with hx | ⟨rfl, rfl⟩
     · exact ⟨x, by rw [List.getElem?_append_left (List.getElem?_eq_some_iff.1 hx).1]; exact hx, rfl⟩
     · exact ⟨⟨.raw (.map #[] 0), none⟩, by simp, rfl⟩
 · exact h.elim
theorem sInsert_sound {o : Op} {t : TypeId} {m k x : Operand} (ho : o = .insert t m k x \/ o = .mapUpdate t m k x) (h : seM P s (.insert t m k x) K) (hS : Sat c e s w) (hA : SatA e s a) : ∃ sv s', K sv s' /\ EffOk P o c s a w sv s' e := by
 simp only [seM] at h
 split at h
 · rename_i kt et ht
   split at h
   · rename_i d b' kv xv id b es clk hd hm hk hx hent
     obtain ⟨rfl, hkey, hfind, h⟩ := h;simp only [findM] at hfind;have hH := mapEnt_get hent;obtain ⟨⟨hnil, hb⟩, _⟩ := hS.owned id _ hH rfl
     simp only at hb
     have hblk := (hS.names id _ _ hH rfl).1;rw [hblk] at hb;have hlt := (Array.getElem?_eq_some_iff.1 hb).1
     have hmods : modsOf s o = [id] := by rcases ho with rfl | rfl <;> simp [modsOf, hent]
     obtain ⟨h1, h2⟩ := hS.store hA (w' := ChangeMaps.setBlock w b' (.map (es.push { key := kv, val := xv, born := clk }) (clk + 1))) (obj := .raw (.map (es.push { key := kv, val := xv, born := clk }) (clk + 1))) hH rfl hnil (by simp [ChangeMaps.setBlock]) ⟨rfl, rfl, rfl⟩
      (fun b hne => by rw [hblk] at hne; simp [ChangeMaps.setBlock, Ne.symm hne]) ⟨hnil, by rw [hblk]; simp [ChangeMaps.setBlock, hlt]⟩
     refine ⟨_, _, h, e, _, undef, fun d' ty pos af g => .inr ⟨?_, rfl⟩, h1, h2, rfl, Mem.le_refl _, .inr (by simp [den]), ?_⟩
     · have e1 : a.eval m = .map (some b') := ev_v hA hm
       have e2 : a.eval k = kv := ev_v hA hk;have e3 : a.eval x = xv := ev_v hA hx
       have hrun : (Instr.mapUpdate t (.map (some b')) kv xv).run P w = .ok () (ChangeMaps.setBlock w b' (.map (es.push { key := kv, val := xv, born := clk }) (clk + 1))) := by
        simp [Instr.mapUpdate, run_underlying ht, Result.andThen, MapKept.run_getObj_map hb, MapKept.run_checkKey hd (isKeyB_ok hkey), MapKept.run_findKey hd hfind, MapKept.run_setObj_map _ hb, ChangeMaps.setBlock]
       rcases ho with rfl | rfl <;> simp [execOp, e1, e2, e3, hrun, Result.andThen]
     · rw [hmods]
       exact evo_store (by simp) hH rfl hnil (by simp [ChangeMaps.setBlock]) (fun b hne => by rw [hblk] at hne; simp [ChangeMaps.setBlock, Ne.symm hne])
   · exact h.elim
 · exact h.elim
theorem sRange_sound {t : TypeId} {x : Operand} (h : seM P s (.range t x) K) (hS : Sat c e s w) (hA : SatA e s a) : ∃ sv s', K sv s' /\ EffOk P (.range t x) c s a w sv s' e := by
 simp only [seM] at h
 split at h
 · rename_i kt et b' ht hx
   split at h
   · rename_i id b es clk hent
     obtain ⟨rfl, h⟩ := h
     split at h
     · rename_i hw
       have hH := mapEnt_get hent;obtain ⟨⟨hnil, hb⟩, _⟩ := hS.owned id _ hH rfl
       simp only at hb
       rw [(hS.names id _ _ hH rfl).1] at hb
       obtain ⟨h1, h2⟩ := hS.add (w' := w.alloc (.mapIter (some b') clk #[] clk)) (obj := .raw (.mapIter (some b') clk #[] clk)) (b := w.heap.size) (cp := 0) (nl := false) hA hw (fun k hk => heap_alloc_old w (.mapIter (some b') clk #[] clk) k hk) (by show w.heap.size <= (w.heap.push _).size; simp) ⟨rfl, rfl, rfl⟩ (fun _ => Nat.le_refl _)
        ⟨upd_eq.2.2, by simp only [upd_eq.1]; exact heap_alloc_new w _⟩
       refine ⟨_, _, h, _, w.alloc (.mapIter (some b') clk #[] clk), .pointer (some ⟨w.heap.size, 0, none⟩), fun d ty pos af g => .inl ?_, h1, h2, rfl, Mem.le_refl _, .inr (by simp [den, upd_eq.1]), evo_push (o := .mapIter (some b') clk #[] clk) rfl⟩
       simp [execOp, ev_v hA hx, run_range_map w t kt et b' es clk ht hb, Result.andThen]
     · exact h.elim
   · exact h.elim
 · rename_i q ht hx
   split at h
   · rename_i hw
     obtain ⟨h1, h2⟩ := hS.add (w' := w.alloc (.stringIter q 0)) (obj := .raw (.stringIter q 0)) (b := w.heap.size) (cp := 0) (nl := false) hA hw (fun k hk => heap_alloc_old w (.stringIter q 0) k hk) (by show w.heap.size <= (w.heap.push _).size; simp) ⟨rfl, rfl, rfl⟩ (fun _ => Nat.le_refl _)
      ⟨upd_eq.2.2, by simp only [upd_eq.1]; exact heap_alloc_new w _⟩
     refine ⟨_, _, h, _, w.alloc (.stringIter q 0), .pointer (some ⟨w.heap.size, 0, none⟩), fun d ty pos af g => .inl ?_, h1, h2, rfl, Mem.le_refl _, .inr (by simp [den, upd_eq.1]), evo_push (o := .stringIter q 0) rfl⟩
     simp [execOp, Instr.range, ev_v hA hx, run_underlying ht, newObj, Sem.run, Result.andThen]
   · exact h.elim
 · exact h.elim
theorem sNextS_sound {x : Operand} (h : seM P s (.next x true) K) (hS : Sat c e s w) (hA : SatA e s a) : ∃ sv s', K sv s' /\ EffOk P (.next x true) c s a w sv s' e := by
 simp only [seM] at h
 split at h
 · rename_i id hx
   split at h
   · rename_i q p nm hI
     obtain ⟨⟨hniI, hbI⟩, _⟩ := hS.owned _ _ hI rfl
     simp only at hbI
     have hlt := (Array.getElem?_eq_some_iff.1 hbI).1
     have hev : a.eval x = .pointer (some ⟨e.blk id, 0, none⟩) := by simp [ev_d hA hx rfl, den]
     by_cases hp : p < q.size
     · rw [show Nat.blt p q.size = true from by simpa [Nat.blt_eq] using hp] at h
       have hK := h;simp only [Br_true] at hK
       have hrun : (Instr.next (.pointer (some ⟨e.blk id, 0, none⟩)) true 0).run P w = .ok (.tuple #[.bool true, .int .i64 (p : Int), .int .i32 ((Utf8.decode q p).1 : Int)]) (ChangeMaps.setBlock w (e.blk id) (.stringIter q (p + (Utf8.decode q p).2))) := by
        simp [Instr.next, getObj, setObj, Sem.run, hbI, Result.andThen, hp, goInt, ChangeMaps.setBlock]
       obtain ⟨h1, h2⟩ := hS.store hA (w' := ChangeMaps.setBlock w (e.blk id) (.stringIter q (p + (Utf8.decode q p).2))) (obj := .raw (.stringIter q (p + (Utf8.decode q p).2))) hI rfl hniI (by simp [ChangeMaps.setBlock]) ⟨rfl, rfl, rfl⟩
        (fun b hb => by simp [ChangeMaps.setBlock, Ne.symm hb]) ⟨hniI, by simp [ChangeMaps.setBlock, hlt]⟩
       refine ⟨_, _, hK, e, _, .tuple #[.bool true, .int .i64 (p : Int), .int .i32 ((Utf8.decode q p).1 : Int)], fun d ty pos af g => .inl ?_, h1, h2, rfl, Mem.le_refl _, .inr (by simp [den]), ?_⟩
       · have hrun' : (Instr.next (.pointer (some ⟨e.blk id, 0, none⟩)) true ty).run P w = _ := hrun
         simp [execOp, hev, hrun', Result.andThen]
       · exact evo_store (by simp [modsOf, hx, idOf]) hI rfl hniI (by simp [ChangeMaps.setBlock]) (fun b hne => by simp [ChangeMaps.setBlock, Ne.symm hne])
     · rw [show Nat.blt p q.size = false from by cases hb : Nat.blt p q.size with | false => rfl | true => exact absurd (by simpa [Nat.blt_eq] using hb) hp] at h
       have hK := h;simp only [Br_false] at hK
       have hrun : (Instr.next (.pointer (some ⟨e.blk id, 0, none⟩)) true 0).run P w = .ok (.tuple #[.bool false]) w := by
        simp [Instr.next, getObj, Sem.run, hbI, hp]
       refine ⟨_, _, hK, e, w, .tuple #[.bool false], fun d ty pos af g => .inl ?_, hS, hA, rfl, Mem.le_refl _, .inr (by simp [den]), Evo.refl ..⟩
       have hrun' : (Instr.next (.pointer (some ⟨e.blk id, 0, none⟩)) true ty).run P w = _ := hrun;simp [execOp, hev, hrun', Result.andThen]
   · exact h.elim
 · exact h.elim
theorem sNext_sound {x : Operand} (h : seM P s (.next x false) K) (hS : Sat c e s w) (hA : SatA e s a) : ∃ sv s', K sv s' /\ EffOk P (.next x false) c s a w sv s' e := by
 simp only [seM] at h
 split at h
 · rename_i id idm b es clk hx hent
   split at h
   · rename_i b' since seen c0 nm hI
     obtain ⟨rfl, hborn, hsc, hend, hstep⟩ := h;have hH := mapEnt_get hent;obtain ⟨⟨hnil, hb⟩, _⟩ := hS.owned _ _ hH rfl
     simp only at hb
     rw [(hS.names _ _ _ hH rfl).1] at hb;obtain ⟨⟨hniI, hbI⟩, _⟩ := hS.owned _ _ hI rfl
     simp only at hbI
     have hlt := (Array.getElem?_eq_some_iff.1 hbI).1
     have hev : a.eval x = .pointer (some ⟨e.blk id, 0, none⟩) := by simp [ev_d hA hx rfl, den]
     have hold : ∀ y ∈ es.toList, y.born < since := fun y hy => by
      have := List.all_eq_true.1 hborn y hy;simpa [Nat.blt_eq] using this
     rcases run_next_at (P := P) w 0 (e.blk id) b' since c0 seen es clk hbI hb hold hsc with ⟨h0, hrun⟩ | ⟨y, hy, w1, hw1, hrun⟩
     · refine ⟨_, _, hend h0, e, w, .tuple #[.bool false], fun d ty pos af g => .inl ?_, hS, hA, rfl, Mem.le_refl _, .inr (by simp [den]), Evo.refl ..⟩
       have hrun' : (Instr.next (.pointer (some ⟨e.blk id, 0, none⟩)) false ty).run P w = _ := hrun;simp [execOp, hev, hrun', Result.andThen]
     · have hmem : y ∈ es.toList /\ seen.contains y.born = false := by
        simp only [leftOf, Array.toList_filter, List.mem_filter, Bool.not_eq_true'] at hy;exact hy
       have hw1' : Same w w1 /\ w1.heap = w.heap := by rcases hw1 with rfl | rfl <;> exact ⟨⟨rfl, rfl, rfl⟩, rfl⟩
       have hK := allEs_mem hstep y hmem.1 hmem.2
       obtain ⟨h1, h2⟩ := hS.store hA (w' := ChangeMaps.setBlock w1 (e.blk id) (.mapIter (some b') since (seen.push y.born) clk)) (obj := .raw (.mapIter (some b') since (seen.push y.born) clk)) hI rfl hniI (by simp [ChangeMaps.setBlock, hw1'.2]) (hw1'.1.trans ⟨rfl, rfl, rfl⟩)
        (fun b hne => by simp [ChangeMaps.setBlock, hw1'.2, Ne.symm hne]) ⟨hniI, by simp [ChangeMaps.setBlock, hw1'.2, hlt]⟩
       refine ⟨_, _, hK, e, _, .tuple #[.bool true, y.key, y.val], fun d ty pos af g => .inl ?_, h1, h2, rfl, Mem.le_refl _, .inr (by simp [den]), ?_⟩
       · have hrun' : (Instr.next (.pointer (some ⟨e.blk id, 0, none⟩)) false ty).run P w = _ := hrun
         simp [execOp, hev, hrun', Result.andThen]
       · exact evo_store (by simp [modsOf, hx, idOf]) hI rfl hniI (by simp [ChangeMaps.setBlock, hw1'.2]) (fun b hne => by simp [ChangeMaps.setBlock, hw1'.2, Ne.symm hne])
   · exact h.elim
 · exact h.elim
theorem sEntry_sound {x : Operand} (h : seM P s (.entry x) K) (hS : Sat c e s w) (hA : SatA e s a) : ∃ sv s', K sv s' /\ EffOk P (.entry x) c s a w sv s' e := by
 simp only [seM] at h
 split at h
 · rename_i id idm b es clk k v hx hent _
   split at h
   · rename_i b' since seen c0 nm hI
     obtain ⟨rfl, rfl, hnd, ⟨seen0, n, rfl, hmem⟩, hK⟩ := h;have hH := mapEnt_get hent;obtain ⟨⟨hnil, hb⟩, _⟩ := hS.owned _ _ hH rfl
     simp only at hb
     rw [(hS.names _ _ _ hH rfl).1] at hb;obtain ⟨⟨hniI, hbI⟩, _⟩ := hS.owned _ _ hI rfl
     simp only at hbI
     have hev : a.eval x = .pointer (some ⟨e.blk id, 0, none⟩) := by simp [ev_d hA hx rfl, den]
     have hrun := run_entry_at (P := P) w (e.blk id) b' since seen0 es c0 ⟨k, v, n⟩ hbI hb hmem hnd
     refine ⟨_, _, hK, e, w, .tuple #[k, v], fun d ty pos af g => .inl ?_, hS, hA, rfl, Mem.le_refl _, .inr (by simp [den]), Evo.refl ..⟩
     simp [execOp, hev, hrun, Result.andThen]
   · exact h.elim
 · exact h.elim
theorem seM_sound {o : Op} (h : seM P s o K) (hS : Sat c e s w) (hA : SatA e s a) : ∃ sv s', K sv s' /\ EffOk P o c s a w sv s' e := by
 cases o with
 | makeMap t r =>
   cases r with
   | none => exact sMakeMap_sound h hS hA
   | some r => exact h.elim
 | insert t m k x => exact sInsert_sound (.inl rfl) h hS hA
 | mapUpdate t m k x => exact sInsert_sound (.inr rfl) h hS hA
 | range t x => exact sRange_sound h hS hA
 | next x st =>
   cases st with
   | false => exact sNext_sound h hS hA
   | true => exact sNextS_sound h hS hA
 | entry x => exact sEntry_sound h hS hA
 | _ => exact h.elim
end
end Go.SE
namespace Go.SE
open Go.RowKit
def PutG (G : Mem) (a : Option Addr) (k : Nat) (vs : List Value) (G' : Mem) : Prop :=
 ∃ (b off : Nat) (cur : Array Value) (el : TypeId) (fz : Nat × Nat), a = some ⟨b, off, none⟩ /\ G b = some (.cells cur el fz) /\ thaw fz cur.size /\ off + k + vs.length <= cur.size /\
  G' = fun x => if x = b then some (.cells (cur.toList.take (off + k) ++ vs ++ cur.toList.drop (off + k + vs.length)).toArray el fz) else G x
def seSG (P : Program) (s : St) (t : TypeId) (addr x : SV) (K : St -> Prop) : Prop :=
 match svCells x, szT P t with
 | some l, some z => if Nat.beq l.length z && l.all one then
    match addr, mapV l with
    | .ep a k, some vs => ∃ G', PutG s.G a k vs G' /\ K { s with G := G' }
    | .v (.pointer a), some vs => ∃ G', PutG s.G a 0 vs G' /\ K { s with G := G' }
    | _, _ => False
   else False
 | _, _ => False
section
variable {P : Program} {c : Ctx} {e : Env} {s : St} {w : World} {a : Act} {r : Option Nat}
theorem SatX.lookG (hS : SatX c e s w) : Sat c e { s with I := s.G } w := by
 have hG : ∀ {b : Nat} {Q : Prop}, (s.G b ≠ none -> Q -> False) -> Q -> s.G b = none := fun {b Q} h q => by
  cases hb : s.G b with
  | none => rfl
  | some o => exact (h (by rw [hb]; simp) q).elim
 refine ⟨hS.same, hS.size, hS.gIn, hS.hf, fun b hb _ => ?_, fun id x hx hal => ⟨(hS.owned id x hx hal).1, fun hn => ⟨hS.gOwn id x hx hal hn, ((hS.owned id x hx hal).2 hn).2⟩⟩, hS.apart, hS.names⟩;exact hG (Q := True) (fun hne _ => hb (hS.gI b hne).2) trivial
theorem putG_sound (hS : SatX c e s w) {b off k : Nat} {cur : Array Value} {el : TypeId} {fz : Nat × Nat} {vs : List Value} (hb : s.G b = some (.cells cur el fz)) (G' : Mem)
 (hG' : G' = fun x => if x = b then some (.cells (cur.toList.take (off + k) ++ vs ++ cur.toList.drop (off + k + vs.length)).toArray el fz) else s.G x) :
 SatX c e { s with G := G' } (w.setRow b (cur.toList.take (off + k) ++ vs ++ cur.toList.drop (off + k + vs.length)).toArray) /\
  Evo true [] s e w { s with G := G' } e (w.setRow b (cur.toList.take (off + k) ++ vs ++ cur.toList.drop (off + k + vs.length)).toArray) := by
 subst hG'
 have hne : s.G b ≠ none := by rw [hb]; simp
 have hw := hS.gIn b _ hb;have hlt := Mem.inW_lt hS.gIn hb
 have old : ∀ {k' : Nat}, s.G k' = none \/ k' ≠ b -> (w.setRow b (cur.toList.take (off + k) ++ vs ++ cur.toList.drop (off + k + vs.length)).toArray).heap[k']? = w.heap[k']? := by
  intro k' h;refine setRow_other w b k' _ ?_
  rcases h with h | h
  · rintro rfl; exact hne h
  · exact h
 refine ⟨⟨⟨hS.same.trans (setRow_same ..), Nat.le_trans hS.size (Nat.le_of_eq (setRow_size ..).symm), fun k' o ho => ?_, fun k' o ho => ?_, hS.old, fun id x hx hal => ⟨holds_mem (fun hn => old (.inl (hS.gOwn id x hx hal hn))) (hS.owned id x hx hal).1, (hS.owned id x hx hal).2⟩, hS.apart, hS.names⟩, ?_, ?_, ?_⟩, ?_⟩
 · refine (old (.inr fun h => ?_)).trans (hS.I k' o ho)
   subst h;rw [(hS.gI k' hne).1] at ho;cases ho
 · refine (old (.inr fun h => ?_)).trans (hS.hf k' o ho)
   subst h;rw [(hS.gI k' hne).2] at ho;cases ho
 · intro k' o ho
   simp only at ho
   by_cases hk : k' = b
   · subst hk
     rw [if_pos rfl] at ho;cases ho;exact setRow_heap w k' _ _ el _ hw
   · rw [if_neg hk] at ho
     exact (old (.inr hk)).trans (hS.gIn k' o ho)
 · intro k' hk'
   by_cases hk : k' = b
   · subst hk; exact hS.gI k' hne
   · simp only [if_neg hk] at hk'
     exact hS.gI k' hk'
 · intro id x hx hal hn
   have := hS.gOwn id x hx hal hn
   simp only
   rw [if_neg (fun h => by rw [h] at this; exact hne this)]
   exact this
 · refine ⟨fun k' _ hg _ => old (.inl (hg rfl)), Nat.le_of_eq (setRow_size ..).symm, fun _ _ _ => ⟨rfl, rfl, rfl⟩, fun _ _ _ h => by simp at h, fun id x' h1 h2 => ?_, Nat.le_refl _, fun id x' _ h1 h2 => ⟨x', h1, h2⟩, fun k' _ hg => ?_, fun h => (by cases h), fun k' _ _ h0 => .inl h0⟩
   · have := (List.getElem?_eq_some_iff.1 h2).1
     simp only at this
     omega
   · simp only
     rw [if_neg (fun h => by rw [h] at hg; exact hne hg)]
     exact hg
theorem seSG_sound {t : TypeId} {addr x : Operand} {K : St -> Prop} (h : seSG P s t (ev s addr) (ev s x) K) (hS : SatX c e s w) (hA : SatA e s a) :
 ∃ s' w', K s' /\ SatX c e s' w' /\ SatA e s' a /\ s'.I = s.I /\ s'.tm = s.tm /\ Evo true [] s e w s' e w' /\
  ∀ (d : Option Tmp) (ty : TypeId) (pos : String) (af : Array Edge) (g : Option (Nat × Bool)), (execOp a.eval ⟨d, .store t addr x, ty, pos, af, g⟩).run P w = .ok .skip w' := by
 simp only [seSG] at h
 split at h
 · rename_i l z hl hz
   split at h
   · rename_i hc
     simp only [Bool.and_eq_true] at hc;have hlz := Nat.eq_of_beq_eq_true hc.1;obtain ⟨hj, hd⟩ := svCells_den (e := e) hl
     have hv : (a.eval x).cells = (l.map (den e)).toArray := by rw [ev_ok hA x hj]; exact hd
     have go : ∀ {ad : Option Addr} {k : Nat} {vs : List Value}, a.eval addr = .pointer (ad.map (·.add k)) -> mapV l = some vs -> (∃ G', PutG s.G ad k vs G' /\ K { s with G := G' }) ->
      ∃ s' w', K s' /\ SatX c e s' w' /\ SatA e s' a /\ s'.I = s.I /\ s'.tm = s.tm /\ Evo true [] s e w s' e w' /\
       ∀ (d : Option Tmp) (ty : TypeId) (pos : String) (af : Array Edge) (g : Option (Nat × Bool)), (execOp a.eval ⟨d, .store t addr x, ty, pos, af, g⟩).run P w = .ok .skip w' := by
      intro ad k vs haddr hvs ⟨G', ⟨b, off, cur, el, fz, h1, h2, hfz, h3, h4⟩, hK⟩;obtain ⟨k1, k2⟩ := putG_sound hS h2 G' h4;refine ⟨_, _, hK, k1, ⟨hA.size, hA.tm, hA.defers⟩, rfl, rfl, k2, fun d ty pos af g => ?_⟩;subst h1;have hv2 := (mapV_den (e := e) hvs).1
      simp only [execOp, haddr, Option.map_some, Addr.add_lit, Instr.storeAt, Instr.sureAddr, Sem.run_bind, Sem.run_pure, Result.andThen_ok,
       run_storeVar_block hz (hS.gIn b _ h2) hfz (by rw [hv, hv2]) (by rw [mapV_length hvs, hlz]) (mapV_all hvs hc.2) h3]
     split at h
     · rename_i ad k vs hk hvs
       refine go ?_ hvs h
       have := ev_ok hA addr (by rw [hk]; rfl)
       rw [this, hk];simp [den]
     · rename_i ad vs hk hvs
       refine go (k := 0) ?_ hvs h
       have := ev_ok hA addr (by rw [hk]; rfl)
       rw [this, hk]
       cases ad with
       | none => simp [den]
       | some ad => simp [den, Addr.add]
     · exact h.elim
   · exact h.elim
 · exact h.elim
end
end Go.SE
namespace Go.SE
open Go.RowKit
def seMk (P : Program) (s : St) (t : TypeId) (l c : Operand) (K : SV -> St -> Prop) : Prop :=
 match P.underlying t, ev s l, ev s c with
 | some (.slice el), .v (.int _ l'), .v (.int _ c') => match P.info? el with
   | some i => match i.zero with
     | some z => l' = c' /\ 0 <= l' /\ l' <= 281474976710656 /\ (i.bytes : Int) * l' <= 281474976710656 /\
        if wfSt s && Nat.blt 0 z.cells.size then ∀ xs : List Value, xs.length = l'.toNat * i.size -> (∀ (j : Nat) (v : Value), xs[j]? = some v -> z.cells[j % z.cells.size]? = some v) -> K (.xsl s.H.length 0 l'.toNat l'.toNat) (addE s (.vec xs el)) else False
     | none => False
   | none => False
 | _, _, _ => False
def seAp (P : Program) (s : St) (t xt : TypeId) (x y : SV) (K : SV -> St -> Prop) : Prop :=
 match P.underlying t with
 | some (.slice el) => match P.info? el with
   | some i => match i.zero with
     | some z => if Nat.beq z.cells.size i.size && Nat.blt 0 i.size then
        match x with
        | .v (.slice a n cp) => srcOf P s xt y i.size fun m ys => cp < n + m /\ n + m <= 9223372036854775807 /\ (n + m) * i.bytes <= 140737488355328 /\ a.isSome = true /\
           ∃ xs : List Value, xs.length = n * i.size /\ (∀ (j : Nat) (v : Value), xs[j]? = some v -> atI s.I a j = some v) /\ if wfSt s then K (.rsl s.H.length (n + m)) (addE s (.row (xs ++ ys) i.size el)) else False
        | _ => False
       else False
     | none => False
   | none => False
 | _ => False
def seBy (P : Program) (s : St) (src dst : TypeId) (x : SV) (K : SV -> St -> Prop) : Prop :=
 match P.underlying src, P.underlying dst, x with
 | some .string, some (.slice el), .v (.string q) => match P.underlying el with
   | some (.int .u8) => q.size <= 4611686018427387904 /\ if wfSt s then K (.rsl s.H.length q.size) (addE s (.row (bytesV q) 1 el)) else False
   | _ => False
 | _, _, _ => False
def seEV (P : Program) (s : St) (o : Op) (K : SV -> St -> Prop) : Prop :=
 match o with
 | .makeSlice t l c => seMk P s t l c K
 | .call c => match c.callee, c.args.toList, c.argTypes.toList with
   | .builtin .append, [x, y], [t, xt] => seAp P s t xt (ev s x) (ev s y) K
   | _, _, _ => False
 | .convert src dst x => seBy P s src dst (ev s x) K
 | _ => False
section
variable {P : Program} {c : Ctx} {e : Env} {s : St} {w : World} {a : Act} {K : SV -> St -> Prop}
theorem zfill_all {z : Array Value} {n : Nat} {F : List Value -> Prop} (h : ∀ xs : List Value, xs.length = n -> (∀ (j : Nat) (v : Value), xs[j]? = some v -> z[j % z.size]? = some v) -> F xs) (hz : 0 < z.size) : F (zfill z n) := by
 refine h _ (by simp [zfill]) fun j v hj => ?_
 simp only [zfill, List.getElem?_map, Option.map_eq_some_iff] at hj;obtain ⟨k, hk, rfl⟩ := hj
 have : k = j := by
  rw [List.getElem?_range] at hk
  · cases hk; rfl
  · have := (List.getElem?_eq_some_iff.1 hk).1
    simpa using this
 subst this;have hm := Nat.mod_lt k hz;rw [Array.getElem!_eq_getD, Array.getD_eq_getD_getElem?, Array.getElem?_eq_getElem hm];rfl
theorem seMk_sound {t : TypeId} {l cc : Operand} (h : seMk P s t l cc K) (hS : Sat c e s w) (hA : SatA e s a) :
 ∃ sv s', K sv s' /\ EffOk P (.makeSlice t l cc) c s a w sv s' e := by
 unfold seMk at h
 split at h
 · rename_i el k1 l' k2 c' hu hl hc
   split at h
   · rename_i i hi
     split at h
     · rename_i z hz
       obtain ⟨rfl, h1, h2, h3, h⟩ := h
       split at h
       · rename_i hw
         simp only [Bool.and_eq_true, Nat.blt_eq] at hw;obtain ⟨hw, hzp⟩ := hw;have h := zfill_all h hzp
         have hold : ∀ k, k < w.heap.size -> ({ w with heap := w.heap.push (.cells (zfill z.cells (l'.toNat * i.size)).toArray el) } : World).heap[k]? = w.heap[k]? := fun k hk => by
          simp only [Array.getElem?_push]
          rw [if_neg (by omega)]
         obtain ⟨h4, h5⟩ := hS.add (obj := .vec (zfill z.cells (l'.toNat * i.size)) el) (b := w.heap.size) (cp := 0) (nl := false) (w' := { w with heap := w.heap.push (.cells (zfill z.cells (l'.toNat * i.size)).toArray el) }) hA hw
          hold (by simp) ⟨rfl, rfl, rfl⟩ (fun _ => Nat.le_refl _) ⟨by simp [upd_eq], by simp [upd_eq]⟩
         refine ⟨_, _, h, _, _, .slice (some ⟨w.heap.size, 0, none⟩) l'.toNat l'.toNat, fun d ty pos af g => .inl ?_, h4, h5, rfl, Mem.le_refl _, .inr (by simp [den, upd_eq]), evo_add hold (by simp) fun _ => Nat.le_refl _⟩
         have w1 : IntKind.i64.wrap l' = l' := IntWalk.i64_in _ ⟨by omega, by omega⟩
         have hzf := zfill_arr z.cells (l'.toNat * i.size)
         have t1 : ¬ l' < 0 := by omega
         have t2 : ¬ (281474976710656 < (i.bytes : Int) * l') := by omega
         by_cases hc0 : l'.toNat * i.size = 0
         · simp [execOp, Instr.makeSlice, run_underlying hu, ev_v hA hl, ev_v hA hc, asInt, asIntOf, typeInfo, hi, w1, t1, t2, sizeOf, hc0, newRow, zfill, show Array.range 0 = #[] from by simp [Array.range]]
         · simp [execOp, Instr.makeSlice, run_underlying hu, ev_v hA hl, ev_v hA hc, asInt, asIntOf, typeInfo, hi, w1, t1, t2, sizeOf, hc0, newRow, zeroValue, hz, hzf]
       · exact h.elim
     · exact h.elim
   · exact h.elim
 · exact h.elim
theorem run_app_full {t xt ty el : TypeId} {i : TypeInfo} {z x : Value} {m n cap : Nat} {ad : Addr} {xs news : List Value}
 (ht : P.underlying t = some (.slice el)) (hi : P.info? el = some i) (hz : i.zero = some z) (hzs : z.cells.size = i.size)
 (hx : Src P w xt x i.size m news) (hn : xs.length = n * i.size) (holds : ∀ j v, xs[j]? = some v -> w.cell? (ad.add j) = some v)
 (hlt : cap < n + m) (h63 : n + m <= maxLen) (hbytes : (n + m) * i.bytes <= 140737488355328) :
 ∃ (blk' cap' : Nat) (w' : World),
  (Builtin.append_ #[t, xt] ty #[.slice (some ad) n cap, x]).run P w = .ok (.slice (some ⟨blk', 0, none⟩) (n + m) cap') w' /\
  isRow (fun b => w'.heap[b]?) false blk' cap' i.size el (xs ++ news) /\ w.heap.size <= w'.heap.size /\ Same w w' /\
  (∀ b, b < w.heap.size -> w'.heap[b]? = w.heap[b]?) /\ w.heap.size <= blk' := by
 have hsmall : n + m <= 9223372036854775807 := by simp only [maxLen] at h63; omega
 have hlen : (xs ++ news).length = (n + m) * i.size := by rw [List.length_append, hn, hx.length, Nat.add_mul]
 have hge := grownCap_ge w (n + m) cap el;have hcm : grownCap w (n + m) cap el <= maxLen := grownCap_le_maxLen w (n + m) cap el h63
 have hsize : (xs.toArray ++ news.toArray ++ Builtin.zeroCells z.cells (grownCap w (n + m) cap el - (n + m))).size = grownCap w (n + m) cap el * i.size := by
  simp only [Array.size_append, List.size_toArray, size_zeroCells, hzs, hn, hx.length, <- Nat.add_mul]
  congr 1
  omega
 have hr := run_app_grow (ty := ty) ht hi hz hx ad n cap xs hn holds hlt (by omega) (growslice_fits (by omega) hbytes)
 refine ⟨w.heap.size, _, _, hr, .inr ⟨rfl, _, (0, 0), heap_alloc_new w.drew _, thaw_zero _, hsize, hcm, ?_, ?_⟩, by simp, ⟨rfl, rfl, rfl⟩, fun b hb => heap_alloc_old w.drew _ b hb, Nat.le_refl _⟩
 · rw [hsize, hlen]; exact Nat.mul_le_mul_right _ hge
 · simp only [Array.toList_append, List.append_assoc]
   rw [<- List.append_assoc];exact List.take_left
theorem seAp_sound {t xt : TypeId} {x y : Operand} (h : seAp P s t xt (ev s x) (ev s y) K) (hS : Sat c e s w) (hA : SatA e s a) :
 ∃ sv s', K sv s' /\ EffOk P (.call { callee := .builtin .append, args := #[x, y], argTypes := #[t, xt] }) c s a w sv s' e := by
 unfold seAp at h
 split at h
 · rename_i el hu
   split at h
   · rename_i i hi
     split at h
     · rename_i z hz
       split at h
       · rename_i hc
         simp only [Bool.and_eq_true, Nat.blt_eq] at hc;have hzs := Nat.eq_of_beq_eq_true hc.1
         split at h
         · rename_i ad n cp hx
           obtain ⟨m, ys, ⟨h1, h2, h3, h4, xs, h5, h6, hk⟩, hsrc, hone⟩ := srcOf_sound h hc.2 hS hA
           split at hk
           · rename_i hw
             obtain ⟨ad, rfl⟩ := Option.isSome_iff_exists.1 h4
             obtain ⟨blk', cap', w', hrun, g1, g2, g3, g4, g5⟩ := run_app_full (P := P) (w := w) (t := t) (xt := xt) (ty := 0) hu hi hz hzs hsrc h5 (fun j v hj => by
              obtain ⟨ad', e1, e2⟩ := ep_cells hS.I (h6 j v hj)
              cases e1; exact e2) h1 (by simp only [maxLen]; omega) h3
             have hrun' : ∀ ty, (Builtin.append_ #[t, xt] ty #[.slice (some ad) n cp, a.eval y]).run P w = .ok (.slice (some ⟨blk', 0, none⟩) (n + m) cap') w' := fun ty => hrun
             obtain ⟨k1, k2⟩ := hS.add (obj := .row (xs ++ ys) i.size el) (b := blk') (cp := cap') (nl := false) hA hw g4 g2 g3 (fun _ => g5)
              ⟨hc.2, ⟨n + m, by rw [List.length_append, h5, hsrc.length, Nat.add_mul]⟩, by
               unfold isRow at g1;simpa [upd_eq] using g1⟩
             have hev := ev_v hA hx
             refine ⟨_, _, hk, _, w', .slice (some ⟨blk', 0, none⟩) (n + m) cap', fun d ty pos af g => .inl ?_, k1, k2, rfl, Mem.le_refl _, .inr (by simp [den, upd_eq]), ?_⟩
             · simp [execOp, resolve, invoke, builtin, hev, hrun']
             · show Evo false (idOf (ev s x)) s e w _ _ _
               rw [hx];exact evo_add g4 g2 fun _ => g5
           · exact hk.elim
         · exact h.elim
       · exact h.elim
     · exact h.elim
   · exact h.elim
 · exact h.elim
theorem seBy_sound {src dst : TypeId} {x : Operand} (h : seBy P s src dst (ev s x) K) (hS : Sat c e s w) (hA : SatA e s a) :
 ∃ sv s', K sv s' /\ EffOk P (.convert src dst x) c s a w sv s' e := by
 unfold seBy at h
 split at h
 · rename_i el q hu1 hu2 hx
   split at h
   · rename_i hu3
     obtain ⟨hq, h⟩ := h
     split at h
     · rename_i hw
       have hrun := run_bytes_of_string (P := P) w src dst el q hu1 hu2 hu3;have hge := grownCap_ge w q.size 0 el
       have _hle := grownCap_le_maxLen w q.size 0 el (by simp only [maxLen]; omega)
       generalize hcap : grownCap w q.size 0 el = cap at hrun hge _hle
       have hbs : (bytesRow q cap).size = cap := by
        simp [bytesRow];have : q.size = q.data.size := rfl;omega
       have hql : (bytesV q).length = q.size := bytesV_len q
       obtain ⟨h1, h2⟩ := push_row hS hA (xs := bytesV q) (sz := 1) (cap := cap) (el := el) (cs := bytesRow q cap) (fz := ((bytesRow q cap).size, (bytesRow q cap).size + 1)) (w' := w.drew.alloc (.cells (bytesRow q cap) el ((bytesRow q cap).size, (bytesRow q cap).size + 1))) hw (by decide) ⟨q.size, by rw [hql, Nat.mul_one]⟩ (by rw [hbs, Nat.mul_one]) _hle (by rw [hql, hbs]; exact hge) (by
        rw [hql];simp only [bytesRow];rw [Array.toList_append]
        have : (Array.map (fun b => Value.int IntKind.u8 (UInt8.toNat b : Nat)) q.data).toList.length = q.size := by simp
        rw [List.take_append_of_le_length (by omega), List.take_of_length_le (by omega)]
        simp [bytesV]) rfl ⟨rfl, rfl, rfl⟩ (thaw_end _ _)
       exact ⟨_, _, h, _, _, .slice (some ⟨w.heap.size, 0, none⟩) q.size cap, fun d ty pos af g => .inl (by simp [execOp, ev_v hA hx, hrun]), h1, h2, rfl, Mem.le_refl _, .inr (by simp [den, upd_eq]),
        evo_add (fun k hk => heap_alloc_old w.drew _ k hk) (by simp) fun _ => Nat.le_refl _⟩
     · exact h.elim
   · exact h.elim
 · exact h.elim
theorem seEV_sound {o : Op} (h : seEV P s o K) (hS : Sat c e s w) (hA : SatA e s a) : ∃ sv s', K sv s' /\ EffOk P o c s a w sv s' e := by
 cases o with
 | makeSlice t l cc => exact seMk_sound h hS hA
 | convert src dst x => exact seBy_sound h hS hA
 | call cl =>
   obtain ⟨callee, args, ts⟩ := cl;simp only [seEV] at h
   split at h
   · rename_i x y t xt h1 h2
     obtain rfl : args = #[x, y] := by rw [<- Array.toList_inj]; exact h1
     obtain rfl : ts = #[t, xt] := by rw [<- Array.toList_inj]; exact h2
     exact seAp_sound h hS hA
   · exact h.elim
 | _ => exact h.elim
end
end Go.SE
namespace Go.SE
open Go.RowKit
def PutOr (G : Mem) (a : Option Addr) (cs : List Value) (G' : Mem) : Prop := (cs = [] /\ G' = G) \/ PutG G a 0 cs G'
def seCpG (P : Program) (s : St) (t : TypeId) (d x : SV) (K : SV -> St -> Prop) : Prop :=
 match P.underlying t with
 | some (.slice el) => match P.info? el with
   | some i => match d, x with
     | .v (.slice a dl _), .v (.slice b sl _) => ∃ cs : List Value, cs.length = Nat.min sl dl * i.size /\ (∀ (j : Nat) (v : Value), cs[j]? = some v -> atI s.I b j = some v \/ atI s.G b j = some v) /\ (∀ v ∈ cs, v.oneCell' = true) /\ (b = none -> cs = []) /\
        ∃ G', PutOr s.G a cs G' /\ K (.v (.int .i64 (Nat.min sl dl))) { s with G := G' }
     | _, _ => False
   | none => False
 | _ => False
def PutH (G : Mem) (a : Option Addr) (k : Nat) (vs : List Value) (G' : Mem) : Prop :=
 ∃ (b off : Nat) (cur : Array Value) (el : TypeId) (fz : Nat × Nat), a = some ⟨b, off, none⟩ /\ G b = some (.cells cur el fz) /\ (∀ j, off + k <= j -> j < off + k + vs.length -> ¬ (fz.1 <= j /\ j < fz.2)) /\ off + k + vs.length <= cur.size /\
  G' = fun x => if x = b then some (.cells (cur.toList.take (off + k) ++ vs ++ cur.toList.drop (off + k + vs.length)).toArray el fz) else G x
def srcG (P : Program) (s : St) (xt : TypeId) (x : SV) (sz : Nat) (K : Nat -> List Value -> Prop) : Prop :=
 match P.underlying xt, x with
 | some (.slice _), .v (.slice a m _) => ∃ ys : List Value, ys.length = m * sz /\ (a = none -> m = 0) /\ (∀ (j : Nat) (v : Value), ys[j]? = some v -> atI s.I a j = some v \/ atI s.G a j = some v) /\ (∀ v ∈ ys, v.oneCell' = true) /\ K m ys
 | some .string, .v (.string q) => sz = 1 /\ K q.size (bytesV q)
 | _, _ => False
def newG (s : St) (el : TypeId) (sz n : Nat) (xs : List Value) (K : SV -> St -> Prop) : Prop :=
 ∀ (b cp : Nat) (cur : Array Value) (fz : Nat × Nat) (G' : Mem), s.G b = none -> s.I b = none -> n <= cp -> cp <= maxLen -> fz = (0, 0) -> cur.size = cp * sz -> cur.toList.take xs.length = xs ->
  (G' = fun x => if x = b then some (.cells cur el fz) else s.G x) -> K (.v (.slice (some ⟨b, 0, none⟩) n cp)) { s with G := G' }
def seApG (P : Program) (s : St) (t xt : TypeId) (x y : SV) (K : SV -> St -> Prop) : Prop :=
 match P.underlying t with
 | some (.slice el) => match P.info? el with
   | some i => match i.zero with
     | some z => match x with
       | .v (.slice a n cp) => z.cells.size = i.size /\ 0 < i.size /\ srcG P s xt y i.size fun m cs => Br (decide ((n : Int) + m <= cp))
          (∃ G', ((cs = [] /\ G' = s.G) \/ PutH s.G a (n * i.size) cs G') /\ K (.v (.slice a (n + m) cp)) { s with G := G' })
          ((a.isSome || (n == 0 && cp == 0)) = true /\ n + m <= 9223372036854775807 /\ (n + m) * i.bytes <= 140737488355328 /\ ∃ xs : List Value, xs.length = n * i.size /\ (∀ (j : Nat) (v : Value), xs[j]? = some v -> atI s.I a j = some v \/ atI s.G a j = some v) /\ newG s el i.size (n + m) (xs ++ cs) K)
       | _ => False
     | none => False
   | none => False
 | _ => False
def seClG (P : Program) (s : St) (t : TypeId) (x : SV) (K : SV -> St -> Prop) : Prop :=
 match P.underlying t with
 | some (.slice el) => match P.info? el with
   | some i => match i.zero with
     | some z => match x with
       | .v (.slice a n _) => 0 < z.cells.size /\ (a = none -> n = 0) /\ (∀ v ∈ z.cells.toList, v.oneCell' = true) /\ ∀ xs : List Value, xs.length = n * z.cells.size -> (∀ (j : Nat) (v : Value), xs[j]? = some v -> z.cells[j % z.cells.size]? = some v) -> ∃ G', PutOr s.G a xs G' /\ K (.v (.tuple #[])) { s with G := G' }
       | _ => False
     | none => False
   | none => False
 | _ => False
section
variable {P : Program} {w : World}
theorem run_app_zeros {t xt ty e : TypeId} {i : TypeInfo} {z : Value} {k kk : IntKind} {l : Nat} (ht : P.underlying t = some (.slice e)) (hi : P.info? e = some i) (hz : i.zero = some z) (hxt : P.underlying xt = some (.int kk))
 (b : Addr) (sLen sCap : Nat) (olds : List Value) (hlo : olds.length = sLen * i.size) (holds : ∀ j v, olds[j]? = some v -> w.cell? (b.add j) = some v)
 (h0 : l * i.size ≠ 0) (h1 : l * i.bytes <= 281474976710656) (hl : l <= 9223372036854775807)
 (hg : sCap < sLen + l) (h63 : ((sLen + l : Nat) : Int) <= 9223372036854775807) (hfit : Builtin.nextslicecap (sLen + l) sCap * i.bytes <= 281474976710656) :
 (Builtin.append_ #[t, xt] ty #[.slice (some b) sLen sCap, .int k l]).run P w =
   .ok (.slice (some ⟨w.heap.size, 0, none⟩) (sLen + l) (grownCap w (sLen + l) sCap e))
    (w.drew.alloc (.cells (olds.toArray ++ Builtin.zeroCells z.cells l ++ Builtin.zeroCells z.cells (grownCap w (sLen + l) sCap e - (sLen + l))) e)) := by
 have hn : ¬ (sLen + l <= sCap) := by omega
 have h63' : ¬ (9223372036854775807 < ((sLen : Int) + (l : Int))) := by omega
 have h48' : ¬ (281474976710656 < Builtin.nextslicecap (sLen + l) sCap * i.bytes) := by omega
 have hfo := run_firstCells_some (P := P) w.drew i.size sLen b sLen sCap olds hlo (by simpa using holds)
 have hw : IntKind.i64.wrap (l : Int) = l := by rw [IntKind.wrap_i64]; omega
 have hl0 : ¬ ((l : Int) < 0) := by omega
 have h1' : ¬ ((281474976710656 : Int) < (l : Int) * (i.bytes : Int)) := by
  have : ((l * i.bytes : Nat) : Int) <= 281474976710656 := by omega
  rw [Int.natCast_mul] at this;omega
 simp [Builtin.append_, run_underlying ht, run_underlying hxt, sizeOf, typeInfo, zeroValue, hi, hz, asInt, asIntOf, hw, hl0, h1', hn, h63', h48', Question.forced, hfo, newRow, grownCap];exact fun h => (h0 h).elim
end
def seApZ (P : Program) (s : St) (t : TypeId) (x y : SV) (K : SV -> St -> Prop) : Prop :=
 match P.underlying t with
 | some (.slice el) => match P.info? el with
   | some i => match i.zero with
     | some z => match x, y with
       | .v (.slice a n cp), .v (.int _ l) => z.cells.size = i.size /\ 0 < i.size /\ 0 < l /\ cp < n + l.toNat /\ a.isSome = true /\ n + l.toNat <= 9223372036854775807 /\ (n + l.toNat) * i.bytes <= 140737488355328 /\
          ∃ xs : List Value, xs.length = n * i.size /\ (∀ (j : Nat) (v : Value), xs[j]? = some v -> atI s.I a j = some v \/ atI s.G a j = some v) /\ newG s el i.size (n + l.toNat) xs K
       | _, _ => False
     | none => False
   | none => False
 | _ => False
def seGB (P : Program) (s : St) (o : Op) (K : SV -> St -> Prop) : Prop :=
 match o with
 | .call c => match c.callee, c.args.toList, c.argTypes.toList with
   | .builtin .copy, [d, x], [t, _] => seCpG P s t (ev s d) (ev s x) K
   | .builtin .append, [x, y], [t, xt] => match P.underlying xt with
     | some (.int _) => seApZ P s t (ev s x) (ev s y) K
     | _ => seApG P s t xt (ev s x) (ev s y) K
   | .builtin .clear, [x], [t] => seClG P s t (ev s x) K
   | _, _, _ => False
 | _ => False
section
variable {P : Program} {c : Ctx} {e : Env} {s : St} {w : World} {a : Act} {K : SV -> St -> Prop}
theorem Evo.gt {mods : List Nat} {s' : St} {e' : Env} {w' : World} (h : Evo false mods s e w s' e' w') : Evo true mods s e w s' e' w' :=
 ⟨fun b hb _ hm => h.heap b hb (fun h => by cases h) hm, h.size, h.same, h.mod, h.new, h.len, h.live, h.gN, fun h => (by cases h), fun b hb _ hI => h.rd b hb (fun h => by cases h) hI⟩
theorem putOr_sound (hS : SatX c e s w) {ad : Option Addr} {cs : List Value} {G' : Mem} (h : PutOr s.G ad cs G') (h1 : ∀ v ∈ cs, v.oneCell' = true) :
 ∃ w', SatX c e { s with G := G' } w' /\ Evo true [] s e w { s with G := G' } e w' /\ (match ad with | some x => (storeCells x cs 0).run P w = .ok () w' | none => w' = w) := by
 rcases h with ⟨rfl, rfl⟩ | ⟨b, off, cur, el, fz, rfl, h2, h3, h4, h5⟩
 · refine ⟨w, hS, (Evo.still rfl (fun id x' g1 g2 => ⟨x', g1, g2⟩) (fun b _ h0 => .inl h0) rfl).gt, ?_⟩
   cases ad with
   | none => rfl
   | some x => rfl
 · simp only [Nat.add_zero] at h4 h5
   obtain ⟨k1, k2⟩ := putG_sound (k := 0) hS h2 G' (by simpa using h5)
   refine ⟨_, k1, k2, ?_⟩
   have := run_storeCells_fz P b off el fz cs 0 cur w (hS.gIn b _ h2) h3 (by simpa using h4) h1
   simpa using this
theorem seCpG_sound {t xt : TypeId} {d x : Operand} (h : seCpG P s t (ev s d) (ev s x) K) (hS : SatX c e s w) (hA : SatA e s a) :
 ∃ sv s' w', K sv s' /\ SatX c e s' w' /\ SatA e s' a /\ s'.I = s.I /\ s'.tm = s.tm /\ Evo true [] s e w s' e w' /\
  ∀ (dd : Option Tmp) (ty : TypeId) (pos : String) (af : Array Edge) (g : Option (Nat × Bool)), (execOp a.eval ⟨dd, .call { callee := .builtin .copy, args := #[d, x], argTypes := #[t, xt] }, ty, pos, af, g⟩).run P w = .ok (.value (den e sv)) w' := by
 unfold seCpG at h
 split at h
 · rename_i el hu
   split at h
   · rename_i i hi
     split at h
     · rename_i ad dl dc bd sl sc hd hx
       obtain ⟨cs, h1, h2, h3, h4, G', hp, hK⟩ := h;obtain ⟨w', k1, k2, k3⟩ := putOr_sound (P := P) hS hp h3;have ed := ev_v hA hd;have ex := ev_v hA hx;refine ⟨_, _, w', hK, k1, ⟨hA.size, hA.tm, hA.defers⟩, rfl, rfl, k2, fun dd ty pos af g => ?_⟩
       have hsrc : ∀ ad, bd = some ad -> (loadCells ad (Nat.min sl dl * i.size)).run P w = .ok cs.toArray w := by
        rintro ad rfl;rw [<- h1];refine run_loadCells_list (P := P) w ad cs fun j v hj => ?_
        rcases h2 j v hj with h2 | h2
        · exact cellM_world hS.I h2
        · exact cellM_world hS.gIn h2
       have hrun : (Builtin.copy_ #[t, xt] ty #[.slice ad dl dc, .slice bd sl sc]).run P w = .ok (goInt (Nat.min sl dl)) w' := by
        cases bd with
        | none =>
          have hc := h4 rfl;subst hc
          cases ad with
          | none => subst k3; simp [Builtin.copy_, run_underlying hu, Builtin.lenOf, Builtin.firstCells, sizeOf, typeInfo, hi]
          | some ad => simp [Builtin.copy_, run_underlying hu, Builtin.lenOf, Builtin.firstCells, sizeOf, typeInfo, hi, k3]
        | some bd =>
          have hl := hsrc bd rfl
          cases ad with
          | none => subst k3; simp [Builtin.copy_, run_underlying hu, Builtin.lenOf, Builtin.firstCells, sizeOf, typeInfo, hi, hl]
          | some ad => simp [Builtin.copy_, run_underlying hu, Builtin.lenOf, Builtin.firstCells, sizeOf, typeInfo, hi, hl, k3]
       simp [execOp, resolve, invoke, builtin, ed, ex, hrun, den, goInt]
     · exact h.elim
   · exact h.elim
 · exact h.elim
theorem srcG_sound {xt : TypeId} {y : Operand} {sz : Nat} {K : Nat -> List Value -> Prop} (h : srcG P s xt (ev s y) sz K) (hS : SatX c e s w) (hA : SatA e s a) :
 ∃ m ys, K m ys /\ Src P w xt (a.eval y) sz m ys /\ ∀ v ∈ ys, v.oneCell' = true := by
 unfold srcG at h
 split at h
 · rename_i u ad m cp hu hy
   obtain ⟨ys, h1, h2, h3, h4, hK⟩ := h;refine ⟨m, ys, hK, ?_, h4⟩;rw [ev_v hA hy];refine Src.slice hu h1 h2 fun j v hj => ?_
   rcases h3 j v hj with h3 | h3
   · exact ep_cells hS.I h3
   · exact ep_cells hS.gIn h3
 · rename_i q hu hy
   obtain ⟨rfl, hK⟩ := h;refine ⟨_, _, hK, ?_, fun v hv => ?_⟩
   · rw [ev_v hA hy]; exact Src.string hu
   · obtain ⟨b, _, rfl⟩ := List.mem_map.1 hv; rfl
 · exact h.elim
theorem seClG_sound {t : TypeId} {x : Operand} (h : seClG P s t (ev s x) K) (hS : SatX c e s w) (hA : SatA e s a) :
 ∃ sv s' w', K sv s' /\ SatX c e s' w' /\ SatA e s' a /\ s'.I = s.I /\ s'.tm = s.tm /\ Evo true [] s e w s' e w' /\
  ∀ (dd : Option Tmp) (ty : TypeId) (pos : String) (af : Array Edge) (g : Option (Nat × Bool)), (execOp a.eval ⟨dd, .call { callee := .builtin .clear, args := #[x], argTypes := #[t] }, ty, pos, af, g⟩).run P w = .ok (.value (den e sv)) w' := by
 unfold seClG at h
 split at h
 · rename_i el hu
   split at h
   · rename_i i hi
     split at h
     · rename_i z hz
       split at h
       · rename_i ad n cp hx
         obtain ⟨h0, hn, h1, h2⟩ := h;have ex := ev_v hA hx
         have hzl : (Builtin.zeroCells z.cells n).toList.length = n * z.cells.size := by rw [Array.length_toList, size_zeroCells]
         have hat : ∀ (j : Nat) (v : Value), (Builtin.zeroCells z.cells n).toList[j]? = some v -> z.cells[j % z.cells.size]? = some v := by
          intro j v hj;have hm := Nat.mod_lt j h0;simp only [Builtin.zeroCells, Array.toList_map, Array.toList_range, List.getElem?_map, Option.map_eq_some_iff] at hj;obtain ⟨k, hk, rfl⟩ := hj
          have : k = j := by
           rw [List.getElem?_range] at hk
           · cases hk; rfl
           · have := (List.getElem?_eq_some_iff.1 hk).1
             simpa using this
          subst this;rw [Array.getElem!_eq_getD, Array.getD_eq_getD_getElem?, Array.getElem?_eq_getElem hm];rfl
         obtain ⟨G', hp, hK⟩ := h2 _ hzl hat
         have hone : ∀ v ∈ (Builtin.zeroCells z.cells n).toList, v.oneCell' = true := fun v hv => by
          obtain ⟨j, hj, rfl⟩ := List.getElem_of_mem hv;have := hat j _ (List.getElem?_eq_getElem hj)
          exact h1 _ (by rw [<- Array.getElem?_toList] at this; exact List.mem_of_getElem? this)
         obtain ⟨w', k1, k2, k3⟩ := putOr_sound (P := P) hS hp hone;refine ⟨_, _, w', hK, k1, ⟨hA.size, hA.tm, hA.defers⟩, rfl, rfl, k2, fun dd ty pos af g => ?_⟩
         have hrun : (Builtin.clear_ #[t] ty #[.slice ad n cp]).run P w = .ok (.tuple #[]) w' := by
          have hzv : (zeroValue el).run P w = .ok z w := by simp [zeroValue, typeInfo, hi, hz]
          cases ad with
          | none =>
            subst k3;simp [Builtin.clear_, run_underlying hu]
          | some ad =>
            cases n with
            | zero =>
              have he : (Builtin.zeroCells z.cells 0).toList = [] := by rw [<- List.length_eq_zero_iff, hzl]; omega
              have k3 : (storeCells ad (Builtin.zeroCells z.cells 0).toList 0).run P w = .ok () w' := k3;rw [he] at k3;simp [storeCells] at k3;subst k3;simp [Builtin.clear_, run_underlying hu]
            | succ n => simp [Builtin.clear_, run_underlying hu, hzv, k3]
         simp [execOp, resolve, invoke, builtin, ex, hrun, den]
       · exact h.elim
     · exact h.elim
   · exact h.elim
 · exact h.elim
theorem addG_sound (hS : SatX c e s w) {w' : World} {blk : Nat} {o : Obj} (hold : ∀ b, b < w.heap.size -> w'.heap[b]? = w.heap[b]?) (hsz : w.heap.size <= w'.heap.size) (hsame : Same w w') (hb : w.heap.size <= blk) (ho : w'.heap[blk]? = some o)
 {G' : Mem} (hG : G' = fun x => if x = blk then some o else s.G x) :
 s.G blk = none /\ s.I blk = none /\ SatX c e { s with G := G' } w' /\ Evo true [] s e w { s with G := G' } e w' := by
 subst hG
 have lt : ∀ {M : Mem}, M.inW w -> ∀ {b : Nat}, M b ≠ none -> b < w.heap.size := fun hM b h => by
  obtain ⟨x, hx⟩ := Option.ne_none_iff_exists'.1 h;exact Mem.inW_lt hM hx
 have no : ∀ {M : Mem}, M.inW w -> M blk = none := fun {M} hM => by
  cases h : M blk with
  | none => rfl
  | some x => have := lt hM (b := blk) (by rw [h]; simp); omega
 have keep : ∀ {M : Mem}, M.inW w -> M.inW w' := fun {M} hM b x hx => by rw [hold b (Mem.inW_lt hM hx)]; exact hM b x hx
 refine ⟨no hS.gIn, no hS.I, ⟨⟨hS.same.trans hsame, Nat.le_trans hS.size hsz, keep hS.I, keep hS.hf, hS.old, fun id x hx hal => ⟨holds_mem (fun hn => hold _ (blk_lt hS.toSat hx hal hn)) (hS.owned id x hx hal).1, (hS.owned id x hx hal).2⟩, hS.apart, hS.names⟩, ?_, ?_, ?_⟩, ?_⟩
 · intro b x hx
   simp only at hx
   by_cases hk : b = blk
   · subst hk
     rw [if_pos rfl] at hx;cases hx;exact ho
   · rw [if_neg hk] at hx
     exact keep hS.gIn b x hx
 · intro b hk'
   by_cases hk : b = blk
   · subst hk; exact ⟨no hS.I, no hS.hf⟩
   · simp only [if_neg hk] at hk'
     exact hS.gI b hk'
 · intro id x hx hal hn
   have h1 := blk_lt hS.toSat hx hal hn
   simp only
   rw [if_neg (by omega)]
   exact hS.gOwn id x hx hal hn
 · refine ⟨fun b hb _ _ => hold b hb, hsz, fun _ _ _ => ⟨rfl, rfl, rfl⟩, fun _ _ _ h => by simp at h, fun id x' h1 h2 => ?_, Nat.le_refl _, fun id x' _ h1 h2 => ⟨x', h1, h2⟩, fun b hb hg => ?_, fun h => (by cases h), fun b _ _ h0 => .inl h0⟩
   · have := (List.getElem?_eq_some_iff.1 h2).1
     simp only at this
     omega
   · simp only
     rw [if_neg (by omega)]
     exact hg
set_option maxHeartbeats 1000000 in
theorem seApG_sound {t xt : TypeId} {x y : Operand} (h : seApG P s t xt (ev s x) (ev s y) K) (hS : SatX c e s w) (hA : SatA e s a) :
 ∃ sv s' w', K sv s' /\ SatX c e s' w' /\ SatA e s' a /\ s'.I = s.I /\ s'.tm = s.tm /\ Evo true [] s e w s' e w' /\
  ∀ (dd : Option Tmp) (ty : TypeId) (pos : String) (af : Array Edge) (g : Option (Nat × Bool)), (execOp a.eval ⟨dd, .call { callee := .builtin .append, args := #[x, y], argTypes := #[t, xt] }, ty, pos, af, g⟩).run P w = .ok (.value (den e sv)) w' := by
 unfold seApG at h
 split at h
 · rename_i el hu
   split at h
   · rename_i i hi
     split at h
     · rename_i z hz
       split at h
       · rename_i ad n cp hx
         obtain ⟨hzs, hsz, h⟩ := h;obtain ⟨m, cs, h, hsrc, hone⟩ := srcG_sound h hS hA;have ex := ev_v hA hx
         by_cases hroom : n + m <= cp
         · obtain ⟨G', hp, hK⟩ : ∃ G', ((cs = [] /\ G' = s.G) \/ PutH s.G ad (n * i.size) cs G') /\ K (.v (.slice ad (n + m) cp)) { s with G := G' } := by
            rw [decide_eq_true (show (n : Int) + m <= cp by omega)] at h
            exact h
           have key : ∃ w', SatX c e { s with G := G' } w' /\ Evo true [] s e w { s with G := G' } e w' /\ (match ad with | some x => (storeCells (x.add (n * i.size)) cs 0).run P w = .ok () w' | none => w' = w) := by
            rcases hp with ⟨rfl, rfl⟩ | ⟨b, off, cur, el', fz, rfl, h2, h3, h4, h5⟩
            · refine ⟨w, hS, (Evo.still rfl (fun id x' g1 g2 => ⟨x', g1, g2⟩) (fun b _ h0 => .inl h0) rfl).gt, ?_⟩
              cases ad with
              | none => rfl
              | some x => rfl
            · obtain ⟨k1, k2⟩ := putG_sound (k := n * i.size) hS h2 G' h5
              refine ⟨_, k1, k2, ?_⟩
              have := run_storeCells_pz P b (off + n * i.size) el' fz cs 0 cur w (hS.gIn b _ h2) (by simpa using h3) (by simpa using h4) hone
              simpa [Addr.add_lit] using this
           obtain ⟨w', k1, k2, k3⟩ := key;refine ⟨_, _, w', hK, k1, ⟨hA.size, hA.tm, hA.defers⟩, rfl, rfl, k2, fun dd ty pos af g => ?_⟩
           have hrun : (Builtin.append_ #[t, xt] ty #[.slice ad n cp, a.eval y]).run P w = .ok (.slice ad (n + m) cp) w' := by
            rcases hsrc.ty with hd | ⟨u, hd⟩ <;> cases ad with
            | none => subst k3; simp [Builtin.append_, run_underlying hu, run_underlying hd, sizeOf, typeInfo, hi, hsrc.len, hroom, hsrc.cells _ rfl]
            | some ad => simp [Builtin.append_, run_underlying hu, run_underlying hd, sizeOf, typeInfo, hi, hsrc.len, hroom, hsrc.cells w rfl, k3]
           simp [execOp, resolve, invoke, builtin, ex, hrun, den]
         · obtain ⟨h4, h63, hby, xs, h5, h6, hN⟩ : (ad.isSome || (n == 0 && cp == 0)) = true /\ n + m <= 9223372036854775807 /\ (n + m) * i.bytes <= 140737488355328 /\ ∃ xs : List Value, xs.length = n * i.size /\ (∀ (j : Nat) (v : Value), xs[j]? = some v -> atI s.I ad j = some v \/ atI s.G ad j = some v) /\ newG s el i.size (n + m) (xs ++ cs) K := by
            rw [decide_eq_false (show ¬ ((n : Int) + m <= cp) by omega)] at h
            exact h
           have hr : ∀ ty, (Builtin.append_ #[t, xt] ty #[.slice ad n cp, a.eval y]).run P w = .ok (.slice (some ⟨w.heap.size, 0, none⟩) (n + m) (grownCap w (n + m) cp el))
            (w.drew.alloc (.cells (xs.toArray ++ cs.toArray ++ Builtin.zeroCells z.cells (grownCap w (n + m) cp el - (n + m))) el)) := by
            cases ad with
            | none =>
              simp only [Option.isSome_none, Bool.false_or, Bool.and_eq_true, beq_iff_eq] at h4;obtain ⟨rfl, rfl⟩ := h4
              have hx0 : xs = [] := List.length_eq_zero_iff.1 (by simpa using h5)
              subst hx0;intro ty
              have := run_app_nil (P := P) (w := w) (ty := ty) hu hi hz hsrc (by omega) (by omega) (by have hb := hby; simp only [Nat.zero_add] at hb; omega)
              simpa using this
            | some ad =>
              intro ty
              exact run_app_grow (ty := ty) hu hi hz hsrc ad n cp xs h5 (fun j v hj => by
               rcases h6 j v hj with h6 | h6
               · obtain ⟨ad', e1, e2⟩ := ep_cells hS.I h6
                 cases e1; exact e2
               · obtain ⟨ad', e1, e2⟩ := ep_cells hS.gIn h6
                 cases e1; exact e2) (by omega) (by omega) (growslice_fits (by omega) hby)
           have hge := grownCap_ge w (n + m) cp el
           have hcm : grownCap w (n + m) cp el <= maxLen := grownCap_le_maxLen w (n + m) cp el (by simp only [maxLen]; omega)
           have hsize : (xs.toArray ++ cs.toArray ++ Builtin.zeroCells z.cells (grownCap w (n + m) cp el - (n + m))).size = grownCap w (n + m) cp el * i.size := by
            simp only [Array.size_append, List.size_toArray, size_zeroCells, hzs, h5, hsrc.length, <- Nat.add_mul]
            congr 1
            omega
           obtain ⟨k0, k1, k2, k3⟩ := addG_sound hS (w' := w.drew.alloc (.cells (xs.toArray ++ cs.toArray ++ Builtin.zeroCells z.cells (grownCap w (n + m) cp el - (n + m))) el)) (blk := w.heap.size) (fun b hb => heap_alloc_old w.drew _ b hb) (by simp) ⟨rfl, rfl, rfl⟩ (Nat.le_refl _) (heap_alloc_new w.drew _) rfl
           refine ⟨_, _, _, hN w.heap.size _ _ (0, 0) _ k0 k1 hge hcm rfl hsize ?_ rfl, k2, ⟨hA.size, hA.tm, hA.defers⟩, rfl, rfl, k3, fun dd ty pos af g => ?_⟩
           · simp only [Array.toList_append]
             exact List.take_left
           · simp [execOp, resolve, invoke, builtin, ex, hr, den]
       · exact h.elim
     · exact h.elim
   · exact h.elim
 · exact h.elim
set_option maxHeartbeats 1000000 in
theorem seApZ_sound {t xt : TypeId} {kk : IntKind} {x y : Operand} (hxt : P.underlying xt = some (.int kk)) (h : seApZ P s t (ev s x) (ev s y) K) (hS : SatX c e s w) (hA : SatA e s a) :
 ∃ sv s' w', K sv s' /\ SatX c e s' w' /\ SatA e s' a /\ s'.I = s.I /\ s'.tm = s.tm /\ Evo true [] s e w s' e w' /\
  ∀ (dd : Option Tmp) (ty : TypeId) (pos : String) (af : Array Edge) (g : Option (Nat × Bool)), (execOp a.eval ⟨dd, .call { callee := .builtin .append, args := #[x, y], argTypes := #[t, xt] }, ty, pos, af, g⟩).run P w = .ok (.value (den e sv)) w' := by
 unfold seApZ at h
 split at h
 · rename_i el hu
   split at h
   · rename_i i hi
     split at h
     · rename_i z hz
       split at h
       · rename_i ad n cp k l hx hy
         obtain ⟨hzs, hsz, hl0, hlt, h4, h63, hby, xs, h5, h6, hN⟩ := h;obtain ⟨ad, rfl⟩ := Option.isSome_iff_exists.1 h4
         obtain ⟨l, rfl⟩ : ∃ q : Nat, l = q := ⟨l.toNat, by omega⟩
         simp only [Int.toNat_natCast] at hlt h63 hby hN;have ex := ev_v hA hx;have ey := ev_v hA hy
         have hby1 : l * i.bytes <= (n + l) * i.bytes := Nat.mul_le_mul_right _ (by omega)
         have hr := fun ty => run_app_zeros (P := P) (w := w) (ty := ty) (k := k) hu hi hz hxt ad n cp xs h5 (fun j v hj => by
          rcases h6 j v hj with h6 | h6
          · obtain ⟨ad', e1, e2⟩ := ep_cells hS.I h6
            cases e1; exact e2
          · obtain ⟨ad', e1, e2⟩ := ep_cells hS.gIn h6
            cases e1; exact e2) (Nat.mul_ne_zero (by omega) (by omega)) (by omega) (by omega) hlt (by omega) (growslice_fits (by omega) hby)
         have hge := grownCap_ge w (n + l) cp el
         have hcm : grownCap w (n + l) cp el <= maxLen := grownCap_le_maxLen w (n + l) cp el (by simp only [maxLen]; omega)
         have hsize : (xs.toArray ++ Builtin.zeroCells z.cells l ++ Builtin.zeroCells z.cells (grownCap w (n + l) cp el - (n + l))).size = grownCap w (n + l) cp el * i.size := by
          simp only [Array.size_append, List.size_toArray, size_zeroCells, hzs, h5, <- Nat.add_mul]
          congr 1
          omega
         obtain ⟨k0, k1, k2, k3⟩ := addG_sound hS (w' := w.drew.alloc (.cells (xs.toArray ++ Builtin.zeroCells z.cells l ++ Builtin.zeroCells z.cells (grownCap w (n + l) cp el - (n + l))) el)) (blk := w.heap.size) (fun b hb => heap_alloc_old w.drew _ b hb) (by simp) ⟨rfl, rfl, rfl⟩ (Nat.le_refl _) (heap_alloc_new w.drew _) rfl
         refine ⟨_, _, _, hN w.heap.size _ _ (0, 0) _ k0 k1 hge hcm rfl hsize ?_ rfl, k2, ⟨hA.size, hA.tm, hA.defers⟩, rfl, rfl, k3, fun dd ty pos af g => ?_⟩
         · simp only [Array.toList_append, List.append_assoc]
           exact List.take_left
         · simp [execOp, resolve, invoke, builtin, ex, ey, hr, den]
       · exact h.elim
     · exact h.elim
   · exact h.elim
 · exact h.elim
theorem seGB_sound {o : Op} (h : seGB P s o K) (hS : SatX c e s w) (hA : SatA e s a) :
 ∃ sv s' w', K sv s' /\ SatX c e s' w' /\ SatA e s' a /\ s'.I = s.I /\ s'.tm = s.tm /\ Evo true [] s e w s' e w' /\
  ∀ (dd : Option Tmp) (ty : TypeId) (pos : String) (af : Array Edge) (g : Option (Nat × Bool)), (execOp a.eval ⟨dd, o, ty, pos, af, g⟩).run P w = .ok (.value (den e sv)) w' := by
 unfold seGB at h
 split at h
 · rename_i cl
   obtain ⟨callee, args, ts⟩ := cl
   simp only at h
   split at h
   · rename_i d x t xt h1 h2
     obtain rfl : args = #[d, x] := by rw [<- Array.toList_inj]; exact h1
     obtain rfl : ts = #[t, xt] := by rw [<- Array.toList_inj]; exact h2
     exact seCpG_sound h hS hA
   · rename_i x y t xt h1 h2
     obtain rfl : args = #[x, y] := by rw [<- Array.toList_inj]; exact h1
     obtain rfl : ts = #[t, xt] := by rw [<- Array.toList_inj]; exact h2
     split at h
     · rename_i kk hxt
       exact seApZ_sound hxt h hS hA
     · exact seApG_sound h hS hA
   · rename_i x t h1 h2
     obtain rfl : args = #[x] := by rw [<- Array.toList_inj]; exact h1
     obtain rfl : ts = #[t] := by rw [<- Array.toList_inj]; exact h2
     exact seClG_sound h hS hA
   · exact h.elim
 · exact h.elim
end
end Go.SE
namespace Go.SE
open Go.RowKit
inductive CK where
 | g
 | sym
 | ro
 | rk
 | hd
 | hg
 | st
 | val (b : Bool)
 | lend (ids : List Nat) (res : RSh) (ents : List ESh)
 | lendT (ts : List Nat) (res : RSh) (ents : List ESh)
 | cs (l : List Int)
def ckOf : List (Nat × CK) -> Option Tmp -> Option CK
 | _, none => none
 | [], _ => none
 | (i, k) :: r, some d => bif Nat.beq i d then some k else ckOf r (some d)
inductive Kd where
 | quiet | eff | call | map
def kindOf (P : Program) : Op -> Kd
 | .box _ _ | .alloc _ | .buildSlice _ _ _ | .makeSlice _ _ _ | .store _ _ _ => .eff
 | .makeMap _ _ | .insert _ _ _ _ | .mapUpdate _ _ _ _ | .range _ _ | .next _ _ | .entry _ => .map
 | .convert _ dst _ => match P.underlying dst with
   | some (.slice _) => .eff
   | _ => .quiet
 | .call c => match c.callee with
   | .builtin .append => .eff
   | .builtin .copy => .eff
   | .builtin .clear => .eff
   | .builtin _ => .quiet
   | _ => .call
 | _ => .quiet
def symS (s : St) (o : Op) : St :=
 match o with
 | .load _ x => match idOf (ev s x) with
   | [id] => match s.H[id]? with
     | some ⟨.cells cs el, nm⟩ => match mapV cs with
       | some xs => { s with H := s.H.set id ⟨.vec xs el, nm⟩ }
       | none => s
     | _ => s
   | _ => s
 | _ => s
inductive QK where
 | plain | sym | g
def qkOf : Option CK -> QK
 | some .sym => .sym
 | some .g => .g
 | _ => .plain
def isSt : Option CK -> Bool
 | some .st => true
 | _ => false
def stOf (A : List (Nat × CK)) (o : Op) : Option (TypeId × Operand × Operand) :=
 match o with
 | .store t (.tmp d) x => match ckOf A (some d) with
   | some .st => some (t, .tmp d, x)
   | _ => none
 | _ => none
theorem stOf_eq {A : List (Nat × CK)} {o : Op} {t : TypeId} {ad x : Operand} (h : stOf A o = some (t, ad, x)) : o = .store t ad x := by
 unfold stOf at h
 split at h
 · split at h
   · cases h; rfl
   · cases h
 · cases h
def gbOf (A : List (Nat × CK)) (o : Oper) : Bool :=
 match o.op with
 | .call c => match c.callee, c.args.toList with
   | .builtin .copy, _ => isSt (ckOf A o.dst)
   | .builtin .append, _ => isSt (ckOf A o.dst)
   | .builtin .clear, [.tmp d] => isSt (ckOf A (some d))
   | _, _ => false
 | _ => false
def oneOf (i : Int) : List Int -> Prop
 | [] => False
 | [j] => i = j
 | j :: r => i = j \/ oneOf i r
def casesL (i : Int) (F : Int -> Prop) : List Int -> Prop
 | [] => True
 | [j] => i = j -> F j
 | j :: r => (i = j -> F j) /\ casesL i F r
theorem casesL_at {i : Int} {F : Int -> Prop} : ∀ {l : List Int}, oneOf i l -> casesL i F l -> F i
 | [], h, _ => h.elim
 | [j], h, hc => by
   have h : i = j := h
   subst h; exact hc rfl
 | j :: k :: r, h, hc => by
   rcases h with h | h
   · subst h; exact hc.1 rfl
   · exact casesL_at h hc.2
def caseK (c : Option CK) (sv : SV) (F : SV -> Prop) : Prop :=
 match c with
 | some (.cs l) => match sv with
   | .v (.int k i) => oneOf i l /\ casesL i (fun j => F (.v (.int k j))) l
   | _ => False
 | _ => F sv
theorem caseK_at {c : Option CK} {sv : SV} {F : SV -> Prop} (h : caseK c sv F) : F sv := by
 unfold caseK at h
 split at h
 · split at h
   · exact casesL_at (F := fun j => F (.v (.int _ j))) h.1 h.2
   · exact h.elim
 · exact h
def refsTs (s : St) : List Nat -> List Nat
 | [] => []
 | t :: r => match s.tm[t]? with
   | some sv => refsOf sv ++ refsTs s r
   | none => refsTs s r
def seO (P : Program) (A : List (Nat × CK)) (s : St) (o : Oper) (K : St -> Prop) : Prop :=
 match kindOf P o.op with
 | .quiet => match qkOf (ckOf A o.dst) with
   | .plain => seQ P s o.op fun sv => caseK (ckOf A o.dst) sv fun sv => K (putS s o.dst sv)
   | .sym => seQ P (symS s o.op) o.op fun sv => K (putS (symS s o.op) o.dst sv)
   | .g => seQ P { s with I := s.G } o.op fun sv => K (putS s o.dst sv)
 | .eff => match gbOf A o with
  | true => seGB P s o.op fun sv s' => K (putS s' o.dst sv)
  | false => match stOf A o.op with
   | none => match qkOf (ckOf A o.dst) with
     | .sym => seEV P s o.op fun sv s' => K (putS s' o.dst sv)
     | _ => seE P s o.op fun sv s' => K (putS s' o.dst sv)
   | some (t, ad, x) => seSG P s t (ev s ad) (ev s x) fun s' => K (putS s' o.dst (.v undef))
 | .map => seM P s o.op fun sv s' => K (putS s' o.dst sv)
 | .call => match o.op with
   | .call c => match ckOf A o.dst with
     | some .g => seCG P s c o.type fun sv s' => K (putS s' o.dst sv)
     | some (.lend ids res ents) => seLend P s c ids res ents fun sv s' => K (putS s' o.dst sv)
     | some (.lendT ts res ents) => seLend P s c (refsTs s ts) res ents fun sv s' => K (putS s' o.dst sv)
     | some .sym => False
     | some .hd => seC P s c o.type fun sv s' => K (putS s' o.dst sv)
     | some .hg => seCG P s c o.type fun sv s' => K (putS s' o.dst sv)
     | some .st => False
     | some (.val _) => False
     | some (.cs _) => False
     | some .ro => seRO P s c o.type fun sv s' => K (putS s' o.dst sv)
     | some .rk => seRK P s c o.type fun sv s' => K (putS s' o.dst sv)
     | none => seC P s c o.type fun sv s' => K (putS s' o.dst sv)
   | _ => False
def modsC (P : Program) (A : List (Nat × CK)) (s : St) (o : Oper) : List Nat :=
 match kindOf P o.op with
 | .call => match ckOf A o.dst with
   | some (.lend ids _ _) => ids
   | some (.lendT ts _ _) => refsTs s ts
   | _ => modsOf s o.op
 | _ => modsOf s o.op
def hdIds (A : List (Nat × CK)) (s : St) (o : Oper) : List Nat :=
 match ckOf A o.dst with
 | some .hd => match o.op with
   | .buildSlice _ _ els => refsOfL (els.toList.map fun p => ev s p.2)
   | .convert _ _ x => refsOfL [ev s x]
   | .call c => refsOfL (c.args.toList.map (ev s))
   | _ => []
 | some .hg => match o.op with
   | .call c => refsOfL (c.args.toList.map (ev s))
   | _ => []
 | some .st => match o.op with
   | .call c => refsOfL (c.args.toList.map (ev s))
   | _ => match stOf A o.op with
     | some (_, _, x) => refsOfL [ev s x]
     | none => []
 | _ => match stOf A o.op with
   | some (_, _, x) => refsOfL [ev s x]
   | none => []
def seOps (P : Program) (A : List (Nat × CK)) (ops : Array Oper) : List Oper -> St -> (St -> Prop) -> Prop
 | [], s, K => K s
 | o :: r, s, K => match o.guard with
   | none => hand P 100 (hdIds A s o) s fun s => seO P A s o fun s' => seOps P A ops r s' K
   | some (j, want) => match (ops[j]?).bind (·.dst) with
     | some d => match s.tm[d]? with
       | some (.v (.bool t)) => Br t
          (match want with
            | true => hand P 100 (hdIds A { s with tm := s.tm.set d (.v (.bool true)) } o) { s with tm := s.tm.set d (.v (.bool true)) } fun s => seO P A s o fun s' => seOps P A ops r s' K
            | false => seOps P A ops r (putS { s with tm := s.tm.set d (.v (.bool true)) } o.dst (.v undef)) K)
          (match want with
            | false => hand P 100 (hdIds A { s with tm := s.tm.set d (.v (.bool false)) } o) { s with tm := s.tm.set d (.v (.bool false)) } fun s => seO P A s o fun s' => seOps P A ops r s' K
            | true => seOps P A ops r (putS { s with tm := s.tm.set d (.v (.bool false)) } o.dst (.v undef)) K)
       | some (.v (.tuple _)) => seOps P A ops r (putS s o.dst (.v undef)) K
       | _ => False
     | none => False
section
variable {P : Program} {c : Ctx} {e : Env} {s : St} {w : World} {a : Act} {r : Option Nat}
theorem Evo.more {s' : St} {e' : Env} {w' : World} (h : Evo true [] s e w s' e' w') (mods : List Nat) : Evo true mods s e w s' e' w' := by
 refine ⟨fun b hb hg _ => h.heap b hb hg (fun _ _ h => by simp at h), h.size, fun id hid _ => h.same id hid (by simp), fun id x' hid hm h1 h2 hn => ?_, fun id x' h1 h2 h3 hn => ?_, h.len, h.live, h.gN, h.gEq, h.rd⟩
 · obtain ⟨a1, _, a3⟩ := h.same id hid (by simp)
   obtain ⟨x, hx, hal⟩ := h.live id x' hid h1 h2;exact .inr ⟨id, x, hm, hx, hal, a3.trans hn, a1.symm⟩
 · rcases h.new id x' h1 h2 h3 hn with h4 | ⟨j, _, hj, _⟩
   · exact .inl h4
   · simp at hj
theorem putS_H (s : St) (d : Option Tmp) (sv : SV) : (putS s d sv).H = s.H := by cases d <;> rfl
theorem putS_G (s : St) (d : Option Tmp) (sv : SV) : (putS s d sv).G = s.G := by cases d <;> rfl
theorem Evo.put {gm : Bool} {mods : List Nat} {s s' : St} {e e' : Env} {w w' : World} (h : Evo gm mods s e w s' e' w') (d : Option Tmp) (sv : SV) : Evo gm mods s e w (putS s' d sv) e' w' :=
 ⟨h.heap, h.size, h.same, by rw [putS_H]; exact h.mod, by rw [putS_H]; exact h.new, by rw [putS_H]; exact h.len, by rw [putS_H]; exact h.live, by rw [putS_G]; exact h.gN, by rw [putS_G]; exact h.gEq, by rw [putS_I]; exact h.rd⟩
theorem SatX.put (hS : SatX c e s w) (d : Option Tmp) (sv : SV) : SatX c e (putS s d sv) w :=
 ⟨hS.toSat.put d sv, by rw [putS_G]; exact hS.gIn, by rw [putS_G, putS_I]; exact hS.gI, by rw [putS_G, putS_H]; exact hS.gOwn⟩
theorem mapV_holds {e : Env} {id : Nat} {h : Nat -> Option Obj} {cs : List SV} {xs : List Value} {el : TypeId} (hx : mapV cs = some xs) (H : holds e id h (.cells cs el)) : holds e id h (.vec xs el) := by
 obtain ⟨h0, c, h1, h2, h3⟩ := H;refine ⟨h0, ?_⟩;rw [h1];obtain ⟨x2, x3⟩ := mapV_den (e := e) hx;have hl := mapV_length hx
 have : c = xs.toArray := by
  apply Array.ext_getElem?;intro k
  by_cases hk : k < cs.length
  · have hkk := List.getElem?_eq_getElem hk
    rw [h3 k _ hkk (x3 _ (List.mem_of_getElem? hkk)), <- x2];simp [hkk]
  · rw [Array.getElem?_eq_none (by omega), Array.getElem?_eq_none (by simp; omega)]
 rw [this]
theorem SatX.setE (hS : SatX c e s w) {id : Nat} {x x' : Ent} (hx : s.H[id]? = some x) (hal : alive x.obj = true) (hnm : x'.name = x.name)
 (hh : holds e id (fun b => w.heap[b]?) x'.obj) : SatX c e { s with H := s.H.set id x' } w := by
 have back : ∀ {j : Nat} {y : Ent}, (s.H.set id x')[j]? = some y -> alive y.obj = true -> ∃ z, s.H[j]? = some z /\ alive z.obj = true /\ z.name = y.name := by
  intro j y hy hay
  rcases getElem?_set' hy with ⟨rfl, rfl, _⟩ | ⟨_, hy⟩
  · exact ⟨x, hx, hal, hnm.symm⟩
  · exact ⟨y, hy, hay, rfl⟩
 refine ⟨⟨hS.same, hS.size, hS.I, hS.hf, hS.old, fun j y hy hay => ?_, fun i j y z hy hz hay haz hi hj hne => ?_, fun j y b hy hb => ?_⟩, hS.gIn, hS.gI, fun j y hy hay hn => ?_⟩
 · rcases getElem?_set' hy with ⟨rfl, rfl, _⟩ | ⟨_, hy⟩
   · exact ⟨hh, (hS.owned _ x hx hal).2⟩
   · exact hS.owned j y hy hay
 · obtain ⟨y', h1, h2, _⟩ := back hy hay
   obtain ⟨z', h3, h4, _⟩ := back hz haz;exact hS.apart i j y' z' h1 h3 h2 h4 hi hj hne
 · rcases getElem?_set' hy with ⟨rfl, rfl, _⟩ | ⟨_, hy⟩
   · exact hS.names _ x b hx (hnm ▸ hb)
   · exact hS.names j y b hy hb
 · obtain ⟨y', h1, h2, _⟩ := back hy hay
   exact hS.gOwn j y' h1 h2 hn
theorem symS_tm (s : St) (o : Op) : (symS s o).tm = s.tm /\ (symS s o).I = s.I /\ (symS s o).G = s.G /\ (symS s o).marks = s.marks /\ (symS s o).H.length = s.H.length := by
 unfold symS;split
 · split
   · split
     · split
       · simp
       · simp
     · simp
   · simp
 · simp
theorem symS_alive {s : St} {o : Op} {id : Nat} {x : Ent} (h : (symS s o).H[id]? = some x) (hal : alive x.obj = true) : ∃ y, s.H[id]? = some y /\ alive y.obj = true := by
 unfold symS at h
 split at h
 · split at h
   · split at h
     · rename_i hH
       split at h
       · rcases getElem?_set' h with ⟨rfl, _, _⟩ | ⟨_, h⟩
         · exact ⟨_, hH, rfl⟩
         · exact ⟨_, h, hal⟩
       · exact ⟨_, h, hal⟩
     · exact ⟨_, h, hal⟩
   · exact ⟨_, h, hal⟩
 · exact ⟨_, h, hal⟩
theorem symS_satX (hS : SatX c e s w) (o : Op) : SatX c e (symS s o) w := by
 unfold symS;split
 · split
   · split
     · rename_i hH
       split
       · rename_i hx
         exact hS.setE hH rfl rfl (mapV_holds hx (hS.owned _ _ hH rfl).1)
       · exact hS
     · exact hS
   · exact hS
 · exact hS
theorem symS_satA (hA : SatA e s a) (o : Op) : SatA e (symS s o) a := by
 obtain ⟨h1, _, _, h2, _⟩ := symS_tm s o
 exact ⟨by rw [h1]; exact hA.size, by rw [h1]; exact hA.tm, by rw [h2]; exact hA.defers⟩
theorem seO_sound {A : List (Nat × CK)} {o : Oper} {K : St -> Prop} (h : seO P A s o K) (hS : SatX c e s w) (hA : SatA e s a) {next : Act -> World -> Prop} {Q : Exit -> Act -> World -> Prop}
 (hn : ∀ (e' : Env) (s' : St) (a' : Act) (w' : World), K s' -> SatX c e' s' w' -> SatA e' s' a' -> s.I.le s'.I -> s'.tm.length = s.tm.length -> (∃ gm, Evo gm (modsC P A s o) s e w s' e' w') -> next a' w') :
 o.wpIn (Fr r) 0 P a w next Q := by
 obtain ⟨d, op, ty, pos, af, g⟩ := o;unfold seO at h;unfold modsC at hn
 split at h
 · have hdf : ∀ cl, op ≠ .defer cl := by
    intro cl hop;subst hop;simp only [seQ] at h
    split at h <;> exact h.elim
   split at h
   · obtain ⟨sv, hK, hr⟩ := seQ_sound (c := c) h
     have hK := caseK_at hK;obtain ⟨x, hx, hd⟩ := hr e a w hS.toSat hA
     exact wpIn_value hdf (hx d ty pos af g) (hn e _ _ w hK (hS.put _ _) (hA.put _ hd) (by rw [putS_I]; exact Mem.le_refl _) (putS_len ..) ⟨false, Evo.still (by rw [putS_H]) (fun id x' h1 h2 => ⟨x', by rw [putS_H] at h1; exact h1, h2⟩) (fun b _ h0 => .inl (by rw [putS_I]; exact h0)) (putS_G ..)⟩)
   · have hS2 := symS_satX hS op
     have hA2 := symS_satA hA op;obtain ⟨h1, h2, h3, _, h5⟩ := symS_tm s op;obtain ⟨sv, hK, hr⟩ := seQ_sound (c := c) h;obtain ⟨x, hx, hd⟩ := hr e a w hS2.toSat hA2
     exact wpIn_value hdf (hx d ty pos af g) (hn e _ _ w hK (hS2.put _ _) (hA2.put _ hd) (by rw [putS_I, h2]; exact Mem.le_refl _) ((putS_len ..).trans (by rw [h1])) ⟨false, Evo.still (by rw [putS_H, h5]) (fun id x' g1 g2 => by rw [putS_H] at g1; exact symS_alive g1 g2) (fun b _ h0 => .inl (by rw [putS_I, h2]; exact h0)) ((putS_G ..).trans h3)⟩)
   · obtain ⟨sv, hK, hr⟩ := seQ_sound (c := c) h
     obtain ⟨x, hx, hd⟩ := hr e a w hS.lookG ⟨hA.size, hA.tm, hA.defers⟩
     exact wpIn_value hdf (hx d ty pos af g) (hn e _ _ w hK (hS.put _ _) (hA.put _ hd) (by rw [putS_I]; exact Mem.le_refl _) (putS_len ..) ⟨false, Evo.still (by rw [putS_H]) (fun id x' h1 h2 => ⟨x', by rw [putS_H] at h1; exact h1, h2⟩) (fun b _ h0 => .inl (by rw [putS_I]; exact h0)) (putS_G ..)⟩)
 · rename_i hk
   simp only [hk] at hn
   have hdf : ∀ cl, op ≠ .defer cl := by
    intro cl hop;subst hop;simp [kindOf] at hk
   have both : (∃ sv s', K (putS s' d sv) /\ EffOk P op c s a w sv s' e) -> Oper.wpIn (Fr r) 0 P ⟨d, op, ty, pos, af, g⟩ a w next Q := by
    rintro ⟨sv, s', hK, e', w', x, hrun, hS', hA', hlen, hle, hd, hev⟩;have hX := hS.step hS' hev
    rcases hrun d ty pos af g with hrun2 | ⟨hrun2, rfl⟩
    · exact wpIn_value hdf hrun2 (hn e' _ _ w' hK (hX.put _ _) (hA'.put _ hd) (by rw [putS_I]; exact hle) ((putS_len ..).trans hlen) ⟨false, hev.put _ _⟩)
    · exact wpIn_skip' hdf hrun2 (hn e' _ _ w' hK (hX.put _ _) (hA'.put _ hd) (by rw [putS_I]; exact hle) ((putS_len ..).trans hlen) ⟨false, hev.put _ _⟩)
   split at h
   · obtain ⟨sv, s', w', hK, hX, hA', hI, htm, hev, hrun⟩ := seGB_sound h hS hA
     exact wpIn_value hdf (hrun d ty pos af g) (hn e _ _ w' hK (hX.put _ _) (hA'.put _ (.inr rfl)) (by rw [putS_I, hI]; exact Mem.le_refl _) ((putS_len ..).trans (by rw [htm])) ⟨true, (hev.more _).put _ _⟩)
   split at h
   · split at h
     · exact both (seEV_sound h hS.toSat hA)
     · exact both (seE_sound h hS.toSat hA)
   · rename_i t ad x hst
     have hop := stOf_eq hst
     simp only at hop
     subst hop;obtain ⟨s', w', hK, hX, hA', hI, htm, hev, hrun⟩ := seSG_sound h hS hA
     exact wpIn_skip' hdf (hrun d ty pos af g) (hn e _ _ w' hK (hX.put _ _) (hA'.put _ (.inr (by simp [den]))) (by rw [putS_I, hI]; exact Mem.le_refl _) ((putS_len ..).trans (by rw [htm])) ⟨true, (hev.more _).put _ _⟩)
 · rename_i hk
   simp only [hk] at hn
   have hdf : ∀ cl, op ≠ .defer cl := by
    intro cl hop;subst hop;simp only [seM] at h
   obtain ⟨sv, s', hK, e', w', x, hrun, hS', hA', hlen, hle, hd, hev⟩ := seM_sound h hS.toSat hA;have hX := hS.step hS' hev
   rcases hrun d ty pos af g with hrun2 | ⟨hrun2, rfl⟩
   · exact wpIn_value hdf hrun2 (hn e' _ _ w' hK (hX.put _ _) (hA'.put _ hd) (by rw [putS_I]; exact hle) ((putS_len ..).trans hlen) ⟨false, hev.put _ _⟩)
   · exact wpIn_skip' hdf hrun2 (hn e' _ _ w' hK (hX.put _ _) (hA'.put _ hd) (by rw [putS_I]; exact hle) ((putS_len ..).trans hlen) ⟨false, hev.put _ _⟩)
 · rename_i hk
   simp only [hk] at hn
   simp only at h
   split at h
   · rename_i cl
     cases hck : ckOf A d with
     | none =>
       simp only [hck] at h hn
       exact seC_sound (o := ⟨d, .call cl, ty, pos, af, g⟩) rfl h hS.toSat hA fun sv s' x w' hK hS' hA' hle hlen hx hev =>
        hn e _ _ w' hK ((hS.step hS' (hev [])).put _ _) (hA'.put _ (.inr hx)) (by rw [putS_I]; exact hle) ((putS_len ..).trans hlen) ⟨false, (hev _).put _ _⟩
     | some ck =>
       cases ck with
       | g =>
         simp only [hck] at h hn
         exact seCG_sound (o := ⟨d, .call cl, ty, pos, af, g⟩) rfl h hS hA fun sv s' x w' hK hS' hA' hle hlen hx hev =>
          hn e _ _ w' hK (hS'.put _ _) (hA'.put _ (.inr hx)) (by rw [putS_I]; exact hle) ((putS_len ..).trans hlen) ⟨true, (hev.more _).put _ _⟩
       | hg =>
         simp only [hck] at h hn
         exact seCG_sound (o := ⟨d, .call cl, ty, pos, af, g⟩) rfl h hS hA fun sv s' x w' hK hS' hA' hle hlen hx hev =>
          hn e _ _ w' hK (hS'.put _ _) (hA'.put _ (.inr hx)) (by rw [putS_I]; exact hle) ((putS_len ..).trans hlen) ⟨true, (hev.more _).put _ _⟩
       | sym =>
         simp only [hck] at h
       | cs l =>
         simp only [hck] at h
       | hd =>
         simp only [hck] at h hn
         exact seC_sound (o := ⟨d, .call cl, ty, pos, af, g⟩) rfl h hS.toSat hA fun sv s' x w' hK hS' hA' hle hlen hx hev =>
          hn e _ _ w' hK ((hS.step hS' (hev [])).put _ _) (hA'.put _ (.inr hx)) (by rw [putS_I]; exact hle) ((putS_len ..).trans hlen) ⟨false, (hev _).put _ _⟩
       | st =>
         simp only [hck] at h
       | val b =>
         simp only [hck] at h
       | ro =>
         simp only [hck] at h hn
         exact seRO_sound (o := ⟨d, .call cl, ty, pos, af, g⟩) rfl h hS.toSat hA fun sv s' x w' hK hS' hA' hle hlen hx hev =>
          hn e _ _ w' hK ((hS.step hS' (hev [])).put _ _) (hA'.put _ (.inr hx)) (by rw [putS_I]; exact hle) ((putS_len ..).trans hlen) ⟨false, (hev _).put _ _⟩
       | rk =>
         simp only [hck] at h hn
         exact seRK_sound (o := ⟨d, .call cl, ty, pos, af, g⟩) rfl h hS.toSat hA fun sv s' x w' hK hS' hA' hle hlen hx hev =>
          hn e _ _ w' hK ((hS.step hS' (hev [])).put _ _) (hA'.put _ (.inr hx)) (by rw [putS_I]; exact hle) ((putS_len ..).trans hlen) ⟨false, (hev _).put _ _⟩
       | lend ids res ents =>
         simp only [hck] at h hn
         exact seLend_sound (o := ⟨d, .call cl, ty, pos, af, g⟩) rfl h hS hA fun sv e' s' x w' hK hS' hA' hle hlen hx hev =>
          hn e' _ _ w' hK (hS'.put _ _) (hA'.put _ (.inr hx)) (by rw [putS_I]; exact hle) ((putS_len ..).trans hlen) ⟨false, hev.put _ _⟩
       | lendT ts res ents =>
         simp only [hck] at h hn
         exact seLend_sound (o := ⟨d, .call cl, ty, pos, af, g⟩) rfl h hS hA fun sv e' s' x w' hK hS' hA' hle hlen hx hev =>
          hn e' _ _ w' hK (hS'.put _ _) (hA'.put _ (.inr hx)) (by rw [putS_I]; exact hle) ((putS_len ..).trans hlen) ⟨false, hev.put _ _⟩
   · exact h.elim
theorem SatA.lit (hA : SatA e s a) {d : Nat} {t : Bool} (h : s.tm[d]? = some (.v (.bool t))) : SatA e { s with tm := s.tm.set d (.v (.bool t)) } a := by
 refine ⟨by simpa using hA.size, fun k y hk hj => ?_, hA.defers⟩
 rcases getElem?_set' hk with ⟨rfl, rfl, hlt⟩ | ⟨hne, hk⟩
 · exact hA.tm _ _ h rfl
 · exact hA.tm k y hk hj
theorem SatX.lit (hS : SatX c e s w) (l : List SV) : SatX c e { s with tm := l } w := ⟨⟨hS.same, hS.size, hS.I, hS.hf, hS.old, hS.owned, hS.apart, hS.names⟩, hS.gIn, hS.gI, hS.gOwn⟩
theorem Sat.lit (hS : Sat c e s w) (l : List SV) : Sat c e { s with tm := l } w := ⟨hS.same, hS.size, hS.I, hS.hf, hS.old, hS.owned, hS.apart, hS.names⟩
theorem seOps_sound {A : List (Nat × CK)} {ops : Array Oper} {Q : Exit -> Act -> World -> Prop} : ∀ {l : List Oper} {idx : List Nat} {s : St} {e : Env} {a : Act} {w : World} {K : St -> Prop}, idx.map (ops[·]?) = l.map some -> seOps P A ops l s K ->
 SatX c e s w -> SatA e s a -> (∀ (e' : Env) (s' : St) (a' : Act) (w' : World), K s' -> SatX c e' s' w' -> SatA e' s' a' -> s.I.le s'.I -> s'.tm.length = s.tm.length -> Q .normal a' w') ->
 wpOpsIn (Fr r) 0 P ops Q idx a w
 | [], idx, s, e, a, w, K, hidx, h, hS, hA, hn => by
   simp only [List.map_nil, List.map_eq_nil_iff] at hidx;subst hidx;exact hn e s a w h hS hA (Mem.le_refl _) rfl
 | o :: rest, idx, s, e, a, w, K, hidx, h, hS, hA, hn => by
   cases idx with
   | nil => simp at hidx
   | cons i idx =>
     simp only [List.map_cons, List.cons.injEq] at hidx;obtain ⟨hi, hidx⟩ := hidx
     have ex : ∀ {s1 : St}, SatA e s1 a -> SatX c e s1 w -> s1.tm.length = s.tm.length -> s1.I = s.I -> (hand P 100 (hdIds A s1 o) s1 fun s1 => seO P A s1 o fun s' => seOps P A ops rest s' K) -> o.wpIn (Fr r) 0 P a w (wpOpsIn (Fr r) 0 P ops Q idx) Q := by
      intro s1 hA1 hS1 hl1 hI1 h0;obtain ⟨s3, h1, hS0, hA3, hle1, hlen1, hls⟩ := hand_sound h0 hS1.toSat hA1
      refine seO_sound h1 (hls.x hS1 hS0) hA3 fun e' s' a' w' hK hS' hA' hle hlen _ => seOps_sound hidx hK hS' hA' fun e2 s2 a2 w2 hK2 hS2 hA2 hle2 hlen2 =>
       hn e2 s2 a2 w2 hK2 hS2 hA2 (Mem.le_trans (hI1 ▸ hle1) (Mem.le_trans hle hle2)) (hlen2.trans (hlen.trans (hlen1.trans hl1)))
     have sk : ∀ {s1 : St}, SatA e s1 a -> SatX c e s1 w -> s1.tm.length = s.tm.length -> s1.I = s.I -> seOps P A ops rest (putS s1 o.dst (.v undef)) K -> wpOpsIn (Fr r) 0 P ops Q idx (a.put o.dst undef) w := by
      intro s1 hA1 hS1 hl1 hI1 h1
      refine seOps_sound hidx h1 (hS1.put _ _) (hA1.put _ (.inr (by simp [den]))) fun e2 s2 a2 w2 hK2 hS2 hA2 hle2 hlen2 =>
       hn e2 s2 a2 w2 hK2 hS2 hA2 (by rw [putS_I, hI1] at hle2; exact hle2) (hlen2.trans ((putS_len ..).trans hl1))
     simp only [wpOpsIn, hi];simp only [seOps] at h
     split at h
     · rename_i hg
       rw [if_pos (by simp [Region.wanted, hg])]
       obtain ⟨s1, h, hS0, hA1, hle1, hlen1, hls⟩ := hand_sound h hS.toSat hA
       exact seO_sound h (hls.x hS hS0) hA1 fun e' s' a' w' hK hS' hA' hle hlen _ => seOps_sound hidx hK hS' hA' fun e2 s2 a2 w2 hK2 hS2 hA2 hle2 hlen2 =>
        hn e2 s2 a2 w2 hK2 hS2 hA2 (Mem.le_trans hle1 (Mem.le_trans hle hle2)) (hlen2.trans (hlen.trans hlen1))
     · rename_i j want hg
       split at h
       · rename_i d hd
         have hw : Region.wanted o (yielded ops a.tmps) = (yielded ops a.tmps j == some want) := by simp [Region.wanted, hg]
         split at h
         · rename_i t ht
           have hy : yielded ops a.tmps j = some t := by
            have := hA.tm d _ ht rfl;simp only [den] at this;unfold yielded;rw [hd];simp [this]
           rw [hw, hy]
           cases t with
           | true =>
             simp only [Br_true] at h
             cases want with
             | true => rw [if_pos (by rfl)]; exact ex (hA.lit ht) (hS.lit _) (by simp) rfl h
             | false => rw [if_neg (by simp)]; exact ⟨fun _ _ => trivial, sk (hA.lit ht) (hS.lit _) (by simp) rfl h⟩
           | false =>
             simp only [Br_false] at h
             cases want with
             | false => rw [if_pos (by rfl)]; exact ex (hA.lit ht) (hS.lit _) (by simp) rfl h
             | true => rw [if_neg (by simp)]; exact ⟨fun _ _ => trivial, sk (hA.lit ht) (hS.lit _) (by simp) rfl h⟩
         · rename_i vs ht
           have hy : yielded ops a.tmps j = none := by
            have := hA.tm d _ ht rfl;simp only [den] at this;unfold yielded;rw [hd];simp [this]
           rw [hw, hy]
           rw [if_neg (by simp)]
           exact ⟨fun _ _ => trivial, sk hA hS rfl rfl h⟩
         · exact h.elim
       · exact h.elim
end
end Go.SE
namespace Go.SE
open Go.RowKit
inductive TA where
 | keep
 | kv
 | sh (s : Sh)
 | agg (l : List Sh)
 | row (id : Nat)
inductive EA where
 | keep | row | vec | iter | mp
 | cells (l : List TA)
structure Head where
 tms : List (Nat × TA)
 ents : List (Nat × EA)
 pre : List (Nat × Nat × TypeId)
 inv : List Value -> List (List Value) -> Mem -> Mem -> Prop
 meas : List Value -> List (List Value) -> Nat
def rowLen (H : List Ent) (id : Nat) : Nat :=
 match H[id]? with
 | some ⟨.row xs sz _, _⟩ => if Nat.beq sz 1 then xs.length else xs.length / sz
 | _ => 0
def encI (a : Array Nat) : List Value := a.toList.map fun n : Nat => .int .i64 (n : Int)
def natV : Value -> Nat
 | .int _ n => n.toNat
 | _ => 0
def decI (l : List Value) : Array Nat := (l.map natV).toArray
def posL : List Value -> Nat
 | v :: _ => natV v
 | [] => 0
theorem decI_encI (a : Array Nat) : decI (encI a) = a := by
 simp only [decI, encI, List.map_map]
 have : (natV ∘ fun n : Nat => Value.int .i64 n) = id := by funext n; simp [natV]
 rw [this]; simp
def encML : List MapEntry -> List Value
 | [] => []
 | e :: r => e.key :: e.val :: .int .i64 (e.born : Int) :: encML r
def decML : List Value -> List MapEntry
 | k :: v :: b :: r => ⟨k, v, natV b⟩ :: decML r
 | _ => []
def encM (es : Array MapEntry) (clk : Nat) : List Value := .int .i64 (clk : Int) :: encML es.toList
def decM : List Value -> Array MapEntry
 | _ :: r => (decML r).toArray
 | [] => #[]
theorem decML_encML : ∀ l : List MapEntry, decML (encML l) = l
 | [] => rfl
 | e :: r => by simp [encML, decML, decML_encML r, natV]
theorem decM_encM (es : Array MapEntry) (clk : Nat) : decM (encM es clk) = es := by simp [encM, decM, decML_encML]
theorem posL_encM (es : Array MapEntry) (clk : Nat) : posL (encM es clk) = clk := by simp [encM, posL, natV]
def newE (s : St) (id : Nat) (xs : List Value) (ea : EA) : Option Ent :=
 match ea, s.H[id]? with
 | .row, some ⟨.row _ sz el, _⟩ => some ⟨.row xs sz el, none⟩
 | .vec, some ⟨.vec _ el, nm⟩ => some ⟨.vec xs el, nm⟩
 | .vec, some ⟨.cells _ el, nm⟩ => some ⟨.vec xs el, nm⟩
 | .iter, some ⟨.raw (.mapIter m since _ c0), nm⟩ => some ⟨.raw (.mapIter m since (decI xs) c0), nm⟩
 | .iter, some ⟨.raw (.stringIter q _), nm⟩ => some ⟨.raw (.stringIter q (posL xs)), nm⟩
 | .mp, some ⟨.raw (.map _ _), nm⟩ => some ⟨.raw (.map (decM xs) (posL xs)), nm⟩
 | _, _ => none
structure Pick where
 rows : Nat -> EA -> (List Value -> Prop) -> Prop
 keepE : Nat -> Prop -> Prop
 elE : Nat -> Prop -> Prop
 val : SV -> Sh -> (Value -> SV -> Prop) -> Prop
 vagg : SV -> List Sh -> (Value -> SV -> Prop) -> Prop
 keep : SV -> SV -> Prop -> Prop
 rowL : SV -> Nat -> Nat -> Prop -> Prop
def headT (Q : Pick) (H : List Ent) (old now : SV) (ta : TA) (F : List Value -> SV -> Prop) : Prop :=
 match ta with
 | .keep => Q.keep old now (F [] old)
 | .kv => Q.keep old now (F (match valS old with | some v => [v] | none => []) old)
 | .sh sh => Q.val now sh fun v sv => F [v] sv
 | .agg l => Q.vagg now l fun v sv => F [v] sv
 | .row id => Q.rowL now id (rowLen H id) (F [] (.rsl id (rowLen H id)))
def head1 (Q : Pick) (s : St) : List (Nat × EA) -> List Ent -> List (List Value) -> (List Ent -> List (List Value) -> Prop) -> Prop
 | [], H, xss, F => F H xss
 | (id, ea) :: r, H, xss, F => match ea with
   | .keep => match s.H[id]? with
     | some x => Q.keepE id (head1 Q s r (H.set id x) xss F)
     | none => False
   | .cells _ => head1 Q s r H xss F
   | ea => Q.rows id ea fun xs => match newE s id xs ea with
     | some x => head1 Q s r (H.set id x) (xss ++ [xs]) F
     | none => False
def head2 (Q : Pick) (s now : St) (H : List Ent) : List (Nat × TA) -> List SV -> List Value -> (List SV -> List Value -> Prop) -> Prop
 | [], tm, vals, F => F tm vals
 | (t, ta) :: r, tm, vals, F => headT Q H ((s.tm[t]?).getD .junk) ((now.tm[t]?).getD .junk) ta fun vs sv => head2 Q s now H r (tm.set t sv) (vals ++ vs) F
def headC (Q : Pick) (H : List Ent) : List SV -> List SV -> List TA -> List SV -> List Value -> (List SV -> List Value -> Prop) -> Prop
 | o :: os, n :: ns, ta :: r, acc, vals, F => headT Q H o n ta fun vs sv => headC Q H os ns r (acc ++ [sv]) (vals ++ vs) F
 | [], [], [], acc, vals, F => F acc vals
 | _, _, _, _, _, _ => False
def cellsOfE (s : St) (id : Nat) : List SV :=
 match s.H[id]? with
 | some ⟨.cells cs _, _⟩ => cs
 | _ => []
def head3 (Q : Pick) (s now : St) : List (Nat × EA) -> List Ent -> List Value -> (List Ent -> List Value -> Prop) -> Prop
 | [], H, vals, F => F H vals
 | (id, ea) :: r, H, vals, F => match ea with
   | .cells l => match s.H[id]? with
     | some ⟨.cells cs el, nm⟩ => Q.elE id (headC Q H cs (cellsOfE now id) l [] vals fun cs' vals' => head3 Q s now r (H.set id ⟨.cells cs' el, nm⟩) vals' F)
     | _ => False
   | _ => head3 Q s now r H vals F
def headS (Q : Pick) (h : Head) (s now : St) (F : List Value -> List (List Value) -> St -> Prop) : Prop :=
 head1 Q s h.ents (s.H.map fun _ => ⟨.dead, none⟩) [] fun H xss =>
  head2 Q s now H h.tms (s.tm.map fun _ => .junk) [] fun tm vals =>
   head3 Q s now h.ents H vals fun H' vals' => F vals' xss { now with tm := tm, H := H', marks := s.marks, rnd := s.rnd }
def allV1 (sh : Sh) (F : Value -> SV -> Prop) : Prop :=
 match sh with
 | .int k => ∀ n : Int, F (.int k n) (.v (.int k n))
 | .bool => ∀ b : Bool, F (.bool b) (.v (.bool b))
 | .str => ∀ q : ByteArray, F (.string q) (.v (.string q))
 | .sl => ∀ (a : Option Addr) (n c : Nat), F (.slice a n c) (.v (.slice a n c))
 | .ptr => ∀ a : Option Addr, F (.pointer a) (.v (.pointer a))
 | .map => ∀ r : Option Nat, F (.map r) (.v (.map r))
 | .other => ∀ x : Value, F x (.v x)
def allVL : List Sh -> (List Value -> List SV -> Prop) -> Prop
 | [], F => F [] []
 | sh :: r, F => allV1 sh fun v sv => allVL r fun vs svs => F (v :: vs) (sv :: svs)
def pickAll : Pick where
 rows _ _ F := ∀ xs : List Value, F xs
 keepE _ F := F
 elE _ F := F
 val _ sh F := allV1 sh F
 vagg _ l F := allVL l fun vs svs => F (.agg vs.toArray) (.agg svs)
 keep _ _ F := F
 rowL _ _ _ F := F
def shOk (sh : Sh) (x : Value) : Bool :=
 match sh, x with
 | .int k, .int k' _ => kindEq k k'
 | .bool, .bool _ => true
 | .str, .string _ => true
 | .sl, .slice _ _ _ => true
 | .ptr, .pointer _ => true
 | .map, .map _ => true
 | .other, _ => true
 | _, _ => false
def shsOk : List Sh -> List Value -> Bool
 | [], [] => true
 | sh :: r, x :: xs => shOk sh x && shsOk r xs
 | _, _ => false
def nameLe (nm nm' : Option Nat) (F : Prop) : Prop :=
 match nm, nm' with
 | none, some _ => F
 | a, b => a = b /\ F
theorem nameLe_sound {nm nm' : Option Nat} {F : Prop} (h : nameLe nm nm' F) : (∀ b, nm = some b -> nm' = some b) /\ F := by
 unfold nameLe at h
 split at h
 · exact ⟨fun b hb => (by cases hb), h⟩
 · exact ⟨fun b hb => h.1 ▸ hb, h.2⟩
def pickNow (s now : St) : Pick where
 rows id ea F := match ea, s.H[id]?, now.H[id]? with
  | .row, some ⟨.row _ sz el, _⟩, some ⟨.row xs sz' el', _⟩ => if Nat.beq sz sz' && Nat.beq el el' then F xs else False
  | .vec, some ⟨.vec _ el, nm⟩, some ⟨.vec xs el', nm'⟩ => if Nat.beq el el' then nm = nm' /\ F xs else False
  | .vec, some ⟨.cells _ el, nm⟩, some ⟨.vec xs el', nm'⟩ => if Nat.beq el el' then nm = nm' /\ F xs else False
  | .vec, some ⟨.cells _ el, nm⟩, some ⟨.cells cs el', nm'⟩ => match mapV cs with
    | some xs => if Nat.beq el el' then nm = nm' /\ F xs else False
    | none => False
  | .vec, some ⟨.vec _ el, nm⟩, some ⟨.cells cs el', nm'⟩ => match mapV cs with
    | some xs => if Nat.beq el el' then nm = nm' /\ F xs else False
    | none => False
  | .iter, some ⟨.raw (.mapIter m since _ c0), nm⟩, some ⟨.raw (.mapIter m' since' seen' c0'), nm'⟩ => (m' = m /\ since' = since /\ c0' = c0 /\ nm = nm') /\ F (encI seen')
  | .iter, some ⟨.raw (.stringIter q _), nm⟩, some ⟨.raw (.stringIter q' p'), nm'⟩ => (q' = q /\ nm = nm') /\ F [.int .i64 (p' : Int)]
  | .mp, some ⟨.raw (.map _ _), nm⟩, some ⟨.raw (.map es clk), nm'⟩ => nm = nm' /\ F (encM es clk)
  | _, _, _ => False
 keepE id F := match s.H[id]?, now.H[id]? with
  | some x, some y => y = x /\ F
  | _, _ => False
 elE id F := match s.H[id]?, now.H[id]? with
  | some ⟨.cells _ el, nm⟩, some ⟨.cells _ el', nm'⟩ => if Nat.beq el el' then nameLe nm nm' F else False
  | _, _ => False
 val x sh F := match valS x with
  | some v => if shOk sh v then F v (.v v) else False
  | none => False
 vagg x l F := match valS x with
  | some (.agg vs) => if shsOk l vs.toList then F (.agg vs.toList.toArray) (.agg (vs.toList.map .v)) else False
  | _ => False
 keep old x F := x = old /\ F
 rowL x id n F := match x with
  | .rsl id' m => if Nat.beq id id' then m = n /\ F else False
  | _ => False
structure RefH (now : St) (H : List Ent) : Prop where
 obj : ∀ (id : Nat) (x : Ent), H[id]? = some x -> alive x.obj = true -> ∃ x', now.H[id]? = some x' /\ alive x'.obj = true /\ ∀ e h, holds e id h x'.obj -> holds e id h x.obj
 name : ∀ (id : Nat) (x : Ent) (b : Nat), H[id]? = some x -> x.name = some b -> ∃ x', now.H[id]? = some x' /\ x'.name = some b
def RefV (now sv : SV) : Prop := isJunk sv = false -> isJunk now = false /\ ∀ e, den e now = den e sv
def RefT (now : St) (tm : List SV) : Prop := ∀ (t : Nat) (sv : SV), tm[t]? = some sv -> isJunk sv = false -> ∃ sv', now.tm[t]? = some sv' /\ isJunk sv' = false /\ ∀ e, den e sv' = den e sv
theorem RefH.set {now : St} {H : List Ent} (h : RefH now H) {id : Nat} {x x' : Ent} (h1 : now.H[id]? = some x') (h2 : alive x.obj = true -> alive x'.obj = true /\ ∀ e h, holds e id h x'.obj -> holds e id h x.obj)
 (h3 : ∀ b, x.name = some b -> x'.name = some b) : RefH now (H.set id x) := by
 constructor
 · intro j y hy hal
   rcases getElem?_set' hy with ⟨rfl, rfl, _⟩ | ⟨_, hy⟩
   · exact ⟨x', h1, h2 hal⟩
   · exact h.obj j y hy hal
 · intro j y b hy hb
   rcases getElem?_set' hy with ⟨rfl, rfl, _⟩ | ⟨_, hy⟩
   · exact ⟨x', h1, h3 b hb⟩
   · exact h.name j y b hy hb
theorem RefT.set {now : St} {tm : List SV} (h : RefT now tm) {t : Nat} {sv : SV} (hv : RefV ((now.tm[t]?).getD .junk) sv) : RefT now (tm.set t sv) := by
 intro k y hy hj
 rcases getElem?_set' hy with ⟨rfl, rfl, _⟩ | ⟨_, hy⟩
 · obtain ⟨h1, h2⟩ := hv hj
   cases hn : now.tm[k]? with
   | none => rw [hn] at h1; simp [isJunk] at h1
   | some sv' => simp only [hn, Option.getD_some] at h1 h2; exact ⟨sv', rfl, h1, h2⟩
 · exact h k y hy hj
theorem allV1_inst {sh : Sh} {F : Value -> SV -> Prop} (h : allV1 sh F) {v : Value} (hv : shOk sh v = true) : F v (.v v) := by
 cases sh with
 | int k =>
   cases v <;> simp only [shOk, Bool.false_eq_true] at hv
   simp only [kindEq, decide_eq_true_eq] at hv;subst hv;exact h _
 | other => exact h v
 | sl => cases v <;> simp only [shOk, Bool.false_eq_true] at hv; exact h _ _ _
 | _ => cases v <;> simp only [shOk, Bool.false_eq_true] at hv; exact h _
theorem allVL_inst : ∀ {l : List Sh} {F : List Value -> List SV -> Prop}, allVL l F -> ∀ {vs : List Value}, shsOk l vs = true -> F vs (vs.map .v)
 | [], F, h, [], _ => h
 | [], F, h, _ :: _, hv => by simp [shsOk] at hv
 | sh :: r, F, h, [], hv => by simp [shsOk] at hv
 | sh :: r, F, h, v :: vs, hv => by
   simp only [shsOk, Bool.and_eq_true] at hv;exact allVL_inst (allV1_inst h hv.1) hv.2
theorem headT_both {s now now' : SV} {s0 nowS : St} {H : List Ent} {ta : TA} {F G : List Value -> SV -> Prop} (h1 : headT (pickNow s0 nowS) H s now ta F) (h2 : headT pickAll H s now' ta G) :
 ∃ vs sv, F vs sv /\ G vs sv /\ RefV now sv := by
 cases ta with
 | keep =>
   simp only [headT, pickNow, pickAll] at h1 h2
   exact ⟨_, _, h1.2, h2, fun hj => by rw [h1.1]; exact ⟨hj, fun _ => rfl⟩⟩
 | kv =>
   simp only [headT, pickNow, pickAll] at h1 h2
   exact ⟨_, _, h1.2, h2, fun hj => by rw [h1.1]; exact ⟨hj, fun _ => rfl⟩⟩
 | sh sh =>
   simp only [headT, pickNow, pickAll] at h1 h2
   split at h1
   · rename_i v hv
     split at h1
     · rename_i hok
       obtain ⟨d1, d2⟩ := valS_den (e := ⟨fun _ => 0, fun _ => 0, fun _ => false⟩) hv
       exact ⟨_, _, h1, allV1_inst h2 hok, fun _ => ⟨d2, fun e => by rw [(valS_den (e := e) hv).1]; simp [den]⟩⟩
     · exact h1.elim
   · exact h1.elim
 | agg l =>
   simp only [headT, pickNow, pickAll] at h1 h2
   split at h1
   · rename_i vs hv
     split at h1
     · rename_i hok
       obtain ⟨d1, d2⟩ := valS_den (e := ⟨fun _ => 0, fun _ => 0, fun _ => false⟩) hv
       exact ⟨_, _, h1, allVL_inst h2 hok, fun _ => ⟨d2, fun e => by rw [(valS_den (e := e) hv).1]; simp [den, denL_v]⟩⟩
     · exact h1.elim
   · exact h1.elim
 | row id =>
   simp only [headT, pickNow, pickAll] at h1 h2
   split at h1
   · rename_i id' m
     split at h1
     · rename_i hb
       obtain rfl := Nat.eq_of_beq_eq_true hb
       exact ⟨_, _, h1.2, h2, fun _ => ⟨rfl, fun e => by rw [h1.1]⟩⟩
     · exact h1.elim
   · exact h1.elim
theorem pickNow_rows {s now : St} {id : Nat} {ea : EA} {F : List Value -> Prop} : (pickNow s now).rows id ea F = (match ea, s.H[id]?, now.H[id]? with
 | .row, some ⟨.row _ sz el, _⟩, some ⟨.row xs sz' el', _⟩ => if Nat.beq sz sz' && Nat.beq el el' then F xs else False
 | .vec, some ⟨.vec _ el, nm⟩, some ⟨.vec xs el', nm'⟩ => if Nat.beq el el' then nm = nm' /\ F xs else False
 | .vec, some ⟨.cells _ el, nm⟩, some ⟨.vec xs el', nm'⟩ => if Nat.beq el el' then nm = nm' /\ F xs else False
 | .vec, some ⟨.cells _ el, nm⟩, some ⟨.cells cs el', nm'⟩ => match mapV cs with
   | some xs => if Nat.beq el el' then nm = nm' /\ F xs else False
   | none => False
 | .vec, some ⟨.vec _ el, nm⟩, some ⟨.cells cs el', nm'⟩ => match mapV cs with
   | some xs => if Nat.beq el el' then nm = nm' /\ F xs else False
   | none => False
 | .iter, some ⟨.raw (.mapIter m since _ c0), nm⟩, some ⟨.raw (.mapIter m' since' seen' c0'), nm'⟩ => (m' = m /\ since' = since /\ c0' = c0 /\ nm = nm') /\ F (encI seen')
 | .iter, some ⟨.raw (.stringIter q _), nm⟩, some ⟨.raw (.stringIter q' p'), nm'⟩ => (q' = q /\ nm = nm') /\ F [.int .i64 (p' : Int)]
 | .mp, some ⟨.raw (.map _ _), nm⟩, some ⟨.raw (.map es clk), nm'⟩ => nm = nm' /\ F (encM es clk)
 | _, _, _ => False) := rfl
theorem pickNow_keepE {s now : St} {id : Nat} {F : Prop} : (pickNow s now).keepE id F = (match s.H[id]?, now.H[id]? with
 | some x, some y => y = x /\ F
 | _, _ => False) := rfl
theorem pickNow_elE {s now : St} {id : Nat} {F : Prop} : (pickNow s now).elE id F = (match s.H[id]?, now.H[id]? with
 | some ⟨.cells _ el, nm⟩, some ⟨.cells _ el', nm'⟩ => if Nat.beq el el' then nameLe nm nm' F else False
 | _, _ => False) := rfl
theorem head1_both {s now : St} : ∀ {l : List (Nat × EA)} {H : List Ent} {xss : List (List Value)} {F G : List Ent -> List (List Value) -> Prop}, RefH now H ->
 head1 (pickNow s now) s l H xss F -> head1 pickAll s l H xss G -> ∃ H' xss', F H' xss' /\ G H' xss' /\ RefH now H'
 | [], H, xss, F, G, hH, h1, h2 => ⟨H, xss, h1, h2, hH⟩
 | (id, ea) :: r, H, xss, F, G, hH, h1, h2 => by
   simp only [head1] at h1 h2
   have rows : ∀ {ea : EA}, (pickNow s now).rows id ea (fun xs => match newE s id xs ea with
    | some x => head1 (pickNow s now) s r (H.set id x) (xss ++ [xs]) F
    | none => False) -> pickAll.rows id ea (fun xs => match newE s id xs ea with
    | some x => head1 pickAll s r (H.set id x) (xss ++ [xs]) G
    | none => False) -> ∃ H' xss', F H' xss' /\ G H' xss' /\ RefH now H' := by
    intro ea g1 g2;rw [pickNow_rows] at g1
    split at g1
    · rename_i xs0 sz el nm0 xs sz' el' nm' e1 e2
      split at g1
      · rename_i hc
        simp only [Bool.and_eq_true] at hc;obtain rfl := Nat.eq_of_beq_eq_true hc.1;obtain rfl := Nat.eq_of_beq_eq_true hc.2;have g2 := g2 xs;simp only [newE, e1] at g1 g2
        exact head1_both (hH.set (x := ⟨.row xs sz el, none⟩) e2 (fun _ => ⟨rfl, fun _ _ h => h⟩) (fun b hb => by cases hb)) g1 g2
      · exact g1.elim
    · rename_i xs0 el nm0 xs el' nm' e1 e2
      split at g1
      · rename_i hc
        obtain rfl := Nat.eq_of_beq_eq_true hc;obtain ⟨rfl, g1⟩ := g1;have g2 := g2 xs;simp only [newE, e1] at g1 g2;exact head1_both (hH.set e2 (fun _ => ⟨rfl, fun _ _ h => h⟩) (fun b hb => hb)) g1 g2
      · exact g1.elim
    · rename_i cs0 el nm0 xs el' nm' e1 e2
      split at g1
      · rename_i hc
        obtain rfl := Nat.eq_of_beq_eq_true hc;obtain ⟨rfl, g1⟩ := g1;have g2 := g2 xs;simp only [newE, e1] at g1 g2;exact head1_both (hH.set e2 (fun _ => ⟨rfl, fun _ _ h => h⟩) (fun b hb => hb)) g1 g2
      · exact g1.elim
    · rename_i cs0 el nm0 cs el' nm' e1 e2
      split at g1
      · rename_i xs hxs
        split at g1
        · rename_i hc
          obtain rfl := Nat.eq_of_beq_eq_true hc;obtain ⟨rfl, g1⟩ := g1;have g2 := g2 xs;simp only [newE, e1] at g1 g2;exact head1_both (hH.set (x := ⟨.vec xs el, nm0⟩) e2 (fun _ => ⟨rfl, fun _ _ h => mapV_holds hxs h⟩) (fun b hb => hb)) g1 g2
        · exact g1.elim
      · exact g1.elim
    · rename_i xs0 el nm0 cs el' nm' e1 e2
      split at g1
      · rename_i xs hxs
        split at g1
        · rename_i hc
          obtain rfl := Nat.eq_of_beq_eq_true hc;obtain ⟨rfl, g1⟩ := g1;have g2 := g2 xs;simp only [newE, e1] at g1 g2;exact head1_both (hH.set (x := ⟨.vec xs el, nm0⟩) e2 (fun _ => ⟨rfl, fun _ _ h => mapV_holds hxs h⟩) (fun b hb => hb)) g1 g2
        · exact g1.elim
      · exact g1.elim
    · rename_i m since sn0 c0 nm0 m' since' seen' c0' nm' e1 e2
      obtain ⟨⟨rfl, rfl, rfl, rfl⟩, g1⟩ := g1;have g2 := g2 (encI seen');simp only [newE, e1, decI_encI] at g1 g2;exact head1_both (hH.set e2 (fun _ => ⟨rfl, fun _ _ h => h⟩) (fun b hb => hb)) g1 g2
    · rename_i q p0 nm0 q' p' nm' e1 e2
      obtain ⟨⟨rfl, rfl⟩, g1⟩ := g1;have g2 := g2 [.int .i64 (p' : Int)];simp only [newE, e1, posL, natV, Int.toNat_natCast] at g1 g2;exact head1_both (hH.set e2 (fun _ => ⟨rfl, fun _ _ h => h⟩) (fun b hb => hb)) g1 g2
    · rename_i es0 clk0 nm0 es clk nm' e1 e2
      obtain ⟨rfl, g1⟩ := g1;have g2 := g2 (encM es clk);simp only [newE, e1, decM_encM, posL_encM] at g1 g2;exact head1_both (hH.set e2 (fun _ => ⟨rfl, fun _ _ h => h⟩) (fun b hb => hb)) g1 g2
    · exact g1.elim
   cases ea with
   | keep =>
     simp only at h1 h2
     split at h1
     · rename_i x hx
       simp only [hx] at h2;rw [pickNow_keepE] at h1
       split at h1
       · rename_i x1 y e1 e2
         rw [hx] at e1;cases e1;obtain ⟨rfl, h1⟩ := h1;exact head1_both (hH.set e2 (fun hal => ⟨hal, fun _ _ h => h⟩) (fun b hb => hb)) h1 h2
       · exact h1.elim
     · exact h1.elim
   | cells l => exact head1_both hH h1 h2
   | row => exact rows h1 h2
   | vec => exact rows h1 h2
   | mp => exact rows h1 h2
   | iter => exact rows h1 h2
theorem head2_both {s now now' : St} {H : List Ent} : ∀ {l : List (Nat × TA)} {tm : List SV} {vals : List Value} {F G : List SV -> List Value -> Prop}, RefT now tm ->
 head2 (pickNow s now) s now H l tm vals F -> head2 pickAll s now' H l tm vals G -> ∃ tm' vals', F tm' vals' /\ G tm' vals' /\ RefT now tm' /\ tm'.length = tm.length
 | [], tm, vals, F, G, hT, h1, h2 => ⟨tm, vals, h1, h2, hT, rfl⟩
 | (t, ta) :: r, tm, vals, F, G, hT, h1, h2 => by
   simp only [head2] at h1 h2;obtain ⟨vs, sv, g1, g2, hv⟩ := headT_both h1 h2;obtain ⟨tm', vals', g3, g4, g5, g6⟩ := head2_both (hT.set hv) g1 g2
   exact ⟨tm', vals', g3, g4, g5, g6.trans (by simp)⟩
theorem headC_both {s now : St} {H : List Ent} : ∀ {os ns ns' : List SV} {l : List TA} {acc : List SV} {vals : List Value} {F G : List SV -> List Value -> Prop},
 headC (pickNow s now) H os ns l acc vals F -> headC pickAll H os ns' l acc vals G -> ∃ cs vals', F (acc ++ cs) vals' /\ G (acc ++ cs) vals' /\ cs.length = ns.length /\
  ∀ (k : Nat) (sv : SV), cs[k]? = some sv -> ∃ sv', ns[k]? = some sv' /\ RefV sv' sv
 | o :: os, n :: ns, n' :: ns', ta :: l, acc, vals, F, G, h1, h2 => by
   simp only [headC] at h1 h2;obtain ⟨vs, sv, g1, g2, hv⟩ := headT_both h1 h2;obtain ⟨cs, vals', g3, g4, g5, g6⟩ := headC_both g1 g2
   refine ⟨sv :: cs, vals', by simpa using g3, by simpa using g4, by simp [g5], fun k y hy => ?_⟩
   cases k with
   | zero => simp at hy; subst hy; exact ⟨n, rfl, hv⟩
   | succ k => exact g6 k y (by simpa using hy)
 | [], [], [], [], acc, vals, F, G, h1, h2 => ⟨[], vals, by simpa [headC] using h1, by simpa [headC] using h2, rfl, fun k sv h => by simp at h⟩
 | [], [], _ :: _, [], acc, vals, F, G, h1, h2 => by simp [headC] at h2
 | [], [], [], _ :: _, _, _, _, _, h1, _ => by simp [headC] at h1
 | [], [], _ :: _, _ :: _, _, _, _, _, h1, _ => by simp [headC] at h1
 | [], _ :: _, _, [], _, _, _, _, h1, _ => by simp [headC] at h1
 | [], _ :: _, _, _ :: _, _, _, _, _, h1, _ => by simp [headC] at h1
 | _ :: _, [], _, _, _, _, _, _, h1, _ => by simp [headC] at h1
 | _ :: _, _ :: _, _, [], _, _, _, _, h1, _ => by simp [headC] at h1
 | _ :: _, _ :: _, [], _ :: _, _, _, _, _, _, h2 => by simp [headC] at h2
theorem head3_both {s now now' : St} : ∀ {l : List (Nat × EA)} {H : List Ent} {vals : List Value} {F G : List Ent -> List Value -> Prop}, RefH now H ->
 head3 (pickNow s now) s now l H vals F -> head3 pickAll s now' l H vals G -> ∃ H' vals', F H' vals' /\ G H' vals' /\ RefH now H'
 | [], H, vals, F, G, hH, h1, h2 => ⟨H, vals, h1, h2, hH⟩
 | (id, ea) :: r, H, vals, F, G, hH, h1, h2 => by
   simp only [head3] at h1 h2
   cases ea with
   | cells l =>
     simp only at h1 h2
     split at h1
     · rename_i cs el nm hx
       simp only [hx] at h2;rw [pickNow_elE] at h1
       split at h1
       · rename_i cs0 el0 nm0 cs1 el1 nm1 e1 e2
         rw [hx] at e1;cases e1
         split at h1
         · rename_i hc
           obtain rfl := Nat.eq_of_beq_eq_true hc;obtain ⟨hnm, h1⟩ := nameLe_sound h1;simp only [cellsOfE, e2] at h1;obtain ⟨cs', vals', g1, g2, g3, g4⟩ := headC_both h1 h2;simp only [List.nil_append] at g1 g2;refine head3_both (hH.set (x := ⟨.cells cs' el, nm⟩) e2 (fun _ => ⟨rfl, fun e h hh => ?_⟩) hnm) g1 g2;obtain ⟨h0, c, c1, c2, c3⟩ := hh;refine ⟨h0, c, c1, c2.trans g3.symm, fun k sv hk hj => ?_⟩;obtain ⟨sv', q1, q2⟩ := g4 k sv hk;obtain ⟨q3, q4⟩ := q2 hj;rw [<- q4 e];exact c3 k sv' q1 q3
         · exact h1.elim
       · exact h1.elim
     · exact h1.elim
   | keep => exact head3_both hH h1 h2
   | row => exact head3_both hH h1 h2
   | vec => exact head3_both hH h1 h2
   | iter => exact head3_both hH h1 h2
   | mp => exact head3_both hH h1 h2
structure Ref (now T : St) : Prop where
 H : RefH now T.H
 tm : RefT now T.tm
 I : T.I = now.I
 G : T.G = now.G
 marks : T.marks = now.marks
 len : T.tm.length = now.tm.length
theorem headS_both {s now now' : St} {h : Head} {F G : List Value -> List (List Value) -> St -> Prop} (hI : now'.I = now.I) (hG : now'.G = now.G) (hm : now.marks = s.marks) (hl : now.tm.length = s.tm.length)
 (h1 : headS (pickNow s now) h s now F) (h2 : headS pickAll h s now' G) : ∃ vals xss T, F vals xss T /\ G vals xss T /\ Ref now T := by
 unfold headS at h1 h2
 have hH0 : RefH now (s.H.map fun _ => ⟨.dead, none⟩) := by
  constructor
  · intro id x hx hal
    rw [List.getElem?_map, Option.map_eq_some_iff] at hx;obtain ⟨_, _, rfl⟩ := hx;cases hal
  · intro id x b hx hb
    rw [List.getElem?_map, Option.map_eq_some_iff] at hx;obtain ⟨_, _, rfl⟩ := hx;cases hb
 obtain ⟨H, xss, h1, h2, hH⟩ := head1_both hH0 h1 h2
 have hT0 : RefT now (s.tm.map fun _ => .junk) := by
  intro t sv ht hj;rw [List.getElem?_map, Option.map_eq_some_iff] at ht;obtain ⟨_, _, rfl⟩ := ht;cases hj
 obtain ⟨tm, vals, h1, h2, hT, hlen⟩ := head2_both hT0 h1 h2;obtain ⟨H', vals', h1, h2, hH'⟩ := head3_both hH h1 h2
 have heq : ({ now' with tm := tm, H := H', marks := s.marks, rnd := s.rnd } : St) = { now with tm := tm, H := H', marks := s.marks, rnd := s.rnd } := by
  simp [hI, hG]
 rw [heq] at h2
 exact ⟨vals', xss, _, h1, h2, ⟨hH', hT, rfl, rfl, hm.symm, by simpa [hl] using hlen⟩⟩
theorem Sat.ref {c : Ctx} {e : Env} {now T : St} {w : World} (hS : Sat c e now w) (h : Ref now T) : Sat c e T w := by
 refine ⟨hS.same, hS.size, h.I ▸ hS.I, hS.hf, fun b h1 h2 => h.I ▸ hS.old b h1 h2, ?_, ?_, ?_⟩
 · intro id x hx hal
   obtain ⟨x', h1, h2, h3⟩ := h.H.obj id x hx hal;obtain ⟨g1, g2⟩ := hS.owned id x' h1 h2
   exact ⟨h3 _ _ g1, fun hn => by rw [h.I]; exact g2 hn⟩
 · intro i j x y hx hy hal1 hal2 hn1 hn2 hij
   obtain ⟨x', h1, h2, _⟩ := h.H.obj i x hx hal1;obtain ⟨y', h3, h4, _⟩ := h.H.obj j y hy hal2;exact hS.apart i j x' y' h1 h3 h2 h4 hn1 hn2 hij
 · intro id x b hx hb
   obtain ⟨x', h1, h2⟩ := h.H.name id x b hx hb;exact hS.names id x' b h1 h2
theorem SatX.ref {c : Ctx} {e : Env} {now T : St} {w : World} (hS : SatX c e now w) (h : Ref now T) : SatX c e T w := by
 refine ⟨hS.toSat.ref h, by rw [h.G]; exact hS.gIn, by rw [h.G, h.I]; exact hS.gI, fun id x hx hal hn => ?_⟩
 obtain ⟨x', h1, h2, _⟩ := h.H.obj id x hx hal;rw [h.G];exact hS.gOwn id x' h1 h2 hn
theorem SatA.ref {e : Env} {now T : St} {a : Act} (hA : SatA e now a) (h : Ref now T) : SatA e T a := by
 refine ⟨hA.size.trans h.len.symm, fun t sv ht hj => ?_, by rw [h.marks]; exact hA.defers⟩
 obtain ⟨sv', h1, h2, h3⟩ := h.tm t sv ht hj;rw [<- h3 e];exact hA.tm t sv' h1 h2
end Go.SE
namespace Go.SE
open Go.RowKit
section
variable {r : Option Nat} {P : Program} {ops : Array Oper} {Q : Exit -> Act -> World -> Prop}
def YieldsS (P : Program) (ops : Array Oper) (S : World -> Prop) (o : Oper) (v : Value) (a : Act) : Prop :=
 (Region.wanted o (yielded ops a.tmps) = true /\ ∀ w, S w -> (execOp a.eval o).run P w = .ok (.value v) w) \/
 (Region.wanted o (yielded ops a.tmps) = false /\ v = undef)
def bndO (ops : Array Oper) (j k : Nat) : Prop := ∃ o, ops[j]? = some o /\ ∃ e ∈ o.after, Region.binds .any e = true /\ e.on = k
def WA (r : Option Nat) (P : Program) (ops : Array Oper) (Q : Exit -> Act -> World -> Prop) : Nat -> Array Bool -> (Nat -> World -> Prop) -> Act -> World -> Prop
 | 0, listed, _, a, w => Region.ready .any ops listed = [] /\ Q .normal a w
 | n + 1, listed, S, a, w => (Region.ready .any ops listed = [] -> Q .normal a w) /\
    ∀ i ∈ Region.ready .any ops listed, wpOpIn (Fr r) 0 P ops Q i (fun a' w' => ∃ S' : Nat -> World -> Prop, (∀ k, ¬ bndO ops i k -> ∀ u, S' k u -> S k u) /\ (∀ k, S' k w') /\ WA r P ops Q n (listed.setIfInBounds i true) S' a' w') a w
theorem wpAnyIn_of_WA : ∀ {n : Nat} {listed : Array Bool} {S : Nat -> World -> Prop} {a : Act} {w : World}, WA r P ops Q n listed S a w -> wpAnyIn (Fr r) 0 P .any ops Q n listed a w
 | 0, _, _, _, _, h => h
 | _ + 1, _, _, _, _, h => ⟨h.1, fun i hi => wpOpIn_mono (fun _ _ ⟨_, _, _, h'⟩ => wpAnyIn_of_WA h') (h.2 i hi)⟩
theorem YieldsS.mono {S S' : World -> Prop} {o : Oper} {v : Value} {a : Act} (h : YieldsS P ops S o v a) (hs : ∀ u, S' u -> S u) : YieldsS P ops S' o v a :=
 h.imp (fun ⟨h1, h2⟩ => ⟨h1, fun w hw => h2 w (hs w hw)⟩) id
theorem YieldsS.wpOpIn {S : World -> Prop} {i : Nat} {o : Oper} {v : Value} {a : Act} (hd : ∀ c, o.op ≠ .defer c) (hi : ops[i]? = some o) (hy : YieldsS P ops S o v a)
 {K : Act -> World -> Prop} {w : World} (hS : S w) (h : K (a.put o.dst v) w) : wpOpIn (Fr r) 0 P ops Q i K a w := by
 unfold Go.wpOpIn;simp only [hi]
 rcases hy with ⟨hw, hv⟩ | ⟨hw, rfl⟩
 · rw [if_pos hw]
   refine ⟨fun _ _ => trivial, ?_⟩;rw [Oper.semAt_eq _ _ _ hd, hv w hS];exact h
 · rw [if_neg (by simp [hw])]
   exact ⟨fun _ _ => trivial, h⟩
theorem YieldsS.of_same {S : World -> Prop} {o : Oper} {v : Value} {a a' : Act} (hy : YieldsS P ops S o v a) (he : execOp a'.eval o = execOp a.eval o)
 (hw : Region.wanted o (yielded ops a'.tmps) = Region.wanted o (yielded ops a.tmps)) : YieldsS P ops S o v a' := by
 unfold YieldsS at *;rw [he, hw];exact hy
theorem wpOpIn_putS {S : World -> Prop} {j : Nat} {oi oj : Oper} {v : Value} (hj : ops[j]? = some oj) (hap : oi.apart ops oj = true)
 (hsi : ∀ cs b, oi.op ≠ .select cs b) (hsj : ∀ cs b, oj.op ≠ .select cs b) (hdj : ∀ c, oj.op ≠ .defer c)
 (hQ : ∀ c a w, ¬ Q (.panic c) a w) {K : Act -> World -> Prop} {a : Act} {w : World}
 (hy : YieldsS P ops S oi v a) (h : wpOpIn (Fr r) 0 P ops Q j K (a.put oi.dst v) w) :
 wpOpIn (Fr r) 0 P ops Q j (fun a' w' => YieldsS P ops S oi v a' /\ K (a'.put oi.dst v) w') a w := by
 obtain ⟨h1, h2, h3⟩ := Oper.apart_spec hap
 have keep : ∀ (a : Act), YieldsS P ops S oi v a -> ∀ u, YieldsS P ops S oi v (a.put oj.dst u) := fun a hy u =>
  hy.of_same (execOp_put oi hsi a oj.dst u h3) (wanted_put oi a oj.dst u h3)
 have keepD : ∀ d, YieldsS P ops S oi v { a with defers := d :: a.defers } := fun d => hy.of_same rfl rfl
 unfold wpOpIn at *;simp only [hj] at *;rw [wanted_put oj a oi.dst v h1] at h;split
 · rename_i hw
   simp only [hw, if_true] at h;unfold Oper.wpIn at *;refine ⟨fun _ _ => trivial, ?_⟩;have h := h.2;rw [Oper.semAt_eq _ _ _ hdj, execOp_put oj hsj a oi.dst v h1] at h;rw [Oper.semAt_eq _ _ _ hdj];generalize (execOp a.eval oj).run P w = rr at *
   cases rr with
   | ok x w' =>
     cases x <;> simp only [Oper.uponIn] at h ⊢
     case value u => exact ⟨keep a hy u, by rw [<- Act.put_comm a v u h2]; exact h⟩
     case skip => exact ⟨keep a hy _, by rw [<- Act.put_comm a v undef h2]; exact h⟩
     case defer d =>
      refine ⟨keep _ (keepD d) _, ?_⟩;rw [<- Act.put_comm _ v undef h2, <- Act.put_defers];exact h
     case enter f args =>
      refine ⟨h.1, CallsIn.mono h.2 fun e w'' he => ?_⟩
      cases e with
      | returned u => exact ⟨keep a hy u, by rw [<- Act.put_comm a v u h2]; exact he⟩
      | panicked c => exact (hQ _ _ _ he).elim
      | outgrown => exact he
     case row row args => exact ⟨h.1, RowsIn.mono h.2 fun u w'' he => ⟨keep a hy u, by rw [<- Act.put_comm a v u h2]; exact he⟩⟩
     case round l f tmps assign body =>
      refine ⟨h.1, RoundIn.mono h.2 fun e w'' he => ?_⟩
      cases e with
      | returned u => exact ⟨keep a hy u, by rw [<- Act.put_comm a v u h2]; exact he⟩
      | panicked c => exact (hQ _ _ _ he).elim
      | outgrown => exact he
   | halt x w' =>
     cases x <;> simp only [Oper.uponIn] at h ⊢
     case panic u => exact (hQ _ _ _ h).elim
 · rename_i hw
   simp only [hw] at h
   exact ⟨fun _ _ => trivial, keep a hy _, by rw [<- Act.put_comm a v undef h2]; exact h.2⟩
theorem WA_first {i : Nat} {oi : Oper} {v : Value} (hi : ops[i]? = some oi) (hsel : ∀ (j : Nat) (o : Oper) cs b, ops[j]? = some o -> o.op ≠ .select cs b)
 (hdf : ∀ (j : Nat) (o : Oper) c, ops[j]? = some o -> o.op ≠ .defer c) (hQ : ∀ c a w, ¬ Q (.panic c) a w) :
 ∀ (n : Nat) (listed : Array Bool) (S : Nat -> World -> Prop) (a : Act) (w : World),
  (∀ j oj, ops[j]? = some oj -> j ≠ i -> listed.getD j true = false -> (∀ e ∈ oj.after, Region.binds .any e = true -> e.on ≠ i) -> oi.apart ops oj = true) ->
  i ∈ Region.ready .any ops listed -> YieldsS P ops (S i) oi v a -> (∀ k, S k w) ->
  WA r P ops Q n (listed.setIfInBounds i true) S (a.put oi.dst v) w -> WA r P ops Q (n + 1) listed S a w := by
 intro n
 induction n with
 | zero =>
   intro listed S a w _ hr hy hS H
   refine ⟨fun h => (by rw [h] at hr; cases hr), fun j hj => ?_⟩
   by_cases hji : j = i
   · subst hji; exact hy.wpOpIn (fun c => hdf _ _ c hi) hi (hS _) ⟨S, fun _ _ _ h => h, hS, H⟩
   · have := ready_mono hj hji
     rw [H.1] at this;cases this
 | succ n ih =>
   intro listed S a w hfree hr hy hS H
   refine ⟨fun h => (by rw [h] at hr; cases hr), fun j hj => ?_⟩
   by_cases hji : j = i
   · subst hji; exact hy.wpOpIn (fun c => hdf _ _ c hi) hi (hS _) ⟨S, fun _ _ _ h => h, hS, H⟩
   · have h1 := H.2 j (ready_mono hj hji)
     obtain ⟨hjun, oj, hoj, hall⟩ := mem_ready.1 hj
     have hnot : ∀ e ∈ oj.after, Region.binds .any e = true -> e.on ≠ i := fun e he hb heq => by
      have h1 := hall e he hb;have h0 := (mem_ready.1 hr).1;rw [heq] at h1
      rcases Nat.lt_or_ge i listed.size with h' | h'
      · simp [h'] at h0 h1; rw [h0] at h1; cases h1
      · simp [Array.getElem?_eq_none h'] at h1
     have h2 := wpOpIn_putS hoj (hfree j oj hoj hji hjun hnot) (fun cs b => hsel i oi cs b hi) (fun cs b => hsel j oj cs b hoj) (fun c => hdf j oj c hoj) hQ hy h1
     have hfree' : ∀ k ok, ops[k]? = some ok -> k ≠ i -> (listed.setIfInBounds j true).getD k true = false ->
      (∀ e ∈ ok.after, Region.binds .any e = true -> e.on ≠ i) -> oi.apart ops ok = true := fun k ok hk hki hun hno => by
      refine hfree k ok hk hki ?_ hno
      by_cases hjk : j = k
      · subst hjk; exact hjun
      · rw [getD_set_ne true hjk] at hun; exact hun
     refine wpOpIn_mono (fun a' w' ⟨hy', S', hs, hS', h3⟩ => ⟨S', hs, hS', ih (listed.setIfInBounds j true) S' a' w' hfree' (ready_mono hr (Ne.symm hji)) (hy'.mono (hs i fun ⟨o', ho', e, he, hb, hn⟩ => by rw [hoj] at ho'; cases ho'; exact hnot e he hb hn)) hS' ?_⟩) h2
     rw [Array.setIfInBounds_comm _ _ hji];exact h3
end
def bindsB (e : Edge) : Bool :=
 match e.ground with
 | .textOnly _ | .gcOnly _ => false
 | _ => true
theorem bindsB_eq (e : Edge) : Region.binds .any e = bindsB e := by
 unfold Region.binds bindsB
 cases e.ground <;> rfl
def rdyO (l : List Bool) (o : Oper) : Bool := o.after.toList.all fun e => !bindsB e || l.getD e.on false
def rdys (l : List Bool) : Nat -> List Oper -> List Nat
 | _, [] => []
 | i, o :: r => bif !l.getD i true && rdyO l o then i :: rdys l (i + 1) r else rdys l (i + 1) r
theorem mem_rdys {l : List Bool} {j : Nat} : ∀ {i : Nat} {os : List Oper}, j ∈ rdys l i os ↔ ∃ k o, j = i + k /\ os[k]? = some o /\ l.getD j true = false /\ rdyO l o = true
 | i, [] => by simp [rdys]
 | i, o :: r => by
   have hs : ∀ {k : Nat}, i + 1 + k = i + (k + 1) := fun {k} => by omega
   simp only [rdys];constructor
   · intro h
     cases hc : (!l.getD i true && rdyO l o) with
     | true =>
       rw [hc, cond_true] at h
       rcases List.mem_cons.1 h with rfl | h
       · simp only [Bool.and_eq_true, Bool.not_eq_true'] at hc
         exact ⟨0, o, rfl, rfl, hc.1, hc.2⟩
       · obtain ⟨k, o', rfl, h1, h2⟩ := mem_rdys.1 h
         exact ⟨k + 1, o', by omega, by simpa using h1, h2⟩
     | false =>
       rw [hc, cond_false] at h;obtain ⟨k, o', rfl, h1, h2⟩ := mem_rdys.1 h
       exact ⟨k + 1, o', by omega, by simpa using h1, h2⟩
   · rintro ⟨k, o', rfl, h1, h2, h3⟩
     cases k with
     | zero =>
       simp only [List.getElem?_cons_zero, Option.some.injEq] at h1;subst h1;simp only [Nat.add_zero] at h2
       have hc : (!l.getD i true && rdyO l o) = true := by rw [h2, h3]; rfl
       rw [hc]
       simp
     | succ k =>
       have hm : i + (k + 1) ∈ rdys l (i + 1) r := mem_rdys.2 ⟨k, o', by omega, by simpa using h1, h2, h3⟩
       cases (!l.getD i true && rdyO l o) with
       | true => exact List.mem_cons_of_mem _ hm
       | false => exact hm
theorem ready_iff {ops : Array Oper} {listed : Array Bool} {j : Nat} : j ∈ Region.ready .any ops listed ↔ j ∈ rdys listed.toList 0 ops.toList := by
 rw [mem_ready, mem_rdys]
 have hg : ∀ (k : Nat) (d : Bool), listed.getD k d = listed.toList.getD k d := fun k d => by simp [Array.getD_eq_getD_getElem?, List.getD_eq_getElem?_getD]
 constructor
 · rintro ⟨h0, o, ho, hall⟩
   refine ⟨j, o, by omega, by simpa using ho, by rw [<- hg]; exact h0, ?_⟩
   simp only [rdyO, List.all_eq_true, Bool.or_eq_true, Bool.not_eq_true'];intro e he
   cases hb : bindsB e with
   | false => exact .inl rfl
   | true => exact .inr (by rw [<- hg]; exact hall e (by simpa using he) (by rw [bindsB_eq]; exact hb))
 · rintro ⟨k, o, hk, ho, h0, hr⟩
   obtain rfl : j = k := by omega
   refine ⟨by rw [hg]; exact h0, o, by simpa using ho, fun e he hb => ?_⟩
   simp only [rdyO, List.all_eq_true, Bool.or_eq_true, Bool.not_eq_true'] at hr
   rcases hr e (by simpa using he) with h | h
   · rw [<- bindsB_eq, hb] at h; cases h
   · rw [hg]; exact h
def tmp1 : Operand -> List Tmp
 | .tmp t => [t]
 | _ => []
def tmpsL : List Operand -> List Tmp
 | [] => []
 | x :: r => tmp1 x ++ tmpsL r
theorem mem_tmpsL {d : Tmp} : ∀ {l : List Operand}, .tmp d ∈ l -> d ∈ tmpsL l
 | x :: r, h => by
   simp only [tmpsL, List.mem_append]
   rcases List.mem_cons.1 h with rfl | h
   · exact .inl (by simp [tmp1])
   · exact .inr (mem_tmpsL h)
def tmpsOf : Op -> Option (List Tmp)
 | .alloc _ => some []
 | .move x | .assign x | .box _ x | .load _ x | .nilCheck x | .unOp _ _ x | .convert _ _ x | .makeInterface _ x | .fieldAddr _ x _ | .field _ x _ | .extract x _ => some (tmp1 x)
 | .pick c a b => some (tmpsL [c, a, b])
 | .build _ ps | .buildSlice _ _ ps => some (tmpsL (ps.toList.map (·.2)))
 | .store _ a v | .binOp _ _ a v _ | .makeSlice _ a v | .indexAddr _ a v | .index _ a v => some (tmpsL [a, v])
 | .makeFunc _ first captured => some (tmpsL first.toList ++ tmpsL captured.toList)
 | .slice _ x l h m => some (tmp1 x ++ tmpsL l.toList ++ tmpsL h.toList ++ tmpsL m.toList)
 | .call c => match c.callee with
   | .value f => some (tmp1 f ++ tmpsL c.args.toList)
   | .builtin _ => some (tmpsL c.args.toList)
   | _ => none
 | _ => none
theorem tmpsOf_spec {o : Op} {l : List Tmp} (h : tmpsOf o = some l) {d : Tmp} (hd : .tmp d ∈ o.operands) : d ∈ l := by
 have one : ∀ {x : Operand}, .tmp d = x -> d ∈ tmp1 x := fun hx => by subst hx; simp [tmp1]
 cases o <;> simp only [tmpsOf, Option.some.injEq, reduceCtorEq] at h
 case call c =>
  obtain ⟨callee, args, ts⟩ := c
  cases callee <;> simp only [Option.some.injEq, reduceCtorEq] at h <;> subst h
  · simp only [Op.operands, Call.operands] at hd
    rcases Array.mem_append.1 hd with hd | hd
    · exact List.mem_append_left _ (one (by simpa using hd))
    · exact List.mem_append_right _ (mem_tmpsL (by simpa using hd))
  · simp only [Op.operands, Call.operands] at hd
    exact mem_tmpsL (by simpa using hd)
 all_goals subst h
 case alloc => simp [Op.operands] at hd
 case makeFunc f first captured =>
  simp only [Op.operands] at hd
  rcases Array.mem_append.1 hd with hd | hd
  · exact List.mem_append_left _ (mem_tmpsL (by simpa using hd))
  · exact List.mem_append_right _ (mem_tmpsL (by simpa using hd))
 case slice t x lo hi mx =>
  simp only [Op.operands] at hd;simp only [List.mem_append]
  rcases Array.mem_append.1 hd with hd | hd
  · rcases Array.mem_append.1 hd with hd | hd
    · rcases Array.mem_append.1 hd with hd | hd
      · exact .inl (.inl (.inl (one (by simpa using hd))))
      · exact .inl (.inl (.inr (mem_tmpsL (by simpa using hd))))
    · exact .inl (.inr (mem_tmpsL (by simpa using hd)))
  · exact .inr (mem_tmpsL (by simpa using hd))
 case build | buildSlice => exact mem_tmpsL (by simpa [Op.operands] using hd)
 case pick | store | binOp | makeSlice | indexAddr | index => exact mem_tmpsL (by simpa [Op.operands] using hd)
 all_goals exact one (by simpa [Op.operands] using hd)
def gdL (ops : Array Oper) (o : Oper) : List Tmp :=
 match o.guard with
 | some (g, _) => match (ops[g]?).bind (·.dst) with
   | some t => [t]
   | none => []
 | none => []
def looksB (ops : Array Oper) (o : Oper) : Option (List Tmp) :=
 match tmpsOf o.op with
 | some l => some (l ++ gdL ops o)
 | none => none
theorem looksB_spec {ops : Array Oper} {o : Oper} {l : List Tmp} (h : looksB ops o = some l) {d : Tmp} (hd : d ∈ o.looksAt ops) : d ∈ l := by
 unfold looksB at h
 split at h
 · rename_i l0 hl0
   simp only [Option.some.injEq] at h;subst h;unfold Oper.looksAt at hd
   rcases List.mem_append.1 hd with hd | hd
   · obtain ⟨x, hx, hxd⟩ := List.mem_filterMap.1 hd
     refine List.mem_append_left _ (tmpsOf_spec hl0 (d := d) ?_)
     split at hxd
     · simp only [Option.some.injEq] at hxd
       subst hxd;simpa using hx
     · cases hxd
   · refine List.mem_append_right _ ?_
     unfold gdL
     split at hd
     · rename_i g b hg
       rw [hg];simp only [Option.mem_toList] at hd;simp only [hd, List.mem_singleton]
     · cases hd
 · cases h
def apartB (ops : Array Oper) (x y : Oper) : Bool :=
 match looksB ops x, looksB ops y with
 | some lx, some ly =>
   (match x.dst with
   | some d => !memB d ly && (match y.dst with
     | some d' => !Nat.beq d d'
     | none => true)
   | none => true) &&
   (match y.dst with
   | some d => !memB d lx
   | none => true)
 | _, _ => false
theorem apartB_spec {ops : Array Oper} {x y : Oper} (h : apartB ops x y = true) : x.apart ops y = true := by
 unfold apartB at h
 split at h
 · rename_i lx ly hx hy
   simp only [Bool.and_eq_true] at h;obtain ⟨h1, h2⟩ := h;simp only [Oper.apart, Bool.and_eq_true];constructor
   · cases hxd : x.dst with
     | none => rfl
     | some d =>
       rw [hxd] at h1;simp only [Bool.and_eq_true, Bool.not_eq_true'] at h1;simp only [Bool.and_eq_true, Bool.not_eq_true', bne_iff_ne, ne_eq];refine ⟨?_, ?_⟩
       · rw [Bool.eq_false_iff]
         intro hc
         exact memB_false h1.1 (looksB_spec hy (by simpa using hc))
       · intro hyd
         rw [hyd] at h1;simp at h1
   · cases hyd : y.dst with
     | none => rfl
     | some d =>
       rw [hyd] at h2;simp only [Bool.not_eq_true'] at h2;simp only [Bool.not_eq_true'];rw [Bool.eq_false_iff];intro hc
       exact memB_false h2 (looksB_spec hx (by simpa using hc))
 · cases h
def freeL (ops : Array Oper) (l : List Bool) (i : Nat) (oi : Oper) : Nat -> List Oper -> Bool
 | _, [] => true
 | j, oj :: r => (Nat.beq j i || l.getD j true || oj.after.toList.any (fun e => bindsB e && Nat.beq e.on i) || apartB ops oi oj) && freeL ops l i oi (j + 1) r
theorem freeL_spec {ops : Array Oper} {l : List Bool} {i : Nat} {oi : Oper} : ∀ {j0 : Nat} {os : List Oper}, freeL ops l i oi j0 os = true -> ∀ (k : Nat) (oj : Oper), os[k]? = some oj -> j0 + k ≠ i -> l.getD (j0 + k) true = false ->
 (∀ e ∈ oj.after, bindsB e = true -> e.on ≠ i) -> oi.apart ops oj = true
 | j0, [], _, k, oj, hk, _, _, _ => by simp at hk
 | j0, o :: r, h, k, oj, hk, hne, hun, hno => by
   simp only [freeL, Bool.and_eq_true] at h
   cases k with
   | zero =>
     simp only [List.getElem?_cons_zero, Option.some.injEq] at hk;subst hk;simp only [Nat.add_zero] at hne hun;simp only [Bool.or_eq_true, hun, Bool.false_eq_true, or_false] at h
     rcases h.1 with (h1 | h1) | h1
     · exact absurd (Nat.eq_of_beq_eq_true h1) hne
     · obtain ⟨e, he, hb⟩ := List.any_eq_true.1 h1
       simp only [Bool.and_eq_true] at hb
       exact absurd (Nat.eq_of_beq_eq_true hb.2) (hno e (by simpa using he) hb.1)
     · exact apartB_spec h1
   | succ k =>
     exact freeL_spec h.2 k oj (by simpa using hk) (by omega) (by rw [show j0 + 1 + k = j0 + (k + 1) from by omega]; exact hun) hno
end Go.SE
namespace Go.SE
open Go.RowKit
def frz (n0 : Nat) (M : List Nat) (id : Nat) : Bool := Nat.blt id n0 && !memB id M
def restrH (n0 : Nat) (M : List Nat) : Nat -> List Ent -> List Ent
 | _, [] => []
 | i, x :: r => (bif frz n0 M i then x else ⟨.dead, none⟩) :: restrH n0 M (i + 1) r
def restr (n0 : Nat) (M : List Nat) (s : St) : St := { s with H := restrH n0 M 0 s.H }
theorem restrH_get {n0 : Nat} {M : List Nat} : ∀ {i : Nat} {l : List Ent} {k : Nat} {x : Ent}, (restrH n0 M i l)[k]? = some x -> alive x.obj = true -> frz n0 M (i + k) = true /\ l[k]? = some x
 | i, [], k, x, h, _ => by simp [restrH] at h
 | i, y :: r, k, x, h, hal => by
   simp only [restrH] at h
   cases k with
   | zero =>
     simp only [List.getElem?_cons_zero, Option.some.injEq] at h
     cases hf : frz n0 M i with
     | true => rw [hf, cond_true] at h; subst h; exact ⟨by simp, rfl⟩
     | false => rw [hf, cond_false] at h; subst h; cases hal
   | succ k =>
     obtain ⟨h1, h2⟩ := restrH_get (i := i + 1) (k := k) (by simpa using h) hal
     exact ⟨by rw [show i + (k + 1) = i + 1 + k from by omega]; exact h1, by simpa using h2⟩
theorem restrH_name {n0 : Nat} {M : List Nat} : ∀ {i : Nat} {l : List Ent} {k : Nat} {x : Ent} {b : Nat}, (restrH n0 M i l)[k]? = some x -> x.name = some b -> l[k]? = some x
 | i, [], k, x, b, h, _ => by simp [restrH] at h
 | i, y :: r, k, x, b, h, hb => by
   simp only [restrH] at h
   cases k with
   | zero =>
     simp only [List.getElem?_cons_zero, Option.some.injEq] at h
     cases hf : frz n0 M i with
     | true => rw [hf, cond_true] at h; subst h; rfl
     | false => rw [hf, cond_false] at h; subst h; cases hb
   | succ k => exact (by simpa using restrH_name (i := i + 1) (k := k) (by simpa using h) hb)
def seG0 (ops : Array Oper) (s : St) (o : Oper) (run skip : St -> Prop) : Prop :=
 match o.guard with
 | none => run s
 | some (j, want) => match (ops[j]?).bind (·.dst) with
   | some d => match s.tm[d]? with
     | some (.v (.bool t)) => Br t
        (match want with
          | true => run { s with tm := s.tm.set d (.v (.bool true)) }
          | false => skip { s with tm := s.tm.set d (.v (.bool true)) })
        (match want with
          | false => run { s with tm := s.tm.set d (.v (.bool false)) }
          | true => skip { s with tm := s.tm.set d (.v (.bool false)) })
     | some (.v (.tuple _)) => skip s
     | _ => False
   | none => False
def seG (A : List (Nat × CK)) (ops : Array Oper) (s : St) (o : Oper) (run skip : St -> Prop) : Prop :=
 match o.guard with
 | none => run s
 | some (j, want) => match (ops[j]?).bind (·.dst) with
   | some d => match ckOf A (some d) with
     | some (.val b) => match s.tm[d]? with
       | some (.v (.bool t)) => t = b /\ (match want, b with
          | true, true => run { s with tm := s.tm.set d (.v (.bool true)) }
          | false, true => skip { s with tm := s.tm.set d (.v (.bool true)) }
          | false, false => run { s with tm := s.tm.set d (.v (.bool false)) }
          | true, false => skip { s with tm := s.tm.set d (.v (.bool false)) })
       | _ => seG0 ops s o run skip
     | _ => seG0 ops s o run skip
   | none => False
theorem seG_old {A : List (Nat × CK)} {ops : Array Oper} {s : St} {o : Oper} {run skip : St -> Prop} (h : seG A ops s o run skip) : seG0 ops s o run skip := by
 unfold seG at h
 cases hg : o.guard with
 | none =>
   rw [hg] at h
   simp only [seG0, hg]; exact h
 | some jw =>
   obtain ⟨j, want⟩ := jw;rw [hg] at h
   simp only at h
   cases hd : (ops[j]?).bind (·.dst) with
   | none => rw [hd] at h; exact h.elim
   | some d =>
     rw [hd] at h
     simp only at h
     split at h
     · split at h
       · rename_i b _ t ht
         obtain ⟨rfl, h⟩ := h;simp only [seG0, hg, hd, ht]
         cases t <;> cases want <;> simpa [Br_true, Br_false] using h
       · exact h
     · exact h
def needsH : Op -> Bool
 | .load _ _ | .indexAddr _ _ _ | .slice _ _ _ _ _ | .convert _ _ _ => true
 | _ => false
def isQuiet : Kd -> Bool
 | .quiet => true
 | _ => false
def opRefs (s : St) (o : Op) : List Nat :=
 match tmpsOf o with
 | some l => refsOfL (l.map fun t => (s.tm[t]?).getD .junk)
 | none => []
def mkM (i : Nat) : List Oper -> List (List Nat) -> List Nat
 | o :: r, m :: ms => bif m.isEmpty || o.after.toList.any (fun e => bindsB e && Nat.beq e.on i) then mkM i r ms else m ++ mkM i r ms
 | [], _ => []
 | _ :: _, [] => []
def fzM (ops : Array Oper) (n0 : Nat) (MO : List (List Nat)) (i : Nat) (rs : List Nat) : List Nat :=
 bif rs.all (frz n0 MO.flatten) then MO.flatten else mkM i ops.toList MO
def takeable (P : Program) (ops : Array Oper) (n0 : Nat) (MO : List (List Nat)) (fr : Bool) (l : List Bool) (s : St) (i : Nat) (o : Oper) : Bool :=
 isQuiet (kindOf P o.op) && ((fr || freeL ops l i o 0 ops.toList) && (!needsH o.op || (opRefs s o.op).all (frz n0 (fzM ops n0 MO i (opRefs s o.op)))))
def pickT (P : Program) (ops : Array Oper) (n0 : Nat) (MO : List (List Nat)) (fr : Bool) (l : List Bool) (s : St) : List Nat -> Option (Nat × Oper)
 | [] => none
 | i :: r => match ops[i]? with
   | some o => bif takeable P ops n0 MO fr l s i o then some (i, o) else pickT P ops n0 MO fr l s r
   | none => pickT P ops n0 MO fr l s r
def notGs (A : List (Nat × CK)) (ops : Array Oper) : List Nat -> List Nat
 | [] => []
 | i :: r => match ops[i]? with
   | some o => match ckOf A o.dst with
     | some .g => notGs A ops r
     | _ => i :: notGs A ops r
   | none => i :: notGs A ops r
theorem notGs_sub {A : List (Nat × CK)} {ops : Array Oper} : ∀ {l : List Nat} {i : Nat}, i ∈ notGs A ops l -> i ∈ l
 | j :: r, i, h => by
   rw [notGs] at h
   split at h
   · split at h
     · exact List.mem_cons_of_mem _ (notGs_sub h)
     · rcases List.mem_cons.1 h with rfl | h
       · exact List.mem_cons_self
       · exact List.mem_cons_of_mem _ (notGs_sub h)
   · rcases List.mem_cons.1 h with rfl | h
     · exact List.mem_cons_self
     · exact List.mem_cons_of_mem _ (notGs_sub h)
def modOk (n0 : Nat) (MO : List (List Nat)) (i : Nat) (ids : List Nat) : Bool := ids.all fun id => !Nat.blt id n0 || memB id ((MO[i]?).getD [])
def allP (F : Nat -> Prop) : List Nat -> Prop
 | [] => True
 | [i] => F i
 | i :: r => F i /\ allP F r
theorem allP_mem {F : Nat -> Prop} : ∀ {l : List Nat}, allP F l -> ∀ i ∈ l, F i
 | [], _, i, hi => by cases hi
 | [j], h, i, hi => by simp only [List.mem_singleton] at hi; subst hi; exact h
 | j :: k :: r, h, i, hi => by
   rcases List.mem_cons.1 hi with rfl | hi
   · exact h.1
   · exact allP_mem h.2 i hi
def freeS (ops : Array Oper) (i : Nat) (oi : Oper) : Nat -> List Oper -> Bool
 | _, [] => true
 | j, oj :: r => (Nat.beq j i || oj.after.toList.any (fun e => bindsB e && Nat.beq e.on i) || oi.after.toList.any (fun e => bindsB e && Nat.beq e.on j) || apartB ops oi oj) && freeS ops i oi (j + 1) r
theorem freeS_spec {ops : Array Oper} {i : Nat} {oi : Oper} : ∀ {j0 : Nat} {os : List Oper}, freeS ops i oi j0 os = true -> ∀ (k : Nat) (oj : Oper), os[k]? = some oj -> j0 + k ≠ i ->
 (∀ e ∈ oi.after, bindsB e = true -> e.on ≠ j0 + k) -> (∀ e ∈ oj.after, bindsB e = true -> e.on ≠ i) -> oi.apart ops oj = true
 | j0, [], _, k, oj, hk, _, _, _ => by simp at hk
 | j0, o :: r, h, k, oj, hk, hne, hun, hno => by
   simp only [freeS, Bool.and_eq_true] at h
   cases k with
   | zero =>
     simp only [List.getElem?_cons_zero, Option.some.injEq] at hk;subst hk;simp only [Nat.add_zero] at hne hun;simp only [Bool.or_eq_true] at h
     rcases h.1 with ((h1 | h1) | h1) | h1
     · exact absurd (Nat.eq_of_beq_eq_true h1) hne
     · obtain ⟨e, he, hb⟩ := List.any_eq_true.1 h1
       simp only [Bool.and_eq_true] at hb
       exact absurd (Nat.eq_of_beq_eq_true hb.2) (hno e (by simpa using he) hb.1)
     · obtain ⟨e, he, hb⟩ := List.any_eq_true.1 h1
       simp only [Bool.and_eq_true] at hb
       exact absurd (Nat.eq_of_beq_eq_true hb.2) (hun e (by simpa using he) hb.1)
     · exact apartB_spec h1
   | succ k =>
     exact freeS_spec h.2 k oj (by simpa using hk) (by omega) (by rw [show j0 + 1 + k = j0 + (k + 1) from by omega]; exact hun) hno
def allFreeL (P : Program) (ops : Array Oper) : Nat -> List Oper -> Bool
 | _, [] => true
 | i, o :: r => (!isQuiet (kindOf P o.op) || freeS ops i o 0 ops.toList) && allFreeL P ops (i + 1) r
theorem allFreeL_spec {P : Program} {ops : Array Oper} : ∀ {i0 : Nat} {os : List Oper}, allFreeL P ops i0 os = true -> ∀ (k : Nat) (o : Oper), os[k]? = some o -> isQuiet (kindOf P o.op) = true -> freeS ops (i0 + k) o 0 ops.toList = true
 | i0, [], _, k, o, hk, _ => by simp at hk
 | i0, x :: r, h, k, o, hk, hq => by
   simp only [allFreeL, Bool.and_eq_true, Bool.or_eq_true, Bool.not_eq_true'] at h
   cases k with
   | zero =>
     simp only [List.getElem?_cons_zero, Option.some.injEq] at hk;subst hk
     rcases h.1 with h1 | h1
     · rw [hq] at h1; cases h1
     · exact h1
   | succ k =>
     rw [show i0 + (k + 1) = i0 + 1 + k by omega]
     exact allFreeL_spec h.2 k o (by simpa using hk) hq
def seAny (P : Program) (A : List (Nat × CK)) (ops : Array Oper) (n0 : Nat) (MO : List (List Nat)) (fr : Bool) : Nat -> List Bool -> St -> (St -> Prop) -> Prop
 | 0, l, s, K => match rdys l 0 ops.toList with
   | [] => K s
   | _ => False
 | n + 1, l, s, K => match rdys l 0 ops.toList with
   | [] => K s
   | i0 :: r0 => match pickT P ops n0 MO fr l s (notGs A ops (i0 :: r0)) with
     | some (i, o) => seG A ops s o (fun s1 => seQ P (restr n0 (fzM ops n0 MO i (opRefs s1 o.op)) s1) o.op fun sv => caseK (ckOf A o.dst) sv fun sv => if isJunk sv then False else seAny P A ops n0 MO fr n (l.set i true) (putS s1 o.dst sv) K)
        (fun s1 => seAny P A ops n0 MO fr n (l.set i true) (putS s1 o.dst (.v undef)) K)
     | none => allP (fun i => match ops[i]? with
        | some o => seG A ops s o (fun s1 => if modOk n0 MO i (modsC P A s1 o) then seO P A s1 o fun s2 => seAny P A ops n0 MO fr n (l.set i true) s2 K else False)
           (fun s1 => seAny P A ops n0 MO fr n (l.set i true) (putS s1 o.dst (.v undef)) K)
        | none => False) (i0 :: r0)
def bitB (m n : Nat) : Bool := Nat.beq (Nat.land (Nat.shiftRight m n) 1) 1
def setB (m i : Nat) : Nat := Nat.lor m (Nat.shiftLeft 1 i)
theorem bitB_eq (m n : Nat) : bitB m n = m.testBit n := by
 have h : ∀ x : Nat, Nat.beq (Nat.land x 1) 1 = (1 &&& x != 0) := fun x => by
  show Nat.beq (x &&& 1) 1 = (1 &&& x != 0)
  rw [Nat.and_comm 1 x, Nat.and_one_is_mod]
  rcases Nat.mod_two_eq_zero_or_one x with h | h <;> rw [h] <;> rfl
 exact h (m >>> n)
theorem bitB_set (m i j : Nat) : bitB (setB m i) j = (bitB m j || decide (i = j)) := by
 rw [bitB_eq, bitB_eq]
 show (m ||| 1 <<< i).testBit j = _
 rw [Nat.testBit_or, Nat.shiftLeft_eq, Nat.one_mul, Nat.testBit_two_pow]
def rdyN (m : Nat) (o : Oper) : Bool := o.after.toList.all fun e => !bindsB e || bitB m e.on
def rdysN (m : Nat) : Nat -> List Oper -> List Nat
 | _, [] => []
 | i, o :: r => bif !bitB m i && rdyN m o then i :: rdysN m (i + 1) r else rdysN m (i + 1) r
def listB (m n : Nat) : List Bool := (List.range n).map fun i => bitB m i
theorem listB_getD {m n : Nat} (hm : ∀ j, n <= j -> bitB m j = false) (j : Nat) : (listB m n).getD j false = bitB m j := by
 rw [listB, List.getD_eq_getElem?_getD, List.getElem?_map]
 by_cases h : j < n
 · rw [List.getElem?_range h]; rfl
 · rw [List.getElem?_eq_none (by simpa using Nat.le_of_not_lt h), hm j (by omega)]; rfl
theorem listB_getT {m n j : Nat} (h : j < n) : (listB m n).getD j true = bitB m j := by
 rw [listB, List.getD_eq_getElem?_getD, List.getElem?_map, List.getElem?_range h]; rfl
theorem listB_set {m n i : Nat} (h : i < n) : (listB m n).set i true = listB (setB m i) n := by
 apply List.ext_getElem?;intro j;rw [List.getElem?_set];simp only [listB, List.getElem?_map, List.length_map, List.length_range]
 by_cases hj : i = j
 · subst hj
   rw [if_pos rfl, if_pos h, List.getElem?_range h, Option.map_some, bitB_set]
   simp
 · rw [if_neg hj]
   by_cases hn : j < n
   · rw [List.getElem?_range hn, Option.map_some, Option.map_some, bitB_set]
     simp [hj]
   · rw [List.getElem?_eq_none (by simpa using Nat.le_of_not_lt hn)]; rfl
theorem rdysN_eq {m n : Nat} (hm : ∀ j, n <= j -> bitB m j = false) : ∀ {i : Nat} {os : List Oper}, i + os.length <= n -> rdysN m i os = rdys (listB m n) i os
 | i, [], _ => rfl
 | i, o :: r, h => by
   simp only [List.length_cons] at h
   have e : rdyN m o = rdyO (listB m n) o := by simp only [rdyN, rdyO, listB_getD hm]
   rw [rdysN, rdys, listB_getT (by omega), e, rdysN_eq hm (i := i + 1) (os := r) (by omega)]
theorem takeable_true {P : Program} {ops : Array Oper} {n0 : Nat} {MO : List (List Nat)} {l : List Bool} {s : St} {i : Nat} {o : Oper} : takeable P ops n0 MO true l s i o = takeable P ops n0 MO true [] s i o := by
 simp only [takeable, Bool.true_or]
theorem pickT_true {P : Program} {ops : Array Oper} {n0 : Nat} {MO : List (List Nat)} {l : List Bool} {s : St} : ∀ {rs : List Nat}, pickT P ops n0 MO true l s rs = pickT P ops n0 MO true [] s rs
 | [] => rfl
 | i :: r => by
   rw [pickT, pickT];split
   · rw [takeable_true, pickT_true (rs := r)]
   · exact pickT_true
def seAnyN (P : Program) (A : List (Nat × CK)) (ops : Array Oper) (n0 : Nat) (MO : List (List Nat)) : Nat -> Nat -> St -> (St -> Prop) -> Prop
 | 0, m, s, K => match rdysN m 0 ops.toList with
   | [] => K s
   | _ => False
 | n + 1, m, s, K => match rdysN m 0 ops.toList with
   | [] => K s
   | i0 :: r0 => match pickT P ops n0 MO true [] s (notGs A ops (i0 :: r0)) with
     | some (i, o) => seG A ops s o (fun s1 => seQ P (restr n0 (fzM ops n0 MO i (opRefs s1 o.op)) s1) o.op fun sv => caseK (ckOf A o.dst) sv fun sv => if isJunk sv then False else seAnyN P A ops n0 MO n (setB m i) (putS s1 o.dst sv) K)
        (fun s1 => seAnyN P A ops n0 MO n (setB m i) (putS s1 o.dst (.v undef)) K)
     | none => allP (fun i => match ops[i]? with
        | some o => seG A ops s o (fun s1 => if modOk n0 MO i (modsC P A s1 o) then seO P A s1 o fun s2 => seAnyN P A ops n0 MO n (setB m i) s2 K else False)
           (fun s1 => seAnyN P A ops n0 MO n (setB m i) (putS s1 o.dst (.v undef)) K)
        | none => False) (i0 :: r0)
theorem allP_congr {F G : Nat -> Prop} : ∀ {l : List Nat}, (∀ i ∈ l, F i = G i) -> allP F l = allP G l
 | [], _ => rfl
 | [i], h => h i (by simp)
 | i :: j :: r, h => by
   show (F i /\ allP F (j :: r)) = (G i /\ allP G (j :: r))
   rw [h i (by simp), allP_congr (l := j :: r) fun k hk => h k (List.mem_cons_of_mem _ hk)]
theorem pickT_ops {P : Program} {ops : Array Oper} {n0 : Nat} {MO : List (List Nat)} {fr : Bool} {l : List Bool} {s : St} {i : Nat} {o : Oper} : ∀ {rs : List Nat}, pickT P ops n0 MO fr l s rs = some (i, o) -> ops[i]? = some o
 | [], h => by cases h
 | j :: r, h => by
   rw [pickT] at h
   split at h
   · rename_i o' ho
     cases ht : takeable P ops n0 MO fr l s j o' with
     | true =>
       rw [ht, cond_true] at h
       cases h; exact ho
     | false =>
       rw [ht, cond_false] at h;exact pickT_ops h
   · exact pickT_ops h
theorem seAnyN_eq {P : Program} {A : List (Nat × CK)} {ops : Array Oper} {n0 : Nat} {MO : List (List Nat)} {K : St -> Prop} : ∀ {n m : Nat} {s : St}, (∀ j, ops.toList.length <= j -> bitB m j = false) ->
 seAnyN P A ops n0 MO n m s K = seAny P A ops n0 MO true n (listB m ops.toList.length) s K
 | 0, m, s, hm => by rw [seAnyN, seAny, rdysN_eq hm (by omega)]
 | n + 1, m, s, hm => by
   have e : ∀ i, i < ops.toList.length -> ∀ s', seAnyN P A ops n0 MO n (setB m i) s' K = seAny P A ops n0 MO true n ((listB m ops.toList.length).set i true) s' K := fun i hi s' => by
    rw [listB_set hi];refine seAnyN_eq fun j hj => ?_;rw [bitB_set, hm j hj]
    simp; omega
   rw [seAnyN, seAny, rdysN_eq hm (by omega)]
   cases hr : rdys (listB m ops.toList.length) 0 ops.toList with
   | nil => rfl
   | cons i0 r0 =>
     simp only
     rw [pickT_true (l := listB m ops.toList.length)]
     cases hp : pickT P ops n0 MO true [] s (notGs A ops (i0 :: r0)) with
     | some io =>
       obtain ⟨i, o⟩ := io;have hi := (Array.getElem?_eq_some_iff.1 (pickT_ops hp)).1
       simp only [e i (by simpa using hi)]
     | none =>
       simp only
       refine allP_congr fun i _ => ?_
       cases ho : ops[i]? with
       | none => rfl
       | some o =>
         have hi := (Array.getElem?_eq_some_iff.1 ho).1
         simp only [e i (by simpa using hi)]
def findDst (t : Nat) : List Oper -> Option Op
 | [] => none
 | o :: r => match o.dst with
   | some d => bif Nat.beq d t then some o.op else findDst t r
   | none => findDst t r
def baseIds (ops : List Oper) (s : St) : Nat -> Operand -> Option (List Nat)
 | 0, _ => none
 | n + 1, x =>
   let now : Option (List Nat) := match ev s x with
    | .ptr id _ | .sptr id _ | .rsl id _ | .xsl id _ _ _ => some [id]
    | _ => none
   match x with
   | .tmp t => match findDst t ops with
     | some (.fieldAddr _ y _) | some (.indexAddr _ y _) | some (.nilCheck y) | some (.move y) => baseIds ops s n y
     | some (.alloc _) | some (.box _ _) | some (.buildSlice _ _ _) | some (.makeSlice _ _ _) => some []
     | some _ => none
     | none => now
   | _ => now
def rowIds : Nat -> List Ent -> List Nat
 | _, [] => []
 | i, ⟨.row _ _ _, _⟩ :: r => i :: rowIds (i + 1) r
 | i, _ :: r => rowIds (i + 1) r
def modO (A : List (Nat × CK)) (ops : List Oper) (s : St) (o : Oper) : List Nat :=
 match o.op with
 | .store _ ad _ => (baseIds ops s 8 ad).getD (List.range s.H.length)
 | .call c => match c.callee with
   | .builtin .append => rowIds 0 s.H
   | _ => match ckOf A o.dst with
     | some (.lend ids _ _) => ids
     | some (.lendT _ _ _) => rowIds 0 s.H
     | _ => []
 | .insert _ _ _ _ | .mapUpdate _ _ _ _ => match mapEnt 0 s.H none with
   | some (id, _) => [id]
   | none => []
 | _ => []
def modReg (A : List (Nat × CK)) (ops : List Oper) (s : St) (os : List Oper) : List (List Nat) := os.map (modO A ops s)
def okO (o : Oper) : Bool :=
 match o.op with
 | .select _ _ | .defer _ => false
 | _ => true
def seDraw (P : Program) (A : List (Nat × CK)) (ops : Array Oper) (s : St) (K : St -> Prop) : Prop :=
 if P.follows .mixedOrders && ops.toList.all okO then
  match allFreeL P ops 0 ops.toList with
  | true => seAnyN P A ops s.H.length (modReg A ops.toList s ops.toList) ops.toList.length 0 s K
  | false => seAny P A ops s.H.length (modReg A ops.toList s ops.toList) false ops.toList.length (List.replicate ops.toList.length false) s K
 else False
section
variable {P : Program} {c : Ctx} {e : Env} {s : St} {w : World} {a : Act} {r : Option Nat} {ops : Array Oper}
theorem seG_sound {o : Oper} {run skip : St -> Prop} (h : seG0 ops s o run skip) (hS : SatX c e s w) (hA : SatA e s a) :
 ∃ s1, SatX c e s1 w /\ SatA e s1 a /\ s1.H = s.H /\ s1.G = s.G /\ s1.I = s.I /\ s1.tm.length = s.tm.length /\
  ((Region.wanted o (yielded ops a.tmps) = true /\ run s1) \/ (Region.wanted o (yielded ops a.tmps) = false /\ skip s1)) := by
 unfold seG0 at h
 split at h
 · rename_i hg
   exact ⟨s, hS, hA, rfl, rfl, rfl, rfl, .inl ⟨by simp [Region.wanted, hg], h⟩⟩
 · rename_i j want hg
   have hw : Region.wanted o (yielded ops a.tmps) = (yielded ops a.tmps j == some want) := by simp [Region.wanted, hg]
   split at h
   · rename_i d hd
     split at h
     · rename_i t ht
       have hy : yielded ops a.tmps j = some t := by
        have := hA.tm d _ ht rfl;simp only [den] at this;unfold yielded;rw [hd];simp [this]
       rw [hw, hy]
       cases t with
       | true =>
         simp only [Br_true] at h
         cases want with
         | true => exact ⟨_, hS.lit _, hA.lit ht, rfl, rfl, rfl, by simp, .inl ⟨rfl, h⟩⟩
         | false => exact ⟨_, hS.lit _, hA.lit ht, rfl, rfl, rfl, by simp, .inr ⟨rfl, h⟩⟩
       | false =>
         simp only [Br_false] at h
         cases want with
         | false => exact ⟨_, hS.lit _, hA.lit ht, rfl, rfl, rfl, by simp, .inl ⟨rfl, h⟩⟩
         | true => exact ⟨_, hS.lit _, hA.lit ht, rfl, rfl, rfl, by simp, .inr ⟨rfl, h⟩⟩
     · rename_i vs ht
       have hy : yielded ops a.tmps j = none := by
        have := hA.tm d _ ht rfl;simp only [den] at this;unfold yielded;rw [hd];simp [this]
       rw [hw, hy];exact ⟨s, hS, hA, rfl, rfl, rfl, rfl, .inr ⟨rfl, h⟩⟩
     · exact h.elim
   · exact h.elim
structure RI (B : Nat -> Prop) (hb : Nat -> Option Obj) (n0 : Nat) (M : List Nat) (s : St) (e : Env) (w : World) : Prop where
 heap : ∀ b, B b -> b < w.heap.size /\ w.heap[b]? = hb b
 own : ∀ (id : Nat) (x : Ent), frz n0 M id = true -> s.H[id]? = some x -> alive x.obj = true -> e.nil id = false -> B (e.blk id)
 apart : ∀ (id : Nat) (x : Ent), frz n0 M id = false -> s.H[id]? = some x -> alive x.obj = true -> e.nil id = false -> ¬ B (e.blk id)
 len : n0 <= s.H.length
 gB : ∀ b, B b -> s.G b = none
theorem frz_lt {n0 : Nat} {M : List Nat} {id : Nat} (h : frz n0 M id = true) : id < n0 := by
 simp only [frz, Bool.and_eq_true, Nat.blt_eq] at h;exact h.1
theorem RI.step {B : Nat -> Prop} {hb : Nat -> Option Obj} {n0 : Nat} {M mods : List Nat} {s s' : St} {e e' : Env} {w w' : World} (h : RI B hb n0 M s e w) {gm : Bool} (hev : Evo gm mods s e w s' e' w')
 (hm : mods.all (fun id => !frz n0 M id) = true) : RI B hb n0 M s' e' w' := by
 have hm' : ∀ id, id ∈ mods -> frz n0 M id = false := fun id hid => by simpa using List.all_eq_true.1 hm id hid
 refine ⟨fun b hB => ?_, fun id x hf hx hal hn => ?_, fun id x hf hx hal hn => ?_, Nat.le_trans h.len hev.len, fun b hB => hev.gN b (h.heap b hB).1 (h.gB b hB)⟩
 · obtain ⟨h1, h2⟩ := h.heap b hB
   refine ⟨Nat.lt_of_lt_of_le h1 hev.size, ?_⟩;rw [hev.heap b h1 (fun _ => h.gB b hB) (fun id x hid hx hal hn hbe => h.apart id x (hm' id hid) hx hal hn (hbe ▸ hB))];exact h2
 · have hlt := Nat.lt_of_lt_of_le (frz_lt hf) h.len
   obtain ⟨x0, hx0, hal0⟩ := hev.live id x hlt hx hal
   obtain ⟨a1, _, a3⟩ := hev.same id hlt (fun hid => by rw [hm' id hid] at hf; cases hf)
   rw [<- a1];exact h.own id x0 hf hx0 hal0 (a3.trans hn)
 · by_cases hlt : id < s.H.length
   · obtain ⟨x0, hx0, hal0⟩ := hev.live id x hlt hx hal
     by_cases hid : id ∈ mods
     · rcases hev.mod id x hlt hid hx hal hn with h1 | ⟨j, y, hj, hy, haly, hny, hbe⟩
       · exact fun hB => absurd (h.heap _ hB).1 (by omega)
       · rw [hbe]; exact h.apart j y (hm' j hj) hy haly hny
     · obtain ⟨a1, _, a3⟩ := hev.same id hlt hid
       rw [<- a1];exact h.apart id x0 hf hx0 hal0 (a3.trans hn)
   · rcases hev.new id x (by omega) hx hal hn with h1 | ⟨j, y, hj, hy, haly, hny, hbe⟩
     · exact fun hB => absurd (h.heap _ hB).1 (by omega)
     · rw [hbe]; exact h.apart j y (hm' j hj) hy haly hny
theorem RI.same {B : Nat -> Prop} {hb : Nat -> Option Obj} {n0 : Nat} {M : List Nat} {s s' : St} {e : Env} {w : World} (h : RI B hb n0 M s e w) (hH : s'.H = s.H) (hG : s'.G = s.G) : RI B hb n0 M s' e w :=
 ⟨h.heap, by rw [hH]; exact h.own, by rw [hH]; exact h.apart, by rw [hH]; exact h.len, by rw [hG]; exact h.gB⟩
def Sx (W : World) (B : Nat -> Prop) (hb : Nat -> Option Obj) (I : Mem) (u : World) : Prop := Same W u /\ I.inW u /\ ∀ b, B b -> u.heap[b]? = hb b
theorem restr_sat {B : Nat -> Prop} {hb : Nat -> Option Obj} {n0 : Nat} {M M' : List Nat} (hsub : ∀ id, frz n0 M' id = true -> frz n0 M id = true) {u : World} (hS : Sat c e s w) (hR : RI B hb n0 M s e w) (hu : Sx c.W0 B hb s.I u) :
 Sat { W0 := { c.W0 with heap := #[] }, I0 := Mem.emp, hf := Mem.emp } e (restr n0 M' s) u := by
 have key : ∀ {id : Nat} {x : Ent}, (restr n0 M' s).H[id]? = some x -> alive x.obj = true -> frz n0 M id = true /\ s.H[id]? = some x := by
  intro id x hx hal;obtain ⟨h1, h2⟩ := restrH_get (i := 0) hx hal
  exact ⟨hsub _ (by simpa using h1), h2⟩
 refine ⟨⟨hu.1.os, hu.1.tape, hu.1.output⟩, Nat.zero_le _, hu.2.1, fun _ _ h => (by cases h), fun _ h => absurd rfl h, ?_, ?_, ?_⟩
 · intro id x hx hal
   obtain ⟨hf, hx⟩ := key hx hal;obtain ⟨h1, h2⟩ := hS.owned id x hx hal;refine ⟨holds_mem (fun hn => ?_) h1, fun hn => ⟨(h2 hn).1, rfl⟩⟩;have hB := hR.own id x hf hx hal hn;rw [hu.2.2 _ hB, (hR.heap _ hB).2]
 · intro i j x y hx hy hal1 hal2 hn1 hn2 hij
   exact hS.apart i j x y (key hx hal1).2 (key hy hal2).2 hal1 hal2 hn1 hn2 hij
 · intro id x b hx hb
   exact hS.names id x b (restrH_name (i := 0) hx hb) hb
theorem pickT_spec {n0 : Nat} {MO : List (List Nat)} {fr : Bool} {l : List Bool} : ∀ {rs : List Nat} {i : Nat} {o : Oper}, pickT P ops n0 MO fr l s rs = some (i, o) -> i ∈ rs /\ ops[i]? = some o /\ takeable P ops n0 MO fr l s i o = true
 | [], i, o, h => by simp [pickT] at h
 | j :: rs, i, o, h => by
   simp only [pickT] at h
   split at h
   · rename_i o' ho'
     cases ht : takeable P ops n0 MO fr l s j o' with
     | true =>
       rw [ht, cond_true] at h;simp only [Option.some.injEq, Prod.mk.injEq] at h;obtain ⟨rfl, rfl⟩ := h;exact ⟨List.mem_cons_self .., ho', ht⟩
     | false =>
       rw [ht, cond_false] at h;obtain ⟨h1, h2⟩ := pickT_spec h;exact ⟨List.mem_cons_of_mem _ h1, h2⟩
   · obtain ⟨h1, h2⟩ := pickT_spec h
     exact ⟨List.mem_cons_of_mem _ h1, h2⟩
theorem memB_append {x : Nat} : ∀ {l m : List Nat}, memB x (l ++ m) = (memB x l || memB x m)
 | [], m => by simp [memB]
 | y :: r, m => by simp [memB, memB_append (l := r), Bool.or_assoc]
theorem mkM_sub {i id : Nat} : ∀ {os : List Oper} {MO : List (List Nat)}, memB id (mkM i os MO) = true -> memB id MO.flatten = true
 | [], MO, h => by simp [mkM, memB] at h
 | _ :: _, [], h => by simp [mkM, memB] at h
 | o :: r, m :: ms, h => by
   rw [List.flatten_cons, memB_append];rw [mkM] at h
   cases hc : (m.isEmpty || o.after.toList.any (fun e => bindsB e && Nat.beq e.on i)) with
   | true =>
     rw [hc, cond_true] at h;rw [mkM_sub h, Bool.or_true]
   | false =>
     rw [hc, cond_false, memB_append] at h
     rcases Bool.or_eq_true_iff.1 h with h | h
     · rw [h, Bool.true_or]
     · rw [mkM_sub h, Bool.or_true]
theorem mkM_has {i id : Nat} : ∀ {os : List Oper} {MO : List (List Nat)} {j : Nat} {o : Oper}, os[j]? = some o -> (∀ e ∈ o.after, bindsB e = true -> e.on ≠ i) -> memB id ((MO[j]?).getD []) = true -> memB id (mkM i os MO) = true
 | [], MO, j, o, h, _, _ => by simp at h
 | _ :: _, [], j, o, _, _, h => by simp [memB] at h
 | x :: r, m :: ms, j, o, ho, hb, h => by
   rw [mkM]
   cases j with
   | zero =>
     simp only [List.getElem?_cons_zero, Option.some.injEq, Option.getD_some] at ho h;subst ho
     have hc : x.after.toList.any (fun e => bindsB e && Nat.beq e.on i) = false := by
      rw [List.any_eq_false];intro e he hh;simp only [Bool.and_eq_true] at hh
      exact hb e (by simpa using he) hh.1 (Nat.eq_of_beq_eq_true hh.2)
     cases m with
     | nil => simp [memB] at h
     | cons y ys => rw [hc, Bool.or_false, List.isEmpty_cons, cond_false, memB_append, h, Bool.true_or]
   | succ j =>
     have ih := mkM_has (i := i) (id := id) (os := r) (MO := ms) (j := j) (by simpa using ho) hb (by simpa using h)
     cases hc : (m.isEmpty || x.after.toList.any (fun e => bindsB e && Nat.beq e.on i)) with
     | true => rw [cond_true]; exact ih
     | false => rw [cond_false, memB_append, ih, Bool.or_true]
theorem fzM_sub {n0 : Nat} {MO : List (List Nat)} {i : Nat} {rs : List Nat} (id : Nat) (h : frz n0 (fzM ops n0 MO i rs) id = true) : frz n0 (mkM i ops.toList MO) id = true := by
 unfold fzM at h
 cases hc : rs.all (frz n0 MO.flatten) with
 | false => rw [hc, cond_false] at h; exact h
 | true =>
   rw [hc, cond_true] at h;simp only [frz, Bool.and_eq_true, Bool.not_eq_true'] at h ⊢;refine ⟨h.1, ?_⟩;rw [Bool.eq_false_iff];intro hm;rw [mkM_sub hm] at h;cases h.2
def SK (dead : Nat -> Prop) (W : World) (B : Nat -> Nat -> Prop) (hb : Nat -> Option Obj) (I : Mem) (k : Nat) (u : World) : Prop := ¬ dead k -> Sx W (B k) hb I u
theorem seAny_sound {A : List (Nat × CK)} {Q : Exit -> Act -> World -> Prop} {n0 : Nat} {MO : List (List Nat)} {B : Nat -> Nat -> Prop} {hb : Nat -> Option Obj} {fr : Bool} (hfr : fr = true -> allFreeL P ops 0 ops.toList = true) (hQ : ∀ c a w, ¬ Q (.panic c) a w) (hok : ops.toList.all okO = true) :
 ∀ {n : Nat} {listed : Array Bool} {s : St} {e : Env} {a : Act} {w : World} {K : St -> Prop} {dead : Nat -> Prop}, seAny P A ops n0 MO fr n listed.toList s K -> SatX c e s w -> SatA e s a -> (∀ k, ¬ dead k -> RI (B k) hb n0 (mkM k ops.toList MO) s e w) ->
  (∀ k, dead k -> listed.getD k true = true) ->
  (∀ (e' : Env) (s' : St) (a' : Act) (w' : World), K s' -> SatX c e' s' w' -> SatA e' s' a' -> s.I.le s'.I -> s'.tm.length = s.tm.length -> Q .normal a' w') ->
  WA r P ops Q n listed (SK dead c.W0 B hb s.I) a w := by
 have hsel : ∀ (j : Nat) (o : Oper) cs b, ops[j]? = some o -> o.op ≠ .select cs b := fun j o cs b ho hop => by
  have := List.all_eq_true.1 hok o (by simpa using Array.mem_of_getElem? ho)
  simp [okO, hop] at this
 have hdf : ∀ (j : Nat) (o : Oper) cl, ops[j]? = some o -> o.op ≠ .defer cl := fun j o cl ho hop => by
  have := List.all_eq_true.1 hok o (by simpa using Array.mem_of_getElem? ho)
  simp [okO, hop] at this
 have nil_of : ∀ {listed : Array Bool}, rdys listed.toList 0 ops.toList = [] -> Region.ready .any ops listed = [] := fun h => by
  apply List.eq_nil_iff_forall_not_mem.2;intro j hj;rw [ready_iff, h] at hj;cases hj
 have cons_of : ∀ {listed : Array Bool} {i0 : Nat} {r0 : List Nat}, rdys listed.toList 0 ops.toList = i0 :: r0 -> Region.ready .any ops listed ≠ [] := fun {listed i0 r0} h hn => by
  have : i0 ∈ Region.ready .any ops listed := ready_iff.2 (by rw [h]; exact List.mem_cons_self ..)
  rw [hn] at this;cases this
 intro n
 induction n with
 | zero =>
   intro listed s e a w K dead h hS hA hR hD hn;simp only [seAny] at h
   split at h
   · rename_i hrd
     exact ⟨nil_of hrd, hn e s a w h hS hA (Mem.le_refl _) rfl⟩
   · exact h.elim
 | succ n ih =>
   intro listed s e a w K dead h hS hA hR hD hn;have sxw : ∀ {d1 : Nat -> Prop} {s1 : St} {e1 : Env} {w1 : World}, SatX c e1 s1 w1 -> (∀ k, ¬ d1 k -> RI (B k) hb n0 (mkM k ops.toList MO) s1 e1 w1) -> ∀ k, SK d1 c.W0 B hb s1.I k w1 := fun hS1 hR1 k hk => ⟨hS1.same, hS1.I, fun b hB => ((hR1 k hk).heap b hB).2⟩
   have setD : ∀ {i : Nat} {dead : Nat -> Prop}, (∀ k, dead k -> listed.getD k true = true) -> ∀ k, dead k -> (listed.setIfInBounds i true).getD k true = true := fun {i dead} hD k hk => by
    by_cases hik : i = k
    · subst hik
      rcases Nat.lt_or_ge i listed.size with h' | h'
      · simp [h']
      · simp [h']
    · rw [getD_set_ne true hik]; exact hD k hk
   have hset : ∀ i, (listed.setIfInBounds i true).toList = listed.toList.set i true := fun i => by simp
   simp only [seAny] at h
   split at h
   · rename_i hrd
     exact ⟨fun _ => hn e s a w h hS hA (Mem.le_refl _) rfl, fun i hi => by rw [nil_of hrd] at hi; cases hi⟩
   · rename_i i0 r0 hrd
     split at h
     · rename_i i o hp
       obtain ⟨hmem, hio, htk⟩ := pickT_spec hp;have hmem := notGs_sub hmem;simp only [takeable, Bool.and_eq_true] at htk
       have hrdy : i ∈ Region.ready .any ops listed := ready_iff.2 (by rw [hrd]; exact hmem)
       have hfree : ∀ j oj, ops[j]? = some oj -> j ≠ i -> listed.getD j true = false -> (∀ e ∈ oj.after, Region.binds .any e = true -> e.on ≠ i) -> o.apart ops oj = true := by
        intro j oj hj hne hun hno
        rcases Bool.or_eq_true_iff.1 htk.2.1 with hf | hf
        · have h0 := allFreeL_spec (hfr hf) i o (by simpa using hio) htk.1
          rw [Nat.zero_add] at h0
          refine freeS_spec h0 j oj (by simpa using hj) (by omega) (fun e he hb heq => ?_) (fun e he hb => hno e he (by rw [bindsB_eq]; exact hb))
          rw [Nat.zero_add] at heq;obtain ⟨_, o', ho', hall⟩ := mem_ready.1 hrdy;rw [hio] at ho'
          cases ho'
          have h1 := hall e he (by rw [bindsB_eq]; exact hb)
          rw [heq] at h1
          rcases Nat.lt_or_ge j listed.size with h' | h'
          · simp [h'] at hun h1; rw [hun] at h1; cases h1
          · simp [Array.getElem?_eq_none h'] at h1
        refine freeL_spec hf j oj (by simpa using hj) (by omega) ?_ (fun e he hb => hno e he (by rw [bindsB_eq]; exact hb))
        rw [Nat.zero_add];simpa [Array.getD_eq_getD_getElem?, List.getD_eq_getElem?_getD] using hun
       obtain ⟨s1, hS1, hA1, hH1, hG1, hI1, hl1, hrs⟩ := seG_sound (seG_old h) hS hA;have hR1 := fun k hk => (hR k hk).same hH1 hG1
       have hal : ¬ dead i := fun hd => by
        have h1 := hD i hd;rw [(mem_ready.1 hrdy).1] at h1;cases h1
       rw [<- hI1]
       rcases hrs with ⟨hw, h⟩ | ⟨hw, h⟩
       · obtain ⟨sv, h, hrun⟩ := seQ_sound (c := { W0 := { c.W0 with heap := #[] }, I0 := Mem.emp, hf := Mem.emp }) h
         have h := caseK_at h
         split at h
         · exact h.elim
         · rename_i hj
           refine WA_first hio hsel hdf hQ n listed _ a w hfree hrdy (v := den e sv) (.inl ⟨hw, fun u hu => ?_⟩) (sxw hS1 hR1) ?_
           · obtain ⟨x, hx, hd⟩ := hrun e a u (restr_sat fzM_sub hS1.toSat (hR1 i hal) (hu hal)) ⟨hA1.size, hA1.tm, hA1.defers⟩
             rcases hd with hd | rfl
             · exact absurd hd hj
             · exact hx o.dst o.type o.pos o.after o.guard
           · rw [<- putS_I s1 o.dst sv]
             refine ih (by rw [hset]; exact h) (hS1.put _ _) (hA1.put _ (.inr rfl)) (fun k hk => (hR1 k hk).same (putS_H ..) (putS_G ..)) (setD hD) fun e' s' a' w' hK hS' hA' hle hlen => ?_
             exact hn e' s' a' w' hK hS' hA' (by rw [putS_I, hI1] at hle; exact hle) (hlen.trans ((putS_len ..).trans hl1))
       · refine WA_first hio hsel hdf hQ n listed _ a w hfree hrdy (v := undef) (.inr ⟨hw, rfl⟩) (sxw hS1 hR1) ?_
         rw [<- putS_I s1 o.dst (.v undef)]
         refine ih (by rw [hset]; exact h) (hS1.put _ _) (hA1.put _ (.inr (by simp [den]))) (fun k hk => (hR1 k hk).same (putS_H ..) (putS_G ..)) (setD hD) fun e' s' a' w' hK hS' hA' hle hlen => ?_
         exact hn e' s' a' w' hK hS' hA' (by rw [putS_I, hI1] at hle; exact hle) (hlen.trans ((putS_len ..).trans hl1))
     · refine ⟨fun h0 => absurd h0 (cons_of hrd), fun i hi => ?_⟩
       have h := allP_mem h i (by rw [<- hrd]; exact ready_iff.1 hi)
       split at h
       · rename_i o hio
         obtain ⟨s1, hS1, hA1, hH1, hG1, hI1, hl1, hrs⟩ := seG_sound (seG_old h) hS hA;have hR1 := fun k hk => (hR k hk).same hH1 hG1
         have hD' : ∀ k, dead k \/ bndO ops i k -> (listed.setIfInBounds i true).getD k true = true := setD fun k hk => by
          rcases hk with hk | ⟨o', ho', e0, he, hb, rfl⟩
          · exact hD k hk
          · obtain ⟨_, o2, ho2, hall⟩ := mem_ready.1 hi
            rw [ho'] at ho2;cases ho2;have h1 := hall e0 he hb
            rcases Nat.lt_or_ge e0.on listed.size with h' | h'
            · simp [h'] at h1 ⊢; exact h1
            · simp [h']
         unfold wpOpIn;simp only [hio]
         rcases hrs with ⟨hw, h⟩ | ⟨hw, h⟩
         · rw [if_pos hw]
           split at h
           · rename_i hmods
             refine seO_sound h hS1 hA1 fun e' s' a' w' hK hS' hA' hle hlen ⟨gm, hev⟩ => ?_
             have hR' : ∀ k, ¬ (dead k \/ bndO ops i k) -> RI (B k) hb n0 (mkM k ops.toList MO) s' e' w' := fun k hk => by
              refine (hR1 k fun hd => hk (.inl hd)).step hev ?_;rw [List.all_eq_true];intro id hid;have h1 := List.all_eq_true.1 hmods id hid;simp only [Bool.or_eq_true, Bool.not_eq_true'] at h1 ⊢;rw [Bool.eq_false_iff];intro hf;simp only [frz, Bool.and_eq_true, Bool.not_eq_true'] at hf
              rcases h1 with h1 | h1
              · rw [hf.1] at h1; cases h1
              · have h2 := mkM_has (i := k) (os := ops.toList) (by simpa using hio) (fun e0 he hb heq => hk (.inr ⟨o, hio, e0, he, by rw [bindsB_eq]; exact hb, heq⟩)) h1
                rw [h2] at hf;cases hf.2
             refine ⟨SK (fun k => dead k \/ bndO ops i k) c.W0 B hb s'.I, fun k hk u hu hd => ?_, sxw hS' hR', ?_⟩
             · have hu := hu fun h => h.elim hd hk
               exact ⟨hu.1, Mem.inW_of_le (hI1 ▸ hle) hu.2.1, hu.2.2⟩
             refine ih (by rw [hset]; exact hK) hS' hA' hR' hD' fun e2 s2 a2 w2 hK2 hS2 hA2 hle2 hlen2 => ?_
             exact hn e2 s2 a2 w2 hK2 hS2 hA2 (Mem.le_trans (hI1 ▸ hle) hle2) (hlen2.trans (hlen.trans hl1))
           · exact h.elim
         · rw [if_neg (by simp [hw])]
           refine ⟨fun _ _ => trivial, SK dead c.W0 B hb (putS s1 o.dst (.v undef)).I, fun k _ u hu => (by rw [putS_I, hI1] at hu; exact hu), sxw (hS1.put _ _) (fun k hk => (hR1 k hk).same (putS_H ..) (putS_G ..)), ?_⟩
           refine ih (by rw [hset]; exact h) (hS1.put _ _) (hA1.put _ (.inr (by simp [den]))) (fun k hk => (hR1 k hk).same (putS_H ..) (putS_G ..)) (setD hD) fun e' s' a' w' hK hS' hA' hle hlen => ?_
           exact hn e' s' a' w' hK hS' hA' (by rw [putS_I, hI1] at hle; exact hle) (hlen.trans ((putS_len ..).trans hl1))
       · exact h.elim
theorem SatX.drew (hS : SatX c e s w) (n : Nat) : SatX c e s { w with drawn := n } :=
 ⟨⟨⟨hS.same.os, hS.same.tape, hS.same.output⟩, hS.size, hS.I, hS.hf, hS.old, hS.owned, hS.apart, hS.names⟩, hS.gIn, hS.gI, hS.gOwn⟩
theorem Sat.drew (hS : Sat c e s w) (n : Nat) : Sat c e s { w with drawn := n } :=
 ⟨⟨hS.same.os, hS.same.tape, hS.same.output⟩, hS.size, hS.I, hS.hf, hS.old, hS.owned, hS.apart, hS.names⟩
theorem seDraw_sound {A : List (Nat × CK)} {Q : Exit -> Act -> World -> Prop} {K : St -> Prop} {id : Nat} (h : seDraw P A ops s K) (hS : SatX c e s w) (hA : SatA e s a)
 (hn : ∀ (e' : Env) (s' : St) (a' : Act) (w' : World), K s' -> SatX c e' s' w' -> SatA e' s' a' -> s.I.le s'.I -> s'.tm.length = s.tm.length -> Q .normal a' w') :
 (Code.region id ops true).wpIn (Fr r) 0 P Q a w := by
 unfold seDraw at h
 split at h
 · rename_i hc
   simp only [Bool.and_eq_true] at hc
   have hS' : SatX c e s { w with drawn := w.drawn + 1 } := hS.drew _
   have hRI : ∀ k, ¬ False -> RI (fun b => ∃ (id : Nat) (x : Ent), frz s.H.length (mkM k ops.toList (modReg A ops.toList s ops.toList)) id = true /\ s.H[id]? = some x /\ alive x.obj = true /\ e.nil id = false /\ b = e.blk id)
    (fun b => ({ w with drawn := w.drawn + 1 } : World).heap[b]?) s.H.length (mkM k ops.toList (modReg A ops.toList s ops.toList)) s e { w with drawn := w.drawn + 1 } := by
    intro k _
    refine ⟨?_, fun id x hf hx hal hn => ⟨id, x, hf, hx, hal, hn, rfl⟩, ?_, Nat.le_refl _, by rintro b ⟨id, x, _, hx, hal, hn, rfl⟩; exact hS.gOwn id x hx hal hn⟩
    · rintro b ⟨id, x, hf, hx, hal, hn, rfl⟩
      exact ⟨blk_lt hS'.toSat hx hal hn, rfl⟩
    · rintro id x hf hx hal hn ⟨id2, x2, hf2, hx2, hal2, hn2, hb⟩
      refine hS.apart id id2 x x2 hx hx2 hal hal2 hn hn2 ?_ hb;rintro rfl;rw [hf] at hf2;cases hf2
   have key : (Code.region id ops true).wpIn (Fr r) 0 P (fun ex a' w' => ex = .normal /\ Q .normal a' w') a w := by
    refine wpIn_region_any hc.1 (wpAnyIn_of_WA (r := r) (S := SK (fun _ => False) c.W0 (fun k b => ∃ (id : Nat) (x : Ent), frz s.H.length (mkM k ops.toList (modReg A ops.toList s ops.toList)) id = true /\ s.H[id]? = some x /\ alive x.obj = true /\ e.nil id = false /\ b = e.blk id) (fun b => ({ w with drawn := w.drawn + 1 } : World).heap[b]?) s.I) ?_)
    split at h
    · rename_i hfr
      have h0 : listB 0 ops.toList.length = List.replicate ops.toList.length false := by
       apply List.ext_getElem?;intro j;simp only [listB, List.getElem?_map, List.getElem?_replicate]
       by_cases hj : j < ops.toList.length
       · rw [List.getElem?_range hj, if_pos hj, Option.map_some, bitB_eq, Nat.zero_testBit]
       · rw [List.getElem?_eq_none (by simpa using Nat.le_of_not_lt hj), if_neg hj]; rfl
      rw [seAnyN_eq (fun j _ => by rw [bitB_eq, Nat.zero_testBit]), h0] at h
      refine seAny_sound (A := A) (c := c) (fr := true) (fun _ => hfr) (fun _ _ _ h => by cases h.1) hc.2 ?_ hS' hA hRI (fun _ h => h.elim) fun e' s' a' w' hK hS1 hA1 hle hlen => ⟨rfl, hn e' s' a' w' hK hS1 hA1 hle hlen⟩
      simpa using h
    · refine seAny_sound (A := A) (c := c) (fr := false) (fun h => by cases h) (fun _ _ _ h => by cases h.1) hc.2 ?_ hS' hA hRI (fun _ h => h.elim) fun e' s' a' w' hK hS1 hA1 hle hlen => ⟨rfl, hn e' s' a' w' hK hS1 hA1 hle hlen⟩
      simpa using h
   intro b k cs hro hb hr;obtain ⟨ex, a', w', hq, harr⟩ := key b k cs hro hb hr;exact ⟨ex, a', w', hq.1 ▸ hq.2, harr⟩
 · exact h.elim
end
end Go.SE
namespace Go.SE
open Go.RowKit
def Gives (P : Program) (fv : Value) (I : Mem) (n : Nat) (enc : Nat -> Array Value -> Mem -> Prop) : Prop :=
 (∀ (Y : Value) (W : World), ∃ f args, (semV fv #[Y]).run P W = .ok (.enter f args) W) /\
 ∀ (Y : Value) (J : Nat -> Mem -> Mem -> Prop) (D : Mem -> Mem -> Prop) (I0 G0 : Mem), I.le I0 -> J 0 I0 G0 ->
  (∀ k I1 I2 G, J k I1 G -> I1.le I2 -> J k I2 G) -> (∀ I1 I2 G, D I1 G -> I1.le I2 -> D I2 G) ->
  (∀ k I' G args, k < n -> I0.le I' -> J k I' G -> enc k args I' -> CtH P Y args I' G fun v I2 G2 => (v = .bool true /\ J (k + 1) I2 G2) \/ (v = .bool false /\ D I2 G2)) ->
  CtH P fv #[Y] I0 G0 fun _ I2 G2 => J n I2 G2 \/ D I2 G2
def join (A B : Mem) : Mem := fun b => match A b with
 | some o => some o
 | none => B b
theorem join_none {A B : Mem} {b : Nat} (h : A b = none) : join A B b = B b := by simp [join, h]
theorem join_some {A B : Mem} {b : Nat} {o : Obj} (h : A b = some o) : join A B b = some o := by simp [join, h]
theorem join_right {A B : Mem} (hap : A.apart B) {b : Nat} {o : Obj} (h : B b = some o) : join A B b = some o := by
 rcases hap b with h1 | h1
 · rw [join_none h1]; exact h
 · rw [h] at h1; cases h1
theorem join_eq_none {A B : Mem} {b : Nat} (h : join A B b = none) : A b = none /\ B b = none := by
 cases hA : A b with
 | some o => rw [join_some hA] at h; cases h
 | none => exact ⟨rfl, by rw [join_none hA] at h; exact h⟩
theorem join_in {A B : Mem} {w : World} (hA : A.inW w) (hB : B.inW w) : (join A B).inW w := fun b o hb => by
 cases h : A b with
 | some o' => rw [join_some h] at hb; exact hA b o (h.trans hb)
 | none => rw [join_none h] at hb; exact hB b o hb
theorem join_apart {I A B : Mem} (hA : I.apart A) (hB : I.apart B) : I.apart (join A B) := fun b => by
 rcases hA b with h | h
 · exact .inl h
 · rcases hB b with g | g
   · exact .inl g
   · exact .inr (by rw [join_none h]; exact g)
theorem CtH.frame {P : Program} {fv : Value} {args : Array Value} {I A B : Mem} {post : Value -> Mem -> Mem -> Prop} (h : CtH P fv args I A post) (hap : A.apart B) :
 CtH P fv args I (join A B) fun v I' G' => ∃ A', G' = join A' B /\ A'.apart B /\ post v I' A' := by
 intro W hI hG hIG;have hAW : A.inW W := fun b o hb => hG b o (join_some hb);have hBW : B.inW W := fun b o hb => hG b o (join_right hap hb)
 have hIA : I.apart A := fun b => by
  rcases hIG b with g | g
  · exact .inl g
  · exact .inr (join_eq_none g).1
 refine (h W hI hAW hIA).mono fun en W' hE => ?_;obtain ⟨v, I', A', rfl, hle, hI', hA', hap', hsz, hsame, hold, hnew, hp⟩ := hE
 have hBn : ∀ {b : Nat} {o : Obj}, B b = some o -> b < W.heap.size /\ A b = none /\ I b = none := fun {b o} hb => by
  refine ⟨Mem.inW_lt hBW hb, ?_, ?_⟩
  · exact (hap b).resolve_right (by rw [hb]; simp)
  · exact (hIG b).resolve_right (by rw [join_right hap hb]; simp)
 have hab : A'.apart B := fun b => by
  cases hb : B b with
  | none => exact .inr rfl
  | some o =>
    obtain ⟨g1, g2, _⟩ := hBn hb;exact .inl (hnew b g1 g2).1
 refine ⟨v, I', join A' B, rfl, hle, hI', join_in hA' (fun b o hb => ?_), join_apart hap' (fun b => ?_), hsz, hsame, fun b hb hn => hold b hb (join_eq_none hn).1, fun b hb hn => ?_, A', rfl, hab, hp⟩
 · obtain ⟨g1, g2, _⟩ := hBn hb
   rw [hold b g1 g2];exact hBW b o hb
 · cases hb : B b with
   | none => exact .inr rfl
   | some o =>
     obtain ⟨g1, g2, g3⟩ := hBn hb;exact .inl ((hnew b g1 g2).2 g3)
 · obtain ⟨g1, g2⟩ := join_eq_none hn
   obtain ⟨h1, h2⟩ := hnew b hb g1
   exact ⟨by rw [join_none h1]; exact g2, h2⟩
def GivesR (P : Program) (fv : Value) (I : Mem) (n : Nat) (enc : Nat -> Array Value -> Mem -> Prop) (R0 : Mem -> Prop) (R1 : Mem -> Mem -> Prop) : Prop :=
 (∀ (Y : Value) (W : World), ∃ f args, (semV fv #[Y]).run P W = .ok (.enter f args) W) /\
 ∀ (Y : Value) (J : Nat -> Mem -> Mem -> Prop) (D : Mem -> Mem -> Prop) (I0 Gc Gr : Mem), I.le I0 -> J 0 I0 Gc -> R0 Gr -> Gc.apart Gr ->
  (∀ k I1 I2 G, J k I1 G -> I1.le I2 -> J k I2 G) -> (∀ I1 I2 G, D I1 G -> I1.le I2 -> D I2 G) ->
  (∀ k I' G args, k < n -> I0.le I' -> J k I' G -> enc k args I' -> CtH P Y args I' G fun v I2 G2 => (v = .bool true /\ J (k + 1) I2 G2) \/ (v = .bool false /\ D I2 G2)) ->
  CtH P fv #[Y] I0 (join Gc Gr) fun _ I2 G2 => ∃ Gc' Gr', G2 = join Gc' Gr' /\ Gc'.apart Gr' /\ ((J n I2 Gc' /\ R1 I2 Gr') \/ D I2 Gc')
structure OwnX (e : Env) (T : St) (Gx : Mem) : Prop where
 hold : ∀ (id : Nat) (x : Ent), T.H[id]? = some x -> alive x.obj = true -> holds e id Gx x.obj
 apart : ∀ (i j : Nat) (x y : Ent), T.H[i]? = some x -> T.H[j]? = some y -> alive x.obj = true -> alive y.obj = true -> e.nil i = false -> e.nil j = false -> i ≠ j -> e.blk i ≠ e.blk j
 names : ∀ (id : Nat) (x : Ent) (b : Nat), T.H[id]? = some x -> x.name = some b -> e.blk id = b /\ e.nil id = false
 dom : ∀ b, Gx b ≠ none -> (∃ (id : Nat) (x : Ent), T.H[id]? = some x /\ alive x.obj = true /\ e.nil id = false /\ b = e.blk id) \/ T.G b ≠ none
 g : T.G.le Gx
 gOwn : ∀ (id : Nat) (x : Ent), T.H[id]? = some x -> alive x.obj = true -> e.nil id = false -> T.G (e.blk id) = none
section
variable {P : Program} {c : Ctx} {e : Env} {s T : St} {w W : World} {a : Act} {r : Option Nat}
open Classical in
noncomputable def ownM (e : Env) (T : St) (w : World) : Mem := fun b =>
 if (∃ (id : Nat) (x : Ent), T.H[id]? = some x /\ alive x.obj = true /\ e.nil id = false /\ b = e.blk id) \/ T.G b ≠ none then w.heap[b]? else none
theorem ownM_in : (ownM e T w).inW w := fun b o hb => by
 unfold ownM at hb
 split at hb
 · exact hb
 · cases hb
theorem ownM_dom {b : Nat} (h : ownM e T w b ≠ none) : (∃ (id : Nat) (x : Ent), T.H[id]? = some x /\ alive x.obj = true /\ e.nil id = false /\ b = e.blk id) \/ T.G b ≠ none := by
 unfold ownM at h
 split at h
 · rename_i hc; exact hc
 · exact absurd rfl h
theorem ownM_own {id : Nat} {x : Ent} (hx : T.H[id]? = some x) (hal : alive x.obj = true) (hn : e.nil id = false) : ownM e T w (e.blk id) = w.heap[e.blk id]? := by
 unfold ownM;rw [if_pos (.inl ⟨id, x, hx, hal, hn, rfl⟩)]
theorem SatX.ownX (hS : SatX c e T w) : OwnX e T (ownM e T w) := by
 refine ⟨fun id x hx hal => holds_mem (fun hn => ownM_own hx hal hn) (hS.owned id x hx hal).1, hS.apart, hS.names, fun b hb => ownM_dom hb, fun b o hb => ?_, hS.gOwn⟩;unfold ownM
 rw [if_pos (.inr (by rw [hb]; simp))]
 exact hS.gIn b o hb
theorem SatX.ownM_apart (hS : SatX c e T w) : T.I.apart (ownM e T w) := fun b => by
 by_cases hb : ownM e T w b = none
 · exact .inr hb
 · rcases ownM_dom hb with ⟨id, x, hx, hal, hn, rfl⟩ | hg
   · exact .inl ((hS.owned id x hx hal).2 hn).1
   · exact .inl (hS.gI b hg).1
noncomputable def ctxOf (W : World) (I Gx : Mem) : Ctx := { W0 := W, I0 := I, hf := fun b => if (Gx b).isNone then W.heap[b]? else none }
theorem ctxOf_none {I Gx : Mem} {b : Nat} (h : Gx b ≠ none) : (ctxOf W I Gx).hf b = none := by
 simp only [ctxOf];rw [if_neg];intro hn
 exact h (by simpa using hn)
theorem ctxOf_some {I Gx : Mem} {b : Nat} (h : Gx b = none) : (ctxOf W I Gx).hf b = W.heap[b]? := by simp [ctxOf, h]
theorem OwnX.satX {Gx I : Mem} (hO : OwnX e T Gx) (hG : Gx.inW W) (hI : I.inW W) (hap : I.apart Gx) : SatX (ctxOf W I Gx) e { T with I := I } W := by
 have hne : ∀ {id : Nat} {x : Ent}, T.H[id]? = some x -> alive x.obj = true -> e.nil id = false -> Gx (e.blk id) ≠ none := fun hx hal hn => holds_blk (hO.hold _ _ hx hal) hal hn
 have hgne : ∀ {b : Nat}, T.G b ≠ none -> Gx b ≠ none := fun {b} hb => by
  obtain ⟨o, ho⟩ := Option.ne_none_iff_exists'.1 hb;rw [hO.g b o ho]
  simp
 refine ⟨⟨Same.refl _, Nat.le_refl _, hI, fun b o hb => ?_, fun b _ h0 => h0, fun id x hx hal => ⟨?_, fun hn => ⟨(hap _).resolve_right (hne hx hal hn), ctxOf_none (hne hx hal hn)⟩⟩, hO.apart, hO.names⟩,
  fun b o hb => hG b o (hO.g b o hb), fun b hb => ⟨(hap b).resolve_right (hgne hb), ctxOf_none (hgne hb)⟩, hO.gOwn⟩
 · simp only [ctxOf] at hb
   split at hb
   · exact hb
   · cases hb
 · refine holds_mem (fun hn => ?_) (hO.hold id x hx hal)
   obtain ⟨o, ho⟩ := Option.ne_none_iff_exists'.1 (hne hx hal hn);rw [ho];exact hG _ o ho
theorem SatX.ends {I Gx : Mem} {s2 : St} {e2 : Env} {w2 : World} {v : Value} {post : Value -> Mem -> Mem -> Prop} (hS : SatX (ctxOf W I Gx) e2 s2 w2) (hle : I.le s2.I) (hp : post v s2.I (ownM e2 s2 w2)) :
 Ends I Gx W post (.returned v) w2 := by
 have hne : ∀ {b : Nat}, b < W.heap.size -> Gx b = none -> (ctxOf W I Gx).hf b ≠ none := fun {b} hb hg => by rw [ctxOf_some hg, Array.getElem?_eq_getElem hb]; simp
 refine ⟨v, s2.I, ownM e2 s2 w2, rfl, hle, hS.I, ownM_in, hS.ownM_apart, hS.size, hS.same, fun b hb hg => ?_, fun b hb hg => ⟨?_, fun h0 => hS.old b (hne hb hg) h0⟩, hp⟩
 · have := ctxOf_some (W := W) (I := I) hg
   rw [Array.getElem?_eq_getElem hb] at this;rw [hS.hf b _ this, Array.getElem?_eq_getElem hb]
 · by_cases h : ownM e2 s2 w2 b = none
   · exact h
   · exfalso
     rcases ownM_dom h with ⟨id, x, hx, hal, hn, rfl⟩ | hgb
     · exact hne hb hg ((hS.owned id x hx hal).2 hn).2
     · exact hne hb hg (hS.gI b hgb).2
theorem SatX.setRaw (hS : SatX c e s w) {id : Nat} {o o' : Obj} {nm : Option Nat} (hx : s.H[id]? = some ⟨.raw o, nm⟩) :
 w.heap[e.blk id]? = some o /\ SatX c e { s with H := s.H.set id ⟨.raw o', nm⟩ } (w.putObj (e.blk id) o') := by
 obtain ⟨⟨hnil, hb⟩, _⟩ := hS.owned id _ hx rfl
 simp only at hb
 have hlt := (Array.getElem?_eq_some_iff.1 hb).1;refine ⟨hb, ?_⟩
 let a0 : Act := { tmps := #[], defers := [] }
 have key : Sat c e { s with H := s.H.set id ⟨.raw o', nm⟩ } (w.putObj (e.blk id) o') := by
  have := (hS.toSat.lit []).store (a := { tmps := #[], defers := s.marks.map (mark e) }) ⟨rfl, fun t sv ht _ => by simp at ht, rfl⟩ (w' := w.putObj (e.blk id) o') (obj := .raw o') hx rfl hnil (by simp [World.putObj]) ⟨rfl, rfl, rfl⟩ (fun b hb => World.putObj_heap_other hb) ⟨hnil, World.putObj_heap_same hlt⟩
  exact this.1.lit s.tm
 refine ⟨key, fun b o2 hb2 => ?_, hS.gI, fun j x hj hal hn => ?_⟩
 · have hne : b ≠ e.blk id := fun h => by
    have hg := hS.gOwn id _ hx rfl hnil;have hb' : s.G b = some o2 := hb2;rw [h, hg] at hb'
    cases hb'
   rw [World.putObj_heap_other hne];exact hS.gIn b o2 hb2
 · rcases getElem?_set' hj with ⟨rfl, _, _⟩ | ⟨_, hj⟩
   · exact hS.gOwn _ _ hx rfl hnil
   · exact hS.gOwn j x hj hal hn
def okN (H1 H2 : List Ent) (id : Nat) : Bool :=
 match H1[id]?, H2[id]? with
 | some ⟨_, some _⟩, some ⟨_, some _⟩ => true
 | _, _ => false
def stabV (H1 H2 : List Ent) (sv : SV) : SV := bif (refsOf sv).all (okN H1 H2) && !(refsOf sv).any (fun i => rslR i sv) then sv else .junk
def nameEq : List Ent -> List Ent -> Prop
 | ⟨_, some b⟩ :: r, ⟨_, some b'⟩ :: r' => b = b' /\ nameEq r r'
 | _ :: r, _ :: r' => nameEq r r'
 | _, _ => True
def keepsN (H1 H2 : List Ent) (n : Nat) (o : Obj) : Prop :=
 nameEq H1 H2 /\ match H2[n]? with
  | some ⟨.raw o', some _⟩ => o' = o
  | _ => False
theorem keepsN_get {H1 H2 : List Ent} {n : Nat} {o : Obj} (h : keepsN H1 H2 n o) : ∃ b, H2[n]? = some ⟨.raw o, some b⟩ := by
 obtain ⟨_, h⟩ := h
 split at h
 · rename_i o' b hb
   subst h;exact ⟨b, hb⟩
 · exact h.elim
theorem nameEq_get : ∀ {H1 H2 : List Ent} {id : Nat} {x y : Ent} {b b' : Nat}, nameEq H1 H2 -> H1[id]? = some x -> H2[id]? = some y -> x.name = some b -> y.name = some b' -> b = b'
 | [], _, id, x, y, b, b', _, h, _, _, _ => by simp at h
 | _ :: _, [], id, x, y, b, b', _, _, h, _, _ => by simp at h
 | ⟨o, n⟩ :: r, ⟨o', n'⟩ :: r', id, x, y, b, b', hn, h1, h2, h3, h4 => by
   have hr : nameEq r r' := by
    cases n <;> cases n' <;> simp only [nameEq] at hn
    · exact hn
    · exact hn
    · exact hn
    · exact hn.2
   cases id with
   | zero =>
     simp only [List.getElem?_cons_zero, Option.some.injEq] at h1 h2;subst h1 h2
     simp only at h3 h4
     subst h3 h4;simp only [nameEq] at hn;exact hn.1
   | succ id => exact nameEq_get hr (by simpa using h1) (by simpa using h2) h3 h4
theorem stabV_den {e e' : Env} {H1 H2 : List Ent} {sv : SV} (hq : nameEq H1 H2) (hn1 : ∀ (id : Nat) (x : Ent) (b : Nat), H1[id]? = some x -> x.name = some b -> e.blk id = b /\ e.nil id = false)
 (hn2 : ∀ (id : Nat) (x : Ent) (b : Nat), H2[id]? = some x -> x.name = some b -> e'.blk id = b /\ e'.nil id = false) (hj : isJunk (stabV H1 H2 sv) = false) :
 stabV H1 H2 sv = sv /\ den e' sv = den e sv := by
 unfold stabV at hj ⊢
 cases hc : ((refsOf sv).all (okN H1 H2) && !(refsOf sv).any (fun i => rslR i sv)) with
 | false => rw [hc] at hj; cases hj
 | true =>
   simp only [Bool.and_eq_true, Bool.not_eq_true', List.any_eq_false, Bool.not_eq_true, List.all_eq_true] at hc;refine ⟨rfl, ?_⟩
   have := (den_ren (e1 := e') (e := e) (f := fun i => i) (x := sv) (fun i hi => by
    have hm := refs_mem hi;have ho := hc.1 i hm;unfold okN at ho
    split at ho
    · rename_i o1 b1 o2 b2 h1 h2
      obtain ⟨g1, g2⟩ := hn1 i _ b1 h1 rfl;obtain ⟨g3, g4⟩ := hn2 i _ b2 h2 rfl;have hb := nameEq_get hq h1 h2 rfl rfl
      refine ⟨by rw [g3, g1, hb], by rw [g4, g2], fun hr => ?_⟩
      have := hc.2 i hm;rw [hr] at this;cases this
    · cases ho)).1
   rwa [renF_id] at this
inductive PSh where
 | sh (s : Sh)
 | agg (l : List Sh)
def allPs : List PSh -> (List Value -> List SV -> Prop) -> Prop
 | [], F => F [] []
 | .sh s :: r, F => allV1 s fun v sv => allPs r fun vs svs => F (v :: vs) (sv :: svs)
 | .agg l :: r, F => allVL l fun xs sxs => allPs r fun vs svs => F (.agg xs.toArray :: vs) (.agg sxs :: svs)
def psOk : List PSh -> List Value -> Bool
 | [], [] => true
 | .sh s :: r, v :: vs => shOk s v && psOk r vs
 | .agg l :: r, .agg xs :: vs => shsOk l xs.toList && psOk r vs
 | _, _ => false
theorem allV1_at {sh : Sh} {F : Value -> SV -> Prop} {v : Value} (h : allV1 sh F) (hv : shOk sh v = true) : F v (.v v) := by
 cases sh <;> cases v <;> simp only [shOk, Bool.false_eq_true] at hv <;> simp only [allV1] at h <;>
  first
   | exact h _
   | exact h _ _ _
   | (obtain rfl : _ = _ := of_decide_eq_true hv; exact h _)
theorem allVL_at : ∀ {l : List Sh} {F : List Value -> List SV -> Prop} {vs : List Value}, allVL l F -> shsOk l vs = true -> F vs (vs.map .v)
 | [], F, [], h, _ => h
 | sh :: r, F, v :: vs, h, hv => by
   simp only [shsOk, Bool.and_eq_true] at hv;have h1 := allV1_at h hv.1;exact allVL_at (l := r) (vs := vs) h1 hv.2
 | [], F, _ :: _, h, hv => by simp [shsOk] at hv
 | _ :: _, F, [], h, hv => by simp [shsOk] at hv
theorem allPs_at : ∀ {l : List PSh} {F : List Value -> List SV -> Prop} {vs : List Value}, allPs l F -> psOk l vs = true -> ∃ svs, F vs svs /\ svs.length = vs.length /\ ∀ e (k : Nat) (sv : SV), svs[k]? = some sv -> vs[k]? = some (den e sv)
 | [], F, [], h, _ => ⟨[], h, rfl, fun e k sv hk => by simp at hk⟩
 | .sh s :: r, F, v :: vs, h, hv => by
   simp only [psOk, Bool.and_eq_true] at hv;obtain ⟨svs, h1, h2, h3⟩ := allPs_at (allV1_at h hv.1) hv.2
   refine ⟨_, h1, by simp [h2], fun e k sv hk => ?_⟩
   cases k with
   | zero => simp only [List.getElem?_cons_zero, Option.some.injEq] at hk; subst hk; simp [den]
   | succ k => simpa using h3 e k sv (by simpa using hk)
 | .agg l :: r, F, .agg xs :: vs, h, hv => by
   simp only [psOk, Bool.and_eq_true] at hv;obtain ⟨svs, h1, h2, h3⟩ := allPs_at (allVL_at h hv.1) hv.2
   refine ⟨_, h1, by simp [h2], fun e k sv hk => ?_⟩
   cases k with
   | zero =>
     simp only [List.getElem?_cons_zero, Option.some.injEq] at hk;subst hk
     have : denL e (xs.toList.map .v) = xs.toList := by
      rw [denL_eq, List.map_map]
      exact (List.map_congr_left (fun x _ => by simp [den])).trans (List.map_id _)
     simp [den, this]
   | succ k => simpa using h3 e k sv (by simpa using hk)
 | [], F, _ :: _, h, hv => by simp [psOk] at hv
 | .sh _ :: _, F, [], h, hv => by simp [psOk] at hv
 | .agg _ :: _, F, [], h, hv => by simp [psOk] at hv
 | .agg _ :: _, F, .int _ _ :: _, h, hv => by simp [psOk] at hv
 | .agg _ :: _, F, v :: vs, h, hv => by
   cases v <;> simp only [psOk, Bool.false_eq_true] at hv
   simp only [Bool.and_eq_true] at hv;rename_i xs;obtain ⟨svs, h1, h2, h3⟩ := allPs_at (allVL_at h hv.1) hv.2
   refine ⟨_, h1, by simp [h2], fun e k sv hk => ?_⟩
   cases k with
   | zero =>
     simp only [List.getElem?_cons_zero, Option.some.injEq] at hk;subst hk
     have : denL e (xs.toList.map .v) = xs.toList := by
      rw [denL_eq, List.map_map]
      exact (List.map_congr_left (fun x _ => by simp [den])).trans (List.map_id _)
     simp [den, this]
   | succ k => simpa using h3 e k sv (by simpa using hk)
def setPs : List Tmp -> List SV -> List SV -> List SV
 | t :: ts, v :: vs, tm => setPs ts vs (tm.set t v)
 | _, _, tm => tm
end
end Go.SE
namespace Go.SE
open Go.RowKit
def nameA : List Ent -> (List Ent -> Prop) -> Prop
 | [], F => F []
 | x :: r, F => match x with
   | ⟨.row xs sz el, nm⟩ => nameA r fun l => F (⟨.row xs sz el, nm⟩ :: l)
   | ⟨.dead, nm⟩ => nameA r fun l => F (⟨.dead, nm⟩ :: l)
   | ⟨o, some b⟩ => nameA r fun l => F (⟨o, some b⟩ :: l)
   | ⟨o, none⟩ => ∀ b : Nat, nameA r fun l => F (⟨o, some b⟩ :: l)
def nameA1 (b : Nat) (x : Ent) : Ent :=
 match x with
 | ⟨.row xs sz el, nm⟩ => ⟨.row xs sz el, nm⟩
 | ⟨.dead, nm⟩ => ⟨.dead, nm⟩
 | ⟨o, some b'⟩ => ⟨o, some b'⟩
 | ⟨o, none⟩ => ⟨o, some b⟩
def nameAL (g : Nat -> Nat) : Nat -> List Ent -> List Ent
 | _, [] => []
 | i, x :: r => nameA1 (g i) x :: nameAL g (i + 1) r
theorem nameAL_get {g : Nat -> Nat} : ∀ {i : Nat} {l : List Ent} {k : Nat} {x : Ent}, (nameAL g i l)[k]? = some x -> ∃ y, l[k]? = some y /\ x = nameA1 (g (i + k)) y
 | i, [], k, x, h => by simp [nameAL] at h
 | i, y :: r, k, x, h => by
   simp only [nameAL] at h
   cases k with
   | zero => simp only [List.getElem?_cons_zero, Option.some.injEq] at h; exact ⟨y, rfl, h.symm⟩
   | succ k =>
     obtain ⟨z, h1, h2⟩ := nameAL_get (i := i + 1) (k := k) (by simpa using h)
     exact ⟨z, by simpa using h1, by rw [h2, show i + (k + 1) = i + 1 + k from by omega]⟩
theorem nameAL_len {g : Nat -> Nat} : ∀ {i : Nat} {l : List Ent}, (nameAL g i l).length = l.length
 | i, [] => rfl
 | i, x :: r => by simp [nameAL, nameAL_len]
theorem nameA_sound (g : Nat -> Nat) : ∀ {l : List Ent} {i : Nat} {F : List Ent -> Prop}, nameA l F -> F (nameAL g i l)
 | [], i, F, h => h
 | x :: r, i, F, h => by
   obtain ⟨o, nm⟩ := x
   cases o <;> cases nm <;> simp only [nameA] at h <;>
    first
     | exact nameA_sound g (i := i + 1) h
     | exact nameA_sound g (i := i + 1) (h (g i))
theorem nameA1_spec (b : Nat) (x : Ent) : (nameA1 b x).obj = x.obj /\ ((nameA1 b x).name = x.name \/ ((nameA1 b x).name = some b /\ alive x.obj = true /\ ∀ xs sz el, x.obj ≠ .row xs sz el)) := by
 obtain ⟨o, nm⟩ := x
 cases o <;> cases nm <;> simp [nameA1, alive]
section
variable {P : Program} {c : Ctx} {e : Env} {s : St} {w : World} {a : Act}
theorem SatX.name (hS : SatX c e s w) {id : Nat} {x : Ent} (hx : s.H[id]? = some x) (hn : e.nil id = false) : SatX c e { s with H := s.H.set id ⟨x.obj, some (e.blk id)⟩ } w := by
 have key : ∀ {j : Nat} {y : Ent}, (s.H.set id ⟨x.obj, some (e.blk id)⟩)[j]? = some y -> ∃ y0, s.H[j]? = some y0 /\ y0.obj = y.obj := by
  intro j y hy
  rcases getElem?_set' hy with ⟨rfl, rfl, _⟩ | ⟨_, hy⟩
  · exact ⟨x, hx, rfl⟩
  · exact ⟨y, hy, rfl⟩
 refine ⟨⟨hS.same, hS.size, hS.I, hS.hf, hS.old, fun j y hy hal => ?_, fun i j y z hy hz h1 h2 => ?_, fun j y b hy hb => ?_⟩, hS.gIn, hS.gI, fun j y hy hal hnl => ?_⟩
 · obtain ⟨y0, h1, h2⟩ := key hy
   have := hS.owned j y0 h1 (h2 ▸ hal);rw [h2] at this;exact this
 · obtain ⟨y0, g1, g2⟩ := key hy
   obtain ⟨z0, g3, g4⟩ := key hz;exact hS.apart i j y0 z0 g1 g3 (g2 ▸ h1) (g4 ▸ h2)
 · rcases getElem?_set' hy with ⟨rfl, rfl, _⟩ | ⟨_, hy⟩
   · simp only [Option.some.injEq] at hb
     exact ⟨hb, hn⟩
   · exact hS.names j y b hy hb
 · obtain ⟨y0, h1, h2⟩ := key hy
   exact hS.gOwn j y0 h1 (h2 ▸ hal) hnl
theorem SatX.nameAll (hS : SatX c e s w) : SatX c e { s with H := nameAL e.blk 0 s.H } w := by
 have key : ∀ {j : Nat} {y : Ent}, (nameAL e.blk 0 s.H)[j]? = some y -> ∃ y0, s.H[j]? = some y0 /\ y.obj = y0.obj /\ (y.name = y0.name \/ (y.name = some (e.blk j) /\ alive y0.obj = true /\ ∀ xs sz el, y0.obj ≠ .row xs sz el)) := by
  intro j y hy;obtain ⟨y0, h1, rfl⟩ := nameAL_get hy;rw [Nat.zero_add];exact ⟨y0, h1, nameA1_spec _ _⟩
 refine ⟨⟨hS.same, hS.size, hS.I, hS.hf, hS.old, fun j y hy hal => ?_, fun i j y z hy hz h1 h2 => ?_, fun j y b hy hb => ?_⟩, hS.gIn, hS.gI, fun j y hy hal hnl => ?_⟩
 · obtain ⟨y0, h1, h2, _⟩ := key hy
   have := hS.owned j y0 h1 (h2 ▸ hal);rw [<- h2] at this;exact this
 · obtain ⟨y0, g1, g2, _⟩ := key hy
   obtain ⟨z0, g3, g4, _⟩ := key hz;exact hS.apart i j y0 z0 g1 g3 (g2 ▸ h1) (g4 ▸ h2)
 · obtain ⟨y0, h1, h2, h3 | ⟨h3, h4, h5⟩⟩ := key hy
   · exact hS.names j y0 b h1 (by rw [<- h3]; exact hb)
   · rw [h3] at hb
     simp only [Option.some.injEq] at hb;exact ⟨hb, holds_nil (hS.owned j y0 h1 h4).1 h5 h4⟩
 · obtain ⟨y0, h1, h2, _⟩ := key hy
   exact hS.gOwn j y0 h1 (h2 ▸ hal) hnl
theorem SatX.pushN (hS : SatX c e s w) (hA : SatA e s a) (hw : wfSt s = true) {o : Obj} :
 SatX c (e.upd s.H.length w.heap.size 0 false) { s with H := s.H ++ [⟨.raw o, some w.heap.size⟩] } (w.alloc o) /\ SatA (e.upd s.H.length w.heap.size 0 false) { s with H := s.H ++ [⟨.raw o, some w.heap.size⟩] } a := by
 have hheap : (w.alloc o).heap = w.heap.push o := by rw [<- World.alloc_eq]
 obtain ⟨h1, h2⟩ := hS.toSat.push hA hw (w' := w.alloc o) (o := o) (obj := .raw o) (cp := 0) hheap (by rw [<- World.alloc_eq]; exact ⟨rfl, rfl, rfl⟩) ⟨upd_eq.2.2, by rw [upd_eq.1, hheap]; simp⟩
 have h3 := hS.step h1 (evo_push (obj := .raw o) (cp := 0) hheap)
 have h4 := h3.name (id := s.H.length) (x := ⟨.raw o, none⟩) (by simp) upd_eq.2.2
 have hset : (s.H ++ [(⟨.raw o, none⟩ : Ent)]).set s.H.length ⟨.raw o, some w.heap.size⟩ = s.H ++ [⟨.raw o, some w.heap.size⟩] := by
  rw [List.set_append_right _ _ (Nat.le_refl _)]
  simp
 refine ⟨?_, ⟨h2.size, h2.tm, h2.defers⟩⟩
 have h5 : SatX c (e.upd s.H.length w.heap.size 0 false) { s with H := (s.H ++ [(⟨.raw o, none⟩ : Ent)]).set s.H.length ⟨.raw o, some ((e.upd s.H.length w.heap.size 0 false).blk s.H.length)⟩ } (w.alloc o) := h4
 rw [upd_eq.1, hset] at h5;exact h5
theorem SatX.calledX (hS : SatX c e s w) {T : St} {e' : Env} {I2 G2 : Mem} {w3 : World} (hI2 : I2.inW w3) (hG2 : G2.inW w3) (hap : I2.apart G2) (hsz : w.heap.size <= w3.heap.size) (hsame : Same w w3)
 (hold : ∀ b, b < w.heap.size -> ownM e s w b = none -> w3.heap[b]? = w.heap[b]?) (hnew : ∀ b, b < w.heap.size -> ownM e s w b = none -> G2 b = none /\ (s.I b = none -> I2 b = none)) (hO : OwnX e' T G2) :
 SatX c e' { T with I := I2 } w3 := by
 have hne : ∀ {id : Nat} {x : Ent}, T.H[id]? = some x -> alive x.obj = true -> e'.nil id = false -> G2 (e'.blk id) ≠ none := fun hx hal hn => holds_blk (hO.hold _ _ hx hal) hal hn
 have hgne : ∀ {b : Nat}, T.G b ≠ none -> G2 b ≠ none := fun {b} hb => by
  obtain ⟨o, ho⟩ := Option.ne_none_iff_exists'.1 hb;rw [hO.g b o ho]
  simp
 have hfo : ∀ {b : Nat} {o : Obj}, c.hf b = some o -> b < w.heap.size /\ ownM e s w b = none := fun {b o} hb => by
  refine ⟨Mem.inW_lt hS.hf hb, ?_⟩
  by_cases h : ownM e s w b = none
  · exact h
  · exfalso
    rcases ownM_dom h with ⟨id, x, hx, hal, hn, rfl⟩ | hg
    · rw [((hS.owned id x hx hal).2 hn).2] at hb; cases hb
    · rw [(hS.gI b hg).2] at hb; cases hb
 have hfn : ∀ {b : Nat}, G2 b ≠ none -> c.hf b = none := fun {b} hb => by
  cases hf : c.hf b with
  | none => rfl
  | some o =>
    obtain ⟨g1, g2⟩ := hfo hf;exact absurd (hnew b g1 g2).1 hb
 refine ⟨⟨hS.same.trans hsame, Nat.le_trans hS.size hsz, hI2, fun b o hb => ?_, fun b hb h0 => ?_, fun id x hx hal => ⟨?_, fun hn => ⟨(hap _).resolve_right (hne hx hal hn), hfn (hne hx hal hn)⟩⟩, hO.apart, hO.names⟩,
  fun b o hb => hG2 b o (hO.g b o hb), fun b hb => ⟨(hap b).resolve_right (hgne hb), hfn (hgne hb)⟩, hO.gOwn⟩
 · obtain ⟨g1, g2⟩ := hfo hb
   rw [hold b g1 g2];exact hS.hf b o hb
 · obtain ⟨o, ho⟩ := Option.ne_none_iff_exists'.1 hb
   obtain ⟨g1, g2⟩ := hfo ho;exact (hnew b g1 g2).2 (hS.old b hb h0)
 · refine holds_mem (fun hn => ?_) (hO.hold id x hx hal)
   obtain ⟨o, ho⟩ := Option.ne_none_iff_exists'.1 (hne hx hal hn);rw [ho];exact hG2 _ o ho
theorem SatX.marked (hS : SatX c e s w) (m : List Nat) (r : Option Nat) : SatX c e { s with marks := m, rnd := r } w :=
 ⟨⟨hS.same, hS.size, hS.I, hS.hf, hS.old, hS.owned, hS.apart, hS.names⟩, hS.gIn, hS.gI, hS.gOwn⟩
theorem SatX.less (hS : SatX c e s w) {tm : List SV} : SatX c e { s with tm := tm } w :=
 ⟨⟨hS.same, hS.size, hS.I, hS.hf, hS.old, hS.owned, hS.apart, hS.names⟩, hS.gIn, hS.gI, hS.gOwn⟩
theorem SatX.toHf (hS : SatX c e s w) : SatX { c with hf := join s.G c.hf } e { s with G := Mem.emp } w := by
 refine ⟨⟨hS.same, hS.size, hS.I, join_in hS.gIn hS.hf, fun b hb h0 => ?_, fun id x hx hal => ⟨(hS.owned id x hx hal).1, fun hn => ⟨((hS.owned id x hx hal).2 hn).1, ?_⟩⟩, hS.apart, hS.names⟩, fun b o hb => (by cases hb), fun b hb => absurd rfl hb, fun id x hx hal hn => rfl⟩
 · by_cases hg : s.G b = none
   · refine hS.old b (fun hc => hb ?_) h0
     show join s.G c.hf b = none
     rw [join_none hg]; exact hc
   · exact (hS.gI b hg).1
 · show join s.G c.hf _ = none
   rw [join_none (hS.gOwn id x hx hal hn)];exact ((hS.owned id x hx hal).2 hn).2
theorem SatX.ofHf {T : St} {G : Mem} (hT : SatX { c with hf := join G c.hf } e T w) (hI : ∀ b, G b ≠ none -> T.I b = none /\ c.hf b = none) : SatX c e { T with G := G } w := by
 have hf : ∀ {b : Nat} {o : Obj}, c.hf b = some o -> join G c.hf b = some o := fun {b o} hb => by
  have : G b = none := by
   by_cases hg : G b = none
   · exact hg
   · rw [(hI b hg).2] at hb; cases hb
  rw [join_none this]; exact hb
 have ho : ∀ (id : Nat) (x : Ent), T.H[id]? = some x -> alive x.obj = true -> e.nil id = false -> G (e.blk id) = none /\ c.hf (e.blk id) = none := fun id x hx hal hn => join_eq_none ((hT.owned id x hx hal).2 hn).2;refine ⟨⟨hT.same, hT.size, hT.I, fun b o hb => hT.hf b o (hf hb), fun b hb h0 => ?_, fun id x hx hal => ⟨(hT.owned id x hx hal).1, fun hn => ⟨((hT.owned id x hx hal).2 hn).1, (ho id x hx hal hn).2⟩⟩, hT.apart, hT.names⟩, fun b o hb => hT.hf b o (join_some hb), hI, fun id x hx hal hn => (ho id x hx hal hn).1⟩;obtain ⟨o, hbo⟩ := Option.ne_none_iff_exists'.1 hb;refine hT.old b ?_ h0
 show join G c.hf b ≠ none
 rw [hf hbo]; simp
theorem OwnX.joinG {e : Env} {T : St} {A B : Mem} (hO : OwnX e T A) (hT : T.G = Mem.emp) (hap : A.apart B) : OwnX e { T with G := B } (join A B) := by
 have hne : ∀ {id : Nat} {x : Ent}, T.H[id]? = some x -> alive x.obj = true -> e.nil id = false -> A (e.blk id) ≠ none := fun hx hal hn => holds_blk (hO.hold _ _ hx hal) hal hn;refine ⟨fun id x hx hal => holds_mem (fun hn => ?_) (hO.hold id x hx hal), hO.apart, hO.names, fun b hb => ?_, fun b o hb => join_right hap hb, fun id x hx hal hn => (hap _).resolve_left (hne hx hal hn)⟩
 · obtain ⟨o, ho⟩ := Option.ne_none_iff_exists'.1 (hne hx hal hn)
   rw [join_some ho, ho]
 · cases hA : A b with
   | some o =>
     rcases hO.dom b (by rw [hA]; simp) with h | h
     · exact .inl h
     · rw [hT] at h; exact absurd rfl h
   | none =>
     rw [join_none hA] at hb;exact .inr hb
def addB (G : Mem) (b : Nat) (o : Obj) : Mem := fun x => if x = b then some o else G x
def giveS (id b : Nat) (G' : Mem) (s : St) : St := { handS id (.blk b) s.I s with G := G' }
theorem SatX.give1 (hS : SatX c e s w) (hA : SatA e s a) {id : Nat} {x : Ent} {o : Obj} (hx : s.H[id]? = some x) (hal : alive x.obj = true) (hn : e.nil id = false) (ho : w.heap[e.blk id]? = some o) :
 SatX c e (giveS id (e.blk id) (addB s.G (e.blk id) o) s) w /\ SatA e (giveS id (e.blk id) (addB s.G (e.blk id) o) s) a := by
 obtain ⟨I', hle, hS', hA', _, _⟩ := hS.toSat.hand1 hA (n := .blk (e.blk id)) hx hal rfl;have hown := (hS.owned id x hx hal).2 hn
 have key : ∀ {j : Nat} {y : Ent}, ((s.H.map (substE id (.blk (e.blk id)))).set id ⟨.dead, none⟩)[j]? = some y -> alive y.obj = true -> j ≠ id /\ ∃ y0, s.H[j]? = some y0 /\ alive y0.obj = true := by
  intro j y hy hal'
  rcases getElem?_set' hy with ⟨rfl, rfl, _⟩ | ⟨hne, hy⟩
  · cases hal'
  · rw [List.getElem?_map, Option.map_eq_some_iff] at hy
    obtain ⟨y0, hy0, rfl⟩ := hy;exact ⟨hne, y0, hy0, (handE_alive id _ y0).1 ▸ hal'⟩
 refine ⟨⟨⟨hS.same, hS.size, hS.I, hS.hf, hS.old, fun j y hy hal' => ⟨(hS'.owned j y hy hal').1, fun hnl => ⟨?_, ((hS'.owned j y hy hal').2 hnl).2⟩⟩, hS'.apart, hS'.names⟩, fun b o' hb => ?_, fun b hb => ?_, fun j y hy hal' hnl => ?_⟩, ⟨hA'.size, hA'.tm, hA'.defers⟩⟩
 · have := ((hS'.owned j y hy hal').2 hnl).1
   cases hI : s.I (e.blk j) with
   | none => exact hI
   | some o' => rw [show (handS id (.blk (e.blk id)) I' s).I = I' from rfl, hle _ _ hI] at this; cases this
 · simp only [giveS, addB] at hb
   split at hb
   · rename_i hbb
     cases hb
     rw [hbb]; exact ho
   · exact hS.gIn b o' hb
 · simp only [giveS, addB] at hb
   split at hb
   · rename_i hbb
     rw [hbb]; exact hown
   · exact hS.gI b hb
 · obtain ⟨hne, y0, hy0, hal0⟩ := key hy hal'
   simp only [giveS, addB];rw [if_neg (hS.apart j id y0 x hy0 hx hal0 hal hnl hn hne)];exact hS.gOwn j y0 hy0 hal0 hnl
def give (P : Program) : Nat -> List Nat -> St -> (St -> Prop) -> Prop
 | 0, _, _, _ => False
 | _ + 1, [], s, K => K s
 | n + 1, id :: r, s, K => match s.H[id]? with
   | some ⟨.cells cs el, nm⟩ => match refL1 cs with
     | some i => give P n (i :: id :: r) s K
     | none => match valL cs with
       | some vs => match nm with
         | some b => s.I b = none -> s.G b = none -> give P n r (giveS id b (addB s.G b (.cells vs.toArray el (0, 0))) s) K
         | none => ∀ b : Nat, s.I b = none -> s.G b = none -> give P n r (giveS id b (addB s.G b (.cells vs.toArray el (0, 0))) s) K
       | none => False
   | some ⟨.vec xs el, nm⟩ => match nm with
     | some b => s.I b = none -> s.G b = none -> give P n r (giveS id b (addB s.G b (.cells xs.toArray el (0, 0))) s) K
     | none => ∀ b : Nat, s.I b = none -> s.G b = none -> give P n r (giveS id b (addB s.G b (.cells xs.toArray el (0, 0))) s) K
   | some ⟨.dead, _⟩ => give P n r s K
   | _ => False
theorem giveS_len (id b : Nat) (G' : Mem) (s : St) : (giveS id b G' s).tm.length = s.tm.length := by simp [giveS, handS, substL_eq]
theorem give_sound : ∀ {n : Nat} {l : List Nat} {s : St} {K : St -> Prop}, give P n l s K -> SatX c e s w -> SatA e s a ->
 ∃ s', K s' /\ SatX c e s' w /\ SatA e s' a /\ s'.I = s.I /\ s'.tm.length = s.tm.length
 | 0, _, _, _, h, _, _ => h.elim
 | n + 1, [], s, K, h, hS, hA => ⟨s, h, hS, hA, rfl, rfl⟩
 | n + 1, id :: r, s, K, h, hS, hA => by
   simp only [give] at h
   have go : ∀ {s1 : St} {K : St -> Prop}, give P n r s1 K -> SatX c e s1 w -> SatA e s1 a -> s1.I = s.I -> s1.tm.length = s.tm.length ->
    ∃ s', K s' /\ SatX c e s' w /\ SatA e s' a /\ s'.I = s.I /\ s'.tm.length = s.tm.length := by
    intro s1 K h1 hS1 hA1 hI hlen;obtain ⟨s', g1, g2, g3, g4, g5⟩ := give_sound h1 hS1 hA1;exact ⟨s', g1, g2, g3, g4.trans hI, g5.trans hlen⟩
   split at h
   · rename_i cs el nm hH
     split at h
     · exact give_sound h hS hA
     · split at h
       · rename_i vs hvs
         obtain ⟨⟨hnil, cur, hb, h2, h3⟩, hfr⟩ := hS.owned id _ hH rfl
         have hcur : cur = vs.toArray := by
          obtain ⟨v1, v2⟩ := valL_den (e := e) hvs;rw [denL_eq] at v1;apply Array.ext_getElem?;intro k
          by_cases hk : k < cs.length
          · have hkk := List.getElem?_eq_getElem hk
            rw [h3 k _ hkk (v2 _ (List.mem_of_getElem? hkk)), <- v1];simp [hkk]
          · have : vs.length = cs.length := by rw [<- v1]; simp
            rw [Array.getElem?_eq_none (by omega), Array.getElem?_eq_none (by simp; omega)]
         subst hcur;have hg := hS.gOwn id _ hH rfl hnil;obtain ⟨g1, g2⟩ := hS.give1 hA hH rfl hnil hb
         split at h
         · rename_i b
           obtain rfl := (hS.names id _ b hH rfl).1;exact go (h (hfr hnil).1 hg) g1 g2 rfl (giveS_len ..)
         · exact go (h _ (hfr hnil).1 hg) g1 g2 rfl (giveS_len ..)
       · exact h.elim
   · rename_i xs el nm hH
     obtain ⟨⟨hnil, hb⟩, hfr⟩ := hS.owned id _ hH rfl;have hg := hS.gOwn id _ hH rfl hnil;obtain ⟨g1, g2⟩ := hS.give1 hA hH rfl hnil hb
     split at h
     · rename_i b
       obtain rfl := (hS.names id _ b hH rfl).1;exact go (h (hfr hnil).1 hg) g1 g2 rfl (giveS_len ..)
     · exact go (h _ (hfr hnil).1 hg) g1 g2 rfl (giveS_len ..)
   · exact go h hS hA rfl rfl
   · exact h.elim
theorem SatX.kill (hS : SatX c e s w) (id : Nat) : SatX c e { s with H := s.H.set id ⟨.dead, none⟩ } w := by
 have key : ∀ {j : Nat} {y : Ent}, (s.H.set id ⟨.dead, none⟩)[j]? = some y -> alive y.obj = true -> s.H[j]? = some y := by
  intro j y hy hal
  rcases getElem?_set' hy with ⟨_, rfl, _⟩ | ⟨_, hy⟩
  · cases hal
  · exact hy
 refine ⟨⟨hS.same, hS.size, hS.I, hS.hf, hS.old, fun j y hy hal => hS.owned j y (key hy hal) hal, fun i j y z hy hz h1 h2 => hS.apart i j y z (key hy h1) (key hz h2) h1 h2, fun j y b hy hb => ?_⟩, hS.gIn, hS.gI, fun j y hy hal hnl => hS.gOwn j y (key hy hal) hal hnl⟩
 rcases getElem?_set' hy with ⟨_, rfl, _⟩ | ⟨_, hy⟩
 · cases hb
 · exact hS.names j y b hy hb
end
end Go.SE
