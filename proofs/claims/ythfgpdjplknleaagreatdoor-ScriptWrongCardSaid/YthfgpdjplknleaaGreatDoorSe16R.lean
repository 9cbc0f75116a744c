/- Ranges over functions: soundness. -/
import Derived.Test.YthfgpdjplknleaaGreatDoorSe16
namespace Go.SE
open Go.RowKit

/-- What is shown of the symbolic run of a piece of code holds of its run. -/
def SoundAt (P : Program) (cd : Code) : Prop :=
  ∀ {A : Ann} {r : Option Nat} {c : Ctx} {s : St} {K : SX → St → Prop} {Q : Exit → Act → World → Prop} {e : Env} {a : Act} {w : World}, se P A cd s K →
    (∀ (x : SX) (e' : Env) (s' : St) (a' : Act) (w' : World), K x s' → SatX c e' s' w' → SatA e' s' a' → s.I.le s'.I → s'.tm.length = s.tm.length → Q (toX x) a' w') →
    SatX c e s w → SatA e s a → A.rd = r.isSome → cd.wpIn (Fr r) 0 P Q a w

theorem headR_both {s1 now now' : St} {ents : List (Nat × EA)} {F G : List Value → List (List Value) → St → Prop} (hI : now'.I = now.I) (hG : now'.G = now.G) (hm : now.marks = s1.marks) (hl : now.tm.length = s1.tm.length)
    (h1 : headR (pickNow s1 now) ents s1 now F) (h2 : headR pickAll ents s1 now' G) :
    ∃ vals xss T, F vals xss T ∧ G vals xss T ∧ T.I = now.I ∧ T.G = now.G ∧ T.tm = s1.tm.map (stabV s1.H T.H) ∧ T.marks = now.marks ∧ ∀ {c : Ctx} {e : Env} {w : World}, SatX c e now w → SatX c e T w := by
  obtain ⟨vals, xss, T0, g1, g2, g3⟩ := headS_both hI hG hm hl h1 h2
  exact ⟨vals, xss, _, g1, g2, g3.I, g3.G, rfl, g3.marks, fun hS => (hS.ref g3).less⟩

theorem run_semV_yield {P : Program} {l : Nat} {args : Array Value} {W : World} : (semV (.func (.yield l) #[] #[]) args).run P W = (Instr.yield l args).run P W := by
  simp [semV, Deferred.ofValue, invoke]

/-- The temporaries of a round. -/
theorem foldl_setPs {e : Env} : ∀ {ps : List Tmp} {svs : List SV} {vs : List Value} {tm : List SV} {tmps : Array Value}, svs.length = vs.length → vs.length = ps.length →
    (∀ (k : Nat) (sv : SV), svs[k]? = some sv → vs[k]? = some (den e sv)) → tmps.size = tm.length → (∀ (t : Nat) (sv : SV), tm[t]? = some sv → isJunk sv = false → tmps[t]? = some (den e sv)) →
    ((ps.zip vs).foldl (fun tmps (x : Tmp × Value) => tmps.setIfInBounds x.1 x.2) tmps).size = (setPs ps svs tm).length ∧
    ∀ (t : Nat) (sv : SV), (setPs ps svs tm)[t]? = some sv → isJunk sv = false → ((ps.zip vs).foldl (fun tmps (x : Tmp × Value) => tmps.setIfInBounds x.1 x.2) tmps)[t]? = some (den e sv)
  | [], [], [], tm, tmps, _, _, _, h1, h2 => ⟨h1, h2⟩
  | t :: ts, sv :: svs, v :: vs, tm, tmps, hl, hl2, hv, h1, h2 => by
    have hv0 : v = den e sv := by
      have := hv 0 sv rfl
      simpa using this
    refine foldl_setPs (ps := ts) (svs := svs) (vs := vs) (by simpa using hl) (by simpa using hl2) (fun k x hk => by simpa using hv (k + 1) x (by simpa using hk)) (by simpa using h1) (fun k x hk hj => ?_)
    rcases getElem?_set' hk with ⟨rfl, rfl, hlt⟩ | ⟨hne, hk⟩
    · rw [Array.getElem?_setIfInBounds_self_of_lt (by rw [h1]; exact hlt), hv0]
    · rw [Array.getElem?_setIfInBounds_ne (Ne.symm hne)]
      exact h2 k x hk hj
  | [], _ :: _, vs, tm, tmps, hl, hl2, _, _, _ => by simp at hl2; simp [hl2] at hl
  | [], [], _ :: _, tm, tmps, hl, _, _, _, _ => by simp at hl
  | _ :: _, [], vs, tm, tmps, hl, hl2, _, _, _ => by simp at hl hl2; omega
  | _ :: _, _ :: _, [], tm, tmps, hl, _, _, _, _ => by simp at hl

theorem isX_eq : ∀ {x y : SX}, isX x y = true → x = y
  | .norm, .norm, _ => rfl
  | .ret, .ret, _ => rfl
  | .exit i, .exit j, h => by rw [Nat.eq_of_beq_eq_true h]
  | .norm, .ret, h | .norm, .exit _, h | .ret, .norm, h | .ret, .exit _, h | .exit _, .norm, h | .exit _, .ret, h => by simp [isX] at h
theorem allJ_look {α : Type} {F : SX → α → Prop} {x : SX} {v : α} : ∀ {l : List (SX × α)}, lookX x l = some v → allJ F l → F x v
  | (y, u) :: r, h, hF => by
    simp only [lookX] at h
    have hyr : F y u ∧ allJ F r := by
      cases r with
      | nil => exact ⟨hF, trivial⟩
      | cons z r => exact hF
    split at h
    · rename_i hb
      simp only [Option.some.injEq] at h
      rw [isX_eq hb, ← h]
      exact hyr.1
    · exact allJ_look h hyr.2

theorem setPs_len : ∀ {ps : List Tmp} {svs tm : List SV}, (setPs ps svs tm).length = tm.length
  | t :: ts, v :: vs, tm => by simp [setPs, setPs_len]
  | [], _, _ => by simp [setPs]
  | _ :: _, [], _ => by simp [setPs]
theorem psOk_len : ∀ {l : List PSh} {vs : List Value}, psOk l vs = true → vs.length = l.length
  | [], [], _ => rfl
  | .sh s :: r, v :: vs, h => by
    simp only [psOk, Bool.and_eq_true] at h
    simp [psOk_len h.2]
  | .agg l :: r, v :: vs, h => by
    cases v <;> simp only [psOk, Bool.false_eq_true, Bool.and_eq_true] at h
    simp [psOk_len h.2]
  | [], _ :: _, h => by simp [psOk] at h
  | .sh _ :: _, [], h => by simp [psOk] at h
  | .agg _ :: _, [], h => by simp [psOk] at h

/-- The activation behind the statement. -/
theorem outS_satA {e e1 eT : Env} {s' T : St} {S1tm : List SV} {H1 : List Ent} {a : Act} {I2 : Mem} {bd : Nat} (hA1 : a.tmps.size = S1tm.length ∧ ∀ (t : Nat) (sv : SV), S1tm[t]? = some sv → isJunk sv = false → a.tmps[t]? = some (den e1 sv))
    (hn1 : ∀ (id : Nat) (x : Ent) (b : Nat), H1[id]? = some x → x.name = some b → e1.blk id = b ∧ e1.nil id = false)
    (hn2 : ∀ (id : Nat) (x : Ent) (b : Nat), T.H[id]? = some x → x.name = some b → eT.blk id = b ∧ eT.nil id = false) (hq : nameEq H1 T.H) (ht : T.tm = S1tm.map (stabV H1 T.H))
    (hd : a.defers = s'.marks.map (mark e)) (hm : ∀ m, m ∈ s'.marks → e1.blk m = e.blk m) (hbd : e1.blk s'.H.length = bd)
    (hok : (s'.marks ++ [s'.H.length]).all (okN H1 T.H) = true) : SatA eT (outS s' T I2) { a with defers := [{ target := .collected bd, args := #[] }] ++ a.defers } := by
  have blk : ∀ m, okN H1 T.H m = true → eT.blk m = e1.blk m := by
    intro m ho
    unfold okN at ho
    split at ho
    · rename_i o1 b1 o2 b2 h1 h2
      rw [(hn1 m _ b1 h1 rfl).1, (hn2 m _ b2 h2 rfl).1, nameEq_get hq h1 h2 rfl rfl]
    · cases ho
  have hok' := List.all_eq_true.1 hok
  refine ⟨by simp [outS, ht, hA1.1], fun t sv hts hj => ?_, ?_⟩
  · simp only [outS, ht, List.getElem?_map, Option.map_eq_some_iff] at hts
    obtain ⟨sv0, h0, rfl⟩ := hts
    obtain ⟨d1, d2⟩ := stabV_den (e := e1) (e' := eT) hq hn1 hn2 hj
    rw [d1] at hj ⊢
    rw [d2]
    exact hA1.2 t sv0 h0 hj
  · simp only [outS, List.map_cons, hd, List.cons_append, List.nil_append]
    congr 1
    · simp only [mark]
      rw [blk _ (hok' _ (by simp)), hbd]
    · apply List.map_congr_left
      intro m hmm
      simp only [mark]
      rw [blk m (hok' m (by simp [hmm])), hm m hmm]

section
variable {P : Program} {c : Ctx} {e : Env} {s : St} {w : World} {a : Act}
theorem renE_id (x : Ent) : renE (fun i => i) x = x := by
  obtain ⟨o, nm⟩ := x
  cases o <;> simp [renE, renFL_id]
/-- Whole memory that an operation has made is taken for a row. -/
theorem SatX.wholeRow (hS : SatX c e s w) (hA : SatA e s a) {t id len cap sz : Nat} {cs : List SV} {xs : List Value} {el el' : TypeId} {nm : Option Nat} (ht : s.tm[t]? = some (.xsl id 0 len cap)) (hid : s.H[id]? = some ⟨.cells cs el', nm⟩)
    (hxs : mapV cs = some xs) (hno : noRsl id s = true) (hlc : len = cap) (hel : el = el') (hlen : xs.length = len * sz) (hsz : 0 < sz) (hle : len ≤ 16777216) :
    SatX c (e.upd id (e.blk id) len false) { s with tm := s.tm.set t (.rsl id len), H := s.H.set id ⟨.row xs sz el, none⟩ } w ∧ SatA (e.upd id (e.blk id) len false) { s with tm := s.tm.set t (.rsl id len), H := s.H.set id ⟨.row xs sz el, none⟩ } a := by
  subst hlc hel
  obtain ⟨⟨hnil, cur, hb, h2, h3⟩, hfr⟩ := hS.owned id _ hid rfl
  have hB : ∀ i, (e.upd id (e.blk id) len false).blk i = e.blk i := fun i => by
    by_cases h : i = id
    · subst h; exact upd_eq.1
    · exact (upd_ne h).1.symm
  have hN : ∀ i, (e.upd id (e.blk id) len false).nil i = e.nil i := fun i => by
    by_cases h : i = id
    · subst h; exact upd_eq.2.2.trans hnil.symm
    · exact (upd_ne h).2.2.symm
  have hC : ∀ i, i ≠ id → (e.upd id (e.blk id) len false).cap i = e.cap i := fun i h => (upd_ne h).2.1.symm
  simp only [noRsl, Bool.and_eq_true, List.all_eq_true, Bool.not_eq_true'] at hno
  have hd : ∀ {x : SV}, rslR id x = false → den (e.upd id (e.blk id) len false) x = den e x := fun {x} hx => by
    have := (den_ren (e1 := e.upd id (e.blk id) len false) (e := e) (f := fun i => i) (x := x) fun i _ => ⟨hB i, hN i, fun hr => hC i (fun h => by rw [h, hx] at hr; cases hr)⟩).1
    rwa [renF_id] at this
  obtain ⟨v1, v2⟩ := mapV_den (e := e) hxs
  have hcur : cur.toList = xs := by
    have hl : xs.length = cs.length := by rw [← v1]; simp
    apply List.ext_getElem?
    intro k
    rw [Array.getElem?_toList]
    by_cases hk : k < cs.length
    · have hkk := List.getElem?_eq_getElem hk
      rw [h3 k _ hkk (v2 _ (List.mem_of_getElem? hkk)), ← v1]
      simp [hkk]
    · rw [Array.getElem?_eq_none (by omega), List.getElem?_eq_none (by omega)]
  have hcs : cur.size = len * sz := by rw [← hlen, ← hcur]; simp
  have key : ∀ {j : Nat} {y : Ent}, (s.H.set id ⟨.row xs sz el, none⟩)[j]? = some y → alive y.obj = true → ∃ y0, s.H[j]? = some y0 ∧ alive y0.obj = true := by
    intro j y hy hal
    rcases getElem?_set' hy with ⟨rfl, rfl, _⟩ | ⟨_, hy⟩
    · exact ⟨_, hid, rfl⟩
    · exact ⟨y, hy, hal⟩
  refine ⟨⟨⟨hS.same, hS.size, hS.I, hS.hf, hS.old, fun j y hy hal => ?_, fun i j y z hy hz h1 h2 n1 n2 hij => ?_, fun j y b hy hbn => ?_⟩, hS.gIn, hS.gI, fun j y hy hal hnl => ?_⟩, ?_⟩
  · rcases getElem?_set' hy with ⟨rfl, rfl, _⟩ | ⟨hne, hy⟩
    · refine ⟨⟨hsz, ⟨len, hlen⟩, .inr ⟨(hN j).trans hnil, cur, by rw [hB]; exact hb, by rw [upd_eq.2.1]; exact hcs, by rw [upd_eq.2.1]; simp only [maxLen]; omega, by rw [hcs, hlen]; exact Nat.le_refl _, ?_⟩⟩, fun _ => ?_⟩
      · rw [hcur, List.take_length]
      · rw [hB]; exact hfr hnil
    · obtain ⟨g1, g2⟩ := hS.owned j y hy hal
      refine ⟨?_, fun hnl => by rw [hB]; exact g2 ((hN j) ▸ hnl)⟩
      have := holds_ren (e1 := e.upd id (e.blk id) len false) (f := fun i => i) (h' := fun b => w.heap[b]?) (x := y) (hB j) (hN j) (hC j hne) (fun _ o ho => ho) (fun sv i ⟨cs', el', k, hx, hk⟩ _ => ⟨hB i, hN i, fun hr => hC i (fun h => by
        have h4 := hno.2 y (List.mem_of_getElem? hy)
        rw [hx] at h4
        have h5 := List.all_eq_true.1 h4 sv (List.mem_of_getElem? hk)
        rw [h] at hr
        rw [hr] at h5; cases h5)⟩) g1
      rwa [renE_id] at this
  · obtain ⟨y0, g1, g2⟩ := key hy h1
    obtain ⟨z0, g3, g4⟩ := key hz h2
    rw [hB, hB]
    exact hS.apart i j y0 z0 g1 g3 g2 g4 ((hN i) ▸ n1) ((hN j) ▸ n2) hij
  · rcases getElem?_set' hy with ⟨rfl, rfl, _⟩ | ⟨_, hy⟩
    · cases hbn
    · rw [hB, hN]; exact hS.names j y b hy hbn
  · obtain ⟨y0, g1, g2⟩ := key hy hal
    rw [hB]
    exact hS.gOwn j y0 g1 g2 ((hN j) ▸ hnl)
  · refine ⟨by simpa using hA.size, fun k y hk hj => ?_, ?_⟩
    · rcases getElem?_set' hk with ⟨rfl, rfl, _⟩ | ⟨_, hk⟩
      · rw [hA.tm _ _ ht rfl]
        simp only [den, upd_eq, Bool.false_eq_true, if_false]
      · rw [hd (hno.1 y (List.mem_of_getElem? hk))]
        exact hA.tm k y hk hj
    · rw [hA.defers]
      apply List.map_congr_left
      intro m _
      simp only [mark, hB]
theorem preS_sound : ∀ {l : List (Nat × Nat × TypeId)} {s : St} {e : Env} {a : Act} {w : World} {K : St → Prop}, preS l s K → SatX c e s w → SatA e s a →
    ∃ e' s', K s' ∧ SatX c e' s' w ∧ SatA e' s' a ∧ s'.I = s.I ∧ s'.tm.length = s.tm.length
  | [], s, e, a, w, K, h, hS, hA => ⟨e, s, h, hS, hA, rfl, rfl⟩
  | (t, sz, el) :: r, s, e, a, w, K, h, hS, hA => by
    simp only [preS] at h
    split at h
    · rename_i ht
      split at h
      · rename_i hc
        simp only [Bool.and_eq_true, Nat.blt_eq] at hc
        obtain ⟨h1, h2⟩ := hS.toSat.add (obj := .row [] sz el) (b := 0) (cp := 0) (nl := true) hA hc.1 (fun _ _ => rfl) (Nat.le_refl _) (Same.refl _) (fun h => by cases h)
          ⟨hc.2, ⟨0, by simp⟩, .inl ⟨upd_eq.2.2, upd_eq.2.1, rfl⟩⟩
        have h3 : SatA (e.upd s.H.length 0 0 true) { addE s (.row [] sz el) with tm := s.tm.set t (.rsl s.H.length 0) } a := by
          refine ⟨by simpa using hA.size, fun k y hk hj => ?_, h2.defers⟩
          rcases getElem?_set' hk with ⟨rfl, rfl, hlt⟩ | ⟨hne, hk⟩
          · rw [h2.tm _ _ ht rfl]
            simp [den, upd_eq]
          · exact h2.tm k y hk hj
        obtain ⟨e', s', g1, g2, g3, g4, g5⟩ := preS_sound h ((hS.step h1 (evo_add (fun _ _ => rfl) (Nat.le_refl _) (fun h => by cases h))).lit _) h3
        exact ⟨e', s', g1, g2, g3, g4, g5.trans (by simp)⟩
      · exact h.elim
    · exact preS_sound h hS hA
    · rename_i id len cap ht
      split at h
      · rename_i cs el' nm hid
        split at h
        · rename_i xs hxs
          split at h
          · rename_i hc
            simp only [Bool.and_eq_true] at hc
            obtain ⟨hno, hlc, hel, hlen, hsz, hle⟩ := hc
            obtain ⟨h1, h2⟩ := hS.wholeRow hA ht hid hxs hno (Nat.eq_of_beq_eq_true hlc) (Nat.eq_of_beq_eq_true hel) (Nat.eq_of_beq_eq_true hlen) (by simpa using hsz) (by simpa using hle)
            obtain ⟨e', s', g1, g2, g3, g4, g5⟩ := preS_sound h h1 h2
            exact ⟨e', s', g1, g2, g3, g4, g5.trans (by simp)⟩
          · exact h.elim
        · exact h.elim
      · exact h.elim
    · rename_i id off ht
      split at h
      · rename_i cs el' nm hid
        split at h
        · rename_i hcs
          split at h
          · rename_i hc
            simp only [Bool.and_eq_true, Nat.blt_eq] at hc
            obtain ⟨h1, h2⟩ := hS.toSat.add (obj := .row [] (sz % 1000) el) (b := 0) (cp := 0) (nl := true) hA hc.1 (fun _ _ => rfl) (Nat.le_refl _) (Same.refl _) (fun h => by cases h)
              ⟨hc.2, ⟨0, by simp⟩, .inl ⟨upd_eq.2.2, upd_eq.2.1, rfl⟩⟩
            have hX := hS.step h1 (evo_add (fun _ _ => rfl) (Nat.le_refl _) (fun h => by cases h))
            have hlt := (List.getElem?_eq_some_iff.1 hid).1
            have hid' : (s.H ++ [⟨.row [] (sz % 1000) el, none⟩])[id]? = some ⟨.cells cs el', nm⟩ := by rw [List.getElem?_append_left hlt]; exact hid
            have hold := (h1.owned id _ hid' rfl).1
            have hX2 := hX.setE hid' rfl (x' := ⟨.cells (cs.set (off + sz / 1000) (.rsl s.H.length 0)) el', nm⟩) rfl (by
              obtain ⟨g1, cc, g2, g3, g4⟩ := hold
              refine ⟨g1, cc, g2, by simpa using g3, fun k y hk hj => ?_⟩
              rcases getElem?_set' hk with ⟨rfl, rfl, _⟩ | ⟨_, hk⟩
              · rw [g4 _ _ hcs rfl]
                simp [den, upd_eq]
              · exact g4 k y hk hj)
            obtain ⟨e', s', g1, g2, g3, g4, g5⟩ := preS_sound h hX2 ⟨h2.size, h2.tm, h2.defers⟩
            exact ⟨e', s', g1, g2, g3, g4, g5⟩
          · exact h.elim
        · exact preS_sound h hS hA
        · exact h.elim
      · exact h.elim
    · exact h.elim

end

theorem outG_satA {e : Env} {s : St} {G : Mem} {a : Act} (h : SatA e s a) : SatA e { s with G := G } a := ⟨h.size, h.tm, h.defers⟩
theorem seRR_sound {P : Program} {g : Operand} {ps : Array Tmp} {assign body : Code} (ha : SoundAt P assign) (hb : SoundAt P body) {A : Ann} {R : RF} {R0 : Value → Mem → Prop} {R1 : Value → Mem → Mem → Prop} {c : Ctx} {s : St} {K : SX → St → Prop} {Q : Exit → Act → World → Prop} {e : Env} {a : Act} {w : World}
    (h : seRR P R R0 R1 g ps (se P { A with rd := true } assign) (se P { A with rd := true } body) s K)
    (hn : ∀ (x : SX) (e' : Env) (s' : St) (a' : Act) (w' : World), K x s' → SatX c e' s' w' → SatA e' s' a' → s.I.le s'.I → s'.tm.length = s.tm.length → Q (toX x) a' w')
    (hS : SatX c e s w) (hA : SatA e s a) : (Code.rangeFunc g ps assign body).wpIn (Fr none) 0 P Q a w := by
  simp only [seRR] at h
  obtain ⟨e, s, h, hS, hA, hIp, hlp⟩ := preS_sound h hS hA
  have hn : ∀ (x : SX) (e' : Env) (s' : St) (a' : Act) (w' : World), K x s' → SatX c e' s' w' → SatA e' s' a' → s.I.le s'.I → s'.tm.length = s.tm.length → Q (toX x) a' w' :=
    fun x e' s' a' w' g1 g2 g3 g4 g5 => hn x e' s' a' w' g1 g2 g3 (hIp ▸ g4) (g5.trans hlp)
  obtain ⟨s', h, hX, hA', hIg, hlen⟩ := give_sound h hS hA
  have hle : s.I.le s'.I := by rw [hIg]; exact Mem.le_refl _
  split at h
  case h_2 => exact h.elim
  rename_i fv hfv
  split at h
  case isFalse => exact h.elim
  rename_i hpl
  have h := nameA_sound e.blk (i := 0) h
  have hXn := hX.nameAll
  generalize hHn : nameAL e.blk 0 s'.H = H at h hXn
  have hHl : H.length = s'.H.length := by rw [← hHn, nameAL_len]
  have hAn : SatA e { s' with H := H } a := ⟨hA'.size, hA'.tm, hA'.defers⟩
  refine wpIn_rangeFunc fun fn _ => ?_
  let rc : Loop := { state := .ready, pending := none, fn := fn, tmps := a.tmps, params := ps, assign := assign, body := body, defers := w.heap.size }
  have h := h w.heap.size (w.heap.size + 1) rc
  split at h
  case isFalse => exact h.elim
  rename_i hwf
  simp only [Bool.and_eq_true] at hwf
  obtain ⟨hgiv, hR0, hps, hin, hround, hnorm, hjump⟩ := h
  obtain ⟨hX1, hA1⟩ := hXn.pushN hAn hwf.1 (o := .deferred (some []))
  obtain ⟨hX2, hA2⟩ := hX1.pushN hA1 hwf.2 (o := .loop rc)
  have hrec : recS rc .ready none = .loop rc := rfl
  have hS1 : SatX { c with hf := join s'.G c.hf } ((e.upd H.length w.heap.size 0 false).upd (H.length + 1) (w.heap.size + 1) 0 false) { rstate { s' with H := H } w.heap.size (w.heap.size + 1) (recS rc .ready none) with G := Mem.emp } ((w.alloc (.deferred (some []))).alloc (.loop rc)) := by
    have := (hX2.marked [] (some (H.length + 1))).toHf
    simpa [rstate, hrec] using this
  have hA1' : SatA ((e.upd H.length w.heap.size 0 false).upd (H.length + 1) (w.heap.size + 1) 0 false) { rstate { s' with H := H } w.heap.size (w.heap.size + 1) (recS rc .ready none) with G := Mem.emp } { tmps := a.tmps, defers := [] } := by
    refine ⟨hA2.size, fun t sv ht hj => ?_, rfl⟩
    have := hA2.tm t sv ht hj
    simpa using this
  obtain ⟨S1, hS1d⟩ : ∃ S1 : St, ({ rstate { s' with H := H } w.heap.size (w.heap.size + 1) (recS rc .ready none) with G := Mem.emp } : St) = S1 := ⟨_, rfl⟩
  have hin : headR (pickNow S1 S1) R.ents S1 S1 (fun vals xss T => keepsN S1.H T.H (s'.H.length + 1) (recS rc .ready none) ∧ R.inv 0 vals xss s'.I Mem.emp) := by rw [← hS1d]; exact hin
  have hround : (∀ (k : Nat) (I' : Mem), k < R.n → s'.I.le I' → headR pickAll R.ents S1 { S1 with I := I' } fun vals xss T => R.inv k vals xss I' Mem.emp →
          ∀ I2 : Mem, I'.le I2 → allPs R.ps fun vs svs => R.enc k vs.toArray I2 →
            se P { A with rd := true } assign { T with tm := setPs ps.toList svs T.tm, I := I2 } fun x s2 => match x, s2.H[s'.H.length + 1]? with
              | .norm, some ⟨.raw o, nm⟩ => o = recS rc .ready none ∧ nm = some (w.heap.size + 1) ∧ se P { A with rd := true } body { s2 with H := s2.H.set (s'.H.length + 1) ⟨.raw (recS rc .busy none), nm⟩ } fun x s3 => match s3.H[s'.H.length + 1]? with
                  | some ⟨.raw o, nm⟩ => o = recS rc .busy none ∧ nm = some (w.heap.size + 1) ∧ s3.G = Mem.emp ∧ if eqNats s3.marks [] then (match x with
                      | .norm => headR (pickNow S1 { s3 with H := s3.H.set (s'.H.length + 1) ⟨.raw (recS rc .ready none), nm⟩ }) R.ents S1
                          { s3 with H := s3.H.set (s'.H.length + 1) ⟨.raw (recS rc .ready none), nm⟩ } fun vals xss T => keepsN S1.H T.H (s'.H.length + 1) (recS rc .ready none) ∧ R.inv (k + 1) vals xss s3.I Mem.emp
                      | x => match lookX x R.jumps with
                        | some (ents, inv) => headR (pickNow { rstate { s' with H := H } w.heap.size (w.heap.size + 1) (recS rc .done (some (codeX x))) with G := Mem.emp } { s3 with H := s3.H.set (s'.H.length + 1) ⟨.raw (recS rc .done (some (codeX x))), nm⟩ }) ents { rstate { s' with H := H } w.heap.size (w.heap.size + 1) (recS rc .done (some (codeX x))) with G := Mem.emp }
                          { s3 with H := s3.H.set (s'.H.length + 1) ⟨.raw (recS rc .done (some (codeX x))), nm⟩ } fun vals xss T => keepsN (rstate { s' with H := H } w.heap.size (w.heap.size + 1) (recS rc .done (some (codeX x)))).H T.H (s'.H.length + 1) (recS rc .done (some (codeX x))) ∧ inv vals xss s3.I Mem.emp
                        | none => False) else False
                  | _ => False
              | _, _ => False) := by rw [← hS1d]; exact hround
  have hnorm : (∀ I' : Mem, s'.I.le I' → headR pickAll R.ents S1 { S1 with I := I' } fun vals xss T => R.inv R.n vals xss I' Mem.emp →
          ∀ I2 G2 : Mem, I'.le I2 → R1 fv I2 G2 → if (s'.marks ++ [s'.H.length]).all (okN S1.H T.H) then K .norm { outS s' T I2 with G := G2 } else False) := by rw [← hS1d]; exact hnorm
  rw [hS1d] at hS1 hA1'
  have hS1H : S1.H = H ++ [⟨.raw (.deferred (some [])), some w.heap.size⟩, ⟨.raw (recS rc .ready none), some (w.heap.size + 1)⟩] := by rw [← hS1d]; rfl
  have hS1I : S1.I = s'.I := by rw [← hS1d]; rfl
  have hS1m : S1.marks = [] := by rw [← hS1d]; rfl
  have hS1t : S1.tm = s'.tm := by rw [← hS1d]; rfl
  generalize he1 : (e.upd H.length w.heap.size 0 false).upd (H.length + 1) (w.heap.size + 1) 0 false = e1 at hS1 hA1'
  generalize hw1 : (w.alloc (.deferred (some []))).alloc (.loop rc) = w1 at hS1
  let Cnd : Nat → St → Prop := fun k T => if k < R.n then
      (∀ I2 : Mem, T.I.le I2 → allPs R.ps fun vs svs => R.enc k vs.toArray I2 →
        se P { A with rd := true } assign { T with tm := setPs ps.toList svs T.tm, I := I2 } fun x s2 => match x, s2.H[s'.H.length + 1]? with
                | .norm, some ⟨.raw o, nm⟩ => o = recS rc .ready none ∧ nm = some (w.heap.size + 1) ∧ se P { A with rd := true } body { s2 with H := s2.H.set (s'.H.length + 1) ⟨.raw (recS rc .busy none), nm⟩ } fun x s3 => match s3.H[s'.H.length + 1]? with
                    | some ⟨.raw o, nm⟩ => o = recS rc .busy none ∧ nm = some (w.heap.size + 1) ∧ s3.G = Mem.emp ∧ if eqNats s3.marks [] then (match x with
                        | .norm => headR (pickNow S1 { s3 with H := s3.H.set (s'.H.length + 1) ⟨.raw (recS rc .ready none), nm⟩ }) R.ents S1
                            { s3 with H := s3.H.set (s'.H.length + 1) ⟨.raw (recS rc .ready none), nm⟩ } fun vals xss T => keepsN S1.H T.H (s'.H.length + 1) (recS rc .ready none) ∧ R.inv (k + 1) vals xss s3.I Mem.emp
                        | x => match lookX x R.jumps with
                          | some (ents, inv) => headR (pickNow { rstate { s' with H := H } w.heap.size (w.heap.size + 1) (recS rc .done (some (codeX x))) with G := Mem.emp } { s3 with H := s3.H.set (s'.H.length + 1) ⟨.raw (recS rc .done (some (codeX x))), nm⟩ }) ents { rstate { s' with H := H } w.heap.size (w.heap.size + 1) (recS rc .done (some (codeX x))) with G := Mem.emp }
                            { s3 with H := s3.H.set (s'.H.length + 1) ⟨.raw (recS rc .done (some (codeX x))), nm⟩ } fun vals xss T => keepsN (rstate { s' with H := H } w.heap.size (w.heap.size + 1) (recS rc .done (some (codeX x)))).H T.H (s'.H.length + 1) (recS rc .done (some (codeX x))) ∧ inv vals xss s3.I Mem.emp
                          | none => False) else False
                    | _ => False
                | _, _ => False)
    else (∀ I2 G2 : Mem, T.I.le I2 → R1 fv I2 G2 → if (s'.marks ++ [s'.H.length]).all (okN S1.H T.H) then K .norm { outS s' T I2 with G := G2 } else False)
  have hS1G : S1.G = Mem.emp := by rw [← hS1d]
  have mk : ∀ {k : Nat} {now : St}, now.G = Mem.emp → k ≤ R.n → now.marks = [] → now.tm.length = s'.tm.length → s'.I.le now.I →
      (headR (pickNow S1 now) R.ents S1 now fun vals xss T => keepsN S1.H T.H (s'.H.length + 1) (recS rc .ready none) ∧ R.inv k vals xss now.I Mem.emp) →
      ∃ T, Cnd k T ∧ keepsN S1.H T.H (s'.H.length + 1) (recS rc .ready none) ∧ T.I = now.I ∧ T.G = now.G ∧ T.tm = S1.tm.map (stabV S1.H T.H) ∧ T.marks = now.marks ∧ ∀ {c : Ctx} {e : Env} {w : World}, SatX c e now w → SatX c e T w := by
    intro k now hg hk hm hl hI hh
    by_cases hlt : k < R.n
    · obtain ⟨vals, xss, T, ⟨f1, f2⟩, g2, h3, h4, h5, hmm, h6⟩ := headR_both (s1 := S1) (now := now) (now' := { S1 with I := now.I }) rfl (hS1G.trans hg.symm) (hm.trans hS1m.symm) (by rw [hl, hS1t]) hh (hround k now.I hlt hI)
      refine ⟨T, ?_, f1, h3, h4, h5, hmm, h6⟩
      simp only [Cnd, if_pos hlt]
      intro I2 hle2
      exact g2 f2 I2 (h3 ▸ hle2)
    · have hkn : k = R.n := by omega
      subst hkn
      obtain ⟨vals, xss, T, ⟨f1, f2⟩, g2, h3, h4, h5, hmm, h6⟩ := headR_both (s1 := S1) (now := now) (now' := { S1 with I := now.I }) rfl (hS1G.trans hg.symm) (hm.trans hS1m.symm) (by rw [hl, hS1t]) hh (hnorm now.I hI)
      refine ⟨T, ?_, f1, h3, h4, h5, hmm, h6⟩
      simp only [Cnd, if_neg hlt]
      intro I2 G2 hle2 hR1
      exact g2 f2 I2 G2 (h3 ▸ hle2) hR1
  let Sx : SX → St := fun x => { rstate { s' with H := H } w.heap.size (w.heap.size + 1) (recS rc .done (some (codeX x))) with G := Mem.emp }
  let J : Nat → Mem → Mem → Prop := fun k I' Gx => ∃ eT T, T.I.le I' ∧ s'.I.le T.I ∧ T.G = Mem.emp ∧ OwnX eT T Gx ∧ T.marks = [] ∧ T.tm = S1.tm.map (stabV S1.H T.H) ∧ keepsN S1.H T.H (s'.H.length + 1) (recS rc .ready none) ∧ Cnd k T
  let D : Mem → Mem → Prop := fun I' Gx => ∃ x eT T, (match x with | .norm => False | _ => True) ∧ T.I.le I' ∧ s'.I.le T.I ∧ T.G = Mem.emp ∧ OwnX eT T Gx ∧ T.tm = S1.tm.map (stabV (Sx x).H T.H) ∧ keepsN (Sx x).H T.H (s'.H.length + 1) (recS rc .done (some (codeX x))) ∧
    ∀ I2 G2 : Mem, T.I.le I2 → if (s'.marks ++ [s'.H.length]).all (okN (Sx x).H T.H) then K x { outS s' T I2 with G := G2 } else False
  obtain ⟨T0, hc0, hk0, hI0, hG0, ht0, hm0, hs0⟩ := mk (k := 0) (now := S1) hS1G (Nat.zero_le _) hS1m (by rw [hS1t]) (by rw [hS1I]; exact Mem.le_refl _) (by rw [hS1I]; exact hin)
  have hST0 := hs0 hS1
  have hT0G : T0.G = Mem.emp := hG0.trans hS1G
  have hGW : ∀ {b : Nat}, s'.G b ≠ none → b < w.heap.size := fun {b} hb => by
    obtain ⟨o, ho⟩ := Option.ne_none_iff_exists'.1 hb
    exact Mem.inW_lt hX.gIn ho
  have hSTf : SatX c e1 { T0 with G := s'.G } w1 := hST0.ofHf fun b hb => ⟨by rw [hI0, hS1I]; exact (hX.gI b hb).1, (hX.gI b hb).2⟩
  have hap0 : (ownM e1 T0 w1).apart s'.G := fun b => by
    by_cases hb : ownM e1 T0 w1 b = none
    · exact .inl hb
    · rcases ownM_dom hb with ⟨id, x, hx, hal, hn', rfl⟩ | hg
      · exact .inr (hSTf.gOwn id x hx hal hn')
      · rw [hT0G] at hg; exact absurd rfl hg
  have hful : ∀ {b : Nat}, ownM e1 { T0 with G := s'.G } w1 b = none → join (ownM e1 T0 w1) s'.G b = none := fun {b} hb => by
    have hg : s'.G b = none := by
      cases hg : s'.G b with
      | none => rfl
      | some o =>
        have hq := hSTf.gIn b o hg
        have : ownM e1 { T0 with G := s'.G } w1 b = some o := by
          unfold ownM
          rw [if_pos (.inr (by show s'.G b ≠ none; rw [hg]; simp))]
          exact hq
        rw [this] at hb; cases hb
    have ho : ownM e1 T0 w1 b = none := by
      by_cases hq : ownM e1 T0 w1 b = none
      · exact hq
      · rcases ownM_dom hq with ⟨id, x, hx, hal, hn', rfl⟩ | hg'
        · have h1 : ownM e1 T0 w1 (e1.blk id) = w1.heap[e1.blk id]? := ownM_own hx hal hn'
          have h2 : ownM e1 { T0 with G := s'.G } w1 (e1.blk id) = w1.heap[e1.blk id]? := ownM_own (T := { T0 with G := s'.G }) hx hal hn'
          rw [h1, ← h2]; exact hb
        · rw [hT0G] at hg'; exact absurd rfl hg'
    rw [join_none ho]; exact hg
  have hS1n : ∀ (id : Nat) (x : Ent) (b : Nat), S1.H[id]? = some x → x.name = some b → e1.blk id = b ∧ e1.nil id = false := hS1.names
  have hnr : S1.H[s'.H.length + 1]? = some ⟨.raw (recS rc .ready none), some (w.heap.size + 1)⟩ := by
    rw [hS1H, ← hHl, List.getElem?_append_right (by omega)]
    simp
  have hnd : S1.H[s'.H.length]? = some ⟨.raw (.deferred (some [])), some w.heap.size⟩ := by
    rw [hS1H, ← hHl, List.getElem?_append_right (Nat.le_refl _)]
    simp
  have hround2 : ∀ k I' Gk args, k < R.n → T0.I.le I' → J k I' Gk → R.enc k args I' → CtH P (.func (.yield (w.heap.size + 1)) #[] #[]) args I' Gk fun v I2 G2 => (v = .bool true ∧ J (k + 1) I2 G2) ∨ (v = .bool false ∧ D I2 G2) := by
    intro k I' Gk args hk hle0 ⟨eT, T, hTI, hTs, hTg, hO, hTm, hTt, hTk, hTc⟩ henc W hI hG hap
    have XT := hO.satX hG hI hap
    obtain ⟨b, hTn⟩ := keepsN_get hTk
    have hb : w.heap.size + 1 = b := nameEq_get hTk.1 hnr hTn rfl rfl
    subst hb
    have hblk := (hO.names _ _ _ hTn rfl).1
    have hcell := (XT.setRaw (o' := .deferred none) hTn).1
    rw [hblk] at hcell
    simp only [Cnd, if_pos hk] at hTc
    have hpsk := hps k args I' henc
    obtain ⟨svs, hsv, hsl, hsd⟩ := allPs_at (hTc I' hTI) hpsk
    have hse := hsv (by simpa using henc)
    have hal : args.toList.length = ps.toList.length := by rw [psOk_len hpsk]; exact Nat.eq_of_beq_eq_true hpl
    have hfold : (ps.zip args).foldl (fun tmps (x : Tmp × Value) => tmps.setIfInBounds x.1 x.2) a.tmps = (ps.toList.zip args.toList).foldl (fun tmps (x : Tmp × Value) => tmps.setIfInBounds x.1 x.2) a.tmps := by
      rw [← Array.foldl_toList, Array.toList_zip]
    have hst := foldl_setPs (e := eT) (ps := ps.toList) (tm := T.tm) (tmps := a.tmps) hsl hal (hsd eT) (by rw [hTt, List.length_map, hS1t]; exact hA'.size) (fun t sv ht hj => by
      rw [hTt, List.getElem?_map, Option.map_eq_some_iff] at ht
      obtain ⟨sv0, h0, rfl⟩ := ht
      obtain ⟨d1, d2⟩ := stabV_den (e := e1) (e' := eT) hTk.1 hS1n hO.names hj
      rw [d1] at hj ⊢
      rw [d2]
      exact hA1'.tm t sv0 h0 hj)
    unfold CallV
    rw [run_semV_yield, run_yield hcell (by simpa using hal)]
    show RoundIn Fence.wide 0 P (w.heap.size + 1) fn _ assign body W _
    refine roundIn_of_wpIn trivial ?_
    have hXp : SatX (ctxOf W I' Gk) eT { T with tm := setPs ps.toList svs T.tm, I := I' } W := XT.less
    refine ha (A := { A with rd := true }) (r := some (w.heap.size + 1)) (c := ctxOf W I' Gk) (e := eT) hse (fun x e2 s2 a2 w2 hK2 hX2 hA2 hle2 hlen2 => ?_) hXp ⟨by rw [hfold]; exact hst.1, by rw [hfold]; exact hst.2, by simp [hTm]⟩ rfl
    split at hK2
    case h_2 => exact hK2.elim
    rename_i o nm hH2
    obtain ⟨rfl, rfl, hse2⟩ := hK2
    obtain ⟨hc2, hXb⟩ := hX2.setRaw (o' := recS rc .busy none) hH2
    have hblk2 := (hX2.names _ _ _ hH2 rfl).1
    rw [hblk2] at hc2 hXb
    refine ⟨_, run_beginRound hc2 rfl, ?_⟩
    refine hb (A := { A with rd := true }) (r := some (w.heap.size + 1)) (c := ctxOf W I' Gk) (e := e2) hse2 (fun x e3 s3 a3 w3 hK3 hX3 hA3 hle3 hlen3 => ?_) hXb ⟨hA2.size, hA2.tm, hA2.defers⟩ rfl
    split at hK3
    case h_2 => exact hK3.elim
    rename_i o nm hH3
    obtain ⟨rfl, rfl, hg3, hK3⟩ := hK3
    split at hK3
    case isFalse => exact hK3.elim
    rename_i hmk3
    have hblk3 := (hX3.names _ _ _ hH3 rfl).1
    have hI3 : I'.le s3.I := Mem.le_trans hle2 hle3
    have hl3 : s3.tm.length = s'.tm.length := by
      have q3 : s3.tm.length = s2.tm.length := hlen3
      have q2 : s2.tm.length = (setPs ps.toList svs T.tm).length := hlen2
      rw [q3, q2, setPs_len, hTt, List.length_map, hS1t]
    have jc : ∀ y : SX, (match y with | .norm => False | _ => True) → (match lookX y R.jumps with
        | some (ents, inv) => headR (pickNow (Sx y) { s3 with H := s3.H.set (s'.H.length + 1) ⟨.raw (recS rc .done (some (codeX y))), some (w.heap.size + 1)⟩ }) ents (Sx y)
          { s3 with H := s3.H.set (s'.H.length + 1) ⟨.raw (recS rc .done (some (codeX y))), some (w.heap.size + 1)⟩ } fun vals xss T => keepsN (Sx y).H T.H (s'.H.length + 1) (recS rc .done (some (codeX y))) ∧ inv vals xss s3.I Mem.emp
        | none => False) → ∃ v w', (Instr.endRound (w.heap.size + 1) (some (codeX y))).run P w3 = .ok v w' ∧ Ends I' Gk W (fun v I2 G2 => (v = .bool true ∧ J (k + 1) I2 G2) ∨ (v = .bool false ∧ D I2 G2)) (.returned v) w' := by
      intro y hy hK
      split at hK
      case h_2 => exact hK.elim
      rename_i ents inv hlook
      obtain ⟨hc3, hXr⟩ := hX3.setRaw (o' := recS rc .done (some (codeX y))) hH3
      rw [hblk3] at hc3 hXr
      have hj2 := allJ_look hlook hjump
      obtain ⟨vals, xss, T', ⟨f1, f2⟩, g2, h3, h4, h5, hmm, h6⟩ := headR_both (s1 := Sx y) (now := { s3 with H := s3.H.set (s'.H.length + 1) ⟨.raw (recS rc .done (some (codeX y))), some (w.heap.size + 1)⟩ }) (now' := { Sx y with I := s3.I }) rfl hg3.symm (eqNats_eq hmk3) hl3 hK (hj2 s3.I (Mem.le_trans hTs (Mem.le_trans hTI hI3)))
      have hXT' := h6 hXr
      refine ⟨_, _, run_endRound (some (codeX y)) hc3, ?_⟩
      refine hXT'.ends (by rw [h3]; exact hI3) (.inr ⟨rfl, y, e3, T', hy, Mem.le_refl _, by rw [h3]; exact Mem.le_trans hTs (Mem.le_trans hTI hI3), h4.trans hg3, hXT'.ownX, by rw [h5, hS1t]; rfl, f1, fun I2 G2 hle => g2 f2 I2 G2 (h3 ▸ hle)⟩)
    cases x with
    | norm =>
      obtain ⟨hc3, hXr⟩ := hX3.setRaw (o' := recS rc .ready none) hH3
      rw [hblk3] at hc3 hXr
      obtain ⟨T', hc', hk', hI', hG', ht', hm', hs'⟩ := mk (k := k + 1) (now := { s3 with H := s3.H.set (s'.H.length + 1) ⟨.raw (recS rc .ready none), some (w.heap.size + 1)⟩ }) hg3 hk (eqNats_eq hmk3) hl3 (Mem.le_trans hTs (Mem.le_trans hTI hI3)) hK3
      have hXT' := hs' hXr
      refine ⟨_, _, run_endRound none hc3, ?_⟩
      refine hXT'.ends (by rw [hI']; exact hI3) (.inl ⟨rfl, e3, T', Mem.le_refl _, by rw [hI']; exact Mem.le_trans hTs (Mem.le_trans hTI hI3), hG'.trans hg3, hXT'.ownX, hm'.trans (eqNats_eq hmk3), ht', hk', hc'⟩)
    | ret => exact jc .ret trivial hK3
    | exit i => exact jc (.exit i) trivial hK3
  have hcall := hgiv.2 (.func (.yield (w.heap.size + 1)) #[] #[]) J D T0.I (ownM e1 T0 w1) s'.G (by rw [hI0, hS1I]; exact Mem.le_refl _)
    ⟨e1, T0, Mem.le_refl _, by rw [hI0, hS1I]; exact Mem.le_refl _, hT0G, hST0.ownX, hm0.trans hS1m, ht0, hk0, hc0⟩ hR0 hap0
    (fun k I1 I2 G ⟨eT, T, q1, q2⟩ hle12 => ⟨eT, T, Mem.le_trans q1 hle12, q2⟩) (fun I1 I2 G ⟨x, eT, T, q0, q1, q2⟩ hle12 => ⟨x, eT, T, q0, Mem.le_trans q1 hle12, q2⟩) hround2
  have hct := hcall w1 hST0.I (join_in ownM_in hSTf.gIn) (join_apart hST0.ownM_apart (fun b => by
    by_cases hb : s'.G b = none
    · exact .inr hb
    · exact .inl (hSTf.gI b hb).1))
  obtain ⟨f, args, hent⟩ := hgiv.1 (.func (.yield (w.heap.size + 1)) #[] #[]) w1
  unfold CallV at hct
  rw [hent] at hct
  have hct : CallsIn Fence.wide 0 P f args w1 _ := hct
  have hevg : a.eval g = fv := by
    obtain ⟨f1, f2⟩ := valS_den (e := e) hfv
    rw [ev_ok hA' g f2, f1]
  -- the call as the machine makes it
  obtain ⟨d, w1', hd1, hd2⟩ : ∃ d w1', (Deferred.ofValue fv #[.func (.yield (w.heap.size + 1)) #[] #[]]).run P w1 = .ok d w1' ∧ (invoke d.target d.args).run P w1' = .ok (.enter f args) w1 := by
    simp only [semV, Sem.run_bind] at hent
    cases hd : (Deferred.ofValue fv #[.func (.yield (w.heap.size + 1)) #[] #[]]).run P w1 with
    | ok d w1' => rw [hd] at hent; exact ⟨d, w1', rfl, hent⟩
    | halt x w' => rw [hd] at hent; cases hent
  have hres : (resolve a.eval (rangeCall g (w.heap.size + 1)) 0).run P w1 = .ok d w1' := by
    simp only [resolve, hevg]
    simpa [Act.eval] using hd1
  refine ⟨w.heap.size + 1, [{ target := .collected w.heap.size, args := #[] }], w1, d, w1', f, args, w1, ?_, hres, fun _ _ => trivial, hd2, (fun h => by cases h), ?_⟩
  · rw [← hw1]
    exact run_enterLoop_outer fn a.tmps ps assign body
  · refine hct.mono fun en w3 hE => ?_
    obtain ⟨v, I2, G2, rfl, hle2, hI2, hG2, hap2, hsz, hsame, hold, hnew, hJD⟩ := hE
    have hmk : ∀ m, m ∈ s'.marks → e1.blk m = e.blk m := by
      intro m hm
      have hw0 := hwf.1
      simp only [wfSt, Bool.and_eq_true, List.all_eq_true] at hw0
      have hlt : m < H.length := by simpa using hw0.2 m hm
      rw [← he1, ← (upd_ne (by omega)).1, ← (upd_ne (by omega)).1]
    obtain ⟨Gc', Gr', hG2e, hap3, hJD⟩ := hJD
    rcases hJD with ⟨⟨eT, T, hTI, hTs, hTg, hO, hTm, hTt, hTk, hTc⟩, hR1⟩ | ⟨x, eT, T, hxn, hTI, hTs, hTg, hO, hTt, hTk, hTc⟩
    · have hO := hO.joinG hTg hap3
      rw [← hG2e] at hO
      have hXT := hSTf.calledX hI2 hG2 hap2 hsz hsame (fun b hb hq => hold b hb (hful hq)) (fun b hb hq => hnew b hb (hful hq)) hO
      obtain ⟨b, hTn⟩ := keepsN_get hTk
      have hb : w.heap.size + 1 = b := nameEq_get hTk.1 hnr hTn rfl rfl
      subst hb
      have hblk := (hO.names _ _ _ hTn rfl).1
      obtain ⟨hcell, hXT2⟩ := hXT.setRaw (o' := recS rc .exhausted none) hTn
      rw [hblk] at hcell hXT2
      have hend := run_endLoop (P := P) (l := w.heap.size + 1) hcell (by simp)
      simp only [Cnd, if_neg (Nat.lt_irrefl R.n)] at hTc
      have hK := hTc I2 Gr' hTI hR1
      split at hK
      case isFalse => exact hK.elim
      rename_i hok
      refine ⟨none, _, hend, ?_⟩
      have hX4 := (hXT2.kill (s'.H.length + 1)).marked (s'.H.length :: s'.marks) s'.rnd
      simp only [List.set_set] at hX4
      refine hn .norm eT { outS s' T I2 with G := Gr' } _ _ hK hX4 (outG_satA (outS_satA ⟨by rw [hS1t]; exact hA'.size, hA1'.tm⟩ hS1n hO.names hTk.1 hTt hA'.defers hmk (hS1n _ _ _ hnd rfl).1 hok)) (Mem.le_trans hle (Mem.le_trans hTs hTI)) ?_
      simp [outS, hTt, hS1t, hlen]
    · have hSxH : (Sx x).H = H ++ [⟨.raw (.deferred (some [])), some w.heap.size⟩, ⟨.raw (recS rc .done (some (codeX x))), some (w.heap.size + 1)⟩] := rfl
      have hSxn : ∀ (id : Nat) (y : Ent) (b : Nat), (Sx x).H[id]? = some y → y.name = some b → e1.blk id = b ∧ e1.nil id = false := by
        intro id y b hy hyb
        rw [hSxH] at hy
        by_cases hlt : id < H.length
        · refine hS1n id y b ?_ hyb
          rw [hS1H, List.getElem?_append_left hlt]
          rwa [List.getElem?_append_left hlt] at hy
        · rw [List.getElem?_append_right (by omega)] at hy
          rcases hk : id - H.length with _ | _ | k
          · rw [hk] at hy
            have hid : id = s'.H.length := by omega
            subst hid
            simp only [List.getElem?_cons_zero, Option.some.injEq] at hy
            subst hy
            exact hS1n _ _ b hnd hyb
          · rw [hk] at hy
            have hid : id = s'.H.length + 1 := by omega
            subst hid
            simp only [Nat.zero_add, List.getElem?_cons_succ, List.getElem?_cons_zero, Option.some.injEq] at hy
            subst hy
            exact hS1n _ _ b hnr hyb
          · rw [hk] at hy
            simp at hy
      have hnrx : (Sx x).H[s'.H.length + 1]? = some ⟨.raw (recS rc .done (some (codeX x))), some (w.heap.size + 1)⟩ := by
        rw [hSxH, ← hHl, List.getElem?_append_right (by omega)]
        simp
      have hO := hO.joinG hTg hap3
      rw [← hG2e] at hO
      have hXT := hSTf.calledX hI2 hG2 hap2 hsz hsame (fun b hb hq => hold b hb (hful hq)) (fun b hb hq => hnew b hb (hful hq)) hO
      obtain ⟨b, hTn⟩ := keepsN_get hTk
      have hb : w.heap.size + 1 = b := nameEq_get hTk.1 hnrx hTn rfl rfl
      subst hb
      have hblk := (hO.names _ _ _ hTn rfl).1
      obtain ⟨hcell, hXT2⟩ := hXT.setRaw (o' := recS rc .exhausted (some (codeX x))) hTn
      rw [hblk] at hcell hXT2
      have hend := run_endLoop (P := P) (l := w.heap.size + 1) hcell (by simp)
      have hK := hTc I2 Gr' hTI
      split at hK
      case isFalse => exact hK.elim
      rename_i hok
      refine ⟨some (codeX x), _, hend, ?_⟩
      have hX4 := (hXT2.kill (s'.H.length + 1)).marked (s'.H.length :: s'.marks) s'.rnd
      simp only [List.set_set] at hX4
      have hq := hn x eT { outS s' T I2 with G := Gr' } _ _ hK hX4 (outG_satA (outS_satA (a := a) ⟨by rw [hS1t]; exact hA'.size, hA1'.tm⟩ hSxn hO.names hTk.1 hTt hA'.defers hmk (hS1n _ _ _ hnd rfl).1 hok)) (Mem.le_trans hle (Mem.le_trans hTs hTI)) (by simp [outS, hTt, hS1t, hlen])
      cases x with
      | norm => exact hxn.elim
      | ret => exact wpIn_ret hq
      | exit i => exact wpIn_exit hq

theorem rangeFunc_sound {P : Program} {g : Operand} {ps : Array Tmp} {assign body : Code} (ha : SoundAt P assign) (hb : SoundAt P body) : SoundAt P (.rangeFunc g ps assign body) := by
  intro A r c s K Q e a w h hn hS hA hrd
  simp only [se] at h
  split at h
  case h_2 => exact h.elim
  rename_i R hrd0 hR
  obtain rfl : r = none := by
    rw [hrd0] at hrd
    cases r with
    | none => rfl
    | some l => cases hrd
  split at h
  · exact seRR_sound ha hb h hn hS hA
  obtain ⟨e, s, h, hS, hA, hIp, hlp⟩ := preS_sound h hS hA
  have hn : ∀ (x : SX) (e' : Env) (s' : St) (a' : Act) (w' : World), K x s' → SatX c e' s' w' → SatA e' s' a' → s.I.le s'.I → s'.tm.length = s.tm.length → Q (toX x) a' w' :=
    fun x e' s' a' w' g1 g2 g3 g4 g5 => hn x e' s' a' w' g1 g2 g3 (hIp ▸ g4) (g5.trans hlp)
  obtain ⟨s', h, hS0, hA', hle, hlen, hls⟩ := hand_sound h hS.toSat hA
  have hX := hls.x hS hS0
  split at h
  case h_2 => exact h.elim
  rename_i fv hfv
  split at h
  case isFalse => exact h.elim
  rename_i hpl
  have h := nameA_sound e.blk (i := 0) h
  have hXn := hX.nameAll
  generalize hHn : nameAL e.blk 0 s'.H = H at h hXn
  have hHl : H.length = s'.H.length := by rw [← hHn, nameAL_len]
  have hAn : SatA e { s' with H := H } a := ⟨hA'.size, hA'.tm, hA'.defers⟩
  refine wpIn_rangeFunc fun fn _ => ?_
  let rc : Loop := { state := .ready, pending := none, fn := fn, tmps := a.tmps, params := ps, assign := assign, body := body, defers := w.heap.size }
  have h := h w.heap.size (w.heap.size + 1) rc
  split at h
  case isFalse => exact h.elim
  rename_i hwf
  simp only [Bool.and_eq_true] at hwf
  obtain ⟨hgiv, hps, hin, hround, hnorm, hjump⟩ := h
  obtain ⟨hX1, hA1⟩ := hXn.pushN hAn hwf.1 (o := .deferred (some []))
  obtain ⟨hX2, hA2⟩ := hX1.pushN hA1 hwf.2 (o := .loop rc)
  have hrec : recS rc .ready none = .loop rc := rfl
  have hS1 : SatX c ((e.upd H.length w.heap.size 0 false).upd (H.length + 1) (w.heap.size + 1) 0 false) (rstate { s' with H := H } w.heap.size (w.heap.size + 1) (recS rc .ready none)) ((w.alloc (.deferred (some []))).alloc (.loop rc)) := by
    have := hX2.marked [] (some (H.length + 1))
    simpa [rstate, hrec] using this
  have hA1' : SatA ((e.upd H.length w.heap.size 0 false).upd (H.length + 1) (w.heap.size + 1) 0 false) (rstate { s' with H := H } w.heap.size (w.heap.size + 1) (recS rc .ready none)) { tmps := a.tmps, defers := [] } := by
    refine ⟨hA2.size, fun t sv ht hj => ?_, rfl⟩
    have := hA2.tm t sv ht hj
    simpa using this
  generalize hS1d : rstate { s' with H := H } w.heap.size (w.heap.size + 1) (recS rc .ready none) = S1 at hin hround hnorm hS1 hA1'
  have hS1H : S1.H = H ++ [⟨.raw (.deferred (some [])), some w.heap.size⟩, ⟨.raw (recS rc .ready none), some (w.heap.size + 1)⟩] := by rw [← hS1d]; rfl
  have hS1I : S1.I = s'.I := by rw [← hS1d]; rfl
  have hS1m : S1.marks = [] := by rw [← hS1d]; rfl
  have hS1t : S1.tm = s'.tm := by rw [← hS1d]; rfl
  generalize he1 : (e.upd H.length w.heap.size 0 false).upd (H.length + 1) (w.heap.size + 1) 0 false = e1 at hS1 hA1'
  generalize hw1 : (w.alloc (.deferred (some []))).alloc (.loop rc) = w1 at hS1
  let Cnd : Nat → St → Prop := fun k T => if k < R.n then
      (∀ I2 : Mem, T.I.le I2 → allPs R.ps fun vs svs => R.enc k vs.toArray I2 →
        se P { A with rd := true } assign { T with tm := setPs ps.toList svs T.tm, I := I2 } fun x s2 => match x, s2.H[s'.H.length + 1]? with
                | .norm, some ⟨.raw o, nm⟩ => o = recS rc .ready none ∧ nm = some (w.heap.size + 1) ∧ se P { A with rd := true } body { s2 with H := s2.H.set (s'.H.length + 1) ⟨.raw (recS rc .busy none), nm⟩ } fun x s3 => match s3.H[s'.H.length + 1]? with
                    | some ⟨.raw o, nm⟩ => o = recS rc .busy none ∧ nm = some (w.heap.size + 1) ∧ if eqNats s3.marks [] then (match x with
                        | .norm => headR (pickNow S1 { s3 with H := s3.H.set (s'.H.length + 1) ⟨.raw (recS rc .ready none), nm⟩ }) R.ents S1
                            { s3 with H := s3.H.set (s'.H.length + 1) ⟨.raw (recS rc .ready none), nm⟩ } fun vals xss T => keepsN S1.H T.H (s'.H.length + 1) (recS rc .ready none) ∧ R.inv (k + 1) vals xss s3.I s3.G
                        | x => match lookX x R.jumps with
                          | some (ents, inv) => headR (pickNow (rstate { s' with H := H } w.heap.size (w.heap.size + 1) (recS rc .done (some (codeX x)))) { s3 with H := s3.H.set (s'.H.length + 1) ⟨.raw (recS rc .done (some (codeX x))), nm⟩ }) ents (rstate { s' with H := H } w.heap.size (w.heap.size + 1) (recS rc .done (some (codeX x))))
                            { s3 with H := s3.H.set (s'.H.length + 1) ⟨.raw (recS rc .done (some (codeX x))), nm⟩ } fun vals xss T => keepsN (rstate { s' with H := H } w.heap.size (w.heap.size + 1) (recS rc .done (some (codeX x)))).H T.H (s'.H.length + 1) (recS rc .done (some (codeX x))) ∧ inv vals xss s3.I s3.G
                          | none => False) else False
                    | _ => False
                | _, _ => False)
    else (∀ I2 : Mem, T.I.le I2 → if (s'.marks ++ [s'.H.length]).all (okN S1.H T.H) then K .norm (outS s' T I2) else False)
  have mk : ∀ {k : Nat} {now : St}, k ≤ R.n → now.marks = [] → now.tm.length = s'.tm.length → s'.I.le now.I →
      (headR (pickNow S1 now) R.ents S1 now fun vals xss T => keepsN S1.H T.H (s'.H.length + 1) (recS rc .ready none) ∧ R.inv k vals xss now.I now.G) →
      ∃ T, Cnd k T ∧ keepsN S1.H T.H (s'.H.length + 1) (recS rc .ready none) ∧ T.I = now.I ∧ T.G = now.G ∧ T.tm = S1.tm.map (stabV S1.H T.H) ∧ T.marks = now.marks ∧ ∀ {c : Ctx} {e : Env} {w : World}, SatX c e now w → SatX c e T w := by
    intro k now hk hm hl hI hh
    by_cases hlt : k < R.n
    · obtain ⟨vals, xss, T, ⟨f1, f2⟩, g2, h3, h4, h5, hmm, h6⟩ := headR_both (s1 := S1) (now := now) (now' := { S1 with I := now.I, G := now.G }) rfl rfl (hm.trans hS1m.symm) (by rw [hl, hS1t]) hh (hround k now.I now.G hlt hI)
      refine ⟨T, ?_, f1, h3, h4, h5, hmm, h6⟩
      simp only [Cnd, if_pos hlt]
      intro I2 hle2
      exact g2 f2 I2 (h3 ▸ hle2)
    · have hkn : k = R.n := by omega
      subst hkn
      obtain ⟨vals, xss, T, ⟨f1, f2⟩, g2, h3, h4, h5, hmm, h6⟩ := headR_both (s1 := S1) (now := now) (now' := { S1 with I := now.I, G := now.G }) rfl rfl (hm.trans hS1m.symm) (by rw [hl, hS1t]) hh (hnorm now.I now.G hI)
      refine ⟨T, ?_, f1, h3, h4, h5, hmm, h6⟩
      simp only [Cnd, if_neg hlt]
      intro I2 hle2
      exact g2 f2 I2 (h3 ▸ hle2)
  have hS1G : S1.G = s'.G := by rw [← hS1d]; rfl
  let Sx : SX → St := fun x => rstate { s' with H := H } w.heap.size (w.heap.size + 1) (recS rc .done (some (codeX x)))
  let J : Nat → Mem → Mem → Prop := fun k I' Gx => ∃ eT T, T.I.le I' ∧ s'.I.le T.I ∧ OwnX eT T Gx ∧ T.marks = [] ∧ T.tm = S1.tm.map (stabV S1.H T.H) ∧ keepsN S1.H T.H (s'.H.length + 1) (recS rc .ready none) ∧ Cnd k T
  let D : Mem → Mem → Prop := fun I' Gx => ∃ x eT T, (match x with | .norm => False | _ => True) ∧ T.I.le I' ∧ s'.I.le T.I ∧ OwnX eT T Gx ∧ T.tm = S1.tm.map (stabV (Sx x).H T.H) ∧ keepsN (Sx x).H T.H (s'.H.length + 1) (recS rc .done (some (codeX x))) ∧
    ∀ I2 : Mem, T.I.le I2 → if (s'.marks ++ [s'.H.length]).all (okN (Sx x).H T.H) then K x (outS s' T I2) else False
  obtain ⟨T0, hc0, hk0, hI0, hG0, ht0, hm0, hs0⟩ := mk (k := 0) (now := S1) (Nat.zero_le _) hS1m (by rw [hS1t]) (by rw [hS1I]; exact Mem.le_refl _) (by rw [hS1I, hS1G]; exact hin)
  have hST0 := hs0 hS1
  have hS1n : ∀ (id : Nat) (x : Ent) (b : Nat), S1.H[id]? = some x → x.name = some b → e1.blk id = b ∧ e1.nil id = false := hS1.names
  have hnr : S1.H[s'.H.length + 1]? = some ⟨.raw (recS rc .ready none), some (w.heap.size + 1)⟩ := by
    rw [hS1H, ← hHl, List.getElem?_append_right (by omega)]
    simp
  have hnd : S1.H[s'.H.length]? = some ⟨.raw (.deferred (some [])), some w.heap.size⟩ := by
    rw [hS1H, ← hHl, List.getElem?_append_right (Nat.le_refl _)]
    simp
  have hround2 : ∀ k I' Gk args, k < R.n → T0.I.le I' → J k I' Gk → R.enc k args I' → CtH P (.func (.yield (w.heap.size + 1)) #[] #[]) args I' Gk fun v I2 G2 => (v = .bool true ∧ J (k + 1) I2 G2) ∨ (v = .bool false ∧ D I2 G2) := by
    intro k I' Gk args hk hle0 ⟨eT, T, hTI, hTs, hO, hTm, hTt, hTk, hTc⟩ henc W hI hG hap
    have XT := hO.satX hG hI hap
    obtain ⟨b, hTn⟩ := keepsN_get hTk
    have hb : w.heap.size + 1 = b := nameEq_get hTk.1 hnr hTn rfl rfl
    subst hb
    have hblk := (hO.names _ _ _ hTn rfl).1
    have hcell := (XT.setRaw (o' := .deferred none) hTn).1
    rw [hblk] at hcell
    simp only [Cnd, if_pos hk] at hTc
    have hpsk := hps k args I' henc
    obtain ⟨svs, hsv, hsl, hsd⟩ := allPs_at (hTc I' hTI) hpsk
    have hse := hsv (by simpa using henc)
    have hal : args.toList.length = ps.toList.length := by rw [psOk_len hpsk]; exact Nat.eq_of_beq_eq_true hpl
    have hfold : (ps.zip args).foldl (fun tmps (x : Tmp × Value) => tmps.setIfInBounds x.1 x.2) a.tmps = (ps.toList.zip args.toList).foldl (fun tmps (x : Tmp × Value) => tmps.setIfInBounds x.1 x.2) a.tmps := by
      rw [← Array.foldl_toList, Array.toList_zip]
    have hst := foldl_setPs (e := eT) (ps := ps.toList) (tm := T.tm) (tmps := a.tmps) hsl hal (hsd eT) (by rw [hTt, List.length_map, hS1t]; exact hA'.size) (fun t sv ht hj => by
      rw [hTt, List.getElem?_map, Option.map_eq_some_iff] at ht
      obtain ⟨sv0, h0, rfl⟩ := ht
      obtain ⟨d1, d2⟩ := stabV_den (e := e1) (e' := eT) hTk.1 hS1n hO.names hj
      rw [d1] at hj ⊢
      rw [d2]
      exact hA1'.tm t sv0 h0 hj)
    unfold CallV
    rw [run_semV_yield, run_yield hcell (by simpa using hal)]
    show RoundIn Fence.wide 0 P (w.heap.size + 1) fn _ assign body W _
    refine roundIn_of_wpIn trivial ?_
    have hXp : SatX (ctxOf W I' Gk) eT { T with tm := setPs ps.toList svs T.tm, I := I' } W := XT.less
    refine ha (A := { A with rd := true }) (r := some (w.heap.size + 1)) (c := ctxOf W I' Gk) (e := eT) hse (fun x e2 s2 a2 w2 hK2 hX2 hA2 hle2 hlen2 => ?_) hXp ⟨by rw [hfold]; exact hst.1, by rw [hfold]; exact hst.2, by simp [hTm]⟩ rfl
    split at hK2
    case h_2 => exact hK2.elim
    rename_i o nm hH2
    obtain ⟨rfl, rfl, hse2⟩ := hK2
    obtain ⟨hc2, hXb⟩ := hX2.setRaw (o' := recS rc .busy none) hH2
    have hblk2 := (hX2.names _ _ _ hH2 rfl).1
    rw [hblk2] at hc2 hXb
    refine ⟨_, run_beginRound hc2 rfl, ?_⟩
    refine hb (A := { A with rd := true }) (r := some (w.heap.size + 1)) (c := ctxOf W I' Gk) (e := e2) hse2 (fun x e3 s3 a3 w3 hK3 hX3 hA3 hle3 hlen3 => ?_) hXb ⟨hA2.size, hA2.tm, hA2.defers⟩ rfl
    split at hK3
    case h_2 => exact hK3.elim
    rename_i o nm hH3
    obtain ⟨rfl, rfl, hK3⟩ := hK3
    split at hK3
    case isFalse => exact hK3.elim
    rename_i hmk3
    have hblk3 := (hX3.names _ _ _ hH3 rfl).1
    have hI3 : I'.le s3.I := Mem.le_trans hle2 hle3
    have hl3 : s3.tm.length = s'.tm.length := by
      have q3 : s3.tm.length = s2.tm.length := hlen3
      have q2 : s2.tm.length = (setPs ps.toList svs T.tm).length := hlen2
      rw [q3, q2, setPs_len, hTt, List.length_map, hS1t]
    have jc : ∀ y : SX, (match y with | .norm => False | _ => True) → (match lookX y R.jumps with
        | some (ents, inv) => headR (pickNow (Sx y) { s3 with H := s3.H.set (s'.H.length + 1) ⟨.raw (recS rc .done (some (codeX y))), some (w.heap.size + 1)⟩ }) ents (Sx y)
          { s3 with H := s3.H.set (s'.H.length + 1) ⟨.raw (recS rc .done (some (codeX y))), some (w.heap.size + 1)⟩ } fun vals xss T => keepsN (Sx y).H T.H (s'.H.length + 1) (recS rc .done (some (codeX y))) ∧ inv vals xss s3.I s3.G
        | none => False) → ∃ v w', (Instr.endRound (w.heap.size + 1) (some (codeX y))).run P w3 = .ok v w' ∧ Ends I' Gk W (fun v I2 G2 => (v = .bool true ∧ J (k + 1) I2 G2) ∨ (v = .bool false ∧ D I2 G2)) (.returned v) w' := by
      intro y hy hK
      split at hK
      case h_2 => exact hK.elim
      rename_i ents inv hlook
      obtain ⟨hc3, hXr⟩ := hX3.setRaw (o' := recS rc .done (some (codeX y))) hH3
      rw [hblk3] at hc3 hXr
      have hj2 := allJ_look hlook hjump
      obtain ⟨vals, xss, T', ⟨f1, f2⟩, g2, h3, h4, h5, hmm, h6⟩ := headR_both (s1 := Sx y) (now := { s3 with H := s3.H.set (s'.H.length + 1) ⟨.raw (recS rc .done (some (codeX y))), some (w.heap.size + 1)⟩ }) (now' := { Sx y with I := s3.I, G := s3.G }) rfl rfl (eqNats_eq hmk3) hl3 hK (hj2 s3.I s3.G (Mem.le_trans hTs (Mem.le_trans hTI hI3)))
      have hXT' := h6 hXr
      refine ⟨_, _, run_endRound (some (codeX y)) hc3, ?_⟩
      refine hXT'.ends (by rw [h3]; exact hI3) (.inr ⟨rfl, y, e3, T', hy, Mem.le_refl _, by rw [h3]; exact Mem.le_trans hTs (Mem.le_trans hTI hI3), hXT'.ownX, by rw [h5, hS1t]; rfl, f1, fun I2 hle => g2 f2 I2 (h3 ▸ hle)⟩)
    cases x with
    | norm =>
      obtain ⟨hc3, hXr⟩ := hX3.setRaw (o' := recS rc .ready none) hH3
      rw [hblk3] at hc3 hXr
      obtain ⟨T', hc', hk', hI', hG', ht', hm', hs'⟩ := mk (k := k + 1) (now := { s3 with H := s3.H.set (s'.H.length + 1) ⟨.raw (recS rc .ready none), some (w.heap.size + 1)⟩ }) hk (eqNats_eq hmk3) hl3 (Mem.le_trans hTs (Mem.le_trans hTI hI3)) hK3
      have hXT' := hs' hXr
      refine ⟨_, _, run_endRound none hc3, ?_⟩
      refine hXT'.ends (by rw [hI']; exact hI3) (.inl ⟨rfl, e3, T', Mem.le_refl _, by rw [hI']; exact Mem.le_trans hTs (Mem.le_trans hTI hI3), hXT'.ownX, hm'.trans (eqNats_eq hmk3), ht', hk', hc'⟩)
    | ret => exact jc .ret trivial hK3
    | exit i => exact jc (.exit i) trivial hK3
  have hcall := hgiv.2 (.func (.yield (w.heap.size + 1)) #[] #[]) J D T0.I (ownM e1 T0 w1) (by rw [hI0, hS1I]; exact Mem.le_refl _)
    ⟨e1, T0, Mem.le_refl _, by rw [hI0, hS1I]; exact Mem.le_refl _, hST0.ownX, hm0.trans hS1m, ht0, hk0, hc0⟩
    (fun k I1 I2 G ⟨eT, T, q1, q2⟩ hle12 => ⟨eT, T, Mem.le_trans q1 hle12, q2⟩) (fun I1 I2 G ⟨x, eT, T, q0, q1, q2⟩ hle12 => ⟨x, eT, T, q0, Mem.le_trans q1 hle12, q2⟩) hround2
  have hct := hcall w1 hST0.I ownM_in hST0.ownM_apart
  obtain ⟨f, args, hent⟩ := hgiv.1 (.func (.yield (w.heap.size + 1)) #[] #[]) w1
  unfold CallV at hct
  rw [hent] at hct
  have hct : CallsIn Fence.wide 0 P f args w1 _ := hct
  have hevg : a.eval g = fv := by
    obtain ⟨f1, f2⟩ := valS_den (e := e) hfv
    rw [ev_ok hA' g f2, f1]
  -- the call as the machine makes it
  obtain ⟨d, w1', hd1, hd2⟩ : ∃ d w1', (Deferred.ofValue fv #[.func (.yield (w.heap.size + 1)) #[] #[]]).run P w1 = .ok d w1' ∧ (invoke d.target d.args).run P w1' = .ok (.enter f args) w1 := by
    simp only [semV, Sem.run_bind] at hent
    cases hd : (Deferred.ofValue fv #[.func (.yield (w.heap.size + 1)) #[] #[]]).run P w1 with
    | ok d w1' => rw [hd] at hent; exact ⟨d, w1', rfl, hent⟩
    | halt x w' => rw [hd] at hent; cases hent
  have hres : (resolve a.eval (rangeCall g (w.heap.size + 1)) 0).run P w1 = .ok d w1' := by
    simp only [resolve, hevg]
    simpa [Act.eval] using hd1
  refine ⟨w.heap.size + 1, [{ target := .collected w.heap.size, args := #[] }], w1, d, w1', f, args, w1, ?_, hres, fun _ _ => trivial, hd2, (fun h => by cases h), ?_⟩
  · rw [← hw1]
    exact run_enterLoop_outer fn a.tmps ps assign body
  · refine hct.mono fun en w3 hE => ?_
    obtain ⟨v, I2, G2, rfl, hle2, hI2, hG2, hap2, hsz, hsame, hold, hnew, hJD⟩ := hE
    have hmk : ∀ m, m ∈ s'.marks → e1.blk m = e.blk m := by
      intro m hm
      have hw0 := hwf.1
      simp only [wfSt, Bool.and_eq_true, List.all_eq_true] at hw0
      have hlt : m < H.length := by simpa using hw0.2 m hm
      rw [← he1, ← (upd_ne (by omega)).1, ← (upd_ne (by omega)).1]
    rcases hJD with ⟨eT, T, hTI, hTs, hO, hTm, hTt, hTk, hTc⟩ | ⟨x, eT, T, hxn, hTI, hTs, hO, hTt, hTk, hTc⟩
    · have hXT := hST0.calledX hI2 hG2 hap2 hsz hsame hold hnew hO
      obtain ⟨b, hTn⟩ := keepsN_get hTk
      have hb : w.heap.size + 1 = b := nameEq_get hTk.1 hnr hTn rfl rfl
      subst hb
      have hblk := (hO.names _ _ _ hTn rfl).1
      obtain ⟨hcell, hXT2⟩ := hXT.setRaw (o' := recS rc .exhausted none) hTn
      rw [hblk] at hcell hXT2
      have hend := run_endLoop (P := P) (l := w.heap.size + 1) hcell (by simp)
      simp only [Cnd, if_neg (Nat.lt_irrefl R.n)] at hTc
      have hK := hTc I2 hTI
      split at hK
      case isFalse => exact hK.elim
      rename_i hok
      refine ⟨none, _, hend, ?_⟩
      have hX4 := (hXT2.kill (s'.H.length + 1)).marked (s'.H.length :: s'.marks) s'.rnd
      simp only [List.set_set] at hX4
      refine hn .norm eT (outS s' T I2) _ _ hK hX4 (outS_satA ⟨by rw [hS1t]; exact hA'.size, hA1'.tm⟩ hS1n hO.names hTk.1 hTt hA'.defers hmk (hS1n _ _ _ hnd rfl).1 hok) (Mem.le_trans hle (Mem.le_trans hTs hTI)) ?_
      simp [outS, hTt, hS1t, hlen]
    · have hSxH : (Sx x).H = H ++ [⟨.raw (.deferred (some [])), some w.heap.size⟩, ⟨.raw (recS rc .done (some (codeX x))), some (w.heap.size + 1)⟩] := rfl
      have hSxn : ∀ (id : Nat) (y : Ent) (b : Nat), (Sx x).H[id]? = some y → y.name = some b → e1.blk id = b ∧ e1.nil id = false := by
        intro id y b hy hyb
        rw [hSxH] at hy
        by_cases hlt : id < H.length
        · refine hS1n id y b ?_ hyb
          rw [hS1H, List.getElem?_append_left hlt]
          rwa [List.getElem?_append_left hlt] at hy
        · rw [List.getElem?_append_right (by omega)] at hy
          rcases hk : id - H.length with _ | _ | k
          · rw [hk] at hy
            have hid : id = s'.H.length := by omega
            subst hid
            simp only [List.getElem?_cons_zero, Option.some.injEq] at hy
            subst hy
            exact hS1n _ _ b hnd hyb
          · rw [hk] at hy
            have hid : id = s'.H.length + 1 := by omega
            subst hid
            simp only [Nat.zero_add, List.getElem?_cons_succ, List.getElem?_cons_zero, Option.some.injEq] at hy
            subst hy
            exact hS1n _ _ b hnr hyb
          · rw [hk] at hy
            simp at hy
      have hnrx : (Sx x).H[s'.H.length + 1]? = some ⟨.raw (recS rc .done (some (codeX x))), some (w.heap.size + 1)⟩ := by
        rw [hSxH, ← hHl, List.getElem?_append_right (by omega)]
        simp
      have hXT := hST0.calledX hI2 hG2 hap2 hsz hsame hold hnew hO
      obtain ⟨b, hTn⟩ := keepsN_get hTk
      have hb : w.heap.size + 1 = b := nameEq_get hTk.1 hnrx hTn rfl rfl
      subst hb
      have hblk := (hO.names _ _ _ hTn rfl).1
      obtain ⟨hcell, hXT2⟩ := hXT.setRaw (o' := recS rc .exhausted (some (codeX x))) hTn
      rw [hblk] at hcell hXT2
      have hend := run_endLoop (P := P) (l := w.heap.size + 1) hcell (by simp)
      have hK := hTc I2 hTI
      split at hK
      case isFalse => exact hK.elim
      rename_i hok
      refine ⟨some (codeX x), _, hend, ?_⟩
      have hX4 := (hXT2.kill (s'.H.length + 1)).marked (s'.H.length :: s'.marks) s'.rnd
      simp only [List.set_set] at hX4
      have hq := hn x eT (outS s' T I2) _ _ hK hX4 (outS_satA (a := a) ⟨by rw [hS1t]; exact hA'.size, hA1'.tm⟩ hSxn hO.names hTk.1 hTt hA'.defers hmk (hS1n _ _ _ hnd rfl).1 hok) (Mem.le_trans hle (Mem.le_trans hTs hTI)) (by simp [outS, hTt, hS1t, hlen])
      cases x with
      | norm => exact hxn.elim
      | ret => exact wpIn_ret hq
      | exit i => exact wpIn_exit hq

end Go.SE
