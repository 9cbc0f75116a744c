/- append; bytes of a string; all operations that make or write memory: soundness. -/
import Derived.Test.YthfgpdjplknleaaGreatDoorSe11
namespace Go.SE
open Go.RowKit

section
variable {P : Program} {c : Ctx} {e : Env} {s : St} {w : World} {a : Act} {K : SV → St → Prop}

theorem rowOf_some {x : Operand} {sz : Nat} {el : TypeId} {id n : Nat} {xs : List Value} (h : rowOf s (ev s x) sz el = some (some id, n, xs)) (hS : Sat c e s w) (hA : SatA e s a) :
    ∃ (ent : Ent) (cap : Nat), s.H[id]? = some ent ∧ alive ent.obj = true ∧ a.eval x = .slice (if e.nil id then none else some ⟨e.blk id, 0, none⟩) n cap ∧
      isRow (fun b => w.heap[b]?) (e.nil id) (e.blk id) cap sz el xs := by
  unfold rowOf at h
  split at h
  · cases h
  · rename_i id' len hx
    split at h
    · rename_i xs' sz' el' nm hH
      split at h
      · rename_i hc
        simp only [Option.some.injEq, Prod.mk.injEq] at h
        obtain ⟨rfl, rfl, rfl⟩ := h
        simp only [Bool.and_eq_true] at hc
        obtain rfl := Nat.eq_of_beq_eq_true hc.1
        obtain rfl := Nat.eq_of_beq_eq_true hc.2
        exact ⟨_, e.cap id', hH, rfl, by simp [ev_d hA hx rfl, den], (hS.owned _ _ hH rfl).1.2.2⟩
      · cases h
    · cases h
  · rename_i id' len cap hx
    split at h
    · rename_i cs el' nm hH
      split at h
      · rename_i xs' hxs
        split at h
        · rename_i hc
          simp only [Option.some.injEq, Prod.mk.injEq] at h
          obtain ⟨rfl, rfl, rfl⟩ := h
          simp only [Bool.and_eq_true] at hc
          obtain rfl := Nat.eq_of_beq_eq_true hc.1
          obtain rfl := Nat.eq_of_beq_eq_true hc.2.1
          have hlen := Nat.eq_of_beq_eq_true hc.2.2.1
          have hmax := Nat.le_of_ble_eq_true hc.2.2.2
          obtain ⟨⟨hnil, cur, hb, h2, h3⟩, _⟩ := hS.owned _ _ hH rfl
          obtain ⟨hx2, hx3⟩ := mapV_den (e := e) hxs
          have hcur : cur = xs'.toArray := by
            apply Array.ext_getElem?
            intro k
            by_cases hk : k < cs.length
            · have hkk := List.getElem?_eq_getElem hk
              rw [h3 k _ hkk (hx3 _ (List.mem_of_getElem? hkk)), ← hx2]
              simp [hkk]
            · have hlx := mapV_length hxs
              rw [Array.getElem?_eq_none (by omega), Array.getElem?_eq_none (by simp; omega)]
          subst hcur
          refine ⟨_, len, hH, rfl, by simp [ev_d hA hx rfl, den, hnil], .inr ⟨hnil, _, hb, by simpa using hlen, by simp only [maxLen]; omega, by simp, by simp⟩⟩
        · cases h
      · cases h
    · cases h
  · cases h

theorem rowOf_mod {x : Operand} {sz : Nat} {el : TypeId} {id n : Nat} {xs : List Value} (h : rowOf s (ev s x) sz el = some (some id, n, xs)) : id ∈ idOf (ev s x) := by
  unfold rowOf at h
  split at h
  · cases h
  · rename_i hx
    rw [hx]
    split at h
    · split at h
      · simp only [Option.some.injEq, Prod.mk.injEq] at h; simp [idOf, h.1]
      · cases h
    · cases h
  · rename_i hx
    rw [hx]
    split at h
    · split at h
      · split at h
        · simp only [Option.some.injEq, Prod.mk.injEq] at h; simp [idOf, h.1]
        · cases h
      · cases h
    · cases h
  · cases h
theorem rowOf_mod_none {x : Operand} {sz : Nat} {el : TypeId} {n : Nat} {xs : List Value} (h : rowOf s (ev s x) sz el = some (none, n, xs)) : idOf (ev s x) = [] := by
  unfold rowOf at h
  split at h
  · rename_i hx; rw [hx]; rfl
  · split at h
    · split at h <;> simp at h
    · cases h
  · split at h
    · split at h
      · split at h <;> simp at h
      · cases h
    · cases h
  · cases h

theorem rowOf_none {x : Operand} {sz : Nat} {el : TypeId} {n : Nat} {xs : List Value} (h : rowOf s (ev s x) sz el = some (none, n, xs)) (hA : SatA e s a) :
    a.eval x = .slice none 0 0 ∧ n = 0 ∧ xs = [] := by
  unfold rowOf at h
  split at h
  · rename_i hx
    simp only [Option.some.injEq, Prod.mk.injEq, true_and] at h
    exact ⟨ev_v hA hx, h.1.symm, h.2.symm⟩
  · split at h
    · split at h
      · simp at h
      · cases h
    · cases h
  · split at h
    · split at h
      · split at h
        · simp at h
        · cases h
      · cases h
    · cases h
  · cases h

theorem srcOf_sound {xt : TypeId} {y : Operand} {sz : Nat} {K : Nat → List Value → Prop} (h : srcOf P s xt (ev s y) sz K) (hsz : 0 < sz) (hS : Sat c e s w) (hA : SatA e s a) :
    ∃ m ys, K m ys ∧ Src P w xt (a.eval y) sz m ys ∧ ∀ v ∈ ys, v.oneCell' = true := by
  unfold srcOf at h
  split at h
  · rename_i u ad m cp hu hy
    obtain ⟨ys, h1, h2, h3, h4, hK⟩ := h
    refine ⟨m, ys, hK, ?_, h4⟩
    rw [ev_v hA hy]
    exact Src.slice hu h1 h2 fun j v hj => ep_cells hS.I (h3 j v hj)
  · rename_i u id off len cp hu hy
    split at h
    · rename_i cs el nm hH
      split at h
      · rename_i ys hys
        split at h
        · rename_i hc
          simp only [Bool.and_eq_true, List.all_eq_true] at hc
          refine ⟨_, _, h, ?_, hc.2⟩
          rw [ev_d hA hy rfl]
          obtain ⟨hx2, hx3⟩ := mapV_den (e := e) hys
          refine Src.slice hu (Nat.eq_of_beq_eq_true hc.1) (fun h => by cases h) fun j v hj => ⟨_, rfl, ?_⟩
          rw [Addr.add_lit]
          rw [← hx2, List.getElem?_map, Option.map_eq_some_iff] at hj
          obtain ⟨sv, hs1, rfl⟩ := hj
          have hjk := hx3 sv (List.mem_of_getElem? hs1)
          rw [List.getElem?_take] at hs1
          split at hs1
          · rw [List.getElem?_drop] at hs1
            exact holds_cells_owned hS hH _ _ hs1 hjk
          · cases hs1
        · exact h.elim
      · exact h.elim
    · rename_i xs el nm hH
      obtain ⟨h1, h2, hK⟩ := h
      refine ⟨_, _, hK, ?_, h2⟩
      rw [ev_d hA hy rfl]
      refine Src.slice hu (by simp; omega) (fun h => by cases h) fun j v hj => ⟨_, rfl, ?_⟩
      rw [Addr.add_lit]
      rw [List.getElem?_take] at hj
      split at hj
      · rw [List.getElem?_drop] at hj
        exact holds_vec_owned hS hH _ _ hj
      · cases hj
    · exact h.elim
  · rename_i u id len hu hy
    split at h
    · rename_i xs sz' el nm hH
      obtain ⟨h1, h2, hK⟩ := h
      refine ⟨_, _, hK, ?_, h2⟩
      rw [ev_d hA hy rfl]
      have hrow := (hS.owned id _ hH rfl).1
      refine Src.slice hu (by simp; omega) (fun hn => ?_) fun j v hj => ?_
      · cases hnil : e.nil id with
        | false => simp [hnil] at hn
        | true =>
          rcases hrow.2.2 with ⟨_, _, rfl⟩ | ⟨h0, _⟩
          · simp only [List.length_nil, Nat.le_zero, Nat.mul_eq_zero] at h1
            omega
          · rw [hnil] at h0; cases h0
      · rw [List.getElem?_take] at hj
        split at hj
        · obtain ⟨hnil, hc⟩ := holds_row_owned hS hH _ _ hj
          exact ⟨⟨e.blk id, 0, none⟩, by simp [hnil], by rw [Addr.add_lit, Nat.zero_add]; exact hc⟩
        · cases hj
    · exact h.elim
  · rename_i q hu hy
    obtain ⟨rfl, hK⟩ := h
    refine ⟨_, _, hK, ?_, fun v hv => ?_⟩
    · rw [ev_v hA hy]
      exact Src.string hu
    · obtain ⟨b, _, rfl⟩ := List.mem_map.1 hv
      rfl
  · exact h.elim

theorem sAppend_sound {t xt : TypeId} {x y : Operand} (h : sAppend P s t xt (ev s x) (ev s y) K) (hS : Sat c e s w) (hA : SatA e s a) :
    ∃ sv s', K sv s' ∧ EffOk P (.call { callee := .builtin .append, args := #[x, y], argTypes := #[t, xt] }) c s a w sv s' e := by
  unfold sAppend at h
  split at h
  · rename_i el hu
    split at h
    · rename_i i hi
      split at h
      · rename_i z hz
        split at h
        · rename_i hc
          simp only [Bool.and_eq_true, Nat.blt_eq] at hc
          have hzs := Nat.eq_of_beq_eq_true hc.1
          have fin : ∀ {v v' : Value} {w' : World} {e' : Env} {sv : SV} {s' : St}, a.eval x = v → (∀ ty, (Builtin.append_ #[t, xt] ty #[v, a.eval y]).run P w = .ok v' w') → Sat c e' s' w' → SatA e' s' a → s'.tm.length = s.tm.length → s.I.le s'.I →
              Evo false (idOf (ev s x)) s e w s' e' w' → v' = den e' sv → EffOk P (.call { callee := .builtin .append, args := #[x, y], argTypes := #[t, xt] }) c s a w sv s' e := by
            intro v v' w' e' sv s' hv hrun hS' hA' hlen hle hev hd
            refine ⟨e', w', v', fun d ty pos af g => .inl ?_, hS', hA', hlen, hle, .inr hd, hev⟩
            simp [execOp, resolve, invoke, builtin, hv, hrun]
          split at h
          · rename_i id n xs hrow
            obtain ⟨m, ys, h, hsrc, hone⟩ := srcOf_sound h hc.2 hS hA
            obtain ⟨hn, h63, hby, h⟩ := h
            split at h
            · rename_i hmk
              obtain ⟨ent, cap, hH, hal, hv, hr⟩ := rowOf_some hrow hS hA
              obtain ⟨nil', blk', cap', w', hrun, g1, g2, g3, g4, g5⟩ := run_app_row (P := P) (w := w) (t := t) (xt := xt) (ty := 0) hu hi hz hzs hc.2 hsrc hone hr hn (by simp only [maxLen]; omega) hby
              have hrun' : ∀ ty, (Builtin.append_ #[t, xt] ty #[.slice (if e.nil id then none else some ⟨e.blk id, 0, none⟩) n cap, a.eval y]).run P w = .ok (.slice (if nil' then none else some ⟨blk', 0, none⟩) (n + m) cap') w' := fun ty => hrun
              obtain ⟨h1, h2⟩ := hS.grow (obj := .row (xs ++ ys) i.size el) (e' := e.upd id blk' cap' nil') hA hH hal (fun k hk => upd_ne hk) hmk g2 g3 g4 (by simpa [upd_eq] using g5)
                ⟨hc.2, ⟨n + m, by rw [List.length_append, hn, hsrc.length, Nat.add_mul]⟩, by
                  simp only [upd_eq]
                  exact g1⟩
              exact ⟨_, _, h, fin hv hrun' h1 h2 (by simp [junkS]) (Mem.le_refl _) (evo_grow (rowOf_mod hrow) hH hal (fun k hk => upd_ne hk) g2 g4 (by simpa [upd_eq] using g5)) (by simp [den, upd_eq])⟩
            · exact h.elim
          · rename_i n xs hrow
            obtain ⟨m, ys, h, hsrc, hone⟩ := srcOf_sound h hc.2 hS hA
            obtain ⟨h63, hby, h⟩ := h
            split at h
            · rename_i hw
              obtain ⟨hv, rfl, rfl⟩ := rowOf_none hrow hA
              obtain ⟨nil', blk', cap', w', hrun, g1, g2, g3, g4, g5⟩ := run_app_row (P := P) (w := w) (t := t) (xt := xt) (ty := 0) (n := 0) (xs := []) (nil := true) (blk := 0) (cap := 0) hu hi hz hzs hc.2 hsrc hone (.inl ⟨rfl, rfl, rfl⟩) (by simp) (by simp only [maxLen]; omega) (by simpa using hby)
              simp only [List.nil_append, if_true, Nat.zero_add] at hrun g1
              have hrun' : ∀ ty, (Builtin.append_ #[t, xt] ty #[.slice none 0 0, a.eval y]).run P w = .ok (.slice (if nil' then none else some ⟨blk', 0, none⟩) m cap') w' := fun ty => hrun
              obtain ⟨h1, h2⟩ := hS.add (obj := .row ys i.size el) (b := blk') (cp := cap') (nl := nil') hA hw (fun k hk => g4 k hk (fun h => by cases h)) g2 g3 (fun hn => by
                  rcases g5 hn with ⟨h0, _⟩ | h0
                  · cases h0
                  · exact h0)
                ⟨hc.2, ⟨m, hsrc.length⟩, by
                  simp only [upd_eq]
                  exact g1⟩
              exact ⟨_, _, h, fin hv hrun' h1 h2 rfl (Mem.le_refl _) (by
                rw [rowOf_mod_none hrow]
                exact evo_add (fun k hk => g4 k hk (fun h => by cases h)) g2 (fun hn => by
                  rcases g5 hn with ⟨h0, _⟩ | h0
                  · cases h0
                  · exact h0)) (by simp [den, upd_eq])⟩
            · exact h.elim
          · exact h.elim
        · exact h.elim
      · exact h.elim
    · exact h.elim
  · exact h.elim

theorem holds_mem {id : Nat} {h h' : Nat → Option Obj} {o : EO} (hh : e.nil id = false → h' (e.blk id) = h (e.blk id)) (H : holds e id h o) : holds e id h' o := by
  cases o with
  | cells cs el => obtain ⟨h0, cc, h3⟩ := H; exact ⟨h0, cc, by rw [hh h0]; exact h3⟩
  | vec xs el => exact ⟨H.1, by rw [hh H.1]; exact H.2⟩
  | row xs sz el =>
    refine ⟨H.1, H.2.1, ?_⟩
    rcases H.2.2 with h | ⟨h0, cc, h3⟩
    · exact .inl h
    · exact .inr ⟨h0, cc, by rw [hh h0]; exact h3⟩
  | raw o => exact ⟨H.1, by rw [hh H.1]; exact H.2⟩
  | dead => trivial

/-- The read-only memory has grown by blocks that were not there. -/
theorem Sat.reads (hS : Sat c e s w) {I' : Mem} {w' : World} (_hle : s.I.le I') (hI : I'.inW w') (hnew : ∀ b, b < w.heap.size → s.I b = none → I' b = none)
    (hold : ∀ k, k < w.heap.size → w'.heap[k]? = w.heap[k]?) (hsz : w.heap.size ≤ w'.heap.size) (hsame : Same w w') : Sat c e { s with I := I' } w' := by
  have keep : ∀ I : Mem, I.inW w → I.inW w' := fun I hI b o hb => by rw [hold b (Mem.inW_lt hI hb)]; exact hI b o hb
  refine ⟨hS.same.trans hsame, Nat.le_trans hS.size hsz, hI, keep _ hS.hf, ?_, ?_, hS.apart, hS.names⟩
  · intro b hb h0
    obtain ⟨o, ho⟩ := Option.ne_none_iff_exists'.1 hb
    exact hnew b (Mem.inW_lt hS.hf ho) (hS.old b hb h0)
  · intro id x hx hal
    obtain ⟨h1, h2⟩ := hS.owned id x hx hal
    refine ⟨holds_mem (fun hn => hold _ (blk_lt hS hx hal hn)) h1, fun hn => ⟨?_, (h2 hn).2⟩⟩
    exact hnew _ (blk_lt hS hx hal hn) (h2 hn).1

theorem sBytes_sound {src dst : TypeId} {x : Operand} (h : seE P s (.convert src dst x) K) (hS : Sat c e s w) (hA : SatA e s a) :
    ∃ sv s', K sv s' ∧ EffOk P (.convert src dst x) c s a w sv s' e := by
  simp only [seE] at h
  split at h
  · rename_i el q hu1 hu2 hx
    split at h
    · rename_i hu3
      obtain ⟨hq, h⟩ := h
      have hrun := run_bytes_of_string (P := P) w src dst el q hu1 hu2 hu3
      have hge := grownCap_ge w q.size 0 el
      have _hle := grownCap_le_maxLen w q.size 0 el (by simp only [maxLen]; omega)
      generalize hcap : grownCap w q.size 0 el = cap at hrun hge _hle
      generalize hobj : Obj.cells (bytesRow q cap) el ((bytesRow q cap).size, (bytesRow q cap).size + 1) = obj at hrun
      let I' : Mem := fun b => if b = w.heap.size then some obj else s.I b
      have hIlt : ∀ b, b < w.heap.size → I' b = s.I b := fun b hb => by simp only [I']; rw [if_neg (by omega)]
      have hS' : Sat c e { s with I := I' } (w.drew.alloc obj) := by
        refine hS.reads (fun b o hb => by rw [hIlt b (Mem.inW_lt hS.I hb)]; exact hb) ?_ (fun b hb h0 => by rw [hIlt b hb]; exact h0) (fun k hk => heap_alloc_old w.drew _ k hk) (by simp) ⟨rfl, rfl, rfl⟩
        intro b o hb
        by_cases hbs : b = w.heap.size
        · subst hbs
          simp only [I', if_true, Option.some.injEq] at hb
          subst hb
          exact heap_alloc_new w.drew _
        · have hb2 : s.I b = some o := by simp only [I'] at hb; rwa [if_neg hbs] at hb
          have hlt := Mem.inW_lt hS.I hb2
          exact (heap_alloc_old w.drew _ b hlt).trans (hS.I b o hb2)
      have hK := h (some ⟨w.heap.size, 0, none⟩) cap I' (fun b o hb => by rw [hIlt b (Mem.inW_lt hS.I hb)]; exact hb) rfl hge _hle (fun j b hj => by
        have hlt := (List.getElem?_eq_some_iff.1 hj).1
        simp only [atI, Option.bind_some, Addr.add_lit, Nat.zero_add, cellM, I', if_true]
        rw [← hobj]
        simp only [Option.isSome_none, Bool.false_eq_true, if_false, bytesRow]
        rw [Array.getElem?_append_left (by simpa using hlt), Array.getElem?_map]
        have : q.data[j]? = some b := by simpa using hj
        rw [this]
        rfl)
      refine ⟨_, _, hK, e, w.drew.alloc obj, .slice (some ⟨w.heap.size, 0, none⟩) q.size cap, fun d ty pos af g => .inl ?_, hS', ⟨hA.size, hA.tm, hA.defers⟩, rfl, fun b o hb => by show I' b = some o; rw [hIlt b (Mem.inW_lt hS.I hb)]; exact hb, .inr (by simp [den]), ⟨fun k hk _ _ => heap_alloc_old w.drew _ k hk, by simp, fun _ _ _ => ⟨rfl, rfl, rfl⟩, fun _ _ _ h => by simp [modsOf] at h, fun _ _ h1 h2 _ _ => absurd (List.getElem?_eq_some_iff.1 h2).1 (by simp; omega), Nat.le_refl _, fun id x' _ h1 h2 => ⟨x', h1, h2⟩, fun _ _ h => h, fun _ => rfl, fun b hb _ h0 => .inl (by show I' b = none; rw [hIlt b hb]; exact h0)⟩⟩
      simp [execOp, ev_v hA hx, hrun]
    · exact h.elim
  · exact h.elim

theorem seE_sound {o : Op} (h : seE P s o K) (hS : Sat c e s w) (hA : SatA e s a) : ∃ sv s', K sv s' ∧ EffOk P o c s a w sv s' e := by
  cases o with
  | box el x => exact sBox_sound h hS hA
  | alloc el => exact sAlloc_sound h hS hA
  | buildSlice t len ps => exact sBuildSlice_sound h hS hA
  | makeSlice t l cc => exact sMakeSlice_sound h hS hA
  | store t ad x => exact sStore_sound h hS hA
  | convert src dst x => exact sBytes_sound h hS hA
  | call cl =>
    obtain ⟨callee, args, ts⟩ := cl
    simp only [seE] at h
    split at h
    · rename_i x y t xt h1 h2
      obtain rfl : args = #[x, y] := by rw [← Array.toList_inj]; exact h1
      obtain rfl : ts = #[t, xt] := by rw [← Array.toList_inj]; exact h2
      exact sAppend_sound h hS hA
    · exact h.elim
  | _ => exact h.elim

end
end Go.SE
