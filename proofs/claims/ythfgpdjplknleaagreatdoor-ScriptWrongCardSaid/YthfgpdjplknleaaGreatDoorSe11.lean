/- The operations that make memory or write it: soundness. -/
import Derived.Test.YthfgpdjplknleaaGreatDoorSe10
namespace Go.SE
open Go.RowKit

section
variable {P : Program} {c : Ctx} {e : Env} {s : St} {w : World} {a : Act} {K : SV → St → Prop}

theorem upd_agree {e : Env} {n b cp : Nat} {nl : Bool} : ∀ i, i < n → e.blk i = (e.upd n b cp nl).blk i ∧ e.cap i = (e.upd n b cp nl).cap i ∧ e.nil i = (e.upd n b cp nl).nil i :=
  fun _ hi => upd_ne (Nat.ne_of_lt hi)

/-- New cells. -/
theorem push_cells (hS : Sat c e s w) (hA : SatA e s a) {l : List SV} {el : TypeId} {cs : Array Value} {w' : World} (hw : wfSt s = true) (hb : belowL s.H.length l = true)
    (hcs : cs.size = l.length) (hl : ∀ (k : Nat) (sv : SV), l[k]? = some sv → isJunk sv = false → cs[k]? = some (den e sv)) (hheap : w'.heap = w.heap.push (.cells cs el)) (hsame : Same w w') :
    Sat c (e.upd s.H.length w.heap.size 0 false) (addE s (.cells l el)) w' ∧ SatA (e.upd s.H.length w.heap.size 0 false) (addE s (.cells l el)) a := by
  refine hS.push hA hw hheap hsame ⟨upd_eq.2.2, cs, ?_, hcs, fun k sv hk hj => ?_⟩
  · rw [upd_eq.1, hheap]; simp
  · rw [hl k sv hk hj, den_congr upd_agree sv (belowL_get hb hk)]

theorem push_row (hS : Sat c e s w) (hA : SatA e s a) {xs : List Value} {sz cap : Nat} {el : TypeId} {cs : Array Value} {w' : World} (hw : wfSt s = true)
    (h0 : 0 < sz) (hn : ∃ n, xs.length = n * sz) (h1 : cs.size = cap * sz) (h2 : cap ≤ maxLen) (h3 : xs.length ≤ cs.size) (h4 : cs.toList.take xs.length = xs)
    (hheap : w'.heap = w.heap.push (.cells cs el)) (hsame : Same w w') :
    Sat c (e.upd s.H.length w.heap.size cap false) (addE s (.row xs sz el)) w' ∧ SatA (e.upd s.H.length w.heap.size cap false) (addE s (.row xs sz el)) a := by
  refine hS.push hA hw hheap hsame ⟨h0, hn, .inr ⟨upd_eq.2.2, cs, ?_, ?_, ?_, h3, h4⟩⟩
  · rw [upd_eq.1, hheap]; simp
  · rw [upd_eq.2.1]; exact h1
  · rw [upd_eq.2.1]; exact h2

theorem sBox_sound {el : TypeId} {x : Operand} (h : seE P s (.box el x) K) (hS : Sat c e s w) (hA : SatA e s a) : ∃ sv s', K sv s' ∧ EffOk P (.box el x) c s a w sv s' e := by
  simp only [seE] at h
  split at h
  · rename_i l hl
    split at h
    · rename_i hc
      simp only [Bool.and_eq_true] at hc
      obtain ⟨hj, hd⟩ := svCells_den (e := e) hl
      obtain ⟨h1, h2⟩ := push_cells (el := el) (w' := { w with heap := w.heap.push (.cells (l.map (den e)).toArray el) }) hS hA hc.1 hc.2 (by simp) (fun k sv hk _ => by simp [hk]) rfl ⟨rfl, rfl, rfl⟩
      refine ⟨_, _, h, _, _, .pointer (some ⟨w.heap.size, 0, none⟩), fun d ty pos af g => .inl ?_, h1, h2, rfl, Mem.le_refl _, .inr (by simp [den, upd_eq.1]), evo_push rfl⟩
      simp [execOp, Instr.box, newVar, newRow, ev_ok hA x hj, hd]
    · exact h.elim
  · exact h.elim

theorem sAlloc_sound {el : TypeId} (h : seE P s (.alloc el) K) (hS : Sat c e s w) (hA : SatA e s a) : ∃ sv s', K sv s' ∧ EffOk P (.alloc el) c s a w sv s' e := by
  simp only [seE] at h
  split at h
  · rename_i z hz
    split at h
    · rename_i hc
      obtain ⟨h1, h2⟩ := push_cells (l := z.cells.toList.map .v) (el := el) (w' := { w with heap := w.heap.push (.cells z.cells el) }) hS hA hc
        (by
          have : ∀ l : List Value, belowL s.H.length (l.map .v) = true := fun l => by induction l <;> simp_all [belowL, below]
          exact this _) (by simp) (fun k sv hk _ => by
            simp only [List.getElem?_map, Option.map_eq_some_iff] at hk
            obtain ⟨v, hv, rfl⟩ := hk
            simpa [den] using hv) rfl ⟨rfl, rfl, rfl⟩
      refine ⟨_, _, h, _, _, .pointer (some ⟨w.heap.size, 0, none⟩), fun d ty pos af g => .inl ?_, h1, h2, rfl, Mem.le_refl _, .inr (by simp [den, upd_eq.1]), evo_push rfl⟩
      simp [execOp, Instr.alloc, newVar, newRow, run_zeroT hz]
    · exact h.elim
  · exact h.elim

theorem zfill_arr (z : Array Value) (n : Nat) : ((Array.range n).map (fun i => z[i % z.size]!)) = (zfill z n).toArray := by
  apply Array.ext'
  simp [zfill]

theorem sBuildSlice_sound {t : TypeId} {len : Nat} {ps : Array (Nat × Operand)} (h : seE P s (.buildSlice t len ps) K) (hS : Sat c e s w) (hA : SatA e s a) :
    ∃ sv s', K sv s' ∧ EffOk P (.buildSlice t len ps) c s a w sv s' e := by
  simp only [seE] at h
  split at h
  · rename_i el hu
    split at h
    · rename_i n z hn hz
      split at h
      · rename_i hle
        split at h
        · rename_i r hr
          split at h
          · rename_i hc
            simp only [Bool.and_eq_true] at hc
            obtain ⟨hf, hj⟩ := fillS_sound e _ _ _ hr
            rw [parts_eval hA hj, map_v_den] at hf
            obtain ⟨h1, h2⟩ := push_cells (el := el) (w' := { w with heap := w.heap.push (.cells (r.map (den e)).toArray el) }) hS hA hc.1 hc.2 (by simp) (fun k sv hk _ => by simp [hk]) rfl ⟨rfl, rfl, rfl⟩
            refine ⟨_, _, h, _, _, .slice (some ⟨w.heap.size, 0, none⟩) len len, fun d ty pos af g => .inl ?_, h1, h2, rfl, Mem.le_refl _, .inr (by simp [den, upd_eq.1]), evo_push rfl⟩
            have hle' : ¬ (len * n > 2 ^ 24) := by
              have := Nat.le_of_ble_eq_true hle
              omega
            by_cases h0 : len * n = 0
            · have hb : Nat.beq (len * n) 0 = true := by rw [h0]; rfl
              rw [if_pos hb] at hf
              have hz0 := zfill_arr #[] (len * n)
              simp only [execOp, Instr.buildSlice, Sem.run_bind, run_underlying hu, Result.andThen_ok, run_szT hn]
              rw [if_neg hle']
              simp only [if_pos h0, Sem.run_bind, Sem.run_pure, Result.andThen_ok, Array.toList_map, hz0, hf]
              simp [newRow]
            · have hb : ¬ (Nat.beq (len * n) 0 = true) := fun hb => h0 (Nat.eq_of_beq_eq_true hb)
              rw [if_neg hb] at hf
              have hz0 := zfill_arr z.cells (len * n)
              simp only [execOp, Instr.buildSlice, Sem.run_bind, run_underlying hu, Result.andThen_ok, run_szT hn]
              rw [if_neg hle']
              simp only [if_neg h0, Sem.run_bind, Sem.run_pure, Result.andThen_ok, run_zeroT hz, Array.toList_map, hz0, hf]
              simp [newRow]
          · exact h.elim
        · exact h.elim
      · exact h.elim
    · exact h.elim
  · exact h.elim

theorem zfill_take (z : Array Value) {m n : Nat} (h : m ≤ n) : (zfill z n).take m = zfill z m := by
  simp only [zfill, ← List.map_take, List.take_range, Nat.min_eq_left h]

theorem sMakeSlice_sound {t : TypeId} {l cc : Operand} (h : seE P s (.makeSlice t l cc) K) (hS : Sat c e s w) (hA : SatA e s a) :
    ∃ sv s', K sv s' ∧ EffOk P (.makeSlice t l cc) c s a w sv s' e := by
  simp only [seE] at h
  split at h
  · rename_i el k1 l' k2 c' hu hl hc
    split at h
    · rename_i i hi
      split at h
      · rename_i z hz
        obtain ⟨h0, h1, h2, h3, h⟩ := h
        split at h
        · rename_i hw
          have h := zK_sound h
          simp only [Bool.and_eq_true, Nat.blt_eq] at hw
          have hmul : l'.toNat * i.size ≤ c'.toNat * i.size := Nat.mul_le_mul_right _ (by omega)
          have hlen : ∀ n, (zfill z.cells n).length = n := fun n => by simp [zfill]
          obtain ⟨h4, h5⟩ := push_row (xs := zfill z.cells (l'.toNat * i.size)) (sz := i.size) (cap := c'.toNat) (el := el) (cs := (zfill z.cells (c'.toNat * i.size)).toArray)
            (w' := { w with heap := w.heap.push (.cells (zfill z.cells (c'.toNat * i.size)).toArray el) }) hS hA hw.1 hw.2 ⟨_, hlen _⟩ (by simp [hlen]) (by simp only [maxLen]; omega) (by simp [hlen]; exact hmul)
            (by rw [hlen]; exact zfill_take _ hmul) rfl ⟨rfl, rfl, rfl⟩
          refine ⟨_, _, h, _, _, .slice (some ⟨w.heap.size, 0, none⟩) l'.toNat c'.toNat, fun d ty pos af g => .inl ?_, h4, h5, rfl, Mem.le_refl _, .inr (by simp [den, upd_eq]), evo_push rfl⟩
          have w1 : IntKind.i64.wrap l' = l' := IntWalk.i64_in _ ⟨by omega, by omega⟩
          have w2 : IntKind.i64.wrap c' = c' := IntWalk.i64_in _ ⟨by omega, by omega⟩
          have hzf := zfill_arr z.cells (c'.toNat * i.size)
          have t1 : ¬ c' < 0 := by omega
          have t2 : ¬ (281474976710656 < (i.bytes : Int) * c') := by omega
          have t3 : ¬ l' < 0 := by omega
          have t4 : ¬ c' < l' := by omega
          by_cases hc0 : c'.toNat * i.size = 0
          · simp [execOp, Instr.makeSlice, run_underlying hu, ev_v hA hl, ev_v hA hc, asInt, asIntOf, typeInfo, hi, w1, w2, t1, t2, t3, t4, sizeOf, hc0, newRow, zfill, show Array.range 0 = #[] from by simp [Array.range]]
          · simp [execOp, Instr.makeSlice, run_underlying hu, ev_v hA hl, ev_v hA hc, asInt, asIntOf, typeInfo, hi, w1, w2, t1, t2, t3, t4, sizeOf, hc0, newRow, zeroValue, hz, hzf]
        · exact h.elim
      · exact h.elim
    · exact h.elim
  · exact h.elim

theorem setRow_size (w : World) (g : Nat) (cs : Array Value) : (w.setRow g cs).heap.size = w.heap.size := by simp [World.setRow]
theorem setRow_same (w : World) (g : Nat) (cs : Array Value) : Same w (w.setRow g cs) := ⟨rfl, rfl, rfl⟩

/-- A store of cells into a block of one's own. -/
theorem run_storeVar_block {P : Program} {w : World} {t : TypeId} {z : Nat} (hz : szT P t = some z) {b off : Nat} {v : Value} {vs : List Value} {cur : Array Value} {el : TypeId}
    (hb : w.heap[b]? = some (.cells cur el (0, 0))) (hv : v.cells = vs.toArray) (hl : vs.length = z) (h1 : ∀ u ∈ vs, u.oneCell' = true) (hfit : off + vs.length ≤ cur.size) :
    (storeVar t ⟨b, off, none⟩ v).run P w = .ok () (w.setRow b (cur.toList.take off ++ vs ++ cur.toList.drop (off + vs.length)).toArray) := by
  have hst := run_storeCells_at P b off el vs 0 cur w hb (by simpa using hfit) h1
  simp only [Nat.add_zero] at hst
  have h2 : ¬ (v.cells.size ≠ z) := by rw [hv]; simpa using hl
  simp only [storeVar, Sem.run_bind, run_szT hz, Result.andThen_ok]
  rw [if_neg h2]
  simp only [hv, hst]

theorem splice_length {xs : List Value} {off : Nat} {vs : List Value} (h : off + vs.length ≤ xs.length) : (splice xs off vs).length = xs.length := by
  rw [splice_eq h]
  simp
  omega

theorem mapV_length : ∀ {l : List SV} {vs : List Value}, mapV l = some vs → vs.length = l.length := by
  intro l vs h
  have := (mapV_den (e := ⟨fun _ => 0, fun _ => 0, fun _ => false⟩) h).1
  rw [← this]; simp

theorem mapV_all : ∀ {l : List SV} {vs : List Value}, mapV l = some vs → l.all one = true → ∀ u ∈ vs, u.oneCell' = true
  | [], vs, h, _ => by simp only [mapV, Option.some.injEq] at h; subst h; simp
  | x :: xs, vs, h, ha => by
    simp only [mapV] at h
    split at h
    · rename_i v vs' hv hvs
      simp only [Option.some.injEq] at h
      subst h
      simp only [List.all_cons, Bool.and_eq_true] at ha
      have hx : x = .v v := by cases x <;> simp_all [vOf]
      subst hx
      intro u hu
      cases hu with
      | head => exact ha.1
      | tail _ hm => exact mapV_all hvs ha.2 u hm
    · cases h

theorem setAt_get : ∀ (l cells : List SV) (off k : Nat), off + l.length ≤ cells.length →
    (setAt cells off l)[k]? = if off ≤ k ∧ k < off + l.length then l[k - off]? else cells[k]?
  | [], cells, off, k, _ => by simp [setAt]; intro h1 h2; omega
  | x :: xs, cells, off, k, h => by
    simp only [List.length_cons] at h
    rw [setAt, setAt_get xs (cells.set off x) (off + 1) k (by simp; omega)]
    by_cases hk : k = off
    · subst hk
      rw [if_neg (by omega), if_pos (by simp), List.getElem?_set_self (by omega)]
      simp
    · by_cases hk2 : off + 1 ≤ k ∧ k < off + 1 + xs.length
      · rw [if_pos hk2, if_pos (by simp only [List.length_cons]; omega)]
        have : k - off = (k - (off + 1)) + 1 := by omega
        rw [this]; simp
      · rw [if_neg hk2, if_neg (by simp only [List.length_cons]; omega), List.getElem?_set_ne (by omega)]

/-- The result of a store: the entry's new contents hold. -/
theorem store_fin (hS : Sat c e s w) (hA : SatA e s a) {t : TypeId} {addr x : Operand} {id off z : Nat} {ent : Ent} {obj : EO} {vs : List Value} {cur : Array Value} {el : TypeId}
    (hx : s.H[id]? = some ent) (hal : alive ent.obj = true) (hnil : e.nil id = false) (haddr : a.eval addr = .pointer (some ⟨e.blk id, off, none⟩)) (hmod : id ∈ modsOf s (.store t addr x)) (hz : szT P t = some z)
    (hb : w.heap[e.blk id]? = some (.cells cur el (0, 0))) (hv : (a.eval x).cells = vs.toArray) (hl : vs.length = z) (h1 : ∀ u ∈ vs, u.oneCell' = true) (hfit : off + vs.length ≤ cur.size)
    (hh : holds e id (fun b => (w.setRow (e.blk id) (cur.toList.take off ++ vs ++ cur.toList.drop (off + vs.length)).toArray).heap[b]?) obj)
    (hK : K (.v undef) { s with H := s.H.set id ⟨obj, ent.name⟩ }) :
    ∃ sv s', K sv s' ∧ EffOk P (.store t addr x) c s a w sv s' e := by
  obtain ⟨h2, h3⟩ := hS.store hA hx hal hnil (w' := w.setRow (e.blk id) (cur.toList.take off ++ vs ++ cur.toList.drop (off + vs.length)).toArray) (setRow_size ..).symm (setRow_same ..)
    (fun b hb => setRow_other w (e.blk id) b _ hb) hh
  refine ⟨_, _, hK, e, _, undef, fun d ty pos af g => .inr ⟨?_, rfl⟩, h2, h3, rfl, Mem.le_refl _, .inr (by simp [den]), evo_store hmod hx hal hnil (setRow_size ..).symm (fun b hb => setRow_other w (e.blk id) b _ hb)⟩
  simp only [execOp, haddr, Instr.storeAt, Instr.sureAddr, Sem.run_bind, Sem.run_pure, Result.andThen_ok, run_storeVar_block hz hb hv hl h1 hfit]

theorem sStore_sound {t : TypeId} {addr x : Operand} (h : seE P s (.store t addr x) K) (hS : Sat c e s w) (hA : SatA e s a) :
    ∃ sv s', K sv s' ∧ EffOk P (.store t addr x) c s a w sv s' e := by
  simp only [seE, sStore] at h
  split at h
  · rename_i l z hl hz
    split at h
    · rename_i hc
      simp only [Bool.and_eq_true] at hc
      have hlz := Nat.eq_of_beq_eq_true hc.1
      obtain ⟨hj, hd⟩ := svCells_den (e := e) hl
      have hv : (a.eval x).cells = (l.map (den e)).toArray := by rw [ev_ok hA x hj]; exact hd
      have hone : ∀ u ∈ l.map (den e), u.oneCell' = true := by
        intro u hu
        obtain ⟨y, hy, rfl⟩ := List.mem_map.1 hu
        exact (one_den (List.all_eq_true.1 hc.2 y hy)).1
      have vecCase : ∀ {id off : Nat} {xs vs : List Value} {el : TypeId} {nm : Option Nat}, s.H[id]? = some ⟨.vec xs el, nm⟩ → a.eval addr = .pointer (some ⟨e.blk id, off, none⟩) → id ∈ modsOf s (.store t addr x) → mapV l = some vs →
          off + vs.length ≤ xs.length → K (.v undef) { s with H := s.H.set id ⟨.vec (splice xs off vs) el, nm⟩ } → ∃ sv s', K sv s' ∧ EffOk P (.store t addr x) c s a w sv s' e := by
        intro id off xs vs el nm hH haddr hmod hvs hfit hK
        obtain ⟨⟨hnil, hb⟩, _⟩ := hS.owned id _ hH rfl
        have hv2 := (mapV_den (e := e) hvs).1
        refine store_fin hS hA hH rfl hnil haddr hmod hz hb (by rw [hv, hv2]) (by rw [mapV_length hvs, hlz]) (mapV_all hvs hc.2) (by simpa using hfit) ?_ hK
        refine ⟨hnil, ?_⟩
        refine (setRow_heap w (e.blk id) _ _ el _ hb).trans ?_
        rw [splice_eq hfit]
      have rowCase : ∀ {id off : Nat} {xs vs : List Value} {sz : Nat} {el : TypeId} {nm : Option Nat}, s.H[id]? = some ⟨.row xs sz el, nm⟩ → a.eval addr = .pointer (some ⟨e.blk id, off, none⟩) → id ∈ modsOf s (.store t addr x) → mapV l = some vs →
          off + vs.length ≤ xs.length → 0 < vs.length → K (.v undef) { s with H := s.H.set id ⟨.row (splice xs off vs) sz el, nm⟩ } → ∃ sv s', K sv s' ∧ EffOk P (.store t addr x) c s a w sv s' e := by
        intro id off xs vs sz el nm hH haddr hmod hvs hfit hpos hK
        obtain ⟨⟨hsz, hn, hrow⟩, _⟩ := hS.owned id _ hH rfl
        have hv2 := (mapV_den (e := e) hvs).1
        rcases hrow with ⟨_, _, rfl⟩ | ⟨hnil, cur, hb, h2, h3, h4, h5⟩
        · simp only [List.length_nil] at hfit; omega
        · simp only at hb
          refine store_fin hS hA hH rfl hnil haddr hmod hz hb (by rw [hv, hv2]) (by rw [mapV_length hvs, hlz]) (mapV_all hvs hc.2) (by omega) ?_ hK
          refine ⟨hsz, by rw [splice_length hfit]; exact hn, .inr ⟨hnil, _, setRow_heap w (e.blk id) _ _ el _ hb, ?_, h3, ?_, ?_⟩⟩
          · simp only [List.size_toArray, List.length_append, List.length_take, List.length_drop, Array.length_toList]
            omega
          · rw [splice_length hfit]
            simp only [List.size_toArray, List.length_append, List.length_take, List.length_drop, Array.length_toList]
            omega
          · rw [splice_length hfit, splice_eq hfit]
            apply List.ext_getElem?
            intro k
            have hx5 : ∀ k, k < xs.length → cur.toList[k]? = xs[k]? := fun k hk => by rw [← h5, List.getElem?_take, if_pos hk]
            have hcl : cur.toList.length = cur.size := Array.length_toList
            simp only [List.getElem?_take, List.getElem?_append, List.length_append, List.length_take, List.getElem?_drop]
            by_cases hk : k < xs.length
            · rw [if_pos hk]
              by_cases hk1 : k < off
              · rw [if_pos (by omega), if_pos (by omega), if_pos hk1, if_pos (by omega), if_pos (by omega), if_pos hk1, hx5 k hk]
              · by_cases hk2 : k < off + vs.length
                · rw [if_pos (by omega), if_neg (by omega), if_pos (by omega), if_neg (by omega)]
                  congr 1
                  omega
                · rw [if_neg (by omega), if_neg (by omega), hx5 _ (by omega)]
                  congr 1
                  omega
            · rw [if_neg hk, if_neg (by omega)]
              rw [List.getElem?_eq_none (by omega)]
      split at h
      · rename_i id off haddr
        have haddr' : a.eval addr = .pointer (some ⟨e.blk id, off, none⟩) := by simp [ev_d hA haddr rfl, den]
        have hmod : id ∈ modsOf s (.store t addr x) := by simp [modsOf, haddr, idOf]
        split at h
        · rename_i cs el nm hH
          split at h
          · rename_i hle
            have hle' := Nat.le_of_ble_eq_true hle
            obtain ⟨⟨hnil, cur, hb, h2, h3⟩, _⟩ := hS.owned id _ hH rfl
            simp only at hb
            refine store_fin hS hA hH rfl hnil haddr' hmod hz hb hv (by simpa using hlz) hone (by rw [h2]; simpa [hlz] using hle') ?_ h
            refine ⟨hnil, _, setRow_heap w (e.blk id) _ _ el _ hb, ?_, fun k sv hk hjk => ?_⟩
            · rw [setAt_length]
              simp only [List.size_toArray, List.length_append, List.length_take, List.length_drop, Array.length_toList, List.length_map]
              omega
            · have hcl : cur.toList.length = cur.size := Array.length_toList
              rw [setAt_get l cs off k (by omega)] at hk
              simp only [List.getElem?_toArray, List.getElem?_append, List.length_append, List.length_take, List.getElem?_take, List.getElem?_drop, List.length_map, List.getElem?_map]
              by_cases hk1 : k < off
              · rw [if_neg (by omega)] at hk
                rw [if_pos (by omega), if_pos (by omega), if_pos hk1]
                simpa using h3 k sv hk hjk
              · by_cases hk2 : k < off + l.length
                · rw [if_pos (by omega)] at hk
                  rw [if_pos (by omega), if_neg (by omega)]
                  rw [show k - min off cur.toList.length = k - off from by omega, hk]
                  rfl
                · rw [if_neg (by omega)] at hk
                  rw [if_neg (by omega)]
                  have := h3 k sv hk hjk
                  rw [show off + l.length + (k - (min off cur.toList.length + l.length)) = k from by omega]
                  simpa using this
          · exact h.elim
        · rename_i xs el nm hH
          split at h
          · rename_i vs hvs
            exact vecCase hH haddr' hmod hvs h.1 h.2
          · exact h.elim
        · rename_i xs sz el nm hH
          split at h
          · rename_i vs hvs
            exact rowCase hH haddr' hmod hvs h.1 h.2.1 h.2.2
          · exact h.elim
        · exact h.elim
      · rename_i id off haddr
        have haddr' : a.eval addr = .pointer (some ⟨e.blk id, off, none⟩) := by simp [ev_d hA haddr rfl, den]
        have hmod : id ∈ modsOf s (.store t addr x) := by simp [modsOf, haddr, idOf]
        split at h
        · rename_i cs el nm hH
          split at h
          · rename_i vs xs hvs hxs
            obtain ⟨hfit, hK⟩ := h
            obtain ⟨⟨hnil, cur, hb, h2, h3⟩, _⟩ := hS.owned id _ hH rfl
            simp only at hb
            have hv2 := (mapV_den (e := e) hvs).1
            obtain ⟨hx2, hx3⟩ := mapV_den (e := e) hxs
            have hcur : cur = xs.toArray := by
              apply Array.ext_getElem?
              intro k
              by_cases hk : k < cs.length
              · have hkk := List.getElem?_eq_getElem hk
                rw [h3 k _ hkk (hx3 _ (List.mem_of_getElem? hkk)), ← hx2]
                simp [hkk]
              · have hlx := mapV_length hxs
                rw [Array.getElem?_eq_none (by omega), Array.getElem?_eq_none (by simp; omega)]
            subst hcur
            refine store_fin hS hA hH rfl hnil haddr' hmod hz hb (by rw [hv, hv2]) (by rw [mapV_length hvs, hlz]) (mapV_all hvs hc.2) (by simpa using hfit) ?_ hK
            refine ⟨hnil, ?_⟩
            refine (setRow_heap w (e.blk id) _ _ el _ hb).trans ?_
            rw [splice_eq hfit]
          · exact h.elim
        · rename_i xs el nm hH
          split at h
          · rename_i vs hvs
            exact vecCase hH haddr' hmod hvs h.1 h.2
          · exact h.elim
        · rename_i xs sz el nm hH
          split at h
          · rename_i vs hvs
            exact rowCase hH haddr' hmod hvs h.1 h.2.1 h.2.2
          · exact h.elim
        · exact h.elim
      · exact h.elim
    · exact h.elim
  · exact h.elim

end
end Go.SE
