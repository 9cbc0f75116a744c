/- Maps that are owned: making one, laying entries into it, ranging over it. -/
import Derived.Test.YthfgpdjplknleaaGreatDoorSe14P
import Derived.Maps.RangeRun
namespace Go.SE
open Go.RowKit

def isKeyB : TypeDesc → Value → Bool
  | .bool, .bool _ => true
  | .int k, .int k' _ => decide (k' = k)
  | .string, .string _ => true
  | _, _ => false
theorem isKeyB_ok {d : TypeDesc} {v : Value} (h : isKeyB d v = true) : MapKept.IsKey d v := by
  cases d <;> cases v <;> simp_all [isKeyB, MapKept.IsKey]

/-- The key and the value that a step of an iterator has handed out last. -/
def lastTup : List SV → Option (Value × Value) → Option (Value × Value)
  | [], acc => acc
  | .v (.tuple ⟨[.bool true, k, v]⟩) :: r, _ => lastTup r (some (k, v))
  | _ :: r, acc => lastTup r acc
def allEs (F : MapEntry → Prop) : List MapEntry → Prop
  | [] => True
  | [e] => F e
  | e :: r => F e ∧ allEs F r
theorem allEs_mem {F : MapEntry → Prop} : ∀ {l : List MapEntry}, allEs F l → ∀ e ∈ l, F e
  | [], _, e, he => by cases he
  | [x], h, e, he => by rw [List.mem_singleton.1 he]; exact h
  | x :: y :: r, h, e, he => by
    rcases List.mem_cons.1 he with rfl | he
    · exact h.1
    · exact allEs_mem h.2 e he

def seM (P : Program) (s : St) (o : Op) (K : SV → St → Prop) : Prop :=
  match o with
  | .makeMap _ none => ∀ b : Nat, if wfSt s then K (.v (.map (some b))) { s with H := s.H ++ [⟨.raw (.map #[] 0), some b⟩] } else False
  | .insert t m k x | .mapUpdate t m k x => match P.underlying t with
    | some (.map kt _) => match P.underlying kt, ev s m, ev s k, ev s x, mapEnt 0 s.H none with
      | some d, .v (.map (some b')), .v kv, .v xv, some (id, b, es, clk) => b' = b ∧ isKeyB d kv = true ∧ Instr.findNow d kv es.toList 0 = some none ∧
          K (.v undef) { s with H := s.H.set id ⟨.raw (.map (es.push { key := kv, val := xv, born := clk }) (clk + 1)), some b⟩ }
      | _, _, _, _, _ => False
    | _ => False
  | .range t x => match P.underlying t, ev s x, mapEnt 0 s.H none with
    | some (.map _ _), .v (.map (some b')), some (_, b, _, clk) => b' = b ∧ if wfSt s then K (.ptr s.H.length 0) (addE s (.raw (.mapIter (some b) clk #[] clk))) else False
    | _, _, _ => False
  | .next x false => match ev s x, mapEnt 0 s.H none with
    | .ptr id 0, some (_, b, es, clk) => match s.H[id]? with
      | some ⟨.raw (.mapIter (some b') since seen c0), nm⟩ => b' = b ∧ (es.toList.all fun e => e.born.blt since) = true ∧ since ≤ c0 ∧
          ((leftOf es seen).size = 0 → K (.v (.tuple #[.bool false])) s) ∧
          allEs (fun e => seen.contains e.born = false → K (.v (.tuple #[.bool true, e.key, e.val])) { s with H := s.H.set id ⟨.raw (.mapIter (some b') since (seen.push e.born) clk), nm⟩ }) es.toList
      | _ => False
    | _, _ => False
  | .entry x => match ev s x, mapEnt 0 s.H none, lastTup s.tm none with
    | .ptr id 0, some (_, b, es, clk), some (k, v) => match s.H[id]? with
      | some ⟨.raw (.mapIter (some b') _ seen c0), _⟩ => b' = b ∧ c0 = clk ∧ (es.toList.map (·.born)).Nodup ∧
          (∃ (seen0 : Array Nat) (n : Nat), seen = seen0.push n ∧ ({ key := k, val := v, born := n } : MapEntry) ∈ es.toList) ∧ K (.v (.tuple #[k, v])) s
      | _ => False
    | _, _, _ => False
  | _ => False

section
variable {P : Program} {c : Ctx} {e : Env} {s : St} {w : World} {a : Act} {K : SV → St → Prop}

theorem Evo.sameObj {gm : Bool} {mods : List Nat} {s s1 s2 : St} {e e' : Env} {w w' : World} (h : Evo gm mods s e w s1 e' w')
    (ho : ∀ (id : Nat) (x : Ent), s2.H[id]? = some x → ∃ y, s1.H[id]? = some y ∧ y.obj = x.obj) (hl : s2.H.length = s1.H.length) (hI : s2.I = s1.I) (hG : s2.G = s1.G) : Evo gm mods s e w s2 e' w' := by
  refine ⟨h.heap, h.size, h.same, fun id x' h1 h2 h3 h4 h5 => ?_, fun id x' h1 h3 h4 h5 => ?_, hl ▸ h.len, fun id x' h1 h2 h3 => ?_, fun b hb h0 => hG ▸ h.gN b hb h0, fun hg => hG ▸ h.gEq hg, fun b hb h1 h2 => hI ▸ h.rd b hb h1 h2⟩
  · obtain ⟨y, g1, g2⟩ := ho id x' h3
    exact h.mod id y h1 h2 g1 (g2 ▸ h4) h5
  · obtain ⟨y, g1, g2⟩ := ho id x' h3
    exact h.new id y h1 g1 (g2 ▸ h4) h5
  · obtain ⟨y, g1, g2⟩ := ho id x' h2
    exact h.live id y h1 g1 (g2 ▸ h3)

/-- The last of what is owned gets its block's number as its name. -/
theorem Sat.nameLast {l : List Ent} {obj : EO} {b : Nat} {e : Env} (hS : Sat c e { s with H := l ++ [⟨obj, none⟩] } w) (hA : SatA e { s with H := l ++ [⟨obj, none⟩] } a) (hb : e.blk l.length = b) (hn : e.nil l.length = false) :
    Sat c e { s with H := l ++ [⟨obj, some b⟩] } w ∧ SatA e { s with H := l ++ [⟨obj, some b⟩] } a := by
  have back : ∀ {id : Nat} {x : Ent}, (l ++ [⟨obj, some b⟩])[id]? = some x → ∃ y, (l ++ [⟨obj, none⟩])[id]? = some y ∧ y.obj = x.obj ∧ (x.name = y.name ∨ (x.name = some b ∧ id = l.length)) := by
    intro id x hx
    rcases getElem?_append_one hx with hx | ⟨rfl, rfl⟩
    · exact ⟨x, by rw [List.getElem?_append_left (List.getElem?_eq_some_iff.1 hx).1]; exact hx, rfl, .inl rfl⟩
    · exact ⟨⟨obj, none⟩, by simp, rfl, .inr ⟨rfl, rfl⟩⟩
  refine ⟨⟨hS.same, hS.size, hS.I, hS.hf, hS.old, fun id x hx hal => ?_, fun i j x y hx hy h1 h2 h3 h4 h5 => ?_, fun id x b' hx hb' => ?_⟩, hA.size, hA.tm, hA.defers⟩
  · obtain ⟨y, g1, g2, _⟩ := back hx
    rw [← g2]
    exact hS.owned id y g1 (g2 ▸ hal)
  · obtain ⟨x', g1, g2, _⟩ := back hx
    obtain ⟨y', g3, g4, _⟩ := back hy
    exact hS.apart i j x' y' g1 g3 (g2 ▸ h1) (g4 ▸ h2) h3 h4 h5
  · obtain ⟨y, g1, g2, g3⟩ := back hx
    rcases g3 with g3 | ⟨g3, rfl⟩
    · exact hS.names id y b' g1 (g3 ▸ hb')
    · rw [g3] at hb'
      cases hb'
      exact ⟨hb, hn⟩

theorem mapEnt_get {id b : Nat} {es : Array MapEntry} {clk : Nat} (h : mapEnt 0 s.H none = some (id, b, es, clk)) : s.H[id]? = some ⟨.raw (.map es clk), some b⟩ := by
  rcases mapEnt_at h with h | ⟨k, h1, h2⟩
  · cases h
  · rw [h1, Nat.zero_add]; exact h2

theorem Evo.refl (s : St) (e : Env) (w : World) (mods : List Nat) : Evo false mods s e w s e w :=
  Evo.still rfl (fun _ x' h1 h2 => ⟨x', h1, h2⟩) (fun _ _ h0 => .inl h0) rfl

theorem sMakeMap_sound {t : TypeId} (h : seM P s (.makeMap t none) K) (hS : Sat c e s w) (hA : SatA e s a) : ∃ sv s', K sv s' ∧ EffOk P (.makeMap t none) c s a w sv s' e := by
  simp only [seM] at h
  have h := h w.heap.size
  split at h
  · rename_i hw
    obtain ⟨h1, h2⟩ := hS.add (w' := w.alloc (.map #[] 0)) (obj := .raw (.map #[] 0)) (b := w.heap.size) (cp := 0) (nl := false) hA hw (fun k hk => heap_alloc_old w (.map #[] 0) k hk) (by show w.heap.size ≤ (w.heap.push _).size; simp) ⟨rfl, rfl, rfl⟩ (fun _ => Nat.le_refl _)
      ⟨upd_eq.2.2, by simp only [upd_eq.1]; exact heap_alloc_new w _⟩
    obtain ⟨h3, h4⟩ := h1.nameLast h2 upd_eq.1 upd_eq.2.2
    refine ⟨_, _, h, _, w.alloc (.map #[] 0), .map (some w.heap.size), fun d ty pos af g => .inl ?_, h3, h4, rfl, Mem.le_refl _, .inr (by simp [den]), ?_⟩
    · simp [execOp, Instr.makeMap, newObj, Sem.run, Result.andThen]
    · refine (evo_push (o := .map #[] 0) (obj := .raw (.map #[] 0)) (cp := 0) rfl).sameObj (fun id x hx => ?_) (by simp) rfl rfl
      rcases getElem?_append_one hx with hx | ⟨rfl, rfl⟩
      · exact ⟨x, by rw [List.getElem?_append_left (List.getElem?_eq_some_iff.1 hx).1]; exact hx, rfl⟩
      · exact ⟨⟨.raw (.map #[] 0), none⟩, by simp, rfl⟩
  · exact h.elim

theorem sInsert_sound {o : Op} {t : TypeId} {m k x : Operand} (ho : o = .insert t m k x ∨ o = .mapUpdate t m k x) (h : seM P s (.insert t m k x) K) (hS : Sat c e s w) (hA : SatA e s a) : ∃ sv s', K sv s' ∧ EffOk P o c s a w sv s' e := by
  simp only [seM] at h
  split at h
  · rename_i kt et ht
    split at h
    · rename_i d b' kv xv id b es clk hd hm hk hx hent
      obtain ⟨rfl, hkey, hfind, h⟩ := h
      have hH := mapEnt_get hent
      obtain ⟨⟨hnil, hb⟩, _⟩ := hS.owned id _ hH rfl
      simp only at hb
      have hblk := (hS.names id _ _ hH rfl).1
      rw [hblk] at hb
      have hlt := (Array.getElem?_eq_some_iff.1 hb).1
      have hmods : modsOf s o = [id] := by rcases ho with rfl | rfl <;> simp [modsOf, hent]
      obtain ⟨h1, h2⟩ := hS.store hA (w' := ChangeMaps.setBlock w b' (.map (es.push { key := kv, val := xv, born := clk }) (clk + 1))) (obj := .raw (.map (es.push { key := kv, val := xv, born := clk }) (clk + 1))) hH rfl hnil (by simp [ChangeMaps.setBlock]) ⟨rfl, rfl, rfl⟩
        (fun b hne => by rw [hblk] at hne; simp [ChangeMaps.setBlock, Ne.symm hne]) ⟨hnil, by rw [hblk]; simp [ChangeMaps.setBlock, hlt]⟩
      refine ⟨_, _, h, e, _, undef, fun d' ty pos af g => .inr ⟨?_, rfl⟩, h1, h2, rfl, Mem.le_refl _, .inr (by simp [den]), ?_⟩
      · have e1 : a.eval m = .map (some b') := ev_v hA hm
        have e2 : a.eval k = kv := ev_v hA hk
        have e3 : a.eval x = xv := ev_v hA hx
        have hrun : (Instr.mapUpdate t (.map (some b')) kv xv).run P w = .ok () (ChangeMaps.setBlock w b' (.map (es.push { key := kv, val := xv, born := clk }) (clk + 1))) := by
          simp [Instr.mapUpdate, run_underlying ht, Result.andThen, MapKept.run_getObj_map hb, MapKept.run_checkKey hd (isKeyB_ok hkey), MapKept.run_findKey hd hfind, MapKept.run_setObj_map _ hb, ChangeMaps.setBlock]
        rcases ho with rfl | rfl <;> simp [execOp, e1, e2, e3, hrun, Result.andThen]
      · rw [hmods]
        exact evo_store (by simp) hH rfl hnil (by simp [ChangeMaps.setBlock]) (fun b hne => by rw [hblk] at hne; simp [ChangeMaps.setBlock, Ne.symm hne])
    · exact h.elim
  · exact h.elim

theorem sRange_sound {t : TypeId} {x : Operand} (h : seM P s (.range t x) K) (hS : Sat c e s w) (hA : SatA e s a) : ∃ sv s', K sv s' ∧ EffOk P (.range t x) c s a w sv s' e := by
  simp only [seM] at h
  split at h
  · rename_i kt et b' id b es clk ht hx hent
    obtain ⟨rfl, h⟩ := h
    split at h
    · rename_i hw
      have hH := mapEnt_get hent
      obtain ⟨⟨hnil, hb⟩, _⟩ := hS.owned id _ hH rfl
      simp only at hb
      rw [(hS.names id _ _ hH rfl).1] at hb
      obtain ⟨h1, h2⟩ := hS.add (w' := w.alloc (.mapIter (some b') clk #[] clk)) (obj := .raw (.mapIter (some b') clk #[] clk)) (b := w.heap.size) (cp := 0) (nl := false) hA hw (fun k hk => heap_alloc_old w (.mapIter (some b') clk #[] clk) k hk) (by show w.heap.size ≤ (w.heap.push _).size; simp) ⟨rfl, rfl, rfl⟩ (fun _ => Nat.le_refl _)
        ⟨upd_eq.2.2, by simp only [upd_eq.1]; exact heap_alloc_new w _⟩
      refine ⟨_, _, h, _, w.alloc (.mapIter (some b') clk #[] clk), .pointer (some ⟨w.heap.size, 0, none⟩), fun d ty pos af g => .inl ?_, h1, h2, rfl, Mem.le_refl _, .inr (by simp [den, upd_eq.1]), evo_push (o := .mapIter (some b') clk #[] clk) rfl⟩
      simp [execOp, ev_v hA hx, run_range_map w t kt et b' es clk ht hb, Result.andThen]
    · exact h.elim
  · exact h.elim

theorem sNext_sound {x : Operand} (h : seM P s (.next x false) K) (hS : Sat c e s w) (hA : SatA e s a) : ∃ sv s', K sv s' ∧ EffOk P (.next x false) c s a w sv s' e := by
  simp only [seM] at h
  split at h
  · rename_i id idm b es clk hx hent
    split at h
    · rename_i b' since seen c0 nm hI
      obtain ⟨rfl, hborn, hsc, hend, hstep⟩ := h
      have hH := mapEnt_get hent
      obtain ⟨⟨hnil, hb⟩, _⟩ := hS.owned _ _ hH rfl
      simp only at hb
      rw [(hS.names _ _ _ hH rfl).1] at hb
      obtain ⟨⟨hniI, hbI⟩, _⟩ := hS.owned _ _ hI rfl
      simp only at hbI
      have hlt := (Array.getElem?_eq_some_iff.1 hbI).1
      have hev : a.eval x = .pointer (some ⟨e.blk id, 0, none⟩) := by simp [ev_d hA hx rfl, den]
      have hold : ∀ y ∈ es.toList, y.born < since := fun y hy => by
        have := List.all_eq_true.1 hborn y hy
        simpa [Nat.blt_eq] using this
      rcases run_next_at (P := P) w 0 (e.blk id) b' since c0 seen es clk hbI hb hold hsc with ⟨h0, hrun⟩ | ⟨y, hy, w1, hw1, hrun⟩
      · refine ⟨_, _, hend h0, e, w, .tuple #[.bool false], fun d ty pos af g => .inl ?_, hS, hA, rfl, Mem.le_refl _, .inr (by simp [den]), Evo.refl ..⟩
        have hrun' : (Instr.next (.pointer (some ⟨e.blk id, 0, none⟩)) false ty).run P w = _ := hrun
        simp [execOp, hev, hrun', Result.andThen]
      · have hmem : y ∈ es.toList ∧ seen.contains y.born = false := by
          simp only [leftOf, Array.toList_filter, List.mem_filter, Bool.not_eq_true'] at hy
          exact hy
        have hw1' : Same w w1 ∧ w1.heap = w.heap := by rcases hw1 with rfl | rfl <;> exact ⟨⟨rfl, rfl, rfl⟩, rfl⟩
        have hK := allEs_mem hstep y hmem.1 hmem.2
        obtain ⟨h1, h2⟩ := hS.store hA (w' := ChangeMaps.setBlock w1 (e.blk id) (.mapIter (some b') since (seen.push y.born) clk)) (obj := .raw (.mapIter (some b') since (seen.push y.born) clk)) hI rfl hniI (by simp [ChangeMaps.setBlock, hw1'.2]) (hw1'.1.trans ⟨rfl, rfl, rfl⟩)
          (fun b hne => by simp [ChangeMaps.setBlock, hw1'.2, Ne.symm hne]) ⟨hniI, by simp [ChangeMaps.setBlock, hw1'.2, hlt]⟩
        refine ⟨_, _, hK, e, _, .tuple #[.bool true, y.key, y.val], fun d ty pos af g => .inl ?_, h1, h2, rfl, Mem.le_refl _, .inr (by simp [den]), ?_⟩
        · have hrun' : (Instr.next (.pointer (some ⟨e.blk id, 0, none⟩)) false ty).run P w = _ := hrun
          simp [execOp, hev, hrun', Result.andThen]
        · exact evo_store (by simp [modsOf, hx, idOf]) hI rfl hniI (by simp [ChangeMaps.setBlock, hw1'.2]) (fun b hne => by simp [ChangeMaps.setBlock, hw1'.2, Ne.symm hne])
    · exact h.elim
  · exact h.elim

theorem sEntry_sound {x : Operand} (h : seM P s (.entry x) K) (hS : Sat c e s w) (hA : SatA e s a) : ∃ sv s', K sv s' ∧ EffOk P (.entry x) c s a w sv s' e := by
  simp only [seM] at h
  split at h
  · rename_i id idm b es clk k v hx hent _
    split at h
    · rename_i b' since seen c0 nm hI
      obtain ⟨rfl, rfl, hnd, ⟨seen0, n, rfl, hmem⟩, hK⟩ := h
      have hH := mapEnt_get hent
      obtain ⟨⟨hnil, hb⟩, _⟩ := hS.owned _ _ hH rfl
      simp only at hb
      rw [(hS.names _ _ _ hH rfl).1] at hb
      obtain ⟨⟨hniI, hbI⟩, _⟩ := hS.owned _ _ hI rfl
      simp only at hbI
      have hev : a.eval x = .pointer (some ⟨e.blk id, 0, none⟩) := by simp [ev_d hA hx rfl, den]
      have hrun := run_entry_at (P := P) w (e.blk id) b' since seen0 es c0 ⟨k, v, n⟩ hbI hb hmem hnd
      refine ⟨_, _, hK, e, w, .tuple #[k, v], fun d ty pos af g => .inl ?_, hS, hA, rfl, Mem.le_refl _, .inr (by simp [den]), Evo.refl ..⟩
      simp [execOp, hev, hrun, Result.andThen]
    · exact h.elim
  · exact h.elim

theorem seM_sound {o : Op} (h : seM P s o K) (hS : Sat c e s w) (hA : SatA e s a) : ∃ sv s', K sv s' ∧ EffOk P o c s a w sv s' e := by
  cases o with
  | makeMap t r =>
    cases r with
    | none => exact sMakeMap_sound h hS hA
    | some r => exact h.elim
  | insert t m k x => exact sInsert_sound (.inl rfl) h hS hA
  | mapUpdate t m k x => exact sInsert_sound (.inr rfl) h hS hA
  | range t x => exact sRange_sound h hS hA
  | next x st =>
    cases st with
    | false => exact sNext_sound h hS hA
    | true => exact h.elim
  | entry x => exact sEntry_sound h hS hA
  | _ => exact h.elim

end
end Go.SE
