/- Memory that is made whole (its room is known); append to a slice of which there is no more room. -/
import Derived.Test.YthfgpdjplknleaaGreatDoorSe14G
namespace Go.SE
open Go.RowKit

/-- A slice that is made with just as much room as it has elements. -/
def seMk (P : Program) (s : St) (t : TypeId) (l c : Operand) (K : SV → St → Prop) : Prop :=
  match P.underlying t, ev s l, ev s c with
  | some (.slice el), .v (.int _ l'), .v (.int _ c') => match P.info? el with
    | some i => match i.zero with
      | some z => l' = c' ∧ 0 ≤ l' ∧ l' ≤ 281474976710656 ∧ (i.bytes : Int) * l' ≤ 281474976710656 ∧
          if wfSt s && Nat.blt 0 z.cells.size then ∀ xs : List Value, xs.length = l'.toNat * i.size → (∀ (j : Nat) (v : Value), xs[j]? = some v → z.cells[j % z.cells.size]? = some v) → K (.xsl s.H.length 0 l'.toNat l'.toNat) (addE s (.vec xs el)) else False
      | none => False
    | none => False
  | _, _, _ => False
/-- Append to a slice that has no room. -/
def seAp (P : Program) (s : St) (t xt : TypeId) (x y : SV) (K : SV → St → Prop) : Prop :=
  match P.underlying t with
  | some (.slice el) => match P.info? el with
    | some i => match i.zero with
      | some z => if Nat.beq z.cells.size i.size && Nat.blt 0 i.size then
          match x with
          | .v (.slice a n cp) => srcOf P s xt y i.size fun m ys => cp < n + m ∧ n + m ≤ 9223372036854775807 ∧ (n + m) * i.bytes ≤ 140737488355328 ∧ a.isSome = true ∧
              ∃ xs : List Value, xs.length = n * i.size ∧ (∀ (j : Nat) (v : Value), xs[j]? = some v → atI s.I a j = some v) ∧ if wfSt s then K (.rsl s.H.length (n + m)) (addE s (.row (xs ++ ys) i.size el)) else False
          | _ => False
        else False
      | none => False
    | none => False
  | _ => False
def seEV (P : Program) (s : St) (o : Op) (K : SV → St → Prop) : Prop :=
  match o with
  | .makeSlice t l c => seMk P s t l c K
  | .call c => match c.callee, c.args.toList, c.argTypes.toList with
    | .builtin .append, [x, y], [t, xt] => seAp P s t xt (ev s x) (ev s y) K
    | _, _, _ => False
  | _ => False

section
variable {P : Program} {c : Ctx} {e : Env} {s : St} {w : World} {a : Act} {K : SV → St → Prop}

theorem zfill_all {z : Array Value} {n : Nat} {F : List Value → Prop} (h : ∀ xs : List Value, xs.length = n → (∀ (j : Nat) (v : Value), xs[j]? = some v → z[j % z.size]? = some v) → F xs) (hz : 0 < z.size) : F (zfill z n) := by
  refine h _ (by simp [zfill]) fun j v hj => ?_
  simp only [zfill, List.getElem?_map, Option.map_eq_some_iff] at hj
  obtain ⟨k, hk, rfl⟩ := hj
  have : k = j := by
    rw [List.getElem?_range] at hk
    · cases hk; rfl
    · have := (List.getElem?_eq_some_iff.1 hk).1
      simpa using this
  subst this
  have hm := Nat.mod_lt k hz
  rw [Array.getElem!_eq_getD, Array.getD_eq_getD_getElem?, Array.getElem?_eq_getElem hm]
  rfl
theorem seMk_sound {t : TypeId} {l cc : Operand} (h : seMk P s t l cc K) (hS : Sat c e s w) (hA : SatA e s a) :
    ∃ sv s', K sv s' ∧ EffOk P (.makeSlice t l cc) c s a w sv s' e := by
  unfold seMk at h
  split at h
  · rename_i el k1 l' k2 c' hu hl hc
    split at h
    · rename_i i hi
      split at h
      · rename_i z hz
        obtain ⟨rfl, h1, h2, h3, h⟩ := h
        split at h
        · rename_i hw
          simp only [Bool.and_eq_true, Nat.blt_eq] at hw
          obtain ⟨hw, hzp⟩ := hw
          have h := zfill_all h hzp
          have hold : ∀ k, k < w.heap.size → ({ w with heap := w.heap.push (.cells (zfill z.cells (l'.toNat * i.size)).toArray el) } : World).heap[k]? = w.heap[k]? := fun k hk => by
            simp only [Array.getElem?_push]
            rw [if_neg (by omega)]
          obtain ⟨h4, h5⟩ := hS.add (obj := .vec (zfill z.cells (l'.toNat * i.size)) el) (b := w.heap.size) (cp := 0) (nl := false) (w' := { w with heap := w.heap.push (.cells (zfill z.cells (l'.toNat * i.size)).toArray el) }) hA hw
            hold (by simp) ⟨rfl, rfl, rfl⟩ (fun _ => Nat.le_refl _) ⟨by simp [upd_eq], by simp [upd_eq]⟩
          refine ⟨_, _, h, _, _, .slice (some ⟨w.heap.size, 0, none⟩) l'.toNat l'.toNat, fun d ty pos af g => .inl ?_, h4, h5, rfl, Mem.le_refl _, .inr (by simp [den, upd_eq]), evo_add hold (by simp) fun _ => Nat.le_refl _⟩
          have w1 : IntKind.i64.wrap l' = l' := IntWalk.i64_in _ ⟨by omega, by omega⟩
          have hzf := zfill_arr z.cells (l'.toNat * i.size)
          have t1 : ¬ l' < 0 := by omega
          have t2 : ¬ (281474976710656 < (i.bytes : Int) * l') := by omega
          by_cases hc0 : l'.toNat * i.size = 0
          · simp [execOp, Instr.makeSlice, run_underlying hu, ev_v hA hl, ev_v hA hc, asInt, asIntOf, typeInfo, hi, w1, t1, t2, sizeOf, hc0, newRow, zfill, show Array.range 0 = #[] from by simp [Array.range]]
          · simp [execOp, Instr.makeSlice, run_underlying hu, ev_v hA hl, ev_v hA hc, asInt, asIntOf, typeInfo, hi, w1, t1, t2, sizeOf, hc0, newRow, zeroValue, hz, hzf]
        · exact h.elim
      · exact h.elim
    · exact h.elim
  · exact h.elim

theorem run_app_full {t xt ty el : TypeId} {i : TypeInfo} {z x : Value} {m n cap : Nat} {ad : Addr} {xs news : List Value}
    (ht : P.underlying t = some (.slice el)) (hi : P.info? el = some i) (hz : i.zero = some z) (hzs : z.cells.size = i.size)
    (hx : Src P w xt x i.size m news) (hn : xs.length = n * i.size) (holds : ∀ j v, xs[j]? = some v → w.cell? (ad.add j) = some v)
    (hlt : cap < n + m) (h63 : n + m ≤ maxLen) (hbytes : (n + m) * i.bytes ≤ 140737488355328) :
    ∃ (blk' cap' : Nat) (w' : World),
      (Builtin.append_ #[t, xt] ty #[.slice (some ad) n cap, x]).run P w = .ok (.slice (some ⟨blk', 0, none⟩) (n + m) cap') w' ∧
      isRow (fun b => w'.heap[b]?) false blk' cap' i.size el (xs ++ news) ∧ w.heap.size ≤ w'.heap.size ∧ Same w w' ∧
      (∀ b, b < w.heap.size → w'.heap[b]? = w.heap[b]?) ∧ w.heap.size ≤ blk' := by
  have hsmall : n + m ≤ 9223372036854775807 := by simp only [maxLen] at h63; omega
  have hlen : (xs ++ news).length = (n + m) * i.size := by rw [List.length_append, hn, hx.length, Nat.add_mul]
  have hge := grownCap_ge w (n + m) cap el
  have hcm : grownCap w (n + m) cap el ≤ maxLen := grownCap_le_maxLen w (n + m) cap el h63
  have hsize : (xs.toArray ++ news.toArray ++ Builtin.zeroCells z.cells (grownCap w (n + m) cap el - (n + m))).size = grownCap w (n + m) cap el * i.size := by
    simp only [Array.size_append, List.size_toArray, size_zeroCells, hzs, hn, hx.length, ← Nat.add_mul]
    congr 1
    omega
  have hr := run_app_grow (ty := ty) ht hi hz hx ad n cap xs hn holds hlt (by omega) (growslice_fits (by omega) hbytes)
  refine ⟨w.heap.size, _, _, hr, .inr ⟨rfl, _, heap_alloc_new w.drew _, hsize, hcm, ?_, ?_⟩, by simp, ⟨rfl, rfl, rfl⟩, fun b hb => heap_alloc_old w.drew _ b hb, Nat.le_refl _⟩
  · rw [hsize, hlen]; exact Nat.mul_le_mul_right _ hge
  · simp only [Array.toList_append, List.append_assoc]
    rw [← List.append_assoc]
    exact List.take_left

theorem seAp_sound {t xt : TypeId} {x y : Operand} (h : seAp P s t xt (ev s x) (ev s y) K) (hS : Sat c e s w) (hA : SatA e s a) :
    ∃ sv s', K sv s' ∧ EffOk P (.call { callee := .builtin .append, args := #[x, y], argTypes := #[t, xt] }) c s a w sv s' e := by
  unfold seAp at h
  split at h
  · rename_i el hu
    split at h
    · rename_i i hi
      split at h
      · rename_i z hz
        split at h
        · rename_i hc
          simp only [Bool.and_eq_true, Nat.blt_eq] at hc
          have hzs := Nat.eq_of_beq_eq_true hc.1
          split at h
          · rename_i ad n cp hx
            obtain ⟨m, ys, ⟨h1, h2, h3, h4, xs, h5, h6, hk⟩, hsrc, hone⟩ := srcOf_sound h hc.2 hS hA
            split at hk
            · rename_i hw
              obtain ⟨ad, rfl⟩ := Option.isSome_iff_exists.1 h4
              obtain ⟨blk', cap', w', hrun, g1, g2, g3, g4, g5⟩ := run_app_full (P := P) (w := w) (t := t) (xt := xt) (ty := 0) hu hi hz hzs hsrc h5 (fun j v hj => by
                  obtain ⟨ad', e1, e2⟩ := ep_cells hS.I (h6 j v hj)
                  cases e1; exact e2) h1 (by simp only [maxLen]; omega) h3
              have hrun' : ∀ ty, (Builtin.append_ #[t, xt] ty #[.slice (some ad) n cp, a.eval y]).run P w = .ok (.slice (some ⟨blk', 0, none⟩) (n + m) cap') w' := fun ty => hrun
              obtain ⟨k1, k2⟩ := hS.add (obj := .row (xs ++ ys) i.size el) (b := blk') (cp := cap') (nl := false) hA hw g4 g2 g3 (fun _ => g5)
                ⟨hc.2, ⟨n + m, by rw [List.length_append, h5, hsrc.length, Nat.add_mul]⟩, by
                  unfold isRow at g1
                  simpa [upd_eq] using g1⟩
              have hev := ev_v hA hx
              refine ⟨_, _, hk, _, w', .slice (some ⟨blk', 0, none⟩) (n + m) cap', fun d ty pos af g => .inl ?_, k1, k2, rfl, Mem.le_refl _, .inr (by simp [den, upd_eq]), ?_⟩
              · simp [execOp, resolve, invoke, builtin, hev, hrun']
              · show Evo false (idOf (ev s x)) s e w _ _ _
                rw [hx]
                exact evo_add g4 g2 fun _ => g5
            · exact hk.elim
          · exact h.elim
        · exact h.elim
      · exact h.elim
    · exact h.elim
  · exact h.elim

theorem seEV_sound {o : Op} (h : seEV P s o K) (hS : Sat c e s w) (hA : SatA e s a) : ∃ sv s', K sv s' ∧ EffOk P o c s a w sv s' e := by
  cases o with
  | makeSlice t l cc => exact seMk_sound h hS hA
  | call cl =>
    obtain ⟨callee, args, ts⟩ := cl
    simp only [seEV] at h
    split at h
    · rename_i x y t xt h1 h2
      obtain rfl : args = #[x, y] := by rw [← Array.toList_inj]; exact h1
      obtain rfl : ts = #[t, xt] := by rw [← Array.toList_inj]; exact h2
      exact seAp_sound h hS hA
    · exact h.elim
  | _ => exact h.elim
end
end Go.SE
