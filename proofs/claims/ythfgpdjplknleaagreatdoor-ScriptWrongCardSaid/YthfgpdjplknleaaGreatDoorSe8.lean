/- How a symbolic state follows memory: new memory, stores, rows that grow. -/
import Derived.Test.YthfgpdjplknleaaGreatDoorSe7
namespace Go.SE
open Go.RowKit

def entBelow (n : Nat) (x : Ent) : Bool :=
  match x.obj with
  | .cells cs _ => belowL n cs
  | _ => true
/-- No number is named that has no entry. -/
def wfSt (s : St) : Bool := belowL s.H.length s.tm && s.H.all (entBelow s.H.length) && s.marks.all (fun m => m.blt s.H.length)

def Env.upd (e : Env) (n b cp : Nat) (nl : Bool) : Env :=
  { blk := fun i => if i = n then b else e.blk i, cap := fun i => if i = n then cp else e.cap i, nil := fun i => if i = n then nl else e.nil i }

theorem upd_ne {e : Env} {n b cp : Nat} {nl : Bool} {i : Nat} (h : i ≠ n) : e.blk i = (e.upd n b cp nl).blk i ∧ e.cap i = (e.upd n b cp nl).cap i ∧ e.nil i = (e.upd n b cp nl).nil i := by
  simp [Env.upd, h]
theorem upd_eq {e : Env} {n b cp : Nat} {nl : Bool} : (e.upd n b cp nl).blk n = b ∧ (e.upd n b cp nl).cap n = cp ∧ (e.upd n b cp nl).nil n = nl := by
  simp [Env.upd]

theorem belowL_get {n : Nat} : ∀ {l : List SV}, belowL n l = true → ∀ {t : Nat} {sv : SV}, l[t]? = some sv → below n sv = true
  | [], _, _, _, h => by simp at h
  | x :: xs, hb, t, sv, h => by
    simp only [belowL, Bool.and_eq_true] at hb
    cases t with
    | zero => simp at h; subst h; exact hb.1
    | succ t => exact belowL_get hb.2 (by simpa using h)

theorem holds_congr {e e' : Env} {n id : Nat} {h h' : Nat → Option Obj} {o : EO} (hagree : ∀ i, i < n → e.blk i = e'.blk i ∧ e.cap i = e'.cap i ∧ e.nil i = e'.nil i) (hid : id < n)
    (hb : entBelow n ⟨o, none⟩ = true) (hh : e.nil id = false → h' (e.blk id) = h (e.blk id)) (H : holds e id h o) : holds e' id h' o := by
  obtain ⟨a1, a2, a3⟩ := hagree id hid
  cases o with
  | cells cs el =>
    obtain ⟨h0, c, h1, h2, h3⟩ := H
    refine ⟨a3 ▸ h0, c, by rw [← a1, hh h0, h1], h2, fun k sv hk hj => ?_⟩
    rw [h3 k sv hk hj, den_congr hagree sv (belowL_get hb hk)]
  | vec xs el => exact ⟨a3 ▸ H.1, by rw [← a1, hh H.1, H.2]⟩
  | row xs sz el =>
    obtain ⟨h0, h1, h2⟩ := H
    refine ⟨h0, h1, ?_⟩
    rw [← a1, ← a2, ← a3]
    rcases h2 with h2 | ⟨h2, c, h3⟩
    · exact .inl h2
    · exact .inr ⟨h2, c, by rw [hh h2]; exact h3⟩
  | raw o => exact ⟨a3 ▸ H.1, by rw [← a1, hh H.1, H.2]⟩
  | dead => trivial

section
variable {P : Program} {c : Ctx} {e : Env} {s : St} {w w' : World} {a : Act}

theorem getElem?_append_one {α : Type} {l : List α} {x y : α} {i : Nat} (h : (l ++ [x])[i]? = some y) : l[i]? = some y ∨ (i = l.length ∧ y = x) := by
  rw [List.getElem?_append] at h
  split at h
  · exact .inl h
  · rename_i hn
    by_cases hi : i - l.length = 0
    · rw [hi] at h
      simp at h
      exact .inr ⟨by omega, h.symm⟩
    · obtain ⟨k, hk⟩ := Nat.exists_eq_succ_of_ne_zero hi
      rw [hk] at h
      simp at h

/-- NEW MEMORY. -/
theorem Sat.add (hS : Sat c e s w) (hA : SatA e s a) (hw : wfSt s = true) {obj : EO} {b cp : Nat} {nl : Bool} (hold : ∀ k, k < w.heap.size → w'.heap[k]? = w.heap[k]?) (hsz : w.heap.size ≤ w'.heap.size) (hsame : Same w w')
    (hb : nl = false → w.heap.size ≤ b) (hh : holds (e.upd s.H.length b cp nl) s.H.length (fun b => w'.heap[b]?) obj) :
    Sat c (e.upd s.H.length b cp nl) { s with H := s.H ++ [⟨obj, none⟩] } w' ∧ SatA (e.upd s.H.length b cp nl) { s with H := s.H ++ [⟨obj, none⟩] } a := by
  simp only [wfSt, Bool.and_eq_true, List.all_eq_true] at hw
  have hagree : ∀ i, i < s.H.length → e.blk i = (e.upd s.H.length b cp nl).blk i ∧ e.cap i = (e.upd s.H.length b cp nl).cap i ∧ e.nil i = (e.upd s.H.length b cp nl).nil i :=
    fun i hi => upd_ne (Nat.ne_of_lt hi)
  have keep : ∀ I : Mem, I.inW w → I.inW w' := fun I hI b o hb => by rw [hold b (Mem.inW_lt hI hb)]; exact hI b o hb
  have lt : ∀ {id x}, s.H[id]? = some x → id < s.H.length := fun h => (List.getElem?_eq_some_iff.1 h).1
  have blt : ∀ {id x}, s.H[id]? = some x → alive x.obj = true → e.nil id = false → e.blk id < w.heap.size := by
    intro id x hx hal hnl
    have := (hS.owned id x hx hal).1
    cases hx' : x.obj with
    | cells cs el => rw [hx'] at this; obtain ⟨_, cc, h1, _⟩ := this; exact (Array.getElem?_eq_some_iff.1 h1).1
    | vec xs el => rw [hx'] at this; exact (Array.getElem?_eq_some_iff.1 this.2).1
    | row xs sz el =>
      rw [hx'] at this
      rcases this.2.2 with h | ⟨_, cc, h1, _⟩
      · rw [h.1] at hnl; cases hnl
      · exact (Array.getElem?_eq_some_iff.1 h1).1
    | raw o => rw [hx'] at this; exact (Array.getElem?_eq_some_iff.1 this.2).1
    | dead => rw [hx'] at hal; cases hal
  have hnone : ∀ I : Mem, I.inW w → nl = false → I b = none := by
    intro I hI hn
    cases hx : I b with
    | none => rfl
    | some o => exact absurd (Mem.inW_lt hI hx) (Nat.not_lt.2 (hb hn))
  refine ⟨⟨hS.same.trans hsame, Nat.le_trans hS.size hsz, keep _ hS.I, keep _ hS.hf, hS.old, ?_, ?_, ?_⟩, ?_⟩
  · intro id x hx hal
    rcases getElem?_append_one hx with hx | ⟨rfl, rfl⟩
    · have hid := lt hx
      obtain ⟨h1, h2⟩ := hS.owned id x hx hal
      obtain ⟨a1, a2, a3⟩ := hagree id hid
      refine ⟨holds_congr hagree hid (hw.1.2 x (List.mem_of_getElem? hx)) (fun hn => hold _ (blt hx hal hn)) h1, fun hn => ?_⟩
      rw [← a1]
      exact h2 (a3.trans hn)
    · refine ⟨hh, fun hn => ?_⟩
      rw [upd_eq.2.2] at hn
      rw [upd_eq.1]
      exact ⟨hnone _ hS.I hn, hnone _ hS.hf hn⟩
  · intro i j x y hx hy hal1 hal2 hn1 hn2 hij
    rcases getElem?_append_one hx with hx | ⟨rfl, rfl⟩ <;> rcases getElem?_append_one hy with hy | ⟨rfl, rfl⟩
    · obtain ⟨a1, a2, a3⟩ := hagree i (lt hx)
      obtain ⟨b1, b2, b3⟩ := hagree j (lt hy)
      rw [← a1, ← b1]
      exact hS.apart i j x y hx hy hal1 hal2 (a3.trans hn1) (b3.trans hn2) hij
    · obtain ⟨a1, a2, a3⟩ := hagree i (lt hx)
      rw [upd_eq.2.2] at hn2
      rw [← a1, upd_eq.1]
      exact Nat.ne_of_lt (Nat.lt_of_lt_of_le (blt hx hal1 (a3.trans hn1)) (hb hn2))
    · obtain ⟨b1, b2, b3⟩ := hagree j (lt hy)
      rw [upd_eq.2.2] at hn1
      rw [← b1, upd_eq.1]
      exact Nat.ne_of_gt (Nat.lt_of_lt_of_le (blt hy hal2 (b3.trans hn2)) (hb hn1))
    · exact absurd rfl hij
  · intro id x b hx hb
    rcases getElem?_append_one hx with hx | ⟨rfl, rfl⟩
    · obtain ⟨a1, a2, a3⟩ := hagree id (lt hx)
      rw [← a1, ← a3]
      exact hS.names id x b hx hb
    · cases hb
  · refine ⟨hA.size, fun t sv ht hj => ?_, ?_⟩
    · rw [hA.tm t sv ht hj, den_congr hagree sv (belowL_get hw.1.1 ht)]
    · rw [hA.defers]
      refine List.map_congr_left fun m hm => ?_
      have := hw.2 m hm
      simp only [mark, (hagree m (by simpa using this)).1]

theorem Sat.push (hS : Sat c e s w) (hA : SatA e s a) (hw : wfSt s = true) {o : Obj} {obj : EO} {cp : Nat} (hheap : w'.heap = w.heap.push o) (hsame : Same w w')
    (hh : holds (e.upd s.H.length w.heap.size cp false) s.H.length (fun b => w'.heap[b]?) obj) :
    Sat c (e.upd s.H.length w.heap.size cp false) { s with H := s.H ++ [⟨obj, none⟩] } w' ∧ SatA (e.upd s.H.length w.heap.size cp false) { s with H := s.H ++ [⟨obj, none⟩] } a :=
  hS.add hA hw (fun b hb => by rw [hheap, Array.getElem?_push, if_neg (Nat.ne_of_lt hb)]) (by rw [hheap]; simp) hsame (fun _ => Nat.le_refl _) hh

theorem blk_lt (hS : Sat c e s w) {id : Nat} {x : Ent} (hx : s.H[id]? = some x) (hal : alive x.obj = true) (hnl : e.nil id = false) : e.blk id < w.heap.size := by
  have := (hS.owned id x hx hal).1
  cases hx' : x.obj with
  | cells cs el => rw [hx'] at this; obtain ⟨_, cc, h1, _⟩ := this; exact (Array.getElem?_eq_some_iff.1 h1).1
  | vec xs el => rw [hx'] at this; exact (Array.getElem?_eq_some_iff.1 this.2).1
  | row xs sz el =>
    rw [hx'] at this
    rcases this.2.2 with h | ⟨_, cc, h1, _⟩
    · rw [h.1] at hnl; cases hnl
    · exact (Array.getElem?_eq_some_iff.1 h1).1
  | raw o => rw [hx'] at this; exact (Array.getElem?_eq_some_iff.1 this.2).1
  | dead => rw [hx'] at hal; cases hal

theorem getElem?_set' {α : Type} {l : List α} {x y : α} {i j : Nat} (h : (l.set i x)[j]? = some y) : (j = i ∧ y = x ∧ i < l.length) ∨ (j ≠ i ∧ l[j]? = some y) := by
  rw [List.getElem?_set] at h
  split at h
  · rename_i hij
    split at h
    · rename_i hl
      exact .inl ⟨hij.symm, (Option.some.inj h).symm, hl⟩
    · cases h
  · rename_i hij
    exact .inr ⟨fun h' => hij h'.symm, h⟩

/-- A STORE into memory of the call's own. -/
theorem Sat.store (hS : Sat c e s w) (hA : SatA e s a) {id : Nat} {x : Ent} {obj : EO} (hx : s.H[id]? = some x) (hal : alive x.obj = true) (hnil : e.nil id = false)
    (hsz : w.heap.size = w'.heap.size) (hsame : Same w w') (hold : ∀ b, b ≠ e.blk id → w'.heap[b]? = w.heap[b]?) (hh : holds e id (fun b => w'.heap[b]?) obj) :
    Sat c e { s with H := s.H.set id ⟨obj, x.name⟩ } w' ∧ SatA e { s with H := s.H.set id ⟨obj, x.name⟩ } a := by
  have hfree := (hS.owned id x hx hal).2 hnil
  have keep : ∀ I : Mem, I (e.blk id) = none → I.inW w → I.inW w' := fun I hI0 hI b o hb => by
    rw [hold b (fun h => by rw [h, hI0] at hb; cases hb)]
    exact hI b o hb
  refine ⟨⟨hS.same.trans hsame, hsz ▸ hS.size, keep _ hfree.1 hS.I, keep _ hfree.2 hS.hf, hS.old, ?_, ?_, ?_⟩, ⟨hA.size, hA.tm, hA.defers⟩⟩
  · intro j y hy hal'
    rcases getElem?_set' hy with ⟨rfl, rfl, _⟩ | ⟨hne, hy⟩
    · exact ⟨hh, fun _ => hfree⟩
    · obtain ⟨h1, h2⟩ := hS.owned j y hy hal'
      refine ⟨?_, h2⟩
      have hb : e.nil j = false → w'.heap[e.blk j]? = w.heap[e.blk j]? := fun hn => hold _ (hS.apart j id y x hy hx hal' hal hn hnil hne)
      cases hyo : y.obj with
      | cells cs el => rw [hyo] at h1; obtain ⟨h0, cc, h3⟩ := h1; exact ⟨h0, cc, by simp only [hb h0]; exact h3⟩
      | vec xs el => rw [hyo] at h1; exact ⟨h1.1, by simp only [hb h1.1]; exact h1.2⟩
      | row xs sz el =>
        rw [hyo] at h1
        refine ⟨h1.1, h1.2.1, ?_⟩
        rcases h1.2.2 with h | ⟨h0, cc, h3⟩
        · exact .inl h
        · exact .inr ⟨h0, cc, by simp only [hb h0]; exact h3⟩
      | raw o => rw [hyo] at h1; exact ⟨h1.1, by simp only [hb h1.1]; exact h1.2⟩
      | dead => trivial
  · intro i j y z hy hz hal1 hal2 hn1 hn2 hij
    rcases getElem?_set' hy with ⟨rfl, rfl, _⟩ | ⟨hne, hy1⟩ <;> rcases getElem?_set' hz with ⟨rfl, rfl, _⟩ | ⟨hne', hz1⟩
    · exact absurd rfl hij
    · exact hS.apart _ j x z hx hz1 hal hal2 hn1 hn2 hij
    · exact hS.apart i _ y x hy1 hx hal1 hal hn1 hn2 hij
    · exact hS.apart i j y z hy1 hz1 hal1 hal2 hn1 hn2 hij
  · intro j y b hy hb
    rcases getElem?_set' hy with ⟨rfl, rfl, _⟩ | ⟨_, hy⟩
    · exact hS.names _ x b hx hb
    · exact hS.names j y b hy hb

/-- What names id is forgotten. -/
def junkId (id : Nat) (x : SV) : SV := if refs id x then .junk else x
def junkE (id : Nat) (x : Ent) : Ent :=
  match x.obj with
  | .cells cs el => ⟨.cells (cs.map (junkId id)) el, x.name⟩
  | _ => x
def junkS (id : Nat) (s : St) : St := { s with tm := s.tm.map (junkId id), H := s.H.map (junkE id) }

theorem junkId_den {e e' : Env} {id : Nat} (h : ∀ i, i ≠ id → e.blk i = e'.blk i ∧ e.cap i = e'.cap i ∧ e.nil i = e'.nil i) {x : SV} (hj : isJunk (junkId id x) = false) :
    junkId id x = x ∧ isJunk x = false ∧ den e x = den e' (junkId id x) := by
  unfold junkId at hj ⊢
  split
  · rename_i hr
    rw [if_pos hr] at hj
    cases hj
  · rename_i hr
    rw [if_neg hr] at hj
    exact ⟨rfl, hj, den_norefs h x (by simpa using hr)⟩
theorem junkE_alive (id : Nat) (x : Ent) : alive (junkE id x).obj = alive x.obj ∧ (junkE id x).name = x.name := by
  unfold junkE
  split
  · rename_i h; simp [h, alive]
  · exact ⟨rfl, rfl⟩

theorem holds_junk {e e' : Env} {id j : Nat} {h h' : Nat → Option Obj} {x : Ent} (hag : ∀ i, i ≠ id → e.blk i = e'.blk i ∧ e.cap i = e'.cap i ∧ e.nil i = e'.nil i) (hj : j ≠ id)
    (hh : e.nil j = false → h' (e.blk j) = h (e.blk j)) (H : holds e j h x.obj) : holds e' j h' (junkE id x).obj := by
  obtain ⟨a1, a2, a3⟩ := hag j hj
  unfold junkE
  cases hx : x.obj with
  | cells cs el =>
    rw [hx] at H
    obtain ⟨h0, cc, h1, h2, h3⟩ := H
    refine ⟨a3 ▸ h0, cc, by rw [← a1, hh h0, h1], by simpa using h2, fun k sv hk hjk => ?_⟩
    rw [List.getElem?_map, Option.map_eq_some_iff] at hk
    obtain ⟨sv0, hk0, rfl⟩ := hk
    obtain ⟨e1, e2, e3⟩ := junkId_den hag hjk
    rw [h3 k sv0 hk0 e2, e3]
  | vec xs el => rw [hx] at H; simp only [hx]; exact ⟨a3 ▸ H.1, by rw [← a1, hh H.1, H.2]⟩
  | row xs sz el =>
    rw [hx] at H
    simp only [hx]
    refine ⟨H.1, H.2.1, ?_⟩
    rw [← a1, ← a2, ← a3]
    rcases H.2.2 with h | ⟨h0, cc, h3⟩
    · exact .inl h
    · exact .inr ⟨h0, cc, by rw [hh h0]; exact h3⟩
  | raw o => rw [hx] at H; simp only [hx]; exact ⟨a3 ▸ H.1, by rw [← a1, hh H.1, H.2]⟩
  | dead => simp only [hx]; trivial

/-- A ROW THAT GROWS, where it lies or anew. -/
theorem Sat.grow (hS : Sat c e s w) (hA : SatA e s a) {id : Nat} {x : Ent} {obj : EO} (hx : s.H[id]? = some x) (hal : alive x.obj = true) {e' : Env}
    (hag : ∀ i, i ≠ id → e.blk i = e'.blk i ∧ e.cap i = e'.cap i ∧ e.nil i = e'.nil i) (hmk : s.marks.all (fun m => !(Nat.beq m id)) = true)
    (hsz : w.heap.size ≤ w'.heap.size) (hsame : Same w w') (hold : ∀ b, b < w.heap.size → (e.nil id = false → b ≠ e.blk id) → w'.heap[b]? = w.heap[b]?)
    (hnew : e'.nil id = false → (e.nil id = false ∧ e'.blk id = e.blk id) ∨ w.heap.size ≤ e'.blk id)
    (hh : holds e' id (fun b => w'.heap[b]?) obj) :
    Sat c e' { junkS id s with H := (s.H.map (junkE id)).set id ⟨obj, none⟩ } w' ∧ SatA e' { junkS id s with H := (s.H.map (junkE id)).set id ⟨obj, none⟩ } a := by
  have hown := hS.owned id x hx hal
  have keep : ∀ I : Mem, (e.nil id = false → I (e.blk id) = none) → I.inW w → I.inW w' := fun I hI0 hI b o hb => by
    rw [hold b (Mem.inW_lt hI hb) (fun hn h => by rw [h, hI0 hn] at hb; cases hb)]
    exact hI b o hb
  have hfreeI : ∀ I : Mem, I.inW w → (e.nil id = false → I (e.blk id) = none) → e'.nil id = false → I (e'.blk id) = none := by
    intro I hI h0 hn
    rcases hnew hn with ⟨h1, h2⟩ | h1
    · rw [h2]; exact h0 h1
    · cases hb : I (e'.blk id) with
      | none => rfl
      | some o => exact absurd (Mem.inW_lt hI hb) (by omega)
  have old : ∀ {j : Nat} {y : Ent}, (s.H.map (junkE id))[j]? = some y → ∃ y0, s.H[j]? = some y0 ∧ y = junkE id y0 := by
    intro j y hy
    rw [List.getElem?_map, Option.map_eq_some_iff] at hy
    obtain ⟨y0, h1, h2⟩ := hy
    exact ⟨y0, h1, h2.symm⟩
  refine ⟨⟨hS.same.trans hsame, Nat.le_trans hS.size hsz, keep _ (fun hn => (hown.2 hn).1) hS.I, keep _ (fun hn => (hown.2 hn).2) hS.hf, hS.old, ?_, ?_, ?_⟩, ?_⟩
  · intro j y hy hal'
    rcases getElem?_set' hy with ⟨rfl, rfl, _⟩ | ⟨hne, hy⟩
    · exact ⟨hh, fun hn => ⟨hfreeI _ hS.I (fun h => (hown.2 h).1) hn, hfreeI _ hS.hf (fun h => (hown.2 h).2) hn⟩⟩
    · obtain ⟨y0, hy0, rfl⟩ := old hy
      have hal0 : alive y0.obj = true := (junkE_alive id y0).1 ▸ hal'
      obtain ⟨h1, h2⟩ := hS.owned j y0 hy0 hal0
      obtain ⟨a1, a2, a3⟩ := hag j hne
      refine ⟨holds_junk hag hne (fun hn => hold _ (blk_lt hS hy0 hal0 hn) (fun hn2 => hS.apart j id y0 x hy0 hx hal0 hal hn hn2 hne)) h1, fun hn => ?_⟩
      rw [← a1]
      exact h2 (a3.trans hn)
  · intro i j y z hy hz hal1 hal2 hn1 hn2 hij
    have key : ∀ {j : Nat} {z0 : Ent}, s.H[j]? = some z0 → alive z0.obj = true → e'.nil j = false → j ≠ id → e'.nil id = false → e'.blk id ≠ e'.blk j := by
      intro j z0 hz0 hal0 hn hne hni
      obtain ⟨a1, a2, a3⟩ := hag j hne
      rw [← a1]
      rcases hnew hni with ⟨h1, h2⟩ | h1
      · rw [h2]; exact hS.apart id j x z0 hx hz0 hal hal0 h1 (a3.trans hn) (Ne.symm hne)
      · exact Nat.ne_of_gt (Nat.lt_of_lt_of_le (blk_lt hS hz0 hal0 (a3.trans hn)) h1)
    rcases getElem?_set' hy with ⟨rfl, rfl, _⟩ | ⟨hne, hy1⟩ <;> rcases getElem?_set' hz with ⟨rfl, rfl, _⟩ | ⟨hne', hz1⟩
    · exact absurd rfl hij
    · obtain ⟨z0, hz0, rfl⟩ := old hz1
      exact key hz0 ((junkE_alive _ z0).1 ▸ hal2) hn2 hne' hn1
    · obtain ⟨y0, hy0, rfl⟩ := old hy1
      exact (key hy0 ((junkE_alive _ y0).1 ▸ hal1) hn1 hne hn2).symm
    · obtain ⟨y0, hy0, rfl⟩ := old hy1
      obtain ⟨z0, hz0, rfl⟩ := old hz1
      obtain ⟨a1, a2, a3⟩ := hag i hne
      obtain ⟨b1, b2, b3⟩ := hag j hne'
      rw [← a1, ← b1]
      exact hS.apart i j y0 z0 hy0 hz0 ((junkE_alive _ y0).1 ▸ hal1) ((junkE_alive _ z0).1 ▸ hal2) (a3.trans hn1) (b3.trans hn2) hij
  · intro j y b hy hb
    rcases getElem?_set' hy with ⟨rfl, rfl, _⟩ | ⟨hne, hy⟩
    · cases hb
    · obtain ⟨y0, hy0, rfl⟩ := old hy
      rw [(junkE_alive id y0).2] at hb
      obtain ⟨a1, a2, a3⟩ := hag j hne
      rw [← a1, ← a3]
      exact hS.names j y0 b hy0 hb
  · refine ⟨by simpa [junkS] using hA.size, fun t sv ht hj => ?_, ?_⟩
    · simp only [junkS, List.getElem?_map, Option.map_eq_some_iff] at ht
      obtain ⟨sv0, h1, rfl⟩ := ht
      obtain ⟨e1, e2, e3⟩ := junkId_den hag hj
      rw [hA.tm t sv0 h1 e2, e3]
    · rw [hA.defers]
      refine List.map_congr_left fun m hm => ?_
      have hne : m ≠ id := by
        have := List.all_eq_true.1 hmk m hm
        intro h
        subst h
        simp at this
      simp only [mark, (hag m hne).1]

end
end Go.SE
