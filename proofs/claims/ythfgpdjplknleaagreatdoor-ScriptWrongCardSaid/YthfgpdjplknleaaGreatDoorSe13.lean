/- Memory of the call's own is handed over to the read-only memory; calls. -/
import Derived.Test.YthfgpdjplknleaaGreatDoorSe12
namespace Go.SE
open Go.RowKit

/-- What own memory is called once it has been handed over. -/
inductive Nm where
  | blk (b : Nat)
  | row (a : Option Addr) (cp : Nat)
def NmOk (e : Env) (id : Nat) : Nm → Prop
  | .blk b => e.blk id = b
  | .row a cp => a = (if e.nil id then none else some ⟨e.blk id, 0, none⟩) ∧ cp = e.cap id

mutual
def subst (id : Nat) (n : Nm) : SV → SV
  | .ptr i off => match Nat.beq i id, n with
    | true, .blk b => .v (.pointer (some ⟨b, off, none⟩))
    | _, _ => .ptr i off
  | .sptr i off => match Nat.beq i id, n with
    | true, .blk b => .v (.pointer (some ⟨b, off, none⟩))
    | _, _ => .sptr i off
  | .rsl i len => match Nat.beq i id, n with
    | true, .row a cp => .v (.slice a len cp)
    | _, _ => .rsl i len
  | .xsl i off len cap => match Nat.beq i id, n with
    | true, .blk b => .v (.slice (some ⟨b, off, none⟩) len cap)
    | _, _ => .xsl i off len cap
  | .fn f a b => .fn f (substL id n a) (substL id n b)
  | .agg xs => .agg (substL id n xs)
  | .tup xs => .tup (substL id n xs)
  | .v x => .v x
  | .ep a k => .ep a k
  | .junk => .junk
def substL (id : Nat) (n : Nm) : List SV → List SV
  | [] => []
  | x :: xs => subst id n x :: substL id n xs
end

theorem substL_eq (id : Nat) (n : Nm) : ∀ l, substL id n l = l.map (subst id n)
  | [] => rfl
  | x :: xs => by simp [substL, substL_eq id n xs]

mutual
theorem subst_den {e : Env} {id : Nat} {n : Nm} (h : NmOk e id n) : ∀ x, den e (subst id n x) = den e x ∧ isJunk (subst id n x) = isJunk x
  | .ptr i off => by
    cases n with
    | blk b =>
      cases hb : Nat.beq i id with
      | true =>
        obtain rfl := Nat.eq_of_beq_eq_true hb
        simp only [NmOk] at h
        simp [subst, den, isJunk, h]
      | false => simp [subst, hb]
    | row a cp => simp [subst]
  | .sptr i off => by
    cases n with
    | blk b =>
      cases hb : Nat.beq i id with
      | true =>
        obtain rfl := Nat.eq_of_beq_eq_true hb
        simp only [NmOk] at h
        simp [subst, den, isJunk, h]
      | false => simp [subst, hb]
    | row a cp => simp [subst]
  | .rsl i len => by
    cases n with
    | blk b => simp [subst]
    | row a cp =>
      cases hb : Nat.beq i id with
      | true =>
        obtain rfl := Nat.eq_of_beq_eq_true hb
        simp only [NmOk] at h
        simp [subst, den, isJunk, h]
      | false => simp [subst, hb]
  | .xsl i off len cap => by
    cases n with
    | blk b =>
      cases hb : Nat.beq i id with
      | true =>
        obtain rfl := Nat.eq_of_beq_eq_true hb
        simp only [NmOk] at h
        simp [subst, den, isJunk, h]
      | false => simp [subst, hb]
    | row a cp => simp [subst]
  | .fn f a b => by simp [subst, den, isJunk, substL_den h a, substL_den h b]
  | .agg xs => by simp [subst, den, isJunk, substL_den h xs]
  | .tup xs => by simp [subst, den, isJunk, substL_den h xs]
  | .v x => by simp [subst]
  | .ep a k => by simp [subst]
  | .junk => by simp [subst]
theorem substL_den {e : Env} {id : Nat} {n : Nm} (h : NmOk e id n) : ∀ l, denL e (substL id n l) = denL e l
  | [] => rfl
  | x :: xs => by simp [substL, denL, (subst_den h x).1, substL_den h xs]
end

def substE (id : Nat) (n : Nm) (x : Ent) : Ent :=
  match x.obj with
  | .cells cs el => ⟨.cells (substL id n cs) el, x.name⟩
  | _ => x
/-- The state once entry id has been handed over under the name n. -/
def handS (id : Nat) (n : Nm) (I' : Mem) (s : St) : St :=
  { s with tm := substL id n s.tm, H := (s.H.map (substE id n)).set id ⟨.dead, none⟩, I := I' }

mutual
/-- The value that a symbolic value is, if it names no own memory. -/
def valS : SV → Option Value
  | .v x => some x
  | .ep a k => some (.pointer (a.map (·.add k)))
  | .fn f a b => match valL a, valL b with
    | some x, some y => some (.func f x.toArray y.toArray)
    | _, _ => none
  | .agg xs => match valL xs with
    | some x => some (.agg x.toArray)
    | none => none
  | .tup xs => match valL xs with
    | some x => some (.tuple x.toArray)
    | none => none
  | _ => none
def valL : List SV → Option (List Value)
  | [] => some []
  | x :: xs => match valS x, valL xs with
    | some v, some vs => some (v :: vs)
    | _, _ => none
end

mutual
theorem valS_den {e : Env} : ∀ {x : SV} {v : Value}, valS x = some v → den e x = v ∧ isJunk x = false
  | .v x, v, h => by simp only [valS, Option.some.injEq] at h; simp [den, isJunk, h]
  | .ep a k, v, h => by simp only [valS, Option.some.injEq] at h; simp [den, isJunk, h]
  | .fn f a b, v, h => by
    simp only [valS] at h
    split at h
    · rename_i x y hx hy
      simp only [Option.some.injEq] at h
      simp [den, isJunk, (valL_den (e := e) hx).1, (valL_den (e := e) hy).1, h]
    · cases h
  | .agg xs, v, h => by
    simp only [valS] at h
    split at h
    · rename_i x hx
      simp only [Option.some.injEq] at h
      simp [den, isJunk, (valL_den (e := e) hx).1, h]
    · cases h
  | .tup xs, v, h => by
    simp only [valS] at h
    split at h
    · rename_i x hx
      simp only [Option.some.injEq] at h
      simp [den, isJunk, (valL_den (e := e) hx).1, h]
    · cases h
  | .ptr _ _, v, h | .sptr _ _, v, h | .rsl _ _, v, h | .xsl _ _ _ _, v, h | .junk, v, h => by simp [valS] at h
theorem valL_den {e : Env} : ∀ {l : List SV} {vs : List Value}, valL l = some vs → denL e l = vs ∧ ∀ x ∈ l, isJunk x = false
  | [], vs, h => by simp only [valL, Option.some.injEq] at h; subst h; exact ⟨rfl, fun x h => by cases h⟩
  | x :: xs, vs, h => by
    simp only [valL] at h
    split at h
    · rename_i v vs' hv hvs
      simp only [Option.some.injEq] at h
      subst h
      obtain ⟨h1, h2⟩ := valS_den (e := e) hv
      obtain ⟨h3, h4⟩ := valL_den (e := e) hvs
      exact ⟨by simp [denL, h1, h3], fun y hy => by
        cases hy with
        | head => exact h2
        | tail _ hm => exact h4 y hm⟩
    · cases h
end

mutual
/-- The first own memory that is named. -/
def ref1 : SV → Option Nat
  | .ptr i _ | .sptr i _ | .rsl i _ | .xsl i _ _ _ => some i
  | .fn _ a b => match refL1 a with
    | some i => some i
    | none => refL1 b
  | .agg xs | .tup xs => refL1 xs
  | _ => none
def refL1 : List SV → Option Nat
  | [] => none
  | x :: xs => match ref1 x with
    | some i => some i
    | none => refL1 xs
end

/-- A row in the read-only memory. -/
def RowM (I : Mem) (a : Option Addr) (cp sz : Nat) (xs : List Value) : Prop :=
  xs.length ≤ cp * sz ∧ cp ≤ maxLen ∧ (a = none → xs = [] ∧ cp = 0) ∧ ∀ (j : Nat) (v : Value), xs[j]? = some v → atI I a j = some v

/-- Own memory is handed over, what it names first. -/
def hand (P : Program) : Nat → List Nat → St → (St → Prop) → Prop
  | 0, _, _, _ => False
  | _ + 1, [], s, K => K s
  | n + 1, id :: r, s, K => match s.H[id]? with
    | some ⟨.cells cs el, nm⟩ => match refL1 cs with
      | some i => hand P n (i :: id :: r) s K
      | none => match valL cs with
        | some vs => match nm with
          | some b => ∀ I' : Mem, s.I.le I' → I' b = some (.cells vs.toArray el (0, 0)) → hand P n r (handS id (.blk b) I' s) K
          | none => ∀ (b : Nat) (I' : Mem), s.I.le I' → I' b = some (.cells vs.toArray el (0, 0)) → hand P n r (handS id (.blk b) I' s) K
        | none => False
    | some ⟨.vec xs el, nm⟩ => match nm with
      | some b => ∀ I' : Mem, s.I.le I' → I' b = some (.cells xs.toArray el (0, 0)) → hand P n r (handS id (.blk b) I' s) K
      | none => ∀ (b : Nat) (I' : Mem), s.I.le I' → I' b = some (.cells xs.toArray el (0, 0)) → hand P n r (handS id (.blk b) I' s) K
    | some ⟨.row xs sz _, _⟩ => ∀ (a : Option Addr) (cp : Nat) (I' : Mem), s.I.le I' → RowM I' a cp sz xs → hand P n r (handS id (.row a cp) I' s) K
    | _ => hand P n r s K

section
variable {P : Program} {c : Ctx} {e : Env} {s : St} {w : World} {a : Act}

theorem handE_alive (id : Nat) (n : Nm) (x : Ent) : alive (substE id n x).obj = alive x.obj ∧ (substE id n x).name = x.name := by
  unfold substE
  split
  · rename_i h; simp [h, alive]
  · exact ⟨rfl, rfl⟩

theorem holds_subst {id j : Nat} {n : Nm} (hn : NmOk e id n) {h : Nat → Option Obj} {x : Ent} (H : holds e j h x.obj) : holds e j h (substE id n x).obj := by
  unfold substE
  cases hx : x.obj with
  | cells cs el =>
    rw [hx] at H
    obtain ⟨h0, cc, h1, h2, h3⟩ := H
    refine ⟨h0, cc, h1, by simpa [substL_eq] using h2, fun k sv hk hj => ?_⟩
    rw [substL_eq, List.getElem?_map, Option.map_eq_some_iff] at hk
    obtain ⟨sv0, hk0, rfl⟩ := hk
    obtain ⟨d1, d2⟩ := subst_den hn sv0
    rw [d2] at hj
    rw [d1]
    exact h3 k sv0 hk0 hj
  | vec xs el => rw [hx] at H; simp only [hx]; exact H
  | row xs sz el => rw [hx] at H; simp only [hx]; exact H
  | raw o => rw [hx] at H; simp only [hx]; exact H
  | dead => simp only [hx]; trivial

/-- One entry is handed over. -/
theorem Sat.hand1 (hS : Sat c e s w) (hA : SatA e s a) {id : Nat} {x : Ent} {n : Nm} (hx : s.H[id]? = some x) (hal : alive x.obj = true) (hn : NmOk e id n) :
    ∃ I' : Mem, s.I.le I' ∧ Sat c e (handS id n I' s) w ∧ SatA e (handS id n I' s) a ∧ (e.nil id = false → I' (e.blk id) = w.heap[e.blk id]?) ∧ (∀ b, s.I b = none → I' b = none ∨ (e.nil id = false ∧ b = e.blk id)) := by
  have hown := hS.owned id x hx hal
  let I' : Mem := fun b => if e.nil id = false ∧ b = e.blk id then w.heap[e.blk id]? else s.I b
  have hle : s.I.le I' := fun b o hb => by
    simp only [I']
    rw [if_neg (fun h => by rw [h.2, (hown.2 h.1).1] at hb; cases hb)]
    exact hb
  refine ⟨I', hle, ⟨hS.same, hS.size, ?_, hS.hf, ?_, ?_, ?_, ?_⟩, ⟨?_, ?_, hA.defers⟩, fun h => by simp [I', h], fun b hb => by
    by_cases h : e.nil id = false ∧ b = e.blk id
    · exact .inr h
    · exact .inl (by simp only [I', if_neg h]; exact hb)⟩
  · intro b o hb
    by_cases h : e.nil id = false ∧ b = e.blk id
    · simp only [handS, I', if_pos h] at hb
      rw [h.2]; exact hb
    · simp only [handS, I', if_neg h] at hb
      exact hS.I b o hb
  · intro b hb h0
    simp only [handS, I']
    rw [if_neg (fun h => hb (by rw [h.2]; exact (hown.2 h.1).2))]
    exact hS.old b hb h0
  · intro j y hy hal'
    rcases getElem?_set' hy with ⟨rfl, rfl, _⟩ | ⟨hne, hy⟩
    · cases hal'
    · rw [List.getElem?_map, Option.map_eq_some_iff] at hy
      obtain ⟨y0, hy0, rfl⟩ := hy
      have hal0 : alive y0.obj = true := (handE_alive id n y0).1 ▸ hal'
      obtain ⟨h1, h2⟩ := hS.owned j y0 hy0 hal0
      refine ⟨holds_subst hn h1, fun hnl => ⟨?_, (h2 hnl).2⟩⟩
      simp only [handS, I']
      rw [if_neg (fun h => hS.apart j id y0 x hy0 hx hal0 hal hnl h.1 hne h.2)]
      exact (h2 hnl).1
  · intro i j y z hy hz hal1 hal2 hn1 hn2 hij
    rcases getElem?_set' hy with ⟨rfl, rfl, _⟩ | ⟨hne, hy1⟩
    · cases hal1
    rcases getElem?_set' hz with ⟨rfl, rfl, _⟩ | ⟨hne', hz1⟩
    · cases hal2
    rw [List.getElem?_map, Option.map_eq_some_iff] at hy1 hz1
    obtain ⟨y0, hy0, rfl⟩ := hy1
    obtain ⟨z0, hz0, rfl⟩ := hz1
    exact hS.apart i j y0 z0 hy0 hz0 ((handE_alive id n y0).1 ▸ hal1) ((handE_alive id n z0).1 ▸ hal2) hn1 hn2 hij
  · intro j y b hy hb
    rcases getElem?_set' hy with ⟨rfl, rfl, _⟩ | ⟨hne, hy1⟩
    · cases hb
    · rw [List.getElem?_map, Option.map_eq_some_iff] at hy1
      obtain ⟨y0, hy0, rfl⟩ := hy1
      rw [(handE_alive id n y0).2] at hb
      exact hS.names j y0 b hy0 hb
  · simpa [handS, substL_eq] using hA.size
  · intro t sv ht hj
    simp only [handS, substL_eq, List.getElem?_map, Option.map_eq_some_iff] at ht
    obtain ⟨sv0, h1, rfl⟩ := ht
    obtain ⟨d1, d2⟩ := subst_den hn sv0
    rw [d2] at hj
    rw [d1]
    exact hA.tm t sv0 h1 hj

theorem handS_len (id : Nat) (n : Nm) (I' : Mem) (s : St) : (handS id n I' s).tm.length = s.tm.length := by simp [handS, substL_eq]

/-- No entry has come to life, none is new; what has become readable was owned. -/
structure Less (e : Env) (s s' : St) : Prop where
  g : s'.G = s.G
  len : s.H.length = s'.H.length
  live : ∀ (id : Nat) (x' : Ent), s'.H[id]? = some x' → alive x'.obj = true → ∃ x, s.H[id]? = some x ∧ alive x.obj = true
  rd : ∀ b, s.I b = none → s'.I b = none ∨ ∃ (j : Nat) (x : Ent), s.H[j]? = some x ∧ alive x.obj = true ∧ e.nil j = false ∧ b = e.blk j
theorem Less.refl (s : St) : Less e s s := ⟨rfl, rfl, fun _ x h h2 => ⟨x, h, h2⟩, fun _ h => .inl h⟩
theorem Less.trans {s s1 s2 : St} (h : Less e s s1) (k : Less e s1 s2) : Less e s s2 :=
  ⟨k.g.trans h.g, h.len.trans k.len, fun id x' h1 h2 => by
    obtain ⟨x1, h3, h4⟩ := k.live id x' h1 h2
    exact h.live id x1 h3 h4, fun b hb => by
    rcases h.rd b hb with h1 | h1
    · rcases k.rd b h1 with h2 | ⟨j, x, hx, hal, hn, hb⟩
      · exact .inl h2
      · obtain ⟨x0, hx0, hal0⟩ := h.live j x hx hal
        exact .inr ⟨j, x0, hx0, hal0, hn, hb⟩
    · exact .inr h1⟩
theorem Less.handS {id : Nat} {x : Ent} (n : Nm) (I' : Mem) (s : St) (hx : s.H[id]? = some x) (hal : alive x.obj = true) (hI : ∀ b, s.I b = none → I' b = none ∨ (e.nil id = false ∧ b = e.blk id)) :
    Less e s (handS id n I' s) := by
  refine ⟨rfl, by simp [Go.SE.handS], fun j x' h1 h2 => ?_, fun b hb => ?_⟩
  · simp only [Go.SE.handS] at h1
    rcases getElem?_set' h1 with ⟨_, rfl, _⟩ | ⟨_, h1⟩
    · cases h2
    · rw [List.getElem?_map, Option.map_eq_some_iff] at h1
      obtain ⟨y, h3, rfl⟩ := h1
      exact ⟨y, h3, (handE_alive id n y).1 ▸ h2⟩
  · rcases hI b hb with h | ⟨h1, h2⟩
    · exact .inl h
    · exact .inr ⟨id, x, hx, hal, h1, h2⟩
theorem Less.evo {s s' : St} (h : Less e s s') (mods : List Nat) (w : World) : Evo false mods s e w s' e w := Evo.still h.len h.live (fun b _ hb => h.rd b hb) h.g

theorem hand_sound : ∀ {n : Nat} {l : List Nat} {s : St} {K : St → Prop}, hand P n l s K → Sat c e s w → SatA e s a →
    ∃ s', K s' ∧ Sat c e s' w ∧ SatA e s' a ∧ s.I.le s'.I ∧ s'.tm.length = s.tm.length ∧ Less e s s'
  | 0, _, _, _, h, _, _ => h.elim
  | n + 1, [], s, K, h, hS, hA => ⟨s, h, hS, hA, Mem.le_refl _, rfl, Less.refl s⟩
  | n + 1, id :: r, s, K, h, hS, hA => by
    simp only [hand] at h
    have go : ∀ {s1 : St} {K : St → Prop}, hand P n r s1 K → Sat c e s1 w → SatA e s1 a → s.I.le s1.I → s1.tm.length = s.tm.length → Less e s s1 →
        ∃ s', K s' ∧ Sat c e s' w ∧ SatA e s' a ∧ s.I.le s'.I ∧ s'.tm.length = s.tm.length ∧ Less e s s' := by
      intro s1 K h1 hS1 hA1 hle hlen hls
      obtain ⟨s', g1, g2, g3, g4, g5, g6⟩ := hand_sound h1 hS1 hA1
      exact ⟨s', g1, g2, g3, Mem.le_trans hle g4, g5.trans hlen, hls.trans g6⟩
    split at h
    · rename_i cs el nm hH
      split at h
      · exact hand_sound h hS hA
      · split at h
        · rename_i vs hvs
          obtain ⟨⟨hnil, cur, hb, h2, h3⟩, _⟩ := hS.owned id _ hH rfl
          obtain ⟨I', hle, hS', hA', hI', hrd⟩ := hS.hand1 hA (n := .blk (e.blk id)) hH rfl rfl
          have hcur : cur = vs.toArray := by
            obtain ⟨v1, v2⟩ := valL_den (e := e) hvs
            rw [denL_eq] at v1
            apply Array.ext_getElem?
            intro k
            by_cases hk : k < cs.length
            · have hkk := List.getElem?_eq_getElem hk
              rw [h3 k _ hkk (v2 _ (List.mem_of_getElem? hkk)), ← v1]
              simp [hkk]
            · have : vs.length = cs.length := by rw [← v1]; simp
              rw [Array.getElem?_eq_none (by omega), Array.getElem?_eq_none (by simp; omega)]
          subst hcur
          split at h
          · rename_i b
            obtain rfl := (hS.names id _ b hH rfl).1
            exact go (h I' hle ((hI' hnil).trans hb)) hS' hA' hle (handS_len ..) (Less.handS _ _ _ hH rfl hrd)
          · exact go (h _ I' hle ((hI' hnil).trans hb)) hS' hA' hle (handS_len ..) (Less.handS _ _ _ hH rfl hrd)
        · exact h.elim
    · rename_i xs el nm hH
      obtain ⟨⟨hnil, hb⟩, _⟩ := hS.owned id _ hH rfl
      obtain ⟨I', hle, hS', hA', hI', hrd⟩ := hS.hand1 hA (n := .blk (e.blk id)) hH rfl rfl
      split at h
      · rename_i b
        obtain rfl := (hS.names id _ b hH rfl).1
        exact go (h I' hle ((hI' hnil).trans hb)) hS' hA' hle (handS_len ..) (Less.handS _ _ _ hH rfl hrd)
      · exact go (h _ I' hle ((hI' hnil).trans hb)) hS' hA' hle (handS_len ..) (Less.handS _ _ _ hH rfl hrd)
    · rename_i xs sz el nm hH
      obtain ⟨⟨hsz, hn, hrow⟩, _⟩ := hS.owned id _ hH rfl
      obtain ⟨I', hle, hS', hA', hI', hrd⟩ := hS.hand1 hA (n := .row (if e.nil id then none else some ⟨e.blk id, 0, none⟩) (e.cap id)) hH rfl ⟨rfl, rfl⟩
      refine go (h _ _ I' hle ?_) hS' hA' hle (handS_len ..) (Less.handS _ _ _ hH rfl hrd)
      rcases hrow with ⟨h1, h2, rfl⟩ | ⟨hnil, cur, hb, h2, h3, h4, h5⟩
      · exact ⟨by simp, by rw [h2]; exact Nat.zero_le _, fun _ => ⟨rfl, h2⟩, fun j v hj => by simp at hj⟩
      · refine ⟨by rw [← h2]; exact h4, h3, fun h => by simp [hnil] at h, fun j v hj => ?_⟩
        have hc := (holds_row_owned hS hH _ _ hj).2
        simp only [hnil, Bool.false_eq_true, if_false, atI, Option.bind_some, Addr.add_lit, Nat.zero_add, cellM]
        rw [hI' hnil]
        simp only at hb
        simp only [World.cell?, hb] at hc ⊢
        exact hc
    · exact go h hS hA (Mem.le_refl _) rfl (Less.refl s)

end
end Go.SE
