/- Names; entries that a range over a function makes. -/
import Derived.Test.YthfgpdjplknleaaGreatDoorSe15R
namespace Go.SE
open Go.RowKit

/-- Each entry with a block of its own gets a name. -/
def nameA : List Ent → (List Ent → Prop) → Prop
  | [], F => F []
  | x :: r, F => match x with
    | ⟨.row xs sz el, nm⟩ => nameA r fun l => F (⟨.row xs sz el, nm⟩ :: l)
    | ⟨.dead, nm⟩ => nameA r fun l => F (⟨.dead, nm⟩ :: l)
    | ⟨o, some b⟩ => nameA r fun l => F (⟨o, some b⟩ :: l)
    | ⟨o, none⟩ => ∀ b : Nat, nameA r fun l => F (⟨o, some b⟩ :: l)
def nameA1 (b : Nat) (x : Ent) : Ent :=
  match x with
  | ⟨.row xs sz el, nm⟩ => ⟨.row xs sz el, nm⟩
  | ⟨.dead, nm⟩ => ⟨.dead, nm⟩
  | ⟨o, some b'⟩ => ⟨o, some b'⟩
  | ⟨o, none⟩ => ⟨o, some b⟩
def nameAL (g : Nat → Nat) : Nat → List Ent → List Ent
  | _, [] => []
  | i, x :: r => nameA1 (g i) x :: nameAL g (i + 1) r
theorem nameAL_get {g : Nat → Nat} : ∀ {i : Nat} {l : List Ent} {k : Nat} {x : Ent}, (nameAL g i l)[k]? = some x → ∃ y, l[k]? = some y ∧ x = nameA1 (g (i + k)) y
  | i, [], k, x, h => by simp [nameAL] at h
  | i, y :: r, k, x, h => by
    simp only [nameAL] at h
    cases k with
    | zero => simp only [List.getElem?_cons_zero, Option.some.injEq] at h; exact ⟨y, rfl, h.symm⟩
    | succ k =>
      obtain ⟨z, h1, h2⟩ := nameAL_get (i := i + 1) (k := k) (by simpa using h)
      exact ⟨z, by simpa using h1, by rw [h2, show i + (k + 1) = i + 1 + k from by omega]⟩
theorem nameAL_len {g : Nat → Nat} : ∀ {i : Nat} {l : List Ent}, (nameAL g i l).length = l.length
  | i, [] => rfl
  | i, x :: r => by simp [nameAL, nameAL_len]
theorem nameA_sound (g : Nat → Nat) : ∀ {l : List Ent} {i : Nat} {F : List Ent → Prop}, nameA l F → F (nameAL g i l)
  | [], i, F, h => h
  | x :: r, i, F, h => by
    obtain ⟨o, nm⟩ := x
    cases o <;> cases nm <;> simp only [nameA] at h <;>
      first
        | exact nameA_sound g (i := i + 1) h
        | exact nameA_sound g (i := i + 1) (h (g i))
theorem nameA1_spec (b : Nat) (x : Ent) : (nameA1 b x).obj = x.obj ∧ ((nameA1 b x).name = x.name ∨ ((nameA1 b x).name = some b ∧ alive x.obj = true ∧ ∀ xs sz el, x.obj ≠ .row xs sz el)) := by
  obtain ⟨o, nm⟩ := x
  cases o <;> cases nm <;> simp [nameA1, alive]

section
variable {P : Program} {c : Ctx} {e : Env} {s : St} {w : World} {a : Act}

/-- An entry gets a name. -/
theorem SatX.name (hS : SatX c e s w) {id : Nat} {x : Ent} (hx : s.H[id]? = some x) (hn : e.nil id = false) : SatX c e { s with H := s.H.set id ⟨x.obj, some (e.blk id)⟩ } w := by
  have key : ∀ {j : Nat} {y : Ent}, (s.H.set id ⟨x.obj, some (e.blk id)⟩)[j]? = some y → ∃ y0, s.H[j]? = some y0 ∧ y0.obj = y.obj := by
    intro j y hy
    rcases getElem?_set' hy with ⟨rfl, rfl, _⟩ | ⟨_, hy⟩
    · exact ⟨x, hx, rfl⟩
    · exact ⟨y, hy, rfl⟩
  refine ⟨⟨hS.same, hS.size, hS.I, hS.hf, hS.old, fun j y hy hal => ?_, fun i j y z hy hz h1 h2 => ?_, fun j y b hy hb => ?_⟩, hS.gIn, hS.gI, fun j y hy hal hnl => ?_⟩
  · obtain ⟨y0, h1, h2⟩ := key hy
    have := hS.owned j y0 h1 (h2 ▸ hal)
    rw [h2] at this
    exact this
  · obtain ⟨y0, g1, g2⟩ := key hy
    obtain ⟨z0, g3, g4⟩ := key hz
    exact hS.apart i j y0 z0 g1 g3 (g2 ▸ h1) (g4 ▸ h2)
  · rcases getElem?_set' hy with ⟨rfl, rfl, _⟩ | ⟨_, hy⟩
    · simp only [Option.some.injEq] at hb
      exact ⟨hb, hn⟩
    · exact hS.names j y b hy hb
  · obtain ⟨y0, h1, h2⟩ := key hy
    exact hS.gOwn j y0 h1 (h2 ▸ hal) hnl

theorem SatX.nameAll (hS : SatX c e s w) : SatX c e { s with H := nameAL e.blk 0 s.H } w := by
  have key : ∀ {j : Nat} {y : Ent}, (nameAL e.blk 0 s.H)[j]? = some y → ∃ y0, s.H[j]? = some y0 ∧ y.obj = y0.obj ∧ (y.name = y0.name ∨ (y.name = some (e.blk j) ∧ alive y0.obj = true ∧ ∀ xs sz el, y0.obj ≠ .row xs sz el)) := by
    intro j y hy
    obtain ⟨y0, h1, rfl⟩ := nameAL_get hy
    rw [Nat.zero_add]
    exact ⟨y0, h1, nameA1_spec _ _⟩
  refine ⟨⟨hS.same, hS.size, hS.I, hS.hf, hS.old, fun j y hy hal => ?_, fun i j y z hy hz h1 h2 => ?_, fun j y b hy hb => ?_⟩, hS.gIn, hS.gI, fun j y hy hal hnl => ?_⟩
  · obtain ⟨y0, h1, h2, _⟩ := key hy
    have := hS.owned j y0 h1 (h2 ▸ hal)
    rw [← h2] at this
    exact this
  · obtain ⟨y0, g1, g2, _⟩ := key hy
    obtain ⟨z0, g3, g4, _⟩ := key hz
    exact hS.apart i j y0 z0 g1 g3 (g2 ▸ h1) (g4 ▸ h2)
  · obtain ⟨y0, h1, h2, h3 | ⟨h3, h4, h5⟩⟩ := key hy
    · exact hS.names j y0 b h1 (by rw [← h3]; exact hb)
    · rw [h3] at hb
      simp only [Option.some.injEq] at hb
      exact ⟨hb, holds_nil (hS.owned j y0 h1 h4).1 h5 h4⟩
  · obtain ⟨y0, h1, h2, _⟩ := key hy
    exact hS.gOwn j y0 h1 (h2 ▸ hal) hnl

/-- New memory with a name. -/
theorem SatX.pushN (hS : SatX c e s w) (hA : SatA e s a) (hw : wfSt s = true) {o : Obj} :
    SatX c (e.upd s.H.length w.heap.size 0 false) { s with H := s.H ++ [⟨.raw o, some w.heap.size⟩] } (w.alloc o) ∧ SatA (e.upd s.H.length w.heap.size 0 false) { s with H := s.H ++ [⟨.raw o, some w.heap.size⟩] } a := by
  have hheap : (w.alloc o).heap = w.heap.push o := by rw [← World.alloc_eq]
  obtain ⟨h1, h2⟩ := hS.toSat.push hA hw (w' := w.alloc o) (o := o) (obj := .raw o) (cp := 0) hheap (by rw [← World.alloc_eq]; exact ⟨rfl, rfl, rfl⟩) ⟨upd_eq.2.2, by rw [upd_eq.1, hheap]; simp⟩
  have h3 := hS.step h1 (evo_push (obj := .raw o) (cp := 0) hheap)
  have h4 := h3.name (id := s.H.length) (x := ⟨.raw o, none⟩) (by simp) upd_eq.2.2
  have hset : (s.H ++ [(⟨.raw o, none⟩ : Ent)]).set s.H.length ⟨.raw o, some w.heap.size⟩ = s.H ++ [⟨.raw o, some w.heap.size⟩] := by
    rw [List.set_append_right _ _ (Nat.le_refl _)]
    simp
  refine ⟨?_, ⟨h2.size, h2.tm, h2.defers⟩⟩
  have h5 : SatX c (e.upd s.H.length w.heap.size 0 false) { s with H := (s.H ++ [(⟨.raw o, none⟩ : Ent)]).set s.H.length ⟨.raw o, some ((e.upd s.H.length w.heap.size 0 false).blk s.H.length)⟩ } (w.alloc o) := h4
  rw [upd_eq.1, hset] at h5
  exact h5

/-- Behind a call that was let write all that is owned. -/
theorem SatX.calledX (hS : SatX c e s w) {T : St} {e' : Env} {I2 G2 : Mem} {w3 : World} (hI2 : I2.inW w3) (hG2 : G2.inW w3) (hap : I2.apart G2) (hsz : w.heap.size ≤ w3.heap.size) (hsame : Same w w3)
    (hold : ∀ b, b < w.heap.size → ownM e s w b = none → w3.heap[b]? = w.heap[b]?) (hnew : ∀ b, b < w.heap.size → ownM e s w b = none → G2 b = none ∧ (s.I b = none → I2 b = none)) (hO : OwnX e' T G2) :
    SatX c e' { T with I := I2 } w3 := by
  have hne : ∀ {id : Nat} {x : Ent}, T.H[id]? = some x → alive x.obj = true → e'.nil id = false → G2 (e'.blk id) ≠ none := fun hx hal hn => holds_blk (hO.hold _ _ hx hal) hal hn
  have hgne : ∀ {b : Nat}, T.G b ≠ none → G2 b ≠ none := fun {b} hb => by
    obtain ⟨o, ho⟩ := Option.ne_none_iff_exists'.1 hb
    rw [hO.g b o ho]
    simp
  have hfo : ∀ {b : Nat} {o : Obj}, c.hf b = some o → b < w.heap.size ∧ ownM e s w b = none := fun {b o} hb => by
    refine ⟨Mem.inW_lt hS.hf hb, ?_⟩
    by_cases h : ownM e s w b = none
    · exact h
    · exfalso
      rcases ownM_dom h with ⟨id, x, hx, hal, hn, rfl⟩ | hg
      · rw [((hS.owned id x hx hal).2 hn).2] at hb; cases hb
      · rw [(hS.gI b hg).2] at hb; cases hb
  have hfn : ∀ {b : Nat}, G2 b ≠ none → c.hf b = none := fun {b} hb => by
    cases hf : c.hf b with
    | none => rfl
    | some o =>
      obtain ⟨g1, g2⟩ := hfo hf
      exact absurd (hnew b g1 g2).1 hb
  refine ⟨⟨hS.same.trans hsame, Nat.le_trans hS.size hsz, hI2, fun b o hb => ?_, fun b hb h0 => ?_, fun id x hx hal => ⟨?_, fun hn => ⟨(hap _).resolve_right (hne hx hal hn), hfn (hne hx hal hn)⟩⟩, hO.apart, hO.names⟩,
    fun b o hb => hG2 b o (hO.g b o hb), fun b hb => ⟨(hap b).resolve_right (hgne hb), hfn (hgne hb)⟩, hO.gOwn⟩
  · obtain ⟨g1, g2⟩ := hfo hb
    rw [hold b g1 g2]
    exact hS.hf b o hb
  · obtain ⟨o, ho⟩ := Option.ne_none_iff_exists'.1 hb
    obtain ⟨g1, g2⟩ := hfo ho
    exact (hnew b g1 g2).2 (hS.old b hb h0)
  · refine holds_mem (fun hn => ?_) (hO.hold id x hx hal)
    obtain ⟨o, ho⟩ := Option.ne_none_iff_exists'.1 (hne hx hal hn)
    rw [ho]
    exact hG2 _ o ho

theorem SatX.marked (hS : SatX c e s w) (m : List Nat) (r : Option Nat) : SatX c e { s with marks := m, rnd := r } w :=
  ⟨⟨hS.same, hS.size, hS.I, hS.hf, hS.old, hS.owned, hS.apart, hS.names⟩, hS.gIn, hS.gI, hS.gOwn⟩
theorem SatX.less (hS : SatX c e s w) {tm : List SV} : SatX c e { s with tm := tm } w :=
  ⟨⟨hS.same, hS.size, hS.I, hS.hf, hS.old, hS.owned, hS.apart, hS.names⟩, hS.gIn, hS.gI, hS.gOwn⟩

/-- What is owned but not looked into is set aside, and taken back. -/
theorem SatX.toHf (hS : SatX c e s w) : SatX { c with hf := join s.G c.hf } e { s with G := Mem.emp } w := by
  refine ⟨⟨hS.same, hS.size, hS.I, join_in hS.gIn hS.hf, fun b hb h0 => ?_, fun id x hx hal => ⟨(hS.owned id x hx hal).1, fun hn => ⟨((hS.owned id x hx hal).2 hn).1, ?_⟩⟩, hS.apart, hS.names⟩, fun b o hb => (by cases hb), fun b hb => absurd rfl hb, fun id x hx hal hn => rfl⟩
  · by_cases hg : s.G b = none
    · refine hS.old b (fun hc => hb ?_) h0
      show join s.G c.hf b = none
      rw [join_none hg]; exact hc
    · exact (hS.gI b hg).1
  · show join s.G c.hf _ = none
    rw [join_none (hS.gOwn id x hx hal hn)]
    exact ((hS.owned id x hx hal).2 hn).2
theorem SatX.ofHf {T : St} {G : Mem} (hT : SatX { c with hf := join G c.hf } e T w) (hI : ∀ b, G b ≠ none → T.I b = none ∧ c.hf b = none) : SatX c e { T with G := G } w := by
  have hf : ∀ {b : Nat} {o : Obj}, c.hf b = some o → join G c.hf b = some o := fun {b o} hb => by
    have : G b = none := by
      by_cases hg : G b = none
      · exact hg
      · rw [(hI b hg).2] at hb; cases hb
    rw [join_none this]; exact hb
  have ho : ∀ (id : Nat) (x : Ent), T.H[id]? = some x → alive x.obj = true → e.nil id = false → G (e.blk id) = none ∧ c.hf (e.blk id) = none := fun id x hx hal hn => join_eq_none ((hT.owned id x hx hal).2 hn).2
  refine ⟨⟨hT.same, hT.size, hT.I, fun b o hb => hT.hf b o (hf hb), fun b hb h0 => ?_, fun id x hx hal => ⟨(hT.owned id x hx hal).1, fun hn => ⟨((hT.owned id x hx hal).2 hn).1, (ho id x hx hal hn).2⟩⟩, hT.apart, hT.names⟩, fun b o hb => hT.hf b o (join_some hb), hI, fun id x hx hal hn => (ho id x hx hal hn).1⟩
  obtain ⟨o, hbo⟩ := Option.ne_none_iff_exists'.1 hb
  refine hT.old b ?_ h0
  show join G c.hf b ≠ none
  rw [hf hbo]; simp
theorem OwnX.joinG {e : Env} {T : St} {A B : Mem} (hO : OwnX e T A) (hT : T.G = Mem.emp) (hap : A.apart B) : OwnX e { T with G := B } (join A B) := by
  have hne : ∀ {id : Nat} {x : Ent}, T.H[id]? = some x → alive x.obj = true → e.nil id = false → A (e.blk id) ≠ none := fun hx hal hn => holds_blk (hO.hold _ _ hx hal) hal hn
  refine ⟨fun id x hx hal => holds_mem (fun hn => ?_) (hO.hold id x hx hal), hO.apart, hO.names, fun b hb => ?_, fun b o hb => join_right hap hb, fun id x hx hal hn => (hap _).resolve_left (hne hx hal hn)⟩
  · obtain ⟨o, ho⟩ := Option.ne_none_iff_exists'.1 (hne hx hal hn)
    rw [join_some ho, ho]
  · cases hA : A b with
    | some o =>
      rcases hO.dom b (by rw [hA]; simp) with h | h
      · exact .inl h
      · rw [hT] at h; exact absurd rfl h
    | none =>
      rw [join_none hA] at hb
      exact .inr hb

/-- Own memory is set aside as memory that is not looked into. -/
def addB (G : Mem) (b : Nat) (o : Obj) : Mem := fun x => if x = b then some o else G x
def giveS (id b : Nat) (G' : Mem) (s : St) : St := { handS id (.blk b) s.I s with G := G' }
theorem SatX.give1 (hS : SatX c e s w) (hA : SatA e s a) {id : Nat} {x : Ent} {o : Obj} (hx : s.H[id]? = some x) (hal : alive x.obj = true) (hn : e.nil id = false) (ho : w.heap[e.blk id]? = some o) :
    SatX c e (giveS id (e.blk id) (addB s.G (e.blk id) o) s) w ∧ SatA e (giveS id (e.blk id) (addB s.G (e.blk id) o) s) a := by
  obtain ⟨I', hle, hS', hA', _, _⟩ := hS.toSat.hand1 hA (n := .blk (e.blk id)) hx hal rfl
  have hown := (hS.owned id x hx hal).2 hn
  have key : ∀ {j : Nat} {y : Ent}, ((s.H.map (substE id (.blk (e.blk id)))).set id ⟨.dead, none⟩)[j]? = some y → alive y.obj = true → j ≠ id ∧ ∃ y0, s.H[j]? = some y0 ∧ alive y0.obj = true := by
    intro j y hy hal'
    rcases getElem?_set' hy with ⟨rfl, rfl, _⟩ | ⟨hne, hy⟩
    · cases hal'
    · rw [List.getElem?_map, Option.map_eq_some_iff] at hy
      obtain ⟨y0, hy0, rfl⟩ := hy
      exact ⟨hne, y0, hy0, (handE_alive id _ y0).1 ▸ hal'⟩
  refine ⟨⟨⟨hS.same, hS.size, hS.I, hS.hf, hS.old, fun j y hy hal' => ⟨(hS'.owned j y hy hal').1, fun hnl => ⟨?_, ((hS'.owned j y hy hal').2 hnl).2⟩⟩, hS'.apart, hS'.names⟩, fun b o' hb => ?_, fun b hb => ?_, fun j y hy hal' hnl => ?_⟩, ⟨hA'.size, hA'.tm, hA'.defers⟩⟩
  · have := ((hS'.owned j y hy hal').2 hnl).1
    cases hI : s.I (e.blk j) with
    | none => exact hI
    | some o' => rw [show (handS id (.blk (e.blk id)) I' s).I = I' from rfl, hle _ _ hI] at this; cases this
  · simp only [giveS, addB] at hb
    split at hb
    · rename_i hbb
      cases hb
      rw [hbb]; exact ho
    · exact hS.gIn b o' hb
  · simp only [giveS, addB] at hb
    split at hb
    · rename_i hbb
      rw [hbb]; exact hown
    · exact hS.gI b hb
  · obtain ⟨hne, y0, hy0, hal0⟩ := key hy hal'
    simp only [giveS, addB]
    rw [if_neg (hS.apart j id y0 x hy0 hx hal0 hal hnl hn hne)]
    exact hS.gOwn j y0 hy0 hal0 hnl
/-- Own memory is set aside, what it names first. -/
def give (P : Program) : Nat → List Nat → St → (St → Prop) → Prop
  | 0, _, _, _ => False
  | _ + 1, [], s, K => K s
  | n + 1, id :: r, s, K => match s.H[id]? with
    | some ⟨.cells cs el, nm⟩ => match refL1 cs with
      | some i => give P n (i :: id :: r) s K
      | none => match valL cs with
        | some vs => match nm with
          | some b => s.I b = none → s.G b = none → give P n r (giveS id b (addB s.G b (.cells vs.toArray el (0, 0))) s) K
          | none => ∀ b : Nat, s.I b = none → s.G b = none → give P n r (giveS id b (addB s.G b (.cells vs.toArray el (0, 0))) s) K
        | none => False
    | some ⟨.vec xs el, nm⟩ => match nm with
      | some b => s.I b = none → s.G b = none → give P n r (giveS id b (addB s.G b (.cells xs.toArray el (0, 0))) s) K
      | none => ∀ b : Nat, s.I b = none → s.G b = none → give P n r (giveS id b (addB s.G b (.cells xs.toArray el (0, 0))) s) K
    | some ⟨.dead, _⟩ => give P n r s K
    | _ => False
theorem giveS_len (id b : Nat) (G' : Mem) (s : St) : (giveS id b G' s).tm.length = s.tm.length := by simp [giveS, handS, substL_eq]
theorem give_sound : ∀ {n : Nat} {l : List Nat} {s : St} {K : St → Prop}, give P n l s K → SatX c e s w → SatA e s a →
    ∃ s', K s' ∧ SatX c e s' w ∧ SatA e s' a ∧ s'.I = s.I ∧ s'.tm.length = s.tm.length
  | 0, _, _, _, h, _, _ => h.elim
  | n + 1, [], s, K, h, hS, hA => ⟨s, h, hS, hA, rfl, rfl⟩
  | n + 1, id :: r, s, K, h, hS, hA => by
    simp only [give] at h
    have go : ∀ {s1 : St} {K : St → Prop}, give P n r s1 K → SatX c e s1 w → SatA e s1 a → s1.I = s.I → s1.tm.length = s.tm.length →
        ∃ s', K s' ∧ SatX c e s' w ∧ SatA e s' a ∧ s'.I = s.I ∧ s'.tm.length = s.tm.length := by
      intro s1 K h1 hS1 hA1 hI hlen
      obtain ⟨s', g1, g2, g3, g4, g5⟩ := give_sound h1 hS1 hA1
      exact ⟨s', g1, g2, g3, g4.trans hI, g5.trans hlen⟩
    split at h
    · rename_i cs el nm hH
      split at h
      · exact give_sound h hS hA
      · split at h
        · rename_i vs hvs
          obtain ⟨⟨hnil, cur, hb, h2, h3⟩, hfr⟩ := hS.owned id _ hH rfl
          have hcur : cur = vs.toArray := by
            obtain ⟨v1, v2⟩ := valL_den (e := e) hvs
            rw [denL_eq] at v1
            apply Array.ext_getElem?
            intro k
            by_cases hk : k < cs.length
            · have hkk := List.getElem?_eq_getElem hk
              rw [h3 k _ hkk (v2 _ (List.mem_of_getElem? hkk)), ← v1]
              simp [hkk]
            · have : vs.length = cs.length := by rw [← v1]; simp
              rw [Array.getElem?_eq_none (by omega), Array.getElem?_eq_none (by simp; omega)]
          subst hcur
          have hg := hS.gOwn id _ hH rfl hnil
          obtain ⟨g1, g2⟩ := hS.give1 hA hH rfl hnil hb
          split at h
          · rename_i b
            obtain rfl := (hS.names id _ b hH rfl).1
            exact go (h (hfr hnil).1 hg) g1 g2 rfl (giveS_len ..)
          · exact go (h _ (hfr hnil).1 hg) g1 g2 rfl (giveS_len ..)
        · exact h.elim
    · rename_i xs el nm hH
      obtain ⟨⟨hnil, hb⟩, hfr⟩ := hS.owned id _ hH rfl
      have hg := hS.gOwn id _ hH rfl hnil
      obtain ⟨g1, g2⟩ := hS.give1 hA hH rfl hnil hb
      split at h
      · rename_i b
        obtain rfl := (hS.names id _ b hH rfl).1
        exact go (h (hfr hnil).1 hg) g1 g2 rfl (giveS_len ..)
      · exact go (h _ (hfr hnil).1 hg) g1 g2 rfl (giveS_len ..)
    · exact go h hS hA rfl rfl
    · exact h.elim

/-- An entry is forgotten. -/
theorem SatX.kill (hS : SatX c e s w) (id : Nat) : SatX c e { s with H := s.H.set id ⟨.dead, none⟩ } w := by
  have key : ∀ {j : Nat} {y : Ent}, (s.H.set id ⟨.dead, none⟩)[j]? = some y → alive y.obj = true → s.H[j]? = some y := by
    intro j y hy hal
    rcases getElem?_set' hy with ⟨_, rfl, _⟩ | ⟨_, hy⟩
    · cases hal
    · exact hy
  refine ⟨⟨hS.same, hS.size, hS.I, hS.hf, hS.old, fun j y hy hal => hS.owned j y (key hy hal) hal, fun i j y z hy hz h1 h2 => hS.apart i j y z (key hy h1) (key hz h2) h1 h2, fun j y b hy hb => ?_⟩, hS.gIn, hS.gI, fun j y hy hal hnl => hS.gOwn j y (key hy hal) hal hnl⟩
  rcases getElem?_set' hy with ⟨_, rfl, _⟩ | ⟨_, hy⟩
  · cases hb
  · exact hS.names j y b hy hb

end
end Go.SE
