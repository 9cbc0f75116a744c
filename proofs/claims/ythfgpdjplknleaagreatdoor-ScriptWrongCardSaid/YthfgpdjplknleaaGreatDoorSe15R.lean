/- Ranges over functions: what an iterator promises; own memory seen as one whole. -/
import Derived.Test.YthfgpdjplknleaaGreatDoorSe15E
import Derived.RangeFuncRecord
namespace Go.SE
open Go.RowKit

/-- WHAT AN ITERATOR PROMISES: it gives its n elements one after the other, until it is told to stop. -/
def Gives (P : Program) (fv : Value) (I : Mem) (n : Nat) (enc : Nat → Array Value → Mem → Prop) : Prop :=
  (∀ (Y : Value) (W : World), ∃ f args, (semV fv #[Y]).run P W = .ok (.enter f args) W) ∧
  ∀ (Y : Value) (J : Nat → Mem → Mem → Prop) (D : Mem → Mem → Prop) (I0 G0 : Mem), I.le I0 → J 0 I0 G0 →
    (∀ k I1 I2 G, J k I1 G → I1.le I2 → J k I2 G) → (∀ I1 I2 G, D I1 G → I1.le I2 → D I2 G) →
    (∀ k I' G args, k < n → I0.le I' → J k I' G → enc k args I' → CtH P Y args I' G fun v I2 G2 => (v = .bool true ∧ J (k + 1) I2 G2) ∨ (v = .bool false ∧ D I2 G2)) →
    CtH P fv #[Y] I0 G0 fun _ I2 G2 => J n I2 G2 ∨ D I2 G2

/-- Two parts of memory together. -/
def join (A B : Mem) : Mem := fun b => match A b with
  | some o => some o
  | none => B b
theorem join_none {A B : Mem} {b : Nat} (h : A b = none) : join A B b = B b := by simp [join, h]
theorem join_some {A B : Mem} {b : Nat} {o : Obj} (h : A b = some o) : join A B b = some o := by simp [join, h]
theorem join_right {A B : Mem} (hap : A.apart B) {b : Nat} {o : Obj} (h : B b = some o) : join A B b = some o := by
  rcases hap b with h1 | h1
  · rw [join_none h1]; exact h
  · rw [h] at h1; cases h1
theorem join_eq_none {A B : Mem} {b : Nat} (h : join A B b = none) : A b = none ∧ B b = none := by
  cases hA : A b with
  | some o => rw [join_some hA] at h; cases h
  | none => exact ⟨rfl, by rw [join_none hA] at h; exact h⟩
theorem join_in {A B : Mem} {w : World} (hA : A.inW w) (hB : B.inW w) : (join A B).inW w := fun b o hb => by
  cases h : A b with
  | some o' => rw [join_some h] at hb; exact hA b o (h.trans hb)
  | none => rw [join_none h] at hb; exact hB b o hb
theorem join_apart {I A B : Mem} (hA : I.apart A) (hB : I.apart B) : I.apart (join A B) := fun b => by
  rcases hA b with h | h
  · exact .inl h
  · rcases hB b with g | g
    · exact .inl g
    · exact .inr (by rw [join_none h]; exact g)
/-- A call leaves memory that it does not own as it is. -/
theorem CtH.frame {P : Program} {fv : Value} {args : Array Value} {I A B : Mem} {post : Value → Mem → Mem → Prop} (h : CtH P fv args I A post) (hap : A.apart B) :
    CtH P fv args I (join A B) fun v I' G' => ∃ A', G' = join A' B ∧ A'.apart B ∧ post v I' A' := by
  intro W hI hG hIG
  have hAW : A.inW W := fun b o hb => hG b o (join_some hb)
  have hBW : B.inW W := fun b o hb => hG b o (join_right hap hb)
  have hIA : I.apart A := fun b => by
    rcases hIG b with g | g
    · exact .inl g
    · exact .inr (join_eq_none g).1
  refine (h W hI hAW hIA).mono fun en W' hE => ?_
  obtain ⟨v, I', A', rfl, hle, hI', hA', hap', hsz, hsame, hold, hnew, hp⟩ := hE
  have hBn : ∀ {b : Nat} {o : Obj}, B b = some o → b < W.heap.size ∧ A b = none ∧ I b = none := fun {b o} hb => by
    refine ⟨Mem.inW_lt hBW hb, ?_, ?_⟩
    · exact (hap b).resolve_right (by rw [hb]; simp)
    · exact (hIG b).resolve_right (by rw [join_right hap hb]; simp)
  have hab : A'.apart B := fun b => by
    cases hb : B b with
    | none => exact .inr rfl
    | some o =>
      obtain ⟨g1, g2, _⟩ := hBn hb
      exact .inl (hnew b g1 g2).1
  refine ⟨v, I', join A' B, rfl, hle, hI', join_in hA' (fun b o hb => ?_), join_apart hap' (fun b => ?_), hsz, hsame, fun b hb hn => hold b hb (join_eq_none hn).1, fun b hb hn => ?_, A', rfl, hab, hp⟩
  · obtain ⟨g1, g2, _⟩ := hBn hb
    rw [hold b g1 g2]
    exact hBW b o hb
  · cases hb : B b with
    | none => exact .inr rfl
    | some o =>
      obtain ⟨g1, g2, g3⟩ := hBn hb
      exact .inl ((hnew b g1 g2).2 g3)
  · obtain ⟨g1, g2⟩ := join_eq_none hn
    obtain ⟨h1, h2⟩ := hnew b hb g1
    exact ⟨by rw [join_none h1]; exact g2, h2⟩
/-- WHAT AN ITERATOR WITH MEMORY OF ITS OWN PROMISES (R0: what that memory is like at first; R1: behind the last element). -/
def GivesR (P : Program) (fv : Value) (I : Mem) (n : Nat) (enc : Nat → Array Value → Mem → Prop) (R0 : Mem → Prop) (R1 : Mem → Mem → Prop) : Prop :=
  (∀ (Y : Value) (W : World), ∃ f args, (semV fv #[Y]).run P W = .ok (.enter f args) W) ∧
  ∀ (Y : Value) (J : Nat → Mem → Mem → Prop) (D : Mem → Mem → Prop) (I0 Gc Gr : Mem), I.le I0 → J 0 I0 Gc → R0 Gr → Gc.apart Gr →
    (∀ k I1 I2 G, J k I1 G → I1.le I2 → J k I2 G) → (∀ I1 I2 G, D I1 G → I1.le I2 → D I2 G) →
    (∀ k I' G args, k < n → I0.le I' → J k I' G → enc k args I' → CtH P Y args I' G fun v I2 G2 => (v = .bool true ∧ J (k + 1) I2 G2) ∨ (v = .bool false ∧ D I2 G2)) →
    CtH P fv #[Y] I0 (join Gc Gr) fun _ I2 G2 => ∃ Gc' Gr', G2 = join Gc' Gr' ∧ Gc'.apart Gr' ∧ ((J n I2 Gc' ∧ R1 I2 Gr') ∨ D I2 Gc')

/-- Memory is what a state owns, and nothing else. -/
structure OwnX (e : Env) (T : St) (Gx : Mem) : Prop where
  hold : ∀ (id : Nat) (x : Ent), T.H[id]? = some x → alive x.obj = true → holds e id Gx x.obj
  apart : ∀ (i j : Nat) (x y : Ent), T.H[i]? = some x → T.H[j]? = some y → alive x.obj = true → alive y.obj = true → e.nil i = false → e.nil j = false → i ≠ j → e.blk i ≠ e.blk j
  names : ∀ (id : Nat) (x : Ent) (b : Nat), T.H[id]? = some x → x.name = some b → e.blk id = b ∧ e.nil id = false
  dom : ∀ b, Gx b ≠ none → (∃ (id : Nat) (x : Ent), T.H[id]? = some x ∧ alive x.obj = true ∧ e.nil id = false ∧ b = e.blk id) ∨ T.G b ≠ none
  g : T.G.le Gx
  gOwn : ∀ (id : Nat) (x : Ent), T.H[id]? = some x → alive x.obj = true → e.nil id = false → T.G (e.blk id) = none

section
variable {P : Program} {c : Ctx} {e : Env} {s T : St} {w W : World} {a : Act} {r : Option Nat}

open Classical in
noncomputable def ownM (e : Env) (T : St) (w : World) : Mem := fun b =>
  if (∃ (id : Nat) (x : Ent), T.H[id]? = some x ∧ alive x.obj = true ∧ e.nil id = false ∧ b = e.blk id) ∨ T.G b ≠ none then w.heap[b]? else none

theorem ownM_in : (ownM e T w).inW w := fun b o hb => by
  unfold ownM at hb
  split at hb
  · exact hb
  · cases hb
theorem ownM_dom {b : Nat} (h : ownM e T w b ≠ none) : (∃ (id : Nat) (x : Ent), T.H[id]? = some x ∧ alive x.obj = true ∧ e.nil id = false ∧ b = e.blk id) ∨ T.G b ≠ none := by
  unfold ownM at h
  split at h
  · rename_i hc; exact hc
  · exact absurd rfl h
theorem ownM_own {id : Nat} {x : Ent} (hx : T.H[id]? = some x) (hal : alive x.obj = true) (hn : e.nil id = false) : ownM e T w (e.blk id) = w.heap[e.blk id]? := by
  unfold ownM
  rw [if_pos (.inl ⟨id, x, hx, hal, hn, rfl⟩)]
theorem SatX.ownX (hS : SatX c e T w) : OwnX e T (ownM e T w) := by
  refine ⟨fun id x hx hal => holds_mem (fun hn => ownM_own hx hal hn) (hS.owned id x hx hal).1, hS.apart, hS.names, fun b hb => ownM_dom hb, fun b o hb => ?_, hS.gOwn⟩
  unfold ownM
  rw [if_pos (.inr (by rw [hb]; simp))]
  exact hS.gIn b o hb
theorem SatX.ownM_apart (hS : SatX c e T w) : T.I.apart (ownM e T w) := fun b => by
  by_cases hb : ownM e T w b = none
  · exact .inr hb
  · rcases ownM_dom hb with ⟨id, x, hx, hal, hn, rfl⟩ | hg
    · exact .inl ((hS.owned id x hx hal).2 hn).1
    · exact .inl (hS.gI b hg).1

/-- The context in which nothing but Gx may be written. -/
noncomputable def ctxOf (W : World) (I Gx : Mem) : Ctx := { W0 := W, I0 := I, hf := fun b => if (Gx b).isNone then W.heap[b]? else none }
theorem ctxOf_none {I Gx : Mem} {b : Nat} (h : Gx b ≠ none) : (ctxOf W I Gx).hf b = none := by
  simp only [ctxOf]
  rw [if_neg]
  intro hn
  exact h (by simpa using hn)
theorem ctxOf_some {I Gx : Mem} {b : Nat} (h : Gx b = none) : (ctxOf W I Gx).hf b = W.heap[b]? := by simp [ctxOf, h]

theorem OwnX.satX {Gx I : Mem} (hO : OwnX e T Gx) (hG : Gx.inW W) (hI : I.inW W) (hap : I.apart Gx) : SatX (ctxOf W I Gx) e { T with I := I } W := by
  have hne : ∀ {id : Nat} {x : Ent}, T.H[id]? = some x → alive x.obj = true → e.nil id = false → Gx (e.blk id) ≠ none := fun hx hal hn => holds_blk (hO.hold _ _ hx hal) hal hn
  have hgne : ∀ {b : Nat}, T.G b ≠ none → Gx b ≠ none := fun {b} hb => by
    obtain ⟨o, ho⟩ := Option.ne_none_iff_exists'.1 hb
    rw [hO.g b o ho]
    simp
  refine ⟨⟨Same.refl _, Nat.le_refl _, hI, fun b o hb => ?_, fun b _ h0 => h0, fun id x hx hal => ⟨?_, fun hn => ⟨(hap _).resolve_right (hne hx hal hn), ctxOf_none (hne hx hal hn)⟩⟩, hO.apart, hO.names⟩,
    fun b o hb => hG b o (hO.g b o hb), fun b hb => ⟨(hap b).resolve_right (hgne hb), ctxOf_none (hgne hb)⟩, hO.gOwn⟩
  · simp only [ctxOf] at hb
    split at hb
    · exact hb
    · cases hb
  · refine holds_mem (fun hn => ?_) (hO.hold id x hx hal)
    obtain ⟨o, ho⟩ := Option.ne_none_iff_exists'.1 (hne hx hal hn)
    rw [ho]
    exact hG _ o ho

/-- The end of a call that was let write Gx, out of a state behind it. -/
theorem SatX.ends {I Gx : Mem} {s2 : St} {e2 : Env} {w2 : World} {v : Value} {post : Value → Mem → Mem → Prop} (hS : SatX (ctxOf W I Gx) e2 s2 w2) (hle : I.le s2.I) (hp : post v s2.I (ownM e2 s2 w2)) :
    Ends I Gx W post (.returned v) w2 := by
  have hne : ∀ {b : Nat}, b < W.heap.size → Gx b = none → (ctxOf W I Gx).hf b ≠ none := fun {b} hb hg => by rw [ctxOf_some hg, Array.getElem?_eq_getElem hb]; simp
  refine ⟨v, s2.I, ownM e2 s2 w2, rfl, hle, hS.I, ownM_in, hS.ownM_apart, hS.size, hS.same, fun b hb hg => ?_, fun b hb hg => ⟨?_, fun h0 => hS.old b (hne hb hg) h0⟩, hp⟩
  · have := ctxOf_some (W := W) (I := I) hg
    rw [Array.getElem?_eq_getElem hb] at this
    rw [hS.hf b _ this, Array.getElem?_eq_getElem hb]
  · by_cases h : ownM e2 s2 w2 b = none
    · exact h
    · exfalso
      rcases ownM_dom h with ⟨id, x, hx, hal, hn, rfl⟩ | hgb
      · exact hne hb hg ((hS.owned id x hx hal).2 hn).2
      · exact hne hb hg (hS.gI b hgb).2

/-- A raw entry is written anew. -/
theorem SatX.setRaw (hS : SatX c e s w) {id : Nat} {o o' : Obj} {nm : Option Nat} (hx : s.H[id]? = some ⟨.raw o, nm⟩) :
    w.heap[e.blk id]? = some o ∧ SatX c e { s with H := s.H.set id ⟨.raw o', nm⟩ } (w.putObj (e.blk id) o') := by
  obtain ⟨⟨hnil, hb⟩, _⟩ := hS.owned id _ hx rfl
  simp only at hb
  have hlt := (Array.getElem?_eq_some_iff.1 hb).1
  refine ⟨hb, ?_⟩
  let a0 : Act := { tmps := #[], defers := [] }
  have key : Sat c e { s with H := s.H.set id ⟨.raw o', nm⟩ } (w.putObj (e.blk id) o') := by
    have := (hS.toSat.lit []).store (a := { tmps := #[], defers := s.marks.map (mark e) }) ⟨rfl, fun t sv ht _ => by simp at ht, rfl⟩ (w' := w.putObj (e.blk id) o') (obj := .raw o') hx rfl hnil (by simp [World.putObj]) ⟨rfl, rfl, rfl⟩ (fun b hb => World.putObj_heap_other hb) ⟨hnil, World.putObj_heap_same hlt⟩
    exact this.1.lit s.tm
  refine ⟨key, fun b o2 hb2 => ?_, hS.gI, fun j x hj hal hn => ?_⟩
  · have hne : b ≠ e.blk id := fun h => by
      have hg := hS.gOwn id _ hx rfl hnil
      have hb' : s.G b = some o2 := hb2
      rw [h, hg] at hb'
      cases hb'
    rw [World.putObj_heap_other hne]
    exact hS.gIn b o2 hb2
  · rcases getElem?_set' hj with ⟨rfl, _, _⟩ | ⟨_, hj⟩
    · exact hS.gOwn _ _ hx rfl hnil
    · exact hS.gOwn j x hj hal hn

/-! ### What the temporaries of a round are known to hold -/

def okN (H1 H2 : List Ent) (id : Nat) : Bool :=
  match H1[id]?, H2[id]? with
  | some ⟨_, some _⟩, some ⟨_, some _⟩ => true
  | _, _ => false
def stabV (H1 H2 : List Ent) (sv : SV) : SV := bif (refsOf sv).all (okN H1 H2) && !(refsOf sv).any (fun i => rslR i sv) then sv else .junk
def nameEq : List Ent → List Ent → Prop
  | ⟨_, some b⟩ :: r, ⟨_, some b'⟩ :: r' => b = b' ∧ nameEq r r'
  | _ :: r, _ :: r' => nameEq r r'
  | _, _ => True
/-- ... and entry n is still this object. -/
def keepsN (H1 H2 : List Ent) (n : Nat) (o : Obj) : Prop :=
  nameEq H1 H2 ∧ match H2[n]? with
    | some ⟨.raw o', some _⟩ => o' = o
    | _ => False
theorem keepsN_get {H1 H2 : List Ent} {n : Nat} {o : Obj} (h : keepsN H1 H2 n o) : ∃ b, H2[n]? = some ⟨.raw o, some b⟩ := by
  obtain ⟨_, h⟩ := h
  split at h
  · rename_i o' b hb
    subst h
    exact ⟨b, hb⟩
  · exact h.elim
theorem nameEq_get : ∀ {H1 H2 : List Ent} {id : Nat} {x y : Ent} {b b' : Nat}, nameEq H1 H2 → H1[id]? = some x → H2[id]? = some y → x.name = some b → y.name = some b' → b = b'
  | [], _, id, x, y, b, b', _, h, _, _, _ => by simp at h
  | _ :: _, [], id, x, y, b, b', _, _, h, _, _ => by simp at h
  | ⟨o, n⟩ :: r, ⟨o', n'⟩ :: r', id, x, y, b, b', hn, h1, h2, h3, h4 => by
    have hr : nameEq r r' := by
      cases n <;> cases n' <;> simp only [nameEq] at hn
      · exact hn
      · exact hn
      · exact hn
      · exact hn.2
    cases id with
    | zero =>
      simp only [List.getElem?_cons_zero, Option.some.injEq] at h1 h2
      subst h1 h2
      simp only at h3 h4
      subst h3 h4
      simp only [nameEq] at hn
      exact hn.1
    | succ id => exact nameEq_get hr (by simpa using h1) (by simpa using h2) h3 h4
theorem stabV_den {e e' : Env} {H1 H2 : List Ent} {sv : SV} (hq : nameEq H1 H2) (hn1 : ∀ (id : Nat) (x : Ent) (b : Nat), H1[id]? = some x → x.name = some b → e.blk id = b ∧ e.nil id = false)
    (hn2 : ∀ (id : Nat) (x : Ent) (b : Nat), H2[id]? = some x → x.name = some b → e'.blk id = b ∧ e'.nil id = false) (hj : isJunk (stabV H1 H2 sv) = false) :
    stabV H1 H2 sv = sv ∧ den e' sv = den e sv := by
  unfold stabV at hj ⊢
  cases hc : ((refsOf sv).all (okN H1 H2) && !(refsOf sv).any (fun i => rslR i sv)) with
  | false => rw [hc] at hj; cases hj
  | true =>
    simp only [Bool.and_eq_true, Bool.not_eq_true', List.any_eq_false, Bool.not_eq_true, List.all_eq_true] at hc
    refine ⟨rfl, ?_⟩
    have := (den_ren (e1 := e') (e := e) (f := fun i => i) (x := sv) (fun i hi => by
      have hm := refs_mem hi
      have ho := hc.1 i hm
      unfold okN at ho
      split at ho
      · rename_i o1 b1 o2 b2 h1 h2
        obtain ⟨g1, g2⟩ := hn1 i _ b1 h1 rfl
        obtain ⟨g3, g4⟩ := hn2 i _ b2 h2 rfl
        have hb := nameEq_get hq h1 h2 rfl rfl
        refine ⟨by rw [g3, g1, hb], by rw [g4, g2], fun hr => ?_⟩
        have := hc.2 i hm
        rw [hr] at this
        cases this
      · cases ho)).1
    rwa [renF_id] at this

/-! ### What a round is given -/

inductive PSh where
  | sh (s : Sh)
  | agg (l : List Sh)
def allPs : List PSh → (List Value → List SV → Prop) → Prop
  | [], F => F [] []
  | .sh s :: r, F => allV1 s fun v sv => allPs r fun vs svs => F (v :: vs) (sv :: svs)
  | .agg l :: r, F => allVL l fun xs sxs => allPs r fun vs svs => F (.agg xs.toArray :: vs) (.agg sxs :: svs)
def psOk : List PSh → List Value → Bool
  | [], [] => true
  | .sh s :: r, v :: vs => shOk s v && psOk r vs
  | .agg l :: r, .agg xs :: vs => shsOk l xs.toList && psOk r vs
  | _, _ => false
theorem allV1_at {sh : Sh} {F : Value → SV → Prop} {v : Value} (h : allV1 sh F) (hv : shOk sh v = true) : F v (.v v) := by
  cases sh <;> cases v <;> simp only [shOk, Bool.false_eq_true] at hv <;> simp only [allV1] at h <;>
    first
      | exact h _
      | exact h _ _ _
      | (obtain rfl : _ = _ := of_decide_eq_true hv; exact h _)
theorem allVL_at : ∀ {l : List Sh} {F : List Value → List SV → Prop} {vs : List Value}, allVL l F → shsOk l vs = true → F vs (vs.map .v)
  | [], F, [], h, _ => h
  | sh :: r, F, v :: vs, h, hv => by
    simp only [shsOk, Bool.and_eq_true] at hv
    have h1 := allV1_at h hv.1
    exact allVL_at (l := r) (vs := vs) h1 hv.2
  | [], F, _ :: _, h, hv => by simp [shsOk] at hv
  | _ :: _, F, [], h, hv => by simp [shsOk] at hv
theorem allPs_at : ∀ {l : List PSh} {F : List Value → List SV → Prop} {vs : List Value}, allPs l F → psOk l vs = true → ∃ svs, F vs svs ∧ svs.length = vs.length ∧ ∀ e (k : Nat) (sv : SV), svs[k]? = some sv → vs[k]? = some (den e sv)
  | [], F, [], h, _ => ⟨[], h, rfl, fun e k sv hk => by simp at hk⟩
  | .sh s :: r, F, v :: vs, h, hv => by
    simp only [psOk, Bool.and_eq_true] at hv
    obtain ⟨svs, h1, h2, h3⟩ := allPs_at (allV1_at h hv.1) hv.2
    refine ⟨_, h1, by simp [h2], fun e k sv hk => ?_⟩
    cases k with
    | zero => simp only [List.getElem?_cons_zero, Option.some.injEq] at hk; subst hk; simp [den]
    | succ k => simpa using h3 e k sv (by simpa using hk)
  | .agg l :: r, F, .agg xs :: vs, h, hv => by
    simp only [psOk, Bool.and_eq_true] at hv
    obtain ⟨svs, h1, h2, h3⟩ := allPs_at (allVL_at h hv.1) hv.2
    refine ⟨_, h1, by simp [h2], fun e k sv hk => ?_⟩
    cases k with
    | zero =>
      simp only [List.getElem?_cons_zero, Option.some.injEq] at hk
      subst hk
      have : denL e (xs.toList.map .v) = xs.toList := by
        rw [denL_eq, List.map_map]
        exact (List.map_congr_left (fun x _ => by simp [den])).trans (List.map_id _)
      simp [den, this]
    | succ k => simpa using h3 e k sv (by simpa using hk)
  | [], F, _ :: _, h, hv => by simp [psOk] at hv
  | .sh _ :: _, F, [], h, hv => by simp [psOk] at hv
  | .agg _ :: _, F, [], h, hv => by simp [psOk] at hv
  | .agg _ :: _, F, .int _ _ :: _, h, hv => by simp [psOk] at hv
  | .agg _ :: _, F, v :: vs, h, hv => by
    cases v <;> simp only [psOk, Bool.false_eq_true] at hv
    simp only [Bool.and_eq_true] at hv
    rename_i xs
    obtain ⟨svs, h1, h2, h3⟩ := allPs_at (allVL_at h hv.1) hv.2
    refine ⟨_, h1, by simp [h2], fun e k sv hk => ?_⟩
    cases k with
    | zero =>
      simp only [List.getElem?_cons_zero, Option.some.injEq] at hk
      subst hk
      have : denL e (xs.toList.map .v) = xs.toList := by
        rw [denL_eq, List.map_map]
        exact (List.map_congr_left (fun x _ => by simp [den])).trans (List.map_id _)
      simp [den, this]
    | succ k => simpa using h3 e k sv (by simpa using hk)

def setPs : List Tmp → List SV → List SV → List SV
  | t :: ts, v :: vs, tm => setPs ts vs (tm.set t v)
  | _, _, tm => tm

end
end Go.SE
