/- From a contract of the library's kind ('Calls') to a contract here, and back; iterators. -/
import Derived.Test.YthfgpdjplknleaaGreatDoorSe18
import Derived.Test.YthfgpdjplknleaaGreatDoorSe17S
namespace Go.SE
open Go.RowKit

/-- A contract of the library's kind, of a function that writes nothing that was there. -/
theorem ct_of_calls {P : Program} {f : FuncId} {args : Array Value} {I : Mem} {post : Value → Prop}
    (hcall : ∀ (args : Array Value) (w : World), (callFunc f args).run P w = .ok (.enter f args) w)
    (h : ∀ w : World, I.inW w → Calls P f args w fun e w' => (∃ v, e = .returned v ∧ post v) ∧ Below w.heap.size w w') : Ct P (fnv f) args I fun v _ => post v := by
  intro W hI _ _
  refine callV_func hcall (args := args.toList) (by simp) (callsIn_wide.2 ?_)
  refine (h W hI).mono ?_
  rintro e w' ⟨⟨v, he, hp⟩, hb⟩
  refine ⟨v, I, Mem.emp, he, Mem.le_refl _, fun b o hbo => ?_, Mem.emp_inW _, fun b => .inr rfl, hb.size, ⟨hb.os, hb.tape, hb.output⟩, fun b hlt _ => hb.block b hlt, fun b _ _ => ⟨rfl, fun h => h⟩, hp⟩
  rw [hb.block b (Mem.inW_lt hI hbo)]
  exact hI b o hbo

/-- .. and back. -/
theorem calls_of_ct {P : Program} {f : FuncId} {args : Array Value} {I : Mem} {post : Value → Mem → Prop} {w : World}
    (hcall : ∀ (args : Array Value) (w : World), (callFunc f args).run P w = .ok (.enter f args) w)
    (h : Ct P (fnv f) args I post) (hI : I.inW w) : Calls P f args w fun e w' => (∃ v I', e = .returned v ∧ post v I') ∧ Below w.heap.size w w' := by
  have h1 := h w hI (Mem.emp_inW w) (fun b => .inr rfl)
  have h2 : (semV (fnv f) args).run P w = .ok (.enter f args) w := by
    rw [fnv, run_semV_func, hcall]; simp
  unfold CallV at h1
  rw [h2] at h1
  refine (callsIn_wide.1 h1).mono ?_
  rintro e w' ⟨v, I', hp', he, _, _, _, _, h4, h5, h6, _, h8⟩
  exact ⟨⟨v, I', he, h8⟩, h5.os, h5.tape, h5.output, h4, fun b hb => h6 b hb rfl⟩

theorem Gives.enc {P : Program} {fv : Value} {I : Mem} {n : Nat} {enc enc' : Nat → Array Value → Mem → Prop} (h : Gives P fv I n enc)
    (he : ∀ k args I, k < n → enc k args I → enc' k args I) : Gives P fv I n enc' :=
  ⟨h.1, fun Y J D I0 G0 hI0 hJ0 hJ hD hY => h.2 Y J D I0 G0 hI0 hJ0 hJ hD fun k I' G args hk hle hj hen => hY k I' G args hk hle hj (he k args I' hk hen)⟩
theorem Gives.mono {P : Program} {fv : Value} {I I' : Mem} {n : Nat} {enc : Nat → Array Value → Mem → Prop} (h : Gives P fv I n enc) (hle : I.le I') : Gives P fv I' n enc :=
  ⟨h.1, fun Y J D I0 G0 hI0 hJ0 hJ hD hY => h.2 Y J D I0 G0 (Mem.le_trans hle hI0) hJ0 hJ hD hY⟩

theorem Br.t {t : Bool} {A B : Prop} (h : t = true) (a : A) : Br t A B := by rw [h]; exact a
theorem Br.f {t : Bool} {A B : Prop} (h : t = false) (b : B) : Br t A B := by rw [h]; exact b
/-- A slice of strings of read-only memory, as cells of a world. -/
theorem SlM.cell {I : Mem} {w : World} {a : Addr} {n sz : Nat} {xs : List Value} (h : SlM I (some a) n sz xs) (hI : I.inW w) {j : Nat} {v : Value} (hj : xs[j]? = some v) : w.cell? (a.add j) = some v := by
  have := h.at_ j v hj
  simp only [atI, Option.bind_some] at this
  exact cellM_world hI this

theorem filt_lt {α : Type} {p q : α → Bool} : ∀ {l : List α}, (∀ x, q x = true → p x = true) → ∀ {y : α}, y ∈ l → p y = true → q y = false → (l.filter q).length < (l.filter p).length
  | [], _, y, hy, _, _ => by cases hy
  | x :: r, h, y, hy, h1, h2 => by
    have hle : ∀ r : List α, (r.filter q).length ≤ (r.filter p).length := fun r => by
      induction r with
      | nil => simp
      | cons z r ih =>
        cases hq : q z with
        | true => simp [hq, h z hq, ih]
        | false => cases hp : p z <;> simp [hq, hp] <;> omega
    rcases List.mem_cons.1 hy with rfl | hy
    · simp only [List.filter_cons, h1, h2, if_true, Bool.false_eq_true, if_false, List.length_cons]
      have := hle r
      omega
    · have ih := filt_lt h hy h1 h2
      cases hq : q x with
      | true => simp [hq, h x hq, ih]
      | false => cases hp : p x <;> simp [hq, hp] <;> omega
/-- An iterator over a map that has handed out one entry more has fewer left. -/
theorem left_lt {es : Array MapEntry} {seen : Array Nat} {y : MapEntry} (hy : y ∈ es.toList) (hs : seen.contains y.born = false) : (leftOf es (seen.push y.born)).size < (leftOf es seen).size := by
  unfold leftOf
  have hsz : ∀ p : MapEntry → Bool, (es.filter p).size = (es.toList.filter p).length := fun p => by rw [← Array.toList_filter, Array.length_toList]
  rw [hsz, hsz]
  refine filt_lt (fun x hx => ?_) hy (by simp only [hs, Bool.not_false]) (by simp)
  simp only [Bool.not_eq_true', Array.contains_push, Bool.or_eq_false_iff] at hx ⊢
  exact hx.1
theorem str_eq (a b : ByteArray) : (a.toList == b.toList) = decide (a = b) := by
  rw [Go.ByteArray.toList_eq, Go.ByteArray.toList_eq]
  by_cases h : a = b
  · subst h; simp
  · simp only [h, decide_false, beq_eq_false_iff_ne, ne_eq]
    intro hh
    exact h (ByteArray.ext (Array.toList_inj.1 hh))

/-- Something is what it is. -/
abbrev Rf.{u} {α : Sort u} (x : α) : Prop := x = x
/-- From what a goal comes to. -/
theorem viaR {A C : Prop} (k : A → C) (B : Prop) (h : A = B) (b : B) : C := k (h ▸ b)
theorem ct_via {P : Program} {f : FuncId} {fn : Func} {cd : Code} {A : Ann} (hf : P.funcs[f]? = some fn) (hb : fn.body = some cd)
    (hcall : ∀ (args : Array Value) (w : World), (callFunc f args).run P w = .ok (.enter f args) w)
    {args : List Value} {first cap given : Array Value} (hargs : (first ++ given ++ cap).toList = args) (hrd : A.rd = false) {I : Mem} {post : Value → Mem → Prop}
    (h : se P A cd (initS args fn.ntmps I) (endX (finG P fn fun v I' _ => post v I'))) : Ct P (.func (.func f) first cap) given I post :=
  ct_of_se hf hb hcall hargs h hrd
theorem ctG_via {P : Program} {f : FuncId} {fn : Func} {cd : Code} {A : Ann} (hf : P.funcs[f]? = some fn) (hb : fn.body = some cd)
    (hcall : ∀ (args : Array Value) (w : World), (callFunc f args).run P w = .ok (.enter f args) w)
    {args : List Value} {first cap given : Array Value} (hargs : (first ++ given ++ cap).toList = args) (hrd : A.rd = false) {I G : Mem} {post : Value → Mem → Mem → Prop}
    (h : se P A cd (initX (args.map .v) [] fn.ntmps I G) (endX (finG P fn post))) : CtH P (.func (.func f) first cap) given I G post :=
  ctG_of_se hf hb hcall hargs h hrd
theorem ctS_via {P : Program} {f : FuncId} {fn : Func} {cd : Code} {A : Ann} (hf : P.funcs[f]? = some fn) (hb : fn.body = some cd)
    (hcall : ∀ (args : Array Value) (w : World), (callFunc f args).run P w = .ok (.enter f args) w) {args : List SV}
    {H : List Ent} {I : Mem} (outs : List Nat) {post : SV → List Ent → Mem → Prop} (hrd : A.rd = false)
    (h : se P A cd (initX args H fn.ntmps I Mem.emp) (endX (finS P fn outs post))) : CtS P (.v (fnv f)) args H I post :=
  ctS_fn hf hb hcall outs h hrd
theorem startB {A : Prop} (a : Bool) (h : a = true → A) (ha : a = true) : A := h ha
theorem ifB {t a b : Bool} {A B : Prop} (ha : a = true → A) (hb : b = true → B) : (bif t then a else b) = true → Br t A B := by
  cases t
  · exact hb
  · exact ha
theorem ctB {P : Program} {f : Value} {args : Array Value} {I : Mem} {val : Value} {post : Value → Mem → Prop} {a : Bool} (hc : Ct P f args I fun v _ => v = val)
    (hp : ∀ I', I.le I' → a = true → post val I') : a = true → Ct P f args I post := fun h => hc.mono fun _ I' hI hv => hv ▸ hp I' hI h
theorem andB {a : Bool} {X R : Prop} (hx : X) (h : a = true → R) : a = true → X ∧ R := fun ha => ⟨hx, h ha⟩
theorem exI {a : Bool} {k : IntKind} {x : Int} {R : Int → Prop} (h : a = true → R x) : a = true → ∃ n, Value.int k x = .int k n ∧ R n := fun ha => ⟨x, rfl, h ha⟩
theorem exBo {a : Bool} {x : Bool} {R : Bool → Prop} (h : a = true → R x) : a = true → ∃ n, Value.bool x = .bool n ∧ R n := fun ha => ⟨x, rfl, h ha⟩
theorem leafB {x : Bool} : x = true → Value.bool x = Value.bool true := fun h => by rw [h]
theorem exT2 {a : Bool} {k k' : IntKind} {x y : Int} {R : Int → Int → Prop} (h : a = true → R x y) : a = true → ∃ n m, Value.tuple #[.int k x, .int k' y] = .tuple #[.int k n, .int k' m] ∧ R n m := fun ha => ⟨x, y, rfl, h ha⟩
theorem exTS {a : Bool} {k' : IntKind} {x : ByteArray} {y : Int} {R : ByteArray → Int → Prop} (h : a = true → R x y) : a = true → ∃ n m, Value.tuple #[.string x, .int k' y] = .tuple #[.string n, .int k' m] ∧ R n m := fun ha => ⟨x, y, rfl, h ha⟩
theorem exX {a : Bool} {x : Value} {R : Value → Prop} (h : a = true → R x) : a = true → ∃ n, x = n ∧ R n := fun ha => ⟨x, rfl, h ha⟩
theorem wrB {a : Bool} {k : IntKind} {n : Int} {K : Int → Prop} (h : a = true → K (k.wrap n)) : a = true → Wr k n K := fun ha => ⟨_, rfl, h ha⟩
/-- A test of which it is known how it comes out. -/
theorem ifT {t : Bool} {a : Bool} {A B : Prop} (ht : t = true) (h : a = true → A) : a = true → Br t A B := fun ha => by rw [ht]; exact h ha
theorem ifF {t : Bool} {a : Bool} {A B : Prop} (ht : t = false) (h : a = true → B) : a = true → Br t A B := fun ha => by rw [ht]; exact h ha
theorem doneB {X : Prop} (h : X) : true = true → X := fun _ => h
theorem lit_wf {k : IntKind} {n : Int} (h : (Lit.int k n).wf = true) : k.min ≤ n ∧ n ≤ k.max := by
  simp only [Lit.wf, Bool.and_eq_true, decide_eq_true_eq] at h
  exact h
theorem u8_wf {n : Int} (h : (Lit.int .u8 n).wf = true) : 0 ≤ n ∧ n ≤ 255 := lit_wf h

end Go.SE
