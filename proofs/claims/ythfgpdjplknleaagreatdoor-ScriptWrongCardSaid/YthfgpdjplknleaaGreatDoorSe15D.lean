/- Regions that draw their order of evaluation: what changes no memory is taken first, in one order; what changes memory in every order that may be drawn. -/
import Derived.Test.YthfgpdjplknleaaGreatDoorSe15
import Derived.OrdersIn
namespace Go.SE
open Go.RowKit

/-! ### The rule: an operation may be taken first if its value is the same in all worlds that meet S -/

section
variable {r : Option Nat} {P : Program} {ops : Array Oper} {Q : Exit → Act → World → Prop}

/-- In state a, in every world that meets S, the operation leaves v in its temporary and does nothing else. -/
def YieldsS (P : Program) (ops : Array Oper) (S : World → Prop) (o : Oper) (v : Value) (a : Act) : Prop :=
  (Region.wanted o (yielded ops a.tmps) = true ∧ ∀ w, S w → (execOp a.eval o).run P w = .ok (.value v) w) ∨
  (Region.wanted o (yielded ops a.tmps) = false ∧ v = undef)

/-- Is operation j bound to come up behind k? -/
def bndO (ops : Array Oper) (j k : Nat) : Prop := ∃ o, ops[j]? = some o ∧ ∃ e ∈ o.after, Region.binds .any e = true ∧ e.on = k

/-- S k: the worlds in which operation k may still come up. -/
def WA (r : Option Nat) (P : Program) (ops : Array Oper) (Q : Exit → Act → World → Prop) : Nat → Array Bool → (Nat → World → Prop) → Act → World → Prop
  | 0, listed, _, a, w => Region.ready .any ops listed = [] ∧ Q .normal a w
  | n + 1, listed, S, a, w => (Region.ready .any ops listed = [] → Q .normal a w) ∧
      ∀ i ∈ Region.ready .any ops listed, wpOpIn (Fr r) 0 P ops Q i (fun a' w' => ∃ S' : Nat → World → Prop, (∀ k, ¬ bndO ops i k → ∀ u, S' k u → S k u) ∧ (∀ k, S' k w') ∧ WA r P ops Q n (listed.setIfInBounds i true) S' a' w') a w

theorem wpAnyIn_of_WA : ∀ {n : Nat} {listed : Array Bool} {S : Nat → World → Prop} {a : Act} {w : World}, WA r P ops Q n listed S a w → wpAnyIn (Fr r) 0 P .any ops Q n listed a w
  | 0, _, _, _, _, h => h
  | _ + 1, _, _, _, _, h => ⟨h.1, fun i hi => wpOpIn_mono (fun _ _ ⟨_, _, _, h'⟩ => wpAnyIn_of_WA h') (h.2 i hi)⟩

theorem YieldsS.mono {S S' : World → Prop} {o : Oper} {v : Value} {a : Act} (h : YieldsS P ops S o v a) (hs : ∀ u, S' u → S u) : YieldsS P ops S' o v a :=
  h.imp (fun ⟨h1, h2⟩ => ⟨h1, fun w hw => h2 w (hs w hw)⟩) id

theorem YieldsS.wpOpIn {S : World → Prop} {i : Nat} {o : Oper} {v : Value} {a : Act} (hd : ∀ c, o.op ≠ .defer c) (hi : ops[i]? = some o) (hy : YieldsS P ops S o v a)
    {K : Act → World → Prop} {w : World} (hS : S w) (h : K (a.put o.dst v) w) : wpOpIn (Fr r) 0 P ops Q i K a w := by
  unfold Go.wpOpIn
  simp only [hi]
  rcases hy with ⟨hw, hv⟩ | ⟨hw, rfl⟩
  · rw [if_pos hw]
    refine ⟨fun _ _ => trivial, ?_⟩
    rw [Oper.semAt_eq _ _ _ hd, hv w hS]
    exact h
  · rw [if_neg (by simp [hw])]
    exact ⟨fun _ _ => trivial, h⟩

theorem YieldsS.of_same {S : World → Prop} {o : Oper} {v : Value} {a a' : Act} (hy : YieldsS P ops S o v a) (he : execOp a'.eval o = execOp a.eval o)
    (hw : Region.wanted o (yielded ops a'.tmps) = Region.wanted o (yielded ops a.tmps)) : YieldsS P ops S o v a' := by
  unfold YieldsS at *
  rw [he, hw]
  exact hy

theorem wpOpIn_putS {S : World → Prop} {j : Nat} {oi oj : Oper} {v : Value} (hj : ops[j]? = some oj) (hap : oi.apart ops oj = true)
    (hsi : ∀ cs b, oi.op ≠ .select cs b) (hsj : ∀ cs b, oj.op ≠ .select cs b) (hdj : ∀ c, oj.op ≠ .defer c)
    (hQ : ∀ c a w, ¬ Q (.panic c) a w) {K : Act → World → Prop} {a : Act} {w : World}
    (hy : YieldsS P ops S oi v a) (h : wpOpIn (Fr r) 0 P ops Q j K (a.put oi.dst v) w) :
    wpOpIn (Fr r) 0 P ops Q j (fun a' w' => YieldsS P ops S oi v a' ∧ K (a'.put oi.dst v) w') a w := by
  obtain ⟨h1, h2, h3⟩ := Oper.apart_spec hap
  have keep : ∀ (a : Act), YieldsS P ops S oi v a → ∀ u, YieldsS P ops S oi v (a.put oj.dst u) := fun a hy u =>
    hy.of_same (execOp_put oi hsi a oj.dst u h3) (wanted_put oi a oj.dst u h3)
  have keepD : ∀ d, YieldsS P ops S oi v { a with defers := d :: a.defers } := fun d => hy.of_same rfl rfl
  unfold wpOpIn at *
  simp only [hj] at *
  rw [wanted_put oj a oi.dst v h1] at h
  split
  · rename_i hw
    simp only [hw, if_true] at h
    unfold Oper.wpIn at *
    refine ⟨fun _ _ => trivial, ?_⟩
    have h := h.2
    rw [Oper.semAt_eq _ _ _ hdj, execOp_put oj hsj a oi.dst v h1] at h
    rw [Oper.semAt_eq _ _ _ hdj]
    generalize (execOp a.eval oj).run P w = rr at *
    cases rr with
    | ok x w' =>
      cases x <;> simp only [Oper.uponIn] at h ⊢
      case value u => exact ⟨keep a hy u, by rw [← Act.put_comm a v u h2]; exact h⟩
      case skip => exact ⟨keep a hy _, by rw [← Act.put_comm a v undef h2]; exact h⟩
      case defer d =>
        refine ⟨keep _ (keepD d) _, ?_⟩
        rw [← Act.put_comm _ v undef h2, ← Act.put_defers]
        exact h
      case enter f args =>
        refine ⟨h.1, CallsIn.mono h.2 fun e w'' he => ?_⟩
        cases e with
        | returned u => exact ⟨keep a hy u, by rw [← Act.put_comm a v u h2]; exact he⟩
        | panicked c => exact (hQ _ _ _ he).elim
        | outgrown => exact he
      case row row args => exact ⟨h.1, RowsIn.mono h.2 fun u w'' he => ⟨keep a hy u, by rw [← Act.put_comm a v u h2]; exact he⟩⟩
      case round l f tmps assign body =>
        refine ⟨h.1, RoundIn.mono h.2 fun e w'' he => ?_⟩
        cases e with
        | returned u => exact ⟨keep a hy u, by rw [← Act.put_comm a v u h2]; exact he⟩
        | panicked c => exact (hQ _ _ _ he).elim
        | outgrown => exact he
    | halt x w' =>
      cases x <;> simp only [Oper.uponIn] at h ⊢
      case panic u => exact (hQ _ _ _ h).elim
  · rename_i hw
    simp only [hw] at h
    exact ⟨fun _ _ => trivial, keep a hy _, by rw [← Act.put_comm a v undef h2]; exact h.2⟩

theorem WA_first {i : Nat} {oi : Oper} {v : Value} (hi : ops[i]? = some oi) (hsel : ∀ (j : Nat) (o : Oper) cs b, ops[j]? = some o → o.op ≠ .select cs b)
    (hdf : ∀ (j : Nat) (o : Oper) c, ops[j]? = some o → o.op ≠ .defer c) (hQ : ∀ c a w, ¬ Q (.panic c) a w) :
    ∀ (n : Nat) (listed : Array Bool) (S : Nat → World → Prop) (a : Act) (w : World),
      (∀ j oj, ops[j]? = some oj → j ≠ i → listed.getD j true = false → (∀ e ∈ oj.after, Region.binds .any e = true → e.on ≠ i) → oi.apart ops oj = true) →
      i ∈ Region.ready .any ops listed → YieldsS P ops (S i) oi v a → (∀ k, S k w) →
      WA r P ops Q n (listed.setIfInBounds i true) S (a.put oi.dst v) w → WA r P ops Q (n + 1) listed S a w := by
  intro n
  induction n with
  | zero =>
    intro listed S a w _ hr hy hS H
    refine ⟨fun h => (by rw [h] at hr; cases hr), fun j hj => ?_⟩
    by_cases hji : j = i
    · subst hji; exact hy.wpOpIn (fun c => hdf _ _ c hi) hi (hS _) ⟨S, fun _ _ _ h => h, hS, H⟩
    · have := ready_mono hj hji
      rw [H.1] at this
      cases this
  | succ n ih =>
    intro listed S a w hfree hr hy hS H
    refine ⟨fun h => (by rw [h] at hr; cases hr), fun j hj => ?_⟩
    by_cases hji : j = i
    · subst hji; exact hy.wpOpIn (fun c => hdf _ _ c hi) hi (hS _) ⟨S, fun _ _ _ h => h, hS, H⟩
    · have h1 := H.2 j (ready_mono hj hji)
      obtain ⟨hjun, oj, hoj, hall⟩ := mem_ready.1 hj
      have hnot : ∀ e ∈ oj.after, Region.binds .any e = true → e.on ≠ i := fun e he hb heq => by
        have h1 := hall e he hb
        have h0 := (mem_ready.1 hr).1
        rw [heq] at h1
        rcases Nat.lt_or_ge i listed.size with h' | h'
        · simp [h'] at h0 h1; rw [h0] at h1; cases h1
        · simp [Array.getElem?_eq_none h'] at h1
      have h2 := wpOpIn_putS hoj (hfree j oj hoj hji hjun hnot) (fun cs b => hsel i oi cs b hi) (fun cs b => hsel j oj cs b hoj) (fun c => hdf j oj c hoj) hQ hy h1
      have hfree' : ∀ k ok, ops[k]? = some ok → k ≠ i → (listed.setIfInBounds j true).getD k true = false →
          (∀ e ∈ ok.after, Region.binds .any e = true → e.on ≠ i) → oi.apart ops ok = true := fun k ok hk hki hun hno => by
        refine hfree k ok hk hki ?_ hno
        by_cases hjk : j = k
        · subst hjk; exact hjun
        · rw [getD_set_ne true hjk] at hun; exact hun
      refine wpOpIn_mono (fun a' w' ⟨hy', S', hs, hS', h3⟩ => ⟨S', hs, hS', ih (listed.setIfInBounds j true) S' a' w' hfree' (ready_mono hr (Ne.symm hji)) (hy'.mono (hs i fun ⟨o', ho', e, he, hb, hn⟩ => by rw [hoj] at ho'; cases ho'; exact hnot e he hb hn)) hS' ?_⟩) h2
      rw [Array.setIfInBounds_comm _ _ hji]
      exact h3

end

/-! ### Which may come up; which are apart -/

def bindsB (e : Edge) : Bool :=
  match e.ground with
  | .textOnly _ | .gcOnly _ => false
  | _ => true
theorem bindsB_eq (e : Edge) : Region.binds .any e = bindsB e := by
  unfold Region.binds bindsB
  cases e.ground <;> rfl

def rdyO (l : List Bool) (o : Oper) : Bool := o.after.toList.all fun e => !bindsB e || l.getD e.on false
def rdys (l : List Bool) : Nat → List Oper → List Nat
  | _, [] => []
  | i, o :: r => bif !l.getD i true && rdyO l o then i :: rdys l (i + 1) r else rdys l (i + 1) r

theorem mem_rdys {l : List Bool} {j : Nat} : ∀ {i : Nat} {os : List Oper}, j ∈ rdys l i os ↔ ∃ k o, j = i + k ∧ os[k]? = some o ∧ l.getD j true = false ∧ rdyO l o = true
  | i, [] => by simp [rdys]
  | i, o :: r => by
    have hs : ∀ {k : Nat}, i + 1 + k = i + (k + 1) := fun {k} => by omega
    simp only [rdys]
    constructor
    · intro h
      cases hc : (!l.getD i true && rdyO l o) with
      | true =>
        rw [hc, cond_true] at h
        rcases List.mem_cons.1 h with rfl | h
        · simp only [Bool.and_eq_true, Bool.not_eq_true'] at hc
          exact ⟨0, o, rfl, rfl, hc.1, hc.2⟩
        · obtain ⟨k, o', rfl, h1, h2⟩ := mem_rdys.1 h
          exact ⟨k + 1, o', by omega, by simpa using h1, h2⟩
      | false =>
        rw [hc, cond_false] at h
        obtain ⟨k, o', rfl, h1, h2⟩ := mem_rdys.1 h
        exact ⟨k + 1, o', by omega, by simpa using h1, h2⟩
    · rintro ⟨k, o', rfl, h1, h2, h3⟩
      cases k with
      | zero =>
        simp only [List.getElem?_cons_zero, Option.some.injEq] at h1
        subst h1
        simp only [Nat.add_zero] at h2
        have hc : (!l.getD i true && rdyO l o) = true := by rw [h2, h3]; rfl
        rw [hc]
        simp
      | succ k =>
        have hm : i + (k + 1) ∈ rdys l (i + 1) r := mem_rdys.2 ⟨k, o', by omega, by simpa using h1, h2, h3⟩
        cases (!l.getD i true && rdyO l o) with
        | true => exact List.mem_cons_of_mem _ hm
        | false => exact hm

theorem ready_iff {ops : Array Oper} {listed : Array Bool} {j : Nat} : j ∈ Region.ready .any ops listed ↔ j ∈ rdys listed.toList 0 ops.toList := by
  rw [mem_ready, mem_rdys]
  have hg : ∀ (k : Nat) (d : Bool), listed.getD k d = listed.toList.getD k d := fun k d => by simp [Array.getD_eq_getD_getElem?, List.getD_eq_getElem?_getD]
  constructor
  · rintro ⟨h0, o, ho, hall⟩
    refine ⟨j, o, by omega, by simpa using ho, by rw [← hg]; exact h0, ?_⟩
    simp only [rdyO, List.all_eq_true, Bool.or_eq_true, Bool.not_eq_true']
    intro e he
    cases hb : bindsB e with
    | false => exact .inl rfl
    | true => exact .inr (by rw [← hg]; exact hall e (by simpa using he) (by rw [bindsB_eq]; exact hb))
  · rintro ⟨k, o, hk, ho, h0, hr⟩
    obtain rfl : j = k := by omega
    refine ⟨by rw [hg]; exact h0, o, by simpa using ho, fun e he hb => ?_⟩
    simp only [rdyO, List.all_eq_true, Bool.or_eq_true, Bool.not_eq_true'] at hr
    rcases hr e (by simpa using he) with h | h
    · rw [← bindsB_eq, hb] at h; cases h
    · rw [hg]; exact h

def tmp1 : Operand → List Tmp
  | .tmp t => [t]
  | _ => []
def tmpsL : List Operand → List Tmp
  | [] => []
  | x :: r => tmp1 x ++ tmpsL r
theorem mem_tmpsL {d : Tmp} : ∀ {l : List Operand}, .tmp d ∈ l → d ∈ tmpsL l
  | x :: r, h => by
    simp only [tmpsL, List.mem_append]
    rcases List.mem_cons.1 h with rfl | h
    · exact .inl (by simp [tmp1])
    · exact .inr (mem_tmpsL h)
/-- The temporaries that an operation looks at. -/
def tmpsOf : Op → Option (List Tmp)
  | .alloc _ => some []
  | .move x | .assign x | .box _ x | .load _ x | .nilCheck x | .unOp _ _ x | .convert _ _ x | .makeInterface _ x | .fieldAddr _ x _ | .field _ x _ | .extract x _ => some (tmp1 x)
  | .pick c a b => some (tmpsL [c, a, b])
  | .build _ ps | .buildSlice _ _ ps => some (tmpsL (ps.toList.map (·.2)))
  | .store _ a v | .binOp _ _ a v _ | .makeSlice _ a v | .indexAddr _ a v | .index _ a v => some (tmpsL [a, v])
  | .makeFunc _ first captured => some (tmpsL first.toList ++ tmpsL captured.toList)
  | .slice _ x l h m => some (tmp1 x ++ tmpsL l.toList ++ tmpsL h.toList ++ tmpsL m.toList)
  | .call c => match c.callee with
    | .value f => some (tmp1 f ++ tmpsL c.args.toList)
    | .builtin _ => some (tmpsL c.args.toList)
    | _ => none
  | _ => none
theorem tmpsOf_spec {o : Op} {l : List Tmp} (h : tmpsOf o = some l) {d : Tmp} (hd : .tmp d ∈ o.operands) : d ∈ l := by
  have one : ∀ {x : Operand}, .tmp d = x → d ∈ tmp1 x := fun hx => by subst hx; simp [tmp1]
  cases o <;> simp only [tmpsOf, Option.some.injEq, reduceCtorEq] at h
  case call c =>
    obtain ⟨callee, args, ts⟩ := c
    cases callee <;> simp only [Option.some.injEq, reduceCtorEq] at h <;> subst h
    · simp only [Op.operands, Call.operands] at hd
      rcases Array.mem_append.1 hd with hd | hd
      · exact List.mem_append_left _ (one (by simpa using hd))
      · exact List.mem_append_right _ (mem_tmpsL (by simpa using hd))
    · simp only [Op.operands, Call.operands] at hd
      exact mem_tmpsL (by simpa using hd)
  all_goals subst h
  case alloc => simp [Op.operands] at hd
  case makeFunc f first captured =>
    simp only [Op.operands] at hd
    rcases Array.mem_append.1 hd with hd | hd
    · exact List.mem_append_left _ (mem_tmpsL (by simpa using hd))
    · exact List.mem_append_right _ (mem_tmpsL (by simpa using hd))
  case slice t x lo hi mx =>
    simp only [Op.operands] at hd
    simp only [List.mem_append]
    rcases Array.mem_append.1 hd with hd | hd
    · rcases Array.mem_append.1 hd with hd | hd
      · rcases Array.mem_append.1 hd with hd | hd
        · exact .inl (.inl (.inl (one (by simpa using hd))))
        · exact .inl (.inl (.inr (mem_tmpsL (by simpa using hd))))
      · exact .inl (.inr (mem_tmpsL (by simpa using hd)))
    · exact .inr (mem_tmpsL (by simpa using hd))
  case build | buildSlice => exact mem_tmpsL (by simpa [Op.operands] using hd)
  case pick | store | binOp | makeSlice | indexAddr | index => exact mem_tmpsL (by simpa [Op.operands] using hd)
  all_goals exact one (by simpa [Op.operands] using hd)

def gdL (ops : Array Oper) (o : Oper) : List Tmp :=
  match o.guard with
  | some (g, _) => match (ops[g]?).bind (·.dst) with
    | some t => [t]
    | none => []
  | none => []
def looksB (ops : Array Oper) (o : Oper) : Option (List Tmp) :=
  match tmpsOf o.op with
  | some l => some (l ++ gdL ops o)
  | none => none
theorem looksB_spec {ops : Array Oper} {o : Oper} {l : List Tmp} (h : looksB ops o = some l) {d : Tmp} (hd : d ∈ o.looksAt ops) : d ∈ l := by
  unfold looksB at h
  split at h
  · rename_i l0 hl0
    simp only [Option.some.injEq] at h
    subst h
    unfold Oper.looksAt at hd
    rcases List.mem_append.1 hd with hd | hd
    · obtain ⟨x, hx, hxd⟩ := List.mem_filterMap.1 hd
      refine List.mem_append_left _ (tmpsOf_spec hl0 (d := d) ?_)
      split at hxd
      · simp only [Option.some.injEq] at hxd
        subst hxd
        simpa using hx
      · cases hxd
    · refine List.mem_append_right _ ?_
      unfold gdL
      split at hd
      · rename_i g b hg
        rw [hg]
        simp only [Option.mem_toList] at hd
        simp only [hd, List.mem_singleton]
      · cases hd
  · cases h
def apartB (ops : Array Oper) (x y : Oper) : Bool :=
  match looksB ops x, looksB ops y with
  | some lx, some ly =>
    (match x.dst with
    | some d => !memB d ly && (match y.dst with
      | some d' => !Nat.beq d d'
      | none => true)
    | none => true) &&
    (match y.dst with
    | some d => !memB d lx
    | none => true)
  | _, _ => false
theorem apartB_spec {ops : Array Oper} {x y : Oper} (h : apartB ops x y = true) : x.apart ops y = true := by
  unfold apartB at h
  split at h
  · rename_i lx ly hx hy
    simp only [Bool.and_eq_true] at h
    obtain ⟨h1, h2⟩ := h
    simp only [Oper.apart, Bool.and_eq_true]
    constructor
    · cases hxd : x.dst with
      | none => rfl
      | some d =>
        rw [hxd] at h1
        simp only [Bool.and_eq_true, Bool.not_eq_true'] at h1
        simp only [Bool.and_eq_true, Bool.not_eq_true', bne_iff_ne, ne_eq]
        refine ⟨?_, ?_⟩
        · rw [Bool.eq_false_iff]
          intro hc
          exact memB_false h1.1 (looksB_spec hy (by simpa using hc))
        · intro hyd
          rw [hyd] at h1
          simp at h1
    · cases hyd : y.dst with
      | none => rfl
      | some d =>
        rw [hyd] at h2
        simp only [Bool.not_eq_true'] at h2
        simp only [Bool.not_eq_true']
        rw [Bool.eq_false_iff]
        intro hc
        exact memB_false h2 (looksB_spec hx (by simpa using hc))
  · cases h
def freeL (ops : Array Oper) (l : List Bool) (i : Nat) (oi : Oper) : Nat → List Oper → Bool
  | _, [] => true
  | j, oj :: r => (Nat.beq j i || l.getD j true || oj.after.toList.any (fun e => bindsB e && Nat.beq e.on i) || apartB ops oi oj) && freeL ops l i oi (j + 1) r
theorem freeL_spec {ops : Array Oper} {l : List Bool} {i : Nat} {oi : Oper} : ∀ {j0 : Nat} {os : List Oper}, freeL ops l i oi j0 os = true → ∀ (k : Nat) (oj : Oper), os[k]? = some oj → j0 + k ≠ i → l.getD (j0 + k) true = false →
    (∀ e ∈ oj.after, bindsB e = true → e.on ≠ i) → oi.apart ops oj = true
  | j0, [], _, k, oj, hk, _, _, _ => by simp at hk
  | j0, o :: r, h, k, oj, hk, hne, hun, hno => by
    simp only [freeL, Bool.and_eq_true] at h
    cases k with
    | zero =>
      simp only [List.getElem?_cons_zero, Option.some.injEq] at hk
      subst hk
      simp only [Nat.add_zero] at hne hun
      simp only [Bool.or_eq_true, hun, Bool.false_eq_true, or_false] at h
      rcases h.1 with (h1 | h1) | h1
      · exact absurd (Nat.eq_of_beq_eq_true h1) hne
      · obtain ⟨e, he, hb⟩ := List.any_eq_true.1 h1
        simp only [Bool.and_eq_true] at hb
        exact absurd (Nat.eq_of_beq_eq_true hb.2) (hno e (by simpa using he) hb.1)
      · exact apartB_spec h1
    | succ k =>
      exact freeL_spec h.2 k oj (by simpa using hk) (by omega) (by rw [show j0 + 1 + k = j0 + (k + 1) from by omega]; exact hun) hno

end Go.SE
