/- Values of which only the type is known; calls that write nothing that the caller owns. -/
import Derived.Test.YthfgpdjplknleaaGreatDoorSe13
namespace Go.SE
open Go.RowKit

/-! ### Values of a type, of which nothing else is known -/

/-- There is a value of this shape: the value, and its symbolic form. -/
def ExV1 (sh : Sh) (F : Value → SV → Prop) : Prop :=
  match sh with
  | .int k => ∃ n : Int, F (.int k n) (.v (.int k n))
  | .bool => ∃ b : Bool, F (.bool b) (.v (.bool b))
  | .str => ∃ q : ByteArray, F (.string q) (.v (.string q))
  | .sl => ∃ (a : Option Addr) (n c : Nat), F (.slice a n c) (.v (.slice a n c))
  | .ptr => ∃ a : Option Addr, F (.pointer a) (.v (.pointer a))
  | .map => ∃ r : Option Nat, F (.map r) (.v (.map r))
  | .other => ∃ x : Value, F x (.v x)
def ExVL : List Sh → (List Value → List SV → Prop) → Prop
  | [], F => F [] []
  | sh :: r, F => ExV1 sh fun v sv => ExVL r fun vs svs => F (v :: vs) (sv :: svs)
def ExVT (P : Program) (t : TypeId) (F : Value → SV → Prop) : Prop :=
  match isAggT P t with
  | some true => ExVL (leaves P 12 t) fun vs svs => F (.agg vs.toArray) (.agg svs)
  | some false => ExV1 (shOf P t) F
  | none => False
def ExVTs (P : Program) : List TypeId → (List Value → List SV → Prop) → Prop
  | [], F => F [] []
  | t :: r, F => ExVT P t fun v sv => ExVTs P r fun vs svs => F (v :: vs) (sv :: svs)
/-- What a call of this type has answered. -/
def ExRet (P : Program) (t : TypeId) (x : Value) (K : SV → Prop) : Prop :=
  match P.underlying t with
  | some (.tuple ts) => ExVTs P ts.toList fun vs svs => x = .tuple vs.toArray ∧ K (.tup svs)
  | _ => ExVT P t fun v sv => x = v ∧ K sv

def Agree (v : Value) (sv : SV) : Prop := isJunk sv = false ∧ ∀ e, den e sv = v
theorem ExV1_sound {sh : Sh} {F : Value → SV → Prop} (h : ExV1 sh F) : ∃ v sv, F v sv ∧ Agree v sv := by
  cases sh <;> simp only [ExV1] at h
  case sl => obtain ⟨a, n, c, h⟩ := h; exact ⟨_, _, h, rfl, fun e => by simp [den]⟩
  all_goals obtain ⟨x, h⟩ := h; exact ⟨_, _, h, rfl, fun e => by simp [den]⟩
theorem ExVL_sound : ∀ {l : List Sh} {F : List Value → List SV → Prop}, ExVL l F → ∃ vs svs, F vs svs ∧ ∀ e, denL e svs = vs
  | [], F, h => ⟨[], [], h, fun _ => rfl⟩
  | sh :: r, F, h => by
    obtain ⟨v, sv, h1, _, h2⟩ := ExV1_sound h
    obtain ⟨vs, svs, h3, h4⟩ := ExVL_sound h1
    exact ⟨_, _, h3, fun e => by simp [denL, h2 e, h4 e]⟩
theorem ExVT_sound {P : Program} {t : TypeId} {F : Value → SV → Prop} (h : ExVT P t F) : ∃ v sv, F v sv ∧ Agree v sv := by
  unfold ExVT at h
  split at h
  · obtain ⟨vs, svs, h1, h2⟩ := ExVL_sound h
    exact ⟨_, _, h1, rfl, fun e => by simp [den, h2 e]⟩
  · exact ExV1_sound h
  · exact h.elim
theorem ExVTs_sound {P : Program} : ∀ {l : List TypeId} {F : List Value → List SV → Prop}, ExVTs P l F → ∃ vs svs, F vs svs ∧ ∀ e, denL e svs = vs
  | [], F, h => ⟨[], [], h, fun _ => rfl⟩
  | t :: r, F, h => by
    obtain ⟨v, sv, h1, _, h2⟩ := ExVT_sound h
    obtain ⟨vs, svs, h3, h4⟩ := ExVTs_sound h1
    exact ⟨_, _, h3, fun e => by simp [denL, h2 e, h4 e]⟩
theorem ExRet_sound {P : Program} {t : TypeId} {x : Value} {K : SV → Prop} (h : ExRet P t x K) : ∃ sv, K sv ∧ Agree x sv := by
  unfold ExRet at h
  split at h
  · obtain ⟨vs, svs, ⟨h1, h2⟩, h3⟩ := ExVTs_sound h
    subst h1
    exact ⟨_, h2, rfl, fun e => by simp [den, h3 e]⟩
  · obtain ⟨v, sv, ⟨h1, h2⟩, h3⟩ := ExVT_sound h
    subst h1
    exact ⟨_, h2, h3⟩

mutual
def refsOf : SV → List Nat
  | .ptr i _ | .sptr i _ | .rsl i _ | .xsl i _ _ _ => [i]
  | .fn _ a b => refsOfL a ++ refsOfL b
  | .agg xs | .tup xs => refsOfL xs
  | _ => []
def refsOfL : List SV → List Nat
  | [] => []
  | x :: xs => refsOf x ++ refsOfL xs
end

/-- A CALL of a function value: what is named in it is handed over. -/
def seC (P : Program) (s : St) (c : Call) (t : TypeId) (K : SV → St → Prop) : Prop :=
  match c.callee with
  | .value f => hand P 100 (refsOfL ((f :: c.args.toList).map (ev s))) s fun s' =>
      match valS (ev s' f), valL (c.args.toList.map (ev s')) with
      | some fv, some vs => Ct P fv vs.toArray s'.I fun v I' => ExRet P t v fun sv => K sv { s' with I := I' }
      | _, _ => False
  | _ => False

/-- A CALL that only reads what is named in it: the state behind it is the state before it. -/
def seRO (P : Program) (s : St) (c : Call) (t : TypeId) (K : SV → St → Prop) : Prop :=
  match c.callee with
  | .value f => hand P 100 (refsOfL ((f :: c.args.toList).map (ev s))) s fun s' =>
      match valS (ev s' f), valL (c.args.toList.map (ev s')) with
      | some fv, some vs => Ct P fv vs.toArray s'.I fun v _ => ExRet P t v fun sv => K sv s
      | _, _ => False
  | _ => False

def putS (s : St) (d : Option Tmp) (sv : SV) : St :=
  match d with
  | some t => { s with tm := s.tm.set t sv }
  | none => s

section
variable {P : Program} {c : Ctx} {e : Env} {s : St} {w : World} {a : Act} {r : Option Nat}

theorem Sat.put (hS : Sat c e s w) (d : Option Tmp) (sv : SV) : Sat c e (putS s d sv) w := by
  cases d with
  | none => exact hS
  | some t => exact ⟨hS.same, hS.size, hS.I, hS.hf, hS.old, hS.owned, hS.apart, hS.names⟩
theorem SatA.put (hA : SatA e s a) (d : Option Tmp) {sv : SV} {x : Value} (h : isJunk sv = true ∨ x = den e sv) : SatA e (putS s d sv) (a.put d x) := by
  cases d with
  | none => exact hA
  | some t =>
    refine ⟨by simpa [putS, Act.put] using hA.size, fun k y hk hj => ?_, hA.defers⟩
    simp only [putS] at hk
    simp only [Act.put]
    rcases getElem?_set' hk with ⟨rfl, rfl, hlt⟩ | ⟨hne, hk⟩
    · rcases h with h | rfl
      · rw [h] at hj; cases hj
      · rw [Array.getElem?_setIfInBounds_self_of_lt (by rw [hA.size]; exact hlt)]
    · rw [Array.getElem?_setIfInBounds_ne (Ne.symm hne)]
      exact hA.tm k y hk hj
theorem putS_len (s : St) (d : Option Tmp) (sv : SV) : (putS s d sv).tm.length = s.tm.length := by cases d <;> simp [putS]
theorem putS_I (s : St) (d : Option Tmp) (sv : SV) : (putS s d sv).I = s.I := by cases d <;> rfl

theorem wpIn_value {o : Oper} {x : Value} {w' : World} {next : Act → World → Prop} {Q : Exit → Act → World → Prop} (hd : ∀ c, o.op ≠ .defer c)
    (h : (execOp a.eval o).run P w = .ok (.value x) w') (hn : next (a.put o.dst x) w') : o.wpIn (Fr r) 0 P a w next Q := by
  refine ⟨fun _ _ => trivial, ?_⟩
  rw [Oper.semAt_eq _ _ _ hd, h]
  exact hn
theorem wpIn_skip' {o : Oper} {w' : World} {next : Act → World → Prop} {Q : Exit → Act → World → Prop} (hd : ∀ c, o.op ≠ .defer c)
    (h : (execOp a.eval o).run P w = .ok .skip w') (hn : next (a.put o.dst undef) w') : o.wpIn (Fr r) 0 P a w next Q := by
  refine ⟨fun _ _ => trivial, ?_⟩
  rw [Oper.semAt_eq _ _ _ hd, h]
  exact hn
theorem wpIn_call {o : Oper} {f : Operand} {args : Array Operand} {ts : Array TypeId} {next : Act → World → Prop} {Q : Exit → Act → World → Prop} {R : Ending → World → Prop}
    (ho : o.op = .call { callee := .value f, args := args, argTypes := ts })
    (h : CallV P (a.eval f) (args.map a.eval) w R) (hn : ∀ e w', R e w' → ∃ v, e = .returned v ∧ next (a.put o.dst v) w') : o.wpIn (Fr r) 0 P a w next Q := by
  refine ⟨fun _ _ => trivial, ?_⟩
  rw [Oper.semAt_eq _ _ _ (by rw [ho]; intro c hc; cases hc)]
  have hrun : (execOp a.eval o).run P w = (semV (a.eval f) (args.map a.eval)).run P w := by
    simp only [execOp, ho, resolve, semV]
  rw [hrun]
  unfold CallV upR at h
  split at h
  · rename_i v w' heq
    obtain ⟨v', h1, h2⟩ := hn _ _ h
    cases h1
    rw [heq]
    exact h2
  · rename_i g args' w' heq
    rw [heq]
    refine ⟨(fun h => by cases h), ?_⟩
    have h2 : CallsIn (Fr r) 0 P g args' w' R := h
    exact h2.mono fun e w'' he => by
      obtain ⟨v', h1, h3⟩ := hn _ _ he
      subst h1
      exact h3
  · rename_i l g tmps assign body w' heq
    rw [heq]
    refine ⟨(fun h => by cases h), ?_⟩
    have h2 : RoundIn (Fr r) 0 P l g tmps assign body w' R := h
    exact h2.mono fun e w'' he => by
      obtain ⟨v', h1, h3⟩ := hn _ _ he
      subst h1
      exact h3
  · exact h.elim

/-- The world that a call without owned memory has left. -/
theorem Sat.called (hS : Sat c e s w) {post : Value → Mem → Prop} {en : Ending} {w' : World} (h : Ends s.I Mem.emp w (fun v I' _ => post v I') en w') :
    ∃ v I', en = .returned v ∧ s.I.le I' ∧ post v I' ∧ Sat c e { s with I := I' } w' ∧ (∀ b, b < w.heap.size → w'.heap[b]? = w.heap[b]?) ∧ w.heap.size ≤ w'.heap.size ∧ (∀ b, b < w.heap.size → s.I b = none → I' b = none) := by
  obtain ⟨v, I', hp', he, h1, h2, _, _, h5, h6, h7, h8, h9⟩ := h
  exact ⟨v, I', he, h1, h9, hS.reads h1 h2 (fun b hb h0 => (h8 b hb rfl).2 h0) (fun b hb => h7 b hb rfl) h5 h6, fun b hb => h7 b hb rfl, h5, fun b hb h0 => (h8 b hb rfl).2 h0⟩

theorem Evo.called {mods : List Nat} {s' : St} {w' : World} {I' : Mem} (h : Evo false mods s e w s' e w) (hold : ∀ b, b < w.heap.size → w'.heap[b]? = w.heap[b]?) (hsz : w.heap.size ≤ w'.heap.size)
    (hnew : ∀ b, b < w.heap.size → s'.I b = none → I' b = none) : Evo false mods s e w { s' with I := I' } e w' := by
  refine ⟨fun b hb _ _ => hold b hb, hsz, h.same, h.mod, h.new, h.len, h.live, h.gN, h.gEq, fun b hb _ h0 => ?_⟩
  rcases h.rd b hb (fun h => by cases h) h0 with h1 | h1
  · exact .inl (hnew b hb h1)
  · exact .inr h1

theorem seC_sound {o : Oper} {cl : Call} (ho : o.op = .call cl) {K : SV → St → Prop} (h : seC P s cl o.type K) (hS : Sat c e s w) (hA : SatA e s a) {next : Act → World → Prop} {Q : Exit → Act → World → Prop}
    (hn : ∀ (sv : SV) (s' : St) (x : Value) (w' : World), K sv s' → Sat c e s' w' → SatA e s' a → s.I.le s'.I → s'.tm.length = s.tm.length → x = den e sv → (∀ mods, Evo false mods s e w s' e w') → next (a.put o.dst x) w') :
    o.wpIn (Fr r) 0 P a w next Q := by
  obtain ⟨callee, args, ts⟩ := cl
  unfold seC at h
  split at h
  · rename_i f hcal
    simp only at hcal
    subst hcal
    obtain ⟨s', h, hS', hA', hle, hlen, hls⟩ := hand_sound h hS hA
    split at h
    · rename_i fv vs hfv hvs
      obtain ⟨f1, f2⟩ := valS_den (e := e) hfv
      obtain ⟨v1, v2⟩ := valL_den (e := e) hvs
      have hf : a.eval f = fv := by rw [ev_ok hA' f f2, f1]
      have hargs : args.map a.eval = vs.toArray := by
        have : (args.toList.map (ev s')).all (fun x => !isJunk x) = true := by
          simp only [List.all_eq_true, Bool.not_eq_true']
          exact v2
        have h2 := evs_ok hA' this
        rw [v1] at h2
        rw [← h2, Array.toList_map.symm]
      refine wpIn_call (f := f) (args := args) (ts := ts) ho (R := _) (by rw [hf, hargs]; exact h w hS'.I (Mem.emp_inW w) (Mem.apart_emp _)) ?_
      intro en w' he
      obtain ⟨v, I', rfl, hle2, hpost, hS2, hold, hsz, hnew⟩ := hS'.called he
      obtain ⟨sv, hK, _, hd⟩ := ExRet_sound hpost
      exact ⟨v, rfl, hn sv _ v w' hK hS2 ⟨hA'.size, hA'.tm, hA'.defers⟩ (Mem.le_trans hle hle2) hlen (hd e).symm fun mods => (hls.evo mods w).called hold hsz hnew⟩
    · exact h.elim
  · exact h.elim

theorem seRO_sound {o : Oper} {cl : Call} (ho : o.op = .call cl) {K : SV → St → Prop} (h : seRO P s cl o.type K) (hS : Sat c e s w) (hA : SatA e s a) {next : Act → World → Prop} {Q : Exit → Act → World → Prop}
    (hn : ∀ (sv : SV) (s' : St) (x : Value) (w' : World), K sv s' → Sat c e s' w' → SatA e s' a → s.I.le s'.I → s'.tm.length = s.tm.length → x = den e sv → (∀ mods, Evo false mods s e w s' e w') → next (a.put o.dst x) w') :
    o.wpIn (Fr r) 0 P a w next Q := by
  obtain ⟨callee, args, ts⟩ := cl
  unfold seRO at h
  split at h
  · rename_i f hcal
    simp only at hcal
    subst hcal
    obtain ⟨s', h, hS', hA', hle, hlen, hls⟩ := hand_sound h hS hA
    split at h
    · rename_i fv vs hfv hvs
      obtain ⟨f1, f2⟩ := valS_den (e := e) hfv
      obtain ⟨v1, v2⟩ := valL_den (e := e) hvs
      have hf : a.eval f = fv := by rw [ev_ok hA' f f2, f1]
      have hargs : args.map a.eval = vs.toArray := by
        have : (args.toList.map (ev s')).all (fun x => !isJunk x) = true := by
          simp only [List.all_eq_true, Bool.not_eq_true']
          exact v2
        have h2 := evs_ok hA' this
        rw [v1] at h2
        rw [← h2, Array.toList_map.symm]
      refine wpIn_call (f := f) (args := args) (ts := ts) ho (R := _) (by rw [hf, hargs]; exact h w hS'.I (Mem.emp_inW w) (Mem.apart_emp _)) ?_
      intro en w' he
      obtain ⟨v, I', hp', rfl, h1, h2, _, _, h5, h6, h7, h8, hpost⟩ := he
      obtain ⟨sv, hK, _, hd⟩ := ExRet_sound hpost
      have hold : ∀ b, b < w.heap.size → w'.heap[b]? = w.heap[b]? := fun b hb => h7 b hb rfl
      have hI : s.I.inW w' := fun b o hb => h2 b o (h1 b o (hle b o hb))
      have hS2 : Sat c e { s with I := s.I } w' := hS.reads (Mem.le_refl _) hI (fun b _ h0 => h0) hold h5 h6
      exact ⟨v, rfl, hn sv s v w' hK hS2 hA (Mem.le_refl _) rfl (hd e).symm fun mods => ((Less.refl s).evo mods w).called (I' := s.I) hold h5 fun b _ h0 => h0⟩
    · exact h.elim
  · exact h.elim

end
end Go.SE
