/- All quiet operations in one function, 'seQ'. -/
import Derived.Test.YthfgpdjplknleaaGreatDoorSe6
import Derived.Laws.IdiomStrings
namespace Go.SE
open Go.RowKit

section
variable {P : Program} {c : Ctx} {s : St} {K : SV → Prop}

theorem sConv_sound {src dst : TypeId} {x : Operand} (h : sConv P s src dst (ev s x) K) : ∃ sv, K sv ∧ RunsTo P (.convert src dst x) c s sv := by
  unfold sConv at h
  split at h
  · rename_i ds k k' n hu1 hu2 hx
    obtain ⟨v, hv, hK⟩ := h
    refine ⟨_, hK, .of fun e a w hS hA d ty pos af g => ?_⟩
    cases ds <;> simp [execOp, ev_v hA hx, convert, run_underlying hu1, run_underlying hu2, Conv.intToInt, hv, den]
  · rename_i ds q hu1 hu2 hx
    refine ⟨_, h, .of fun e a w hS hA d ty pos af g => ?_⟩
    cases ds <;> simp [execOp, ev_v hA hx, convert, run_underlying hu1, run_underlying hu2, den]
  · rename_i el ad n cp hu1 hu2 hx
    split at h
    · rename_i hu3
      obtain ⟨q, hq, hnil, hc, hK⟩ := h
      subst hq
      refine ⟨_, hK, .of fun e a w hS hA d ty pos af g => ?_⟩
      cases ad with
      | none =>
        have h0 := hnil rfl
        have : q = [] := List.length_eq_zero_iff.1 h0
        subst this
        simp only [execOp, ev_v hA hx, Sem.run_bind, run_convert_bytes_string w src dst el _ _ _ hu1 hu3 hu2]
        simp [Conv.bytesToString, den]
        rfl
      | some ad =>
        have := run_convert_bytes_back (P := P) w src dst el ad cp q hu1 hu3 hu2 (fun j hj => by
          obtain ⟨_, h1, h2⟩ := ep_cells hS.I (hc j q[j] (List.getElem?_eq_getElem hj))
          cases h1
          exact h2)
        simp [execOp, ev_v hA hx, this, den]
    · exact h.elim
  · rename_i el id len hu1 hu2 hx
    split at h
    · rename_i xs sz el' nm hu3 hH
      obtain ⟨q, hq, hc, hK⟩ := h
      subst hq
      refine ⟨_, hK, .of fun e a w hS hA d ty pos af g => ?_⟩
      cases hn : e.nil id with
      | true =>
        have hh := (hS.owned id _ hH rfl).1
        simp only [holds] at hh
        have : xs = [] := by
          rcases hh.2.2 with ⟨_, _, h0⟩ | ⟨h0, _⟩
          · exact h0
          · rw [hn] at h0; cases h0
        subst this
        have : q = [] := by simpa using hc
        subst this
        simp only [execOp, ev_d hA hx rfl, den, hn, if_true, Sem.run_bind, run_convert_bytes_string w src dst el _ _ _ hu1 hu3 hu2]
        simp [Conv.bytesToString]
        rfl
      | false =>
        have := run_convert_bytes_back (P := P) w src dst el ⟨e.blk id, 0, none⟩ (e.cap id) q hu1 hu3 hu2 (fun j hj => by
          have h1 : xs[j]? = some (.int .u8 q[j].toNat) := by
            have h2 : (xs.take q.length)[j]? = some (.int .u8 q[j].toNat) := by rw [hc]; simp [List.getElem?_eq_getElem hj]
            rw [List.getElem?_take] at h2
            rwa [if_pos hj] at h2
          rw [Addr.add_lit, Nat.zero_add]
          exact (holds_row_owned hS hH _ _ h1).2)
        simp [execOp, ev_d hA hx rfl, this, den, hn]
    · exact h.elim
  · exact h.elim

end

def sBuiltin (P : Program) (s : St) (b : Builtin) (args : List Operand) (ts : List TypeId) (K : SV → Prop) : Prop :=
  match b, args, ts with
  | .len, [x], [t] => sLen P t (ev s x) K
  | .cap, [x], [t] => sCap P t (ev s x) K
  | .min, [x, y], _ => sMin false (ev s x) (ev s y) K
  | .max, [x, y], _ => sMin true (ev s x) (ev s y) K
  | _, _, _ => False

/-- Is an interface's value nil? -/
def isNilI : Value → Bool
  | .nilIface => true
  | _ => false
def isIfT (P : Program) (t : TypeId) : Bool :=
  match P.underlying t with
  | some (.interface _) => true
  | _ => false
/-- Operations of two operands; an interface's value may be held against nil. -/
def seBin (P : Program) (s : St) (op : BinOp) (t : TypeId) (x y : Operand) (K : SV → Prop) : Prop :=
  match op, y, ev s x with
  | .eql, .const .nilIface, .v v => if isIfT P t then (v = .nilIface ∨ ∃ tp p, v = .iface tp p) ∧ K (.v (.bool (isNilI v))) else sBin P op t (ev s x) (ev s y) K
  | .neq, .const .nilIface, .v v => if isIfT P t then (v = .nilIface ∨ ∃ tp p, v = .iface tp p) ∧ K (.v (.bool (!isNilI v))) else sBin P op t (ev s x) (ev s y) K
  | _, _, _ => sBin P op t (ev s x) (ev s y) K
theorem seBin_sound {P : Program} {op : BinOp} {t yt : TypeId} {x y : Operand} {c : Ctx} {s : St} {K : SV → Prop} (h : seBin P s op t x y K) :
    ∃ sv, K sv ∧ RunsTo P (.binOp op t x y yt) c s sv := by
  have key : ∀ v : Value, isIfT P t = true → (v = .nilIface ∨ ∃ tp p, v = .iface tp p) → ∀ (w : World) (p : Operand), (do eqGuard .eql t p (.const .nilIface) v .nilIface; binOp .eql t v .nilIface : Sem Value).run P w = .ok (.bool (isNilI v)) w ∧
      (do eqGuard .neq t p (.const .nilIface) v .nilIface; binOp .neq t v .nilIface : Sem Value).run P w = .ok (.bool (!isNilI v)) w := by
    intro v hu hv w p
    unfold isIfT at hu
    split at hu
    · rename_i hu2
      have e1 : ∀ d, (Op.equalIn (d + 1) t v .nilIface).run P w = .ok (isNilI v) w := fun d => by
        rcases hv with rfl | ⟨tp, q, rfl⟩
        · simp [Op.equalIn, run_underlying hu2, isNilI]
        · simp [Op.equalIn, run_underlying hu2, isNilI]
      have e2 : (Op.equal t v .nilIface).run P w = .ok (isNilI v) w := e1 9999
      rcases hv with rfl | ⟨tp, q, rfl⟩
      · simp only [eqGuard, binOp]
        constructor <;> simp [e2, isNilI]
      · simp only [eqGuard, binOp]
        constructor <;> simp [e2, isNilI]
    · cases hu
  unfold seBin at h
  split at h
  · rename_i v hx
    split at h
    · rename_i hu
      refine ⟨_, h.2, .of fun e a' w _ hA d ty pos af g => ?_⟩
      have h1 := ev_v hA hx
      have h2 : a'.eval (.const .nilIface) = .nilIface := rfl
      have h3 := (key v hu h.1 w x).1
      simp only [execOp, h1, h2]
      rw [Sem.run_bind, h3]
      simp [den]
    · exact sBin_sound h
  · rename_i v hx
    split at h
    · rename_i hu
      refine ⟨_, h.2, .of fun e a' w _ hA d ty pos af g => ?_⟩
      have h1 := ev_v hA hx
      have h2 : a'.eval (.const .nilIface) = .nilIface := rfl
      have h3 := (key v hu h.1 w x).2
      simp only [execOp, h1, h2]
      rw [Sem.run_bind, h3]
      simp [den]
    · exact sBin_sound h
  · exact sBin_sound h

/-- A QUIET OPERATION: what is to be shown, and the value that it gives. -/
def seQ (P : Program) (s : St) (o : Op) (K : SV → Prop) : Prop :=
  match o with
  | .move x => K (ev s x)
  | .assign x => K (ev s x)
  | .pick c x y => match ev s c with
    | .v (.bool t) => Br t (K (ev s x)) (K (ev s y))
    | _ => False
  | .binOp op t x y _ => seBin P s op t x y K
  | .unOp op _ x => sUn op (ev s x) K
  | .convert src dst x => sConv P s src dst (ev s x) K
  | .extract x i => sExtract (ev s x) i K
  | .field t x f => sField P t (ev s x) f K
  | .index t x i => sIndex P t (ev s x) i (ev s i) K
  | .indexAddr t x i => sIndexAddr P s t (ev s x) i (ev s i) K
  | .fieldAddr t x f => sFieldAddr P t (ev s x) f K
  | .slice t x lo hi mx => sSlice P s t (ev s x) lo hi mx K
  | .load t x => sLoad P s t (ev s x) K
  | .build t ps => sBuild P s t ps.toList K
  | .makeInterface t x => sMkIface P t (ev s x) K
  | .makeFunc f a b => if (a.toList.map (ev s)).all (fun x => !isJunk x) && (b.toList.map (ev s)).all (fun x => !isJunk x) then K (.fn f (a.toList.map (ev s)) (b.toList.map (ev s))) else False
  | .nilCheck x => sNilCheck (ev s x) K
  | .call c => match c.callee with
    | .builtin b => sBuiltin P s b c.args.toList c.argTypes.toList K
    | _ => False
  | _ => False

theorem evs_ok {e : Env} {s : St} {a : Act} (hA : SatA e s a) {l : List Operand} (h : (l.map (ev s)).all (fun x => !isJunk x) = true) :
    l.map a.eval = denL e (l.map (ev s)) := by
  rw [denL_eq, List.map_map]
  refine List.map_congr_left fun x hx => ?_
  simp only [List.all_eq_true, List.mem_map, Bool.not_eq_true', forall_exists_index, and_imp, forall_apply_eq_imp_iff₂] at h
  exact ev_ok hA x (h x hx)

theorem seQ_sound {P : Program} {c : Ctx} {s : St} {o : Op} {K : SV → Prop} (h : seQ P s o K) : ∃ sv, K sv ∧ RunsTo P o c s sv := by
  unfold seQ at h
  split at h
  · rename_i x
    refine ⟨_, h, fun e a w _ hA => ⟨a.eval x, fun d ty pos af g => by simp [execOp], ?_⟩⟩
    cases hj : isJunk (ev s x)
    · exact .inr (ev_ok hA x hj)
    · exact .inl rfl
  · rename_i x
    refine ⟨_, h, fun e a w _ hA => ⟨a.eval x, fun d ty pos af g => by simp [execOp], ?_⟩⟩
    cases hj : isJunk (ev s x)
    · exact .inr (ev_ok hA x hj)
    · exact .inl rfl
  · rename_i b x y
    split at h
    · rename_i t ht
      cases t with
      | true =>
        refine ⟨_, h, fun e a w _ hA => ⟨a.eval x, fun d ty pos af g => by simp [execOp, ev_v hA ht, asBool], ?_⟩⟩
        cases hj : isJunk (ev s x)
        · exact .inr (ev_ok hA x hj)
        · exact .inl rfl
      | false =>
        refine ⟨_, h, fun e a w _ hA => ⟨a.eval y, fun d ty pos af g => by simp [execOp, ev_v hA ht, asBool], ?_⟩⟩
        cases hj : isJunk (ev s y)
        · exact .inr (ev_ok hA y hj)
        · exact .inl rfl
    · exact h.elim
  · exact seBin_sound h
  · exact sUn_sound h
  · exact sConv_sound h
  · exact sExtract_sound h
  · exact sField_sound h
  · exact sIndex_sound h
  · exact sIndexAddr_sound h
  · exact sFieldAddr_sound h
  · exact sSlice_sound h
  · exact sLoad_sound h
  · exact sBuild_sound h
  · exact sMkIface_sound h
  · split at h
    · rename_i f l1 l2 hc
      simp only [Bool.and_eq_true] at hc
      refine ⟨_, h, .of fun e a w _ hA d ty pos af g => ?_⟩
      have e1 := evs_ok hA hc.1
      have e2 := evs_ok hA hc.2
      have m1 : ∀ l : Array Operand, l.map a.eval = (l.toList.map a.eval).toArray := fun l => by rw [← Array.toList_map]
      simp only [execOp, Instr.makeFunc, Sem.run_bind, Sem.run_pure, Result.andThen_ok, den, ← e1, ← e2, m1]
    · exact h.elim
  · exact sNilCheck_sound h
  · rename_i cl
    obtain ⟨callee, args, ts⟩ := cl
    simp only at h
    split at h
    · rename_i b
      unfold sBuiltin at h
      split at h
      · rename_i x t h1 h2
        obtain rfl : args = #[x] := by rw [← Array.toList_inj]; exact h1
        obtain rfl : ts = #[t] := by rw [← Array.toList_inj]; exact h2
        exact sLen_sound h
      · rename_i x t h1 h2
        obtain rfl : args = #[x] := by rw [← Array.toList_inj]; exact h1
        obtain rfl : ts = #[t] := by rw [← Array.toList_inj]; exact h2
        exact sCap_sound h
      · rename_i x y h1
        obtain rfl : args = #[x, y] := by rw [← Array.toList_inj]; exact h1
        exact sMin_sound h
      · rename_i x y h1
        obtain rfl : args = #[x, y] := by rw [← Array.toList_inj]; exact h1
        exact sMin_sound h
      · exact h.elim
    · exact h.elim
  · exact h.elim

end Go.SE
