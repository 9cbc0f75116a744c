/- A call that reads a row that is lent, and leaves it as it is. -/
import Derived.Test.YthfgpdjplknleaaGreatDoorSe22
namespace Go.SE
open Go.RowKit
def rowA (e : Env) : Option Addr := if e.nil 0 then none else some ⟨e.blk 0, 0, none⟩
theorem row_lent {e : Env} {hp I : Mem} {xs : List Value} {sz : Nat} {el : TypeId} (hO : OwnE e [⟨.row xs sz el, none⟩] hp) (hap : I.apart hp) : RowM (both I hp) (rowA e) (e.cap 0) sz xs := by
  obtain ⟨hsz, hn, hrow⟩ := hO.hold 0 _ rfl rfl
  rcases hrow with ⟨h1, h2, rfl⟩ | ⟨hnil, cur, hb, h2, h3, h4, h5⟩
  · exact ⟨by simp, by rw [h2]; exact Nat.zero_le _, fun _ => ⟨rfl, h2⟩, fun j v hj => by simp at hj⟩
  · have hI : I (e.blk 0) = none := (hap _).resolve_right (by rw [hb]; simp)
    refine ⟨by rw [← h2]; exact h4, h3, fun h => by simp [rowA, hnil] at h, fun j v hj => ?_⟩
    have hc : cur[j]? = some v := by
      rw [← h5] at hj
      rw [List.getElem?_take] at hj
      split at hj
      · simpa using hj
      · cases hj
    simp only [rowA, hnil, Bool.false_eq_true, if_false, atI, Option.bind_some, Addr.add_lit, Nat.zero_add, cellM]
    rw [both_own hI hb]
    simpa using hc
theorem ctS_read {P : Program} {fv : SV} {args : List SV} {xs : List Value} {sz : Nat} {el : TypeId} {I : Mem} {Q : SV → Prop}
    (h : ∀ (e : Env) (J : Mem), I.le J → RowM J (rowA e) (e.cap 0) sz xs → Ct P (den e fv) (denL e args).toArray J fun v _ => ∃ sv, v = den e sv ∧ Q sv) :
    CtS P fv args [⟨.row xs sz el, none⟩] I fun sv H' I' => Q sv ∧ H' = [⟨.row xs sz el, none⟩] ∧ I' = I := by
  intro e hp hO
  intro W hI hG hap
  refine ((ct_both (G := hp) (I := I) (post := fun v _ => ∃ sv, v = den e sv ∧ Q sv) (fun hap => h e (both I hp) (both_le I hp) (row_lent hO hap))).mono ?_) W hI hG hap
  rintro v I' hp' _ ⟨rfl, rfl, _, sv, h1, h2⟩
  exact ⟨e, sv, _, h1, hO, h2, rfl, rfl⟩
/-- A call that answers a slice with no memory: it may be taken for an own row that is empty. -/
theorem ctS_nil {P : Program} {f : Value} {args : List Value} {I : Mem} {sz : Nat} {el : TypeId} (hsz : 0 < sz) (h : Ct P f args.toArray I fun v _ => v = .slice none 0 0) :
    CtS P (.v f) (args.map .v) [] I fun sv H' _ => sv = .rsl 0 0 ∧ H' = [⟨.row [] sz el, none⟩] := by
  intro e hp hO
  have hemp : hp = Mem.emp := by
    funext b
    cases hb : hp b with
    | none => rfl
    | some o =>
      obtain ⟨id, x, hx, _⟩ := hO.dom b (by rw [hb]; simp)
      simp at hx
  subst hemp
  intro W hI hG hap
  have hargs : (denL e (args.map .v)).toArray = args.toArray := by
    have : denL e (args.map SV.v) = args := by
      rw [denL_eq, List.map_map]
      conv => rhs; rw [← List.map_id args]
      apply List.map_congr_left
      intro v _
      rfl
    rw [this]
  rw [hargs]
  refine (h W hI hG hap).mono ?_
  rintro en W' ⟨v, I1, hp', rfl, h1, h2, h3, h4, h5, h6, h7, h8, h9⟩
  refine ⟨v, I1, Mem.emp, rfl, h1, h2, Mem.emp_inW _, Mem.apart_emp _, h5, h6, fun b hb _ => h7 b hb rfl, fun b hb _ => ⟨rfl, (h8 b hb rfl).2⟩, ⟨fun _ => 0, fun _ => 0, fun _ => true⟩, .rsl 0 0, _, ?_, ⟨fun id x hx hal => ?_, fun i j x y hx hy _ _ hn => ?_, fun b hb => absurd rfl hb, fun id x b hx hnm => ?_⟩, rfl, rfl⟩
  · rw [h9]; rfl
  · cases id with
    | zero => cases hx; exact ⟨hsz, ⟨0, by simp⟩, .inl ⟨rfl, rfl, rfl⟩⟩
    | succ _ => simp at hx
  · cases hn
  · cases id with
    | zero => cases hx; cases hnm
    | succ _ => simp at hx
/-- What is in a memory beside another one. -/
def beside (I I1 : Mem) : Mem := fun b => match I b with
  | some _ => none
  | none => I1 b
theorem both_beside {I I1 : Mem} (h : I.le I1) : both I (beside I I1) = I1 := by
  funext b
  unfold both beside
  cases hb : I b with
  | some o => exact (h b o hb).symm
  | none => rfl
theorem le_beside {I I1 G : Mem} (hap : I.apart G) (h : (both I G).le I1) : G.le (beside I I1) := fun b o hb => by
  have hi : I b = none := (hap b).resolve_right (by rw [hb]; simp)
  unfold beside
  rw [hi]
  exact h b o (both_own hi hb)
/-- A call that reads what is owned, too; its new memory is owned. -/
theorem ct_bothN {P : Program} {fv : Value} {args : Array Value} {I G : Mem} {post : Value → Mem → Prop} (h : I.apart G → Ct P fv args (both I G) post) :
    CtH P fv args I G fun v I' G' => I' = I ∧ G.le G' ∧ (both I G).le (both I G') ∧ post v (both I G') := by
  intro W hI hG hap
  have hB : (both I G).inW W := fun b o hb => by
    unfold both at hb
    split at hb
    · cases hb; exact hI _ _ (by assumption)
    · exact hG b o hb
  refine (h hap W hB (Mem.emp_inW W) (Mem.apart_emp _)).mono ?_
  rintro en W' ⟨v, I1, hp', rfl, h1, h2, h3, h4, h5, h6, h7, h8, h9⟩
  have keep : ∀ {M : Mem}, M.inW W → M.inW W' := fun hM b o hb => by
    rw [h7 b (Mem.inW_lt hM hb) rfl]; exact hM b o hb
  have hle : I.le I1 := Mem.le_trans (both_le I G) h1
  refine ⟨v, I, beside I I1, rfl, Mem.le_refl _, keep hI, fun b o hb => ?_, fun b => ?_, h5, h6, fun b hb _ => h7 b hb rfl, fun b hlt hg => ⟨?_, id⟩, rfl, le_beside hap h1, by rw [both_beside hle]; exact h1, by rw [both_beside hle]; exact h9⟩
  · unfold beside at hb
    split at hb
    · cases hb
    · exact h2 b o hb
  · unfold beside
    cases hb : I b with
    | none => exact .inl rfl
    | some o => exact .inr rfl
  · unfold beside
    cases hb : I b with
    | some o => rfl
    | none => exact (h8 b hlt rfl).2 (by unfold both; rw [hb]; exact hg)
end Go.SE
