/- A call that answers memory of its own, taken as a call whose new memory may be read. -/
import Derived.Test.YthfgpdjplknleaaGreatDoorSe23
namespace Go.SE
open Go.RowKit
theorem ct_of_h {P : Program} {fv : Value} {args : Array Value} {I : Mem} {post : Value → Mem → Prop} (h : CtH P fv args I Mem.emp fun v I' G' => I'.apart G' → post v (both I' G')) : Ct P fv args I post := by
  intro W hI hG hap
  refine (h W hI hG hap).mono ?_
  rintro en W' ⟨v, I', G', rfl, h1, h2, h3, h4, h5, h6, h7, h8, h9⟩
  refine ⟨v, both I' G', Mem.emp, rfl, Mem.le_trans h1 (both_le _ _), fun b o hb => ?_, Mem.emp_inW _, Mem.apart_emp _, h5, h6, h7, fun b hb hg => ⟨rfl, fun hi => ?_⟩, h9 h4⟩
  · unfold both at hb
    split at hb
    · cases hb; exact h2 _ _ (by assumption)
    · exact h3 b o hb
  · obtain ⟨g1, g2⟩ := h8 b hb hg
    simp only [both, g2 hi, g1]
def envZ : Env := { blk := fun _ => 0, cap := fun _ => 0, nil := fun _ => false }
theorem ownE_nil (e : Env) : OwnE e [] Mem.emp :=
  ⟨fun id x h => by simp at h, fun i j x y h => by simp at h, fun b hb => absurd rfl hb, fun id x b h => by simp at h⟩
theorem ct_rows {P : Program} {fv : SV} {args : List SV} {I : Mem} {post : SV → List Ent → Mem → Prop} {Q : Value → Mem → Prop} (h : CtS P fv args [] I post)
    (hq : ∀ (e : Env) (sv : SV) (H' : List Ent) (I' hp : Mem), I.le I' → post sv H' I' → OwnE e H' hp → I'.apart hp → Q (den e sv) (both I' hp)) : Ct P (den envZ fv) (denL envZ args).toArray I Q :=
  ct_of_h ((h envZ Mem.emp (ownE_nil _)).mono fun v I' hp hle ⟨e', sv, H', h1, h2, h3⟩ hap => by subst h1; exact hq e' sv H' I' hp hle h3 h2 hap)
theorem row_own {e : Env} {H : List Ent} {hp I : Mem} (hO : OwnE e H hp) (hap : I.apart hp) {i : Nat} {xs : List Value} {sz : Nat} {el : TypeId} (hi : H[i]? = some ⟨.row xs sz el, none⟩) : RowM (both I hp) (if e.nil i then none else some ⟨e.blk i, 0, none⟩) (e.cap i) sz xs := by
  obtain ⟨hsz, hn, hrow⟩ := hO.hold i _ hi rfl
  rcases hrow with ⟨h1, h2, rfl⟩ | ⟨hnil, cur, hb, h2, h3, h4, h5⟩
  · exact ⟨by simp, by rw [h2]; exact Nat.zero_le _, fun _ => ⟨rfl, h2⟩, fun j v hj => by simp at hj⟩
  · have hI : I (e.blk i) = none := (hap _).resolve_right (by rw [hb]; simp)
    refine ⟨by rw [← h2]; exact h4, h3, fun h => by simp [hnil] at h, fun j v hj => ?_⟩
    have hc : cur[j]? = some v := by
      rw [← h5] at hj
      rw [List.getElem?_take] at hj
      split at hj
      · simpa using hj
      · cases hj
    simp only [hnil, Bool.false_eq_true, if_false, atI, Option.bind_some, Addr.add_lit, Nat.zero_add, cellM]
    rw [both_own hI hb]
    simpa using hc
/-- A call that reads what is lent, and leaves it as it is. -/
theorem cts_read {P : Program} {fv : SV} {args : List SV} {H : List Ent} {I : Mem} {post : Value → Prop} (h : ∀ (e : Env) (hp : Mem), OwnE e H hp → I.apart hp → Ct P (den e fv) (denL e args).toArray (both I hp) (fun v _ => post v)) : CtS P fv args H I (fun sv H' _ => ∃ v, sv = .v v ∧ H' = H ∧ post v) := by
  intro e hp hO
  refine (ct_both fun hap => h e hp hO hap).mono ?_
  rintro v I' hp' _ ⟨rfl, rfl, I1, hv⟩
  exact ⟨e, .v v, H, by simp [den], hO, v, rfl, rfl, hv⟩
/-- A row that a call answers, or nil. -/
def RowN (sz : Nat) (el : TypeId) (I I' : Mem) (v : Value) (xs : List Value) : Prop :=
  ∃ a n c, v = .slice a n c ∧ xs.length = n * sz ∧ ((a = none ∧ n = 0 ∧ c = 0) ∨ RowF I I' a c sz xs el)
theorem cts_new {P : Program} {fv : Value} {args : List Value} {I : Mem} {sz : Nat} {el : TypeId} {xs : List Value} {n : Nat} (hz : 0 < sz) (hn : xs.length = n * sz) (h : Ct P fv args.toArray I (fun v I' => RowN sz el I I' v xs)) :
    CtS P (.v fv) (args.map .v) [] I (fun sv H' _ => sv = .rsl 0 n ∧ H' = [⟨.row xs sz el, none⟩]) := by
  intro e hp hO
  have hp0 : hp = Mem.emp := by
    funext b
    cases hb : hp b with
    | none => rfl
    | some o =>
      obtain ⟨id, x, hx, _⟩ := hO.dom b (by rw [hb]; simp)
      simp at hx
  subst hp0
  have ha : (denL e (args.map SV.v)).toArray = args.toArray := by
    rw [denL_eq, List.map_map]
    congr 1
    conv => rhs; rw [← List.map_id args]
    exact List.map_congr_left fun x _ => by simp [den]
  rw [ha, show den e (.v fv) = fv by simp [den]]
  intro W hI hG hap
  refine (h W hI (Mem.emp_inW W) (Mem.apart_emp _)).mono ?_
  rintro en W' ⟨v, I1, hp', rfl, h1, h2, h3, h4, h5, h6, h7, h8, ⟨a, m, c, rfl, hm, hr⟩⟩
  have hmn : m = n := Nat.eq_of_mul_eq_mul_right hz (hm.symm.trans hn)
  subst hmn
  have nilC : a = none → m = 0 → c = 0 → xs = [] → _ := fun ha hm0 hc hx => by
    subst ha hm0 hc hx
    exact (⟨_, I, Mem.emp, rfl, Mem.le_refl _, Mem.inW_of_le h1 h2, Mem.emp_inW _, Mem.apart_emp _, h5, h6, fun b hb _ => h7 b hb rfl, fun b hb _ => ⟨rfl, id⟩,
      { e with nil := fun _ => true, cap := fun _ => 0 }, .rsl 0 0, _, by simp [den], ⟨fun id x hx hal => by
        cases id with
        | zero =>
          simp only [List.getElem?_cons_zero, Option.some.injEq] at hx
          subst hx
          exact ⟨hz, ⟨0, by simp⟩, .inl ⟨rfl, rfl, rfl⟩⟩
        | succ k => simp at hx, fun i j x y hx hy _ _ hni => by simp at hni, fun b hb => absurd rfl hb, fun id x b hx hb => by
        cases id with
        | zero =>
          simp only [List.getElem?_cons_zero, Option.some.injEq] at hx
          subst hx
          cases hb
        | succ k => simp at hx⟩, rfl, rfl⟩ : SE.Ends I Mem.emp W (fun v I' hp' => ∃ e' sv H', v = den e' sv ∧ OwnE e' H' hp' ∧ sv = .rsl 0 0 ∧ H' = [⟨.row [] sz el, none⟩]) (.returned (.slice none 0 0)) W')
  rcases hr with ⟨ha, hm0, hc⟩ | hr
  · have hx : xs = [] := List.eq_nil_of_length_eq_zero (by rw [hm, hm0, Nat.zero_mul])
    have := nilC ha hm0 hc hx
    subst ha hm0 hc hx
    exact this
  · obtain ⟨r1, r2, r3, r4⟩ := hr.row
    cases a with
    | none =>
      obtain ⟨hx, hc⟩ := r3 rfl
      have hm0 : m = 0 := by
        rw [hx, List.length_nil] at hm
        rcases Nat.mul_eq_zero.1 hm.symm with h | h
        · exact h
        · omega
      have := nilC rfl hm0 hc hx
      subst hm0 hc hx
      exact this
    | some ad =>
      obtain ⟨n1, n2, n3, cur, hb1, hcs⟩ := hr.new ad rfl
      obtain ⟨b, off, spot⟩ := ad
      simp only at n1 n2 n3 hb1
      subst n2 n3
      have hnew : W.heap.size ≤ b := by
        rcases Nat.lt_or_ge b W.heap.size with hlt | hge
        · have := (h8 b hlt rfl).2 n1
          rw [hb1] at this
          cases this
        · exact hge
      refine ⟨_, I, fun x => if x = b then I1 b else none, rfl, Mem.le_refl _, Mem.inW_of_le h1 h2, fun x o hx => ?_, fun x => ?_, h5, h6, fun b hb _ => h7 b hb rfl, fun x hx _ => ⟨if_neg (by omega), id⟩,
        { e with nil := fun _ => false, cap := fun _ => c, blk := fun _ => b }, .rsl 0 m, _, by simp [den], ⟨fun id x hx hal => ?_, fun i j x y hx hy _ _ _ _ hij => ?_, fun x hx => ?_, fun id x b hx hb => ?_⟩, rfl, rfl⟩
      · simp only at hx
        split at hx
        · rename_i h; subst h; exact h2 _ _ hx
        · cases hx
      · by_cases hxb : x = b
        · subst hxb; exact .inl n1
        · exact .inr (if_neg hxb)
      · cases id with
        | zero =>
          simp only [List.getElem?_cons_zero, Option.some.injEq] at hx
          subst hx
          refine ⟨hz, ⟨m, hm⟩, .inr ⟨rfl, cur, by simp only [if_true]; exact hb1, hcs, r2, by rw [hcs]; exact r1, ?_⟩⟩
          apply List.ext_getElem?
          intro j
          rw [List.getElem?_take]
          split
          · rename_i hj
            have h4 := r4 j _ (List.getElem?_eq_getElem hj)
            simp only [atI, Option.bind_some, Addr.add_lit, Nat.zero_add, cellM, hb1] at h4
            rw [List.getElem?_eq_getElem hj, ← h4]
            simp
          · rename_i hj
            rw [List.getElem?_eq_none (by omega)]
        | succ k => simp at hx
      · cases i with
        | zero => cases j with
          | zero => exact absurd rfl hij
          | succ k => simp at hy
        | succ k => simp at hx
      · by_cases h : x = b
        · subst h; exact ⟨0, _, rfl, rfl, rfl, rfl⟩
        · exact absurd (if_neg h) hx
      · cases id with
        | zero =>
          simp only [List.getElem?_cons_zero, Option.some.injEq] at hx
          subst hx
          cases hb
        | succ k => simp at hx
end Go.SE
