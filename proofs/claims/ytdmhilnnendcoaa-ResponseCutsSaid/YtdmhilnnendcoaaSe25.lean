/- A call that answers memory of its own, taken as a call whose new memory may be read. -/
import Derived.Test.YtdmhilnnendcoaaSe23
namespace Go.SE
open Go.RowKit
theorem ct_of_h {P : Program} {fv : Value} {args : Array Value} {I : Mem} {post : Value → Mem → Prop} (h : CtH P fv args I Mem.emp fun v I' G' => I'.apart G' → post v (both I' G')) : Ct P fv args I post := by
  intro W hI hG hap
  refine (h W hI hG hap).mono ?_
  rintro en W' ⟨v, I', G', rfl, h1, h2, h3, h4, h5, h6, h7, h8, h9⟩
  refine ⟨v, both I' G', Mem.emp, rfl, Mem.le_trans h1 (both_le _ _), fun b o hb => ?_, Mem.emp_inW _, Mem.apart_emp _, h5, h6, h7, fun b hb hg => ⟨rfl, fun hi => ?_⟩, h9 h4⟩
  · unfold both at hb
    split at hb
    · cases hb; exact h2 _ _ (by assumption)
    · exact h3 b o hb
  · obtain ⟨g1, g2⟩ := h8 b hb hg
    simp only [both, g2 hi, g1]
def envZ : Env := { blk := fun _ => 0, cap := fun _ => 0, nil := fun _ => false }
theorem ownE_nil (e : Env) : OwnE e [] Mem.emp :=
  ⟨fun id x h => by simp at h, fun i j x y h => by simp at h, fun b hb => absurd rfl hb, fun id x b h => by simp at h⟩
theorem ct_rows {P : Program} {fv : SV} {args : List SV} {I : Mem} {post : SV → List Ent → Mem → Prop} {Q : Value → Mem → Prop} (h : CtS P fv args [] I post)
    (hq : ∀ (e : Env) (sv : SV) (H' : List Ent) (I' hp : Mem), I.le I' → post sv H' I' → OwnE e H' hp → I'.apart hp → Q (den e sv) (both I' hp)) : Ct P (den envZ fv) (denL envZ args).toArray I Q :=
  ct_of_h ((h envZ Mem.emp (ownE_nil _)).mono fun v I' hp hle ⟨e', sv, H', h1, h2, h3⟩ hap => by subst h1; exact hq e' sv H' I' hp hle h3 h2 hap)
theorem row_own {e : Env} {H : List Ent} {hp I : Mem} (hO : OwnE e H hp) (hap : I.apart hp) {i : Nat} {xs : List Value} {sz : Nat} {el : TypeId} (hi : H[i]? = some ⟨.row xs sz el, none⟩) : RowM (both I hp) (if e.nil i then none else some ⟨e.blk i, 0, none⟩) (e.cap i) sz xs := by
  obtain ⟨hsz, hn, hrow⟩ := hO.hold i _ hi rfl
  rcases hrow with ⟨h1, h2, rfl⟩ | ⟨hnil, cur, hb, h2, h3, h4, h5⟩
  · exact ⟨by simp, by rw [h2]; exact Nat.zero_le _, fun _ => ⟨rfl, h2⟩, fun j v hj => by simp at hj⟩
  · have hI : I (e.blk i) = none := (hap _).resolve_right (by rw [hb]; simp)
    refine ⟨by rw [← h2]; exact h4, h3, fun h => by simp [hnil] at h, fun j v hj => ?_⟩
    have hc : cur[j]? = some v := by
      rw [← h5] at hj
      rw [List.getElem?_take] at hj
      split at hj
      · simpa using hj
      · cases hj
    simp only [hnil, Bool.false_eq_true, if_false, atI, Option.bind_some, Addr.add_lit, Nat.zero_add, cellM]
    rw [both_own hI hb]
    simpa using hc
end Go.SE
