/- Slicing, lengths, conversions, parts put together; and all quiet operations in one function, 'seQ'. -/
import Derived.Test.YthfgpdjplknleaaGreatDoorSe4
namespace Go.SE
open Go.RowKit

/-- Slicing. -/
def sSlice (P : Program) (s : St) (t : TypeId) (x : SV) (lo hi : Option Operand) (mx : Option Operand) (K : SV → Prop) : Prop :=
  match mx, P.underlying t, x, bnd s lo, bnd s hi with
  | none, some (.slice el), .v (.slice a n c), some lo', some hi' => match szT P el, lo', hi' with
    | some _, none, none => K (.v (.slice a n c))
    | some _, none, some h => 0 ≤ h ∧ h ≤ c ∧ K (.v (.slice a h.toNat c))
    | some z, some l, none => 0 ≤ l ∧ l ≤ n ∧ K (.v (.slice (sladdr a c l.toNat z) (n - l.toNat) (c - l.toNat)))
    | some z, some l, some h => 0 ≤ l ∧ l ≤ h ∧ h ≤ c ∧ K (.v (.slice (sladdr a c l.toNat z) (h.toNat - l.toNat) (c - l.toNat)))
    | none, _, _ => False
  | none, some (.slice el), .rsl id len, some none, some (some h) => match szT P el, s.H[id]? with
    | some _, some ⟨.row xs sz _, _⟩ => 0 ≤ h ∧ h ≤ len ∧ len * sz ≤ xs.length ∧ K (.rsl id h.toNat)
    | _, _ => False
  | none, some (.array n el), .ptr id off, some lo', some hi' => match szT P el, lo', hi' with
    | some _, none, none => K (.xsl id off n n)
    | some _, none, some h => 0 ≤ h ∧ h ≤ n ∧ K (.xsl id off h.toNat n)
    | some z, some l, none => 0 ≤ l ∧ l < n ∧ K (.xsl id (off + l.toNat * z) (n - l.toNat) (n - l.toNat))
    | some z, some l, some h => 0 ≤ l ∧ l < n ∧ l ≤ h ∧ h ≤ n ∧ K (.xsl id (off + l.toNat * z) (h.toNat - l.toNat) (n - l.toNat))
    | none, _, _ => False
  | none, some .string, .v (.string q), some lo', some hi' => match lo', hi' with
    | none, none => K (.v (.string (q.extract 0 q.size)))
    | none, some h => 0 ≤ h ∧ h ≤ q.size ∧ K (.v (.string (q.extract 0 h.toNat)))
    | some l, none => 0 ≤ l ∧ l ≤ q.size ∧ K (.v (.string (q.extract l.toNat q.size)))
    | some l, some h => 0 ≤ l ∧ l ≤ h ∧ h ≤ q.size ∧ K (.v (.string (q.extract l.toNat h.toNat)))
  | _, _, _, _, _ => False

theorem run_bound {P : Program} {w : World} {k : IntKind} {i : Int} {y : Nat} {cd : BoundsCode} (h0 : 0 ≤ i) (h1 : i ≤ y) :
    (Instr.sliceBound (.int k i) y cd).run P w = .ok i.toNat w := by
  simp [Instr.sliceBound, asIntOf, h0, h1]

theorem sladdr_zero (a : Option Addr) (c z : Nat) : sladdr a c 0 z = a := by
  unfold sladdr
  split
  · rfl
  · cases a <;> simp [Addr.add]

section
variable {P : Program} {c : Ctx} {s : St} {K : SV → Prop}

theorem sSlice_sound {t : TypeId} {x : Operand} {lo hi mx : Option Operand} (h : sSlice P s t (ev s x) lo hi mx K) : ∃ sv, K sv ∧ RunsTo P (.slice t x lo hi mx) c s sv := by
  unfold sSlice at h
  split at h
  · rename_i el ad n cp lo' hi' hu hx hlo hhi
    split at h
    · rename_i z hz
      refine ⟨_, h, .of fun e a w hS hA d ty pos af g => ?_⟩
      rcases bnd_run hA hlo with ⟨_, _, hh, _⟩ | ⟨_, hl1⟩
      · cases hh
      rcases bnd_run hA hhi with ⟨_, _, hh, _⟩ | ⟨_, hh1⟩
      · cases hh
      simp [execOp, ev_v hA hx, hl1, hh1, Instr.sliceAt, run_underlying hu, Instr.slice, Instr.sliceBounds, run_szT hz, den]
      intro _
      cases ad <;> simp [Addr.add]
    · obtain ⟨h0, h1, hK⟩ := h
      rename_i z q hz
      refine ⟨_, hK, .of fun e a w hS hA d ty pos af g => ?_⟩
      rcases bnd_run hA hlo with ⟨_, _, hh, _⟩ | ⟨_, hl1⟩
      · cases hh
      rcases bnd_run hA hhi with ⟨k, m, hh, hh1⟩ | ⟨hh, _⟩
      · cases hh
        simp [execOp, ev_v hA hx, hl1, hh1, Instr.sliceAt, run_underlying hu, Instr.slice, Instr.sliceBounds, run_bound h0 h1, run_szT hz, den]
        intro hc
        cases ad <;> simp [Addr.add]
      · cases hh
    · obtain ⟨h0, h1, hK⟩ := h
      rename_i z q hz
      refine ⟨_, hK, .of fun e a w hS hA d ty pos af g => ?_⟩
      rcases bnd_run hA hlo with ⟨k, m, hh, hl1⟩ | ⟨hh, _⟩
      · cases hh
        rcases bnd_run hA hhi with ⟨_, _, hh, _⟩ | ⟨_, hh1⟩
        · cases hh
        simp [execOp, ev_v hA hx, hl1, hh1, Instr.sliceAt, run_underlying hu, Instr.slice, Instr.sliceBounds, run_bound h0 h1, run_szT hz, den, sladdr]
      · cases hh
    · obtain ⟨h0, h1, h2, hK⟩ := h
      rename_i z q q2 hz
      refine ⟨_, hK, .of fun e a w hS hA d ty pos af g => ?_⟩
      rcases bnd_run hA hlo with ⟨k, m, hh, hl1⟩ | ⟨hh, _⟩
      · cases hh
        rcases bnd_run hA hhi with ⟨k2, m2, hh, hh1⟩ | ⟨hh, _⟩
        · cases hh
          have h02 : 0 ≤ q2 := by omega
          have h12 : q ≤ ((q2.toNat : Nat) : Int) := by omega
          simp [execOp, ev_v hA hx, hl1, hh1, Instr.sliceAt, run_underlying hu, Instr.slice, Instr.sliceBounds, run_bound h02 h2, run_bound h0 h12, run_szT hz, den, sladdr]
        · cases hh
      · cases hh
    · exact h.elim
  · rename_i el id len hq hu hx hlo hhi
    split at h
    · rename_i z xs sz el' nm hz hH
      obtain ⟨h0, h1, h2, hK⟩ := h
      refine ⟨_, hK, .of fun e a w hS hA d ty pos af g => ?_⟩
      rcases bnd_run hA hlo with ⟨_, _, hh, _⟩ | ⟨_, hl1⟩
      · cases hh
      rcases bnd_run hA hhi with ⟨k, m, hh, hh1⟩ | ⟨hh, _⟩
      · cases hh
        have hrow := (hS.owned id _ hH rfl).1
        simp only [holds] at hrow
        have hle : hq ≤ ((e.cap id : Nat) : Int) := by
          have hp := hrow.1
          rcases hrow.2.2 with ⟨_, hc, rfl⟩ | ⟨_, arr, h3, h4, h5, h6, h7⟩
          · simp only [List.length_nil, Nat.le_zero, Nat.mul_eq_zero] at h2
            omega
          · rw [h4] at h6
            have : len ≤ e.cap id := Nat.le_of_mul_le_mul_right (Nat.le_trans h2 h6) hp
            omega
        simp [execOp, ev_d hA hx rfl, hl1, hh1, Instr.sliceAt, run_underlying hu, Instr.slice, Instr.sliceBounds, run_bound h0 hle, run_szT hz, den]
        intro hc
        cases e.nil id <;> simp [Addr.add]
      · cases hh
    · exact h.elim
  · rename_i n el id off lo' hi' hu hx hlo hhi
    split at h
    · rename_i z hz
      refine ⟨_, h, .of fun e a w hS hA d ty pos af g => ?_⟩
      rcases bnd_run hA hlo with ⟨_, _, hh, _⟩ | ⟨_, hl1⟩
      · cases hh
      rcases bnd_run hA hhi with ⟨_, _, hh, _⟩ | ⟨_, hh1⟩
      · cases hh
      simp [execOp, ev_d hA hx rfl, hl1, hh1, Instr.sliceAt, run_underlying hu, Instr.sureAddr, Instr.sliceBounds, run_szT hz, den, Addr.add_lit]
    · obtain ⟨h0, h1, hK⟩ := h
      rename_i z q hz
      refine ⟨_, hK, .of fun e a w hS hA d ty pos af g => ?_⟩
      rcases bnd_run hA hlo with ⟨_, _, hh, _⟩ | ⟨_, hl1⟩
      · cases hh
      rcases bnd_run hA hhi with ⟨k, m, hh, hh1⟩ | ⟨hh, _⟩
      · cases hh
        simp [execOp, ev_d hA hx rfl, hl1, hh1, Instr.sliceAt, run_underlying hu, Instr.sureAddr, Instr.sliceBounds, run_bound h0 h1, run_szT hz, den, Addr.add_lit]
      · cases hh
    · obtain ⟨h0, h1, hK⟩ := h
      rename_i z q hz
      refine ⟨_, hK, .of fun e a w hS hA d ty pos af g => ?_⟩
      rcases bnd_run hA hlo with ⟨k, m, hh, hl1⟩ | ⟨hh, _⟩
      · cases hh
        rcases bnd_run hA hhi with ⟨_, _, hh, _⟩ | ⟨_, hh1⟩
        · cases hh
        have hne : ¬ n = q.toNat := by omega
        simp [execOp, ev_d hA hx rfl, hl1, hh1, Instr.sliceAt, run_underlying hu, Instr.sureAddr, Instr.sliceBounds, run_bound h0 (Int.le_of_lt h1), run_szT hz, den, Addr.add_lit, hne]
      · cases hh
    · obtain ⟨h0, h1, h2, h3, hK⟩ := h
      rename_i z q q2 hz
      refine ⟨_, hK, .of fun e a w hS hA d ty pos af g => ?_⟩
      rcases bnd_run hA hlo with ⟨k, m, hh, hl1⟩ | ⟨hh, _⟩
      · cases hh
        rcases bnd_run hA hhi with ⟨k2, m2, hh, hh1⟩ | ⟨hh, _⟩
        · cases hh
          have h02 : 0 ≤ q2 := by omega
          have h12 : q ≤ ((q2.toNat : Nat) : Int) := by omega
          have hne : ¬ n = q.toNat := by omega
          simp [execOp, ev_d hA hx rfl, hl1, hh1, Instr.sliceAt, run_underlying hu, Instr.sureAddr, Instr.sliceBounds, run_bound h02 h3, run_bound h0 h12, run_szT hz, den, Addr.add_lit, hne]
        · cases hh
      · cases hh
    · exact h.elim
  · rename_i q lo' hi' hu hx hlo hhi
    split at h
    · refine ⟨_, h, .of fun e a w hS hA d ty pos af g => ?_⟩
      rcases bnd_run hA hlo with ⟨_, _, hh, _⟩ | ⟨_, hl1⟩
      · cases hh
      rcases bnd_run hA hhi with ⟨_, _, hh, _⟩ | ⟨_, hh1⟩
      · cases hh
      simp [execOp, ev_v hA hx, hl1, hh1, Instr.sliceAt, run_underlying hu, Instr.slice, Instr.sliceBounds, den]
    · obtain ⟨h0, h1, hK⟩ := h
      refine ⟨_, hK, .of fun e a w hS hA d ty pos af g => ?_⟩
      rcases bnd_run hA hlo with ⟨_, _, hh, _⟩ | ⟨_, hl1⟩
      · cases hh
      rcases bnd_run hA hhi with ⟨k, m, hh, hh1⟩ | ⟨hh, _⟩
      · cases hh
        simp [execOp, ev_v hA hx, hl1, hh1, Instr.sliceAt, run_underlying hu, Instr.slice, Instr.sliceBounds, run_bound h0 h1, den]
      · cases hh
    · obtain ⟨h0, h1, hK⟩ := h
      refine ⟨_, hK, .of fun e a w hS hA d ty pos af g => ?_⟩
      rcases bnd_run hA hlo with ⟨k, m, hh, hl1⟩ | ⟨hh, _⟩
      · cases hh
        rcases bnd_run hA hhi with ⟨_, _, hh, _⟩ | ⟨_, hh1⟩
        · cases hh
        simp [execOp, ev_v hA hx, hl1, hh1, Instr.sliceAt, run_underlying hu, Instr.slice, Instr.sliceBounds, run_bound h0 h1, den]
      · cases hh
    · obtain ⟨h0, h1, h2, hK⟩ := h
      rename_i l0 h0'
      refine ⟨_, hK, .of fun e a w hS hA d ty pos af g => ?_⟩
      rcases bnd_run hA hlo with ⟨k, m, hh, hl1⟩ | ⟨hh, _⟩
      · cases hh
        rcases bnd_run hA hhi with ⟨k2, m2, hh, hh1⟩ | ⟨hh, _⟩
        · cases hh
          have h02 : 0 ≤ h0' := by omega
          have h12 : l0 ≤ ((h0'.toNat : Nat) : Int) := by omega
          simp [execOp, ev_v hA hx, hl1, hh1, Instr.sliceAt, run_underlying hu, Instr.slice, Instr.sliceBounds, run_bound h02 h2, run_bound h0 h12, den]
        · cases hh
      · cases hh
  · exact h.elim

end
end Go.SE
