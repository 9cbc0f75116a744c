/- Part of a proof by the rules of the symbolic walk (see the law's own text): contracts of functions of the program. -/
import Derived.Test.YtdmhilnnendcoaaGT
import Derived.Test.YtdmhilnnendcoaaLQ21
import Derived.Test.YtdmhilnnendcoaaSe25
open Go Go.Proofs Go.SE Go.RowKit
set_option linter.unusedVariables false
theorem ct9 {s : Sm} {ls : List (Int × Int × Int × Int)} {vs : List Int} {a b : Option Addr} {n m c d : Nat} {I : Mem} (h : SmP s ls vs a b n m c d I) :
    Ct Try.prog (fnv 9) #[.agg (smV s (.slice a n c) (.slice b m d)).toArray] I (fun v I' => ∃ r y, MadeR r ∧ v = .agg (rsV r y).toArray ∧ RsM I' r y) := by
  refine ct_rows (made h) fun e sv H' I' hp hle ⟨r, hr, hsv, hH⟩ hO hap => ?_
  subst hsv hH
  exact ⟨r, ⟨_, _, _, _, _⟩, hr, rfl, ⟨rowM_lst (row_own hO hap (i := 0) rfl) (Mem.le_refl _) (by omega) (by rw [cI_len]; omega), rowM_lst (row_own hO hap (i := 1) rfl) (Mem.le_refl _) (by omega) (by rw [cI_len]; omega), rowM_lst (row_own hO hap (i := 2) rfl) (Mem.le_refl _) (by omega) (cE_len _), rowM_lst (row_own hO hap (i := 3) rfl) (Mem.le_refl _) (by omega) (cP_len _), rowM_lst (row_own hO hap (i := 4) rfl) (Mem.le_refl _) (by omega) (cH_len _)⟩⟩
theorem made_call {s : Sm} {ls : List (Int × Int × Int × Int)} {vs : List Int} {a b : Option Addr} {n m c d : Nat} {I : Mem} (h : SmP s ls vs a b n m c d I) {post : Value → Mem → Prop}
    (hq : ∀ r a1 n1 c1 a2 n2 c2 a3 n3 c3 a4 n4 c4 a5 n5 c5 J, I.le J → MadeR r → RsM J r ⟨.slice a1 n1 c1, .slice a2 n2 c2, .slice a3 n3 c3, .slice a4 n4 c4, .slice a5 n5 c5⟩ → post (.agg #[.int .i64 r.num, .int .i64 r.code, .int .i64 r.ser, .int .i64 r.port, .int .i64 r.time, .int .u8 r.kind, .bool r.more, .int .i64 r.key.1, .int .i64 r.key.2.1, .int .i64 r.key.2.2, .slice a1 n1 c1, .slice a2 n2 c2, .slice a3 n3 c3, .slice a4 n4 c4, .slice a5 n5 c5]) J) :
    Ct Try.prog (.func (.func 9) #[] #[]) #[.agg #[.int .u32 s.n1, .int .u32 s.n2, .int .u32 s.n3, .int .u32 s.n4, .int .u32 s.n5, .int .u8 s.k, .bool s.m, .int .u16 s.a1, .int .u16 s.a2, .int .u16 s.a3, .slice a n c, .slice b m d]] I post := by
  refine Ct.mono (show Ct Try.prog (.func (.func 9) #[] #[]) #[.agg #[.int .u32 s.n1, .int .u32 s.n2, .int .u32 s.n3, .int .u32 s.n4, .int .u32 s.n5, .int .u8 s.k, .bool s.m, .int .u16 s.a1, .int .u16 s.a2, .int .u16 s.a3, .slice a n c, .slice b m d]] I _ from ct9 h) fun v J l ⟨r, y, hr, hv, hM⟩ => ?_
  obtain ⟨yc, yl, ye, yp, yh⟩ := y
  obtain ⟨⟨_, _, _, h1, _⟩, ⟨_, _, _, h2, _⟩, ⟨_, _, _, h3, _⟩, ⟨_, _, _, h4, _⟩, ⟨_, _, _, h5, _⟩⟩ := id hM
  simp only at h1 h2 h3 h4 h5
  subst h1 h2 h3 h4 h5
  rw [hv]
  exact hq _ _ _ _ _ _ _ _ _ _ _ _ _ _ _ _ J l hr hM
/-- A pointer to a response that may be read. -/
def PtrS (I : Mem) (p : Option Addr) (r : Rs) : Prop := ∃ k a1 n1 c1 a2 n2 c2 a3 n3 c3 a4 n4 c4 a5 n5 c5, p = some ⟨k, 0, none⟩ ∧ I k = some (.cells (rsV r ⟨.slice a1 n1 c1, .slice a2 n2 c2, .slice a3 n3 c3, .slice a4 n4 c4, .slice a5 n5 c5⟩).toArray 37) ∧ RsM I r ⟨.slice a1 n1 c1, .slice a2 n2 c2, .slice a3 n3 c3, .slice a4 n4 c4, .slice a5 n5 c5⟩
theorem PtrS.mono {I J : Mem} {p : Option Addr} {r : Rs} (h : PtrS I p r) (hle : I.le J) : PtrS J p r := by
  obtain ⟨k, a1, n1, c1, a2, n2, c2, a3, n3, c3, a4, n4, c4, a5, n5, c5, h1, h2, h3⟩ := h
  exact ⟨k, a1, n1, c1, a2, n2, c2, a3, n3, c3, a4, n4, c4, a5, n5, c5, h1, hle _ _ h2, h3.mono hle⟩
theorem ptr_new {I : Mem} {b : Nat} {r : Rs} {a1 : Option Addr} {n1 c1 : Nat} {a2 : Option Addr} {n2 c2 : Nat} {a3 : Option Addr} {n3 c3 : Nat} {a4 : Option Addr} {n4 c4 : Nat} {a5 : Option Addr} {n5 c5 : Nat} (h : I b = some (.cells (rsV r ⟨.slice a1 n1 c1, .slice a2 n2 c2, .slice a3 n3 c3, .slice a4 n4 c4, .slice a5 n5 c5⟩).toArray 37)) (hM : RsM I r ⟨.slice a1 n1 c1, .slice a2 n2 c2, .slice a3 n3 c3, .slice a4 n4 c4, .slice a5 n5 c5⟩) : PtrS I (some ⟨b, 0, none⟩) r :=
  ⟨b, a1, n1, c1, a2, n2, c2, a3, n3, c3, a4, n4, c4, a5, n5, c5, rfl, h, hM⟩
/-- Where a response's lists lie, as slices. -/
theorem rsM_sl {I : Mem} {r : Rs} {y : Ys} (h : RsM I r y) : ∃ a1 n1 c1 a2 n2 c2 a3 n3 c3 a4 n4 c4 a5 n5 c5, y = ⟨.slice a1 n1 c1, .slice a2 n2 c2, .slice a3 n3 c3, .slice a4 n4 c4, .slice a5 n5 c5⟩ := by
  obtain ⟨yc, yl, ye, yp, yh⟩ := y
  obtain ⟨⟨_, _, _, h1, _⟩, ⟨_, _, _, h2, _⟩, ⟨_, _, _, h3, _⟩, ⟨_, _, _, h4, _⟩, ⟨_, _, _, h5, _⟩⟩ := h
  simp only at h1 h2 h3 h4 h5
  subst h1 h2 h3 h4 h5
  exact ⟨_, _, _, _, _, _, _, _, _, _, _, _, _, _, _, rfl⟩
theorem sladdr0 (a : Option Addr) (c z : Nat) : sladdr a c 0 z = a := by
  unfold sladdr
  split
  · rfl
  · cases a with
    | none => rfl
    | some q => cases q; simp [Addr.add]
theorem write_lenS {r : Rs} (h : rightS r = true) : (writeS r).length ≤ 16321 := by
  have := (right_parts h).2.2
  rw [writeS, List.length_cons]; omega
theorem acc_form {bs : List Int} (h : accS bs = true) : rightS (readS bs).1 = true ∧ writeS (readS bs).1 = bs ∧ (readS bs).2 = 0 := by
  have hr : readS bs = ((runS bs).1, 0) := by rw [readS, h]; rfl
  simp only [accS, Bool.and_eq_true, decide_eq_true_eq] at h
  rw [hr]
  exact ⟨h.2.2.2.2.1, h.2.2.2.2.2, rfl⟩
theorem run_ok : ∀ (l : List (Int × List Int)) (r : Rs), okRs r → r.counts.length ≤ 1000000 → (∀ f ∈ l, okFld f ∧ f.2.length ≤ 1000000) → okRs (runTS r l).1 ∧ (runTS r l).1.counts.length ≤ 1000000
  | [], r, h, hc, _ => ⟨h, hc⟩
  | f :: l, r, h, hc, hl => by
    obtain ⟨h1, h2⟩ := hl f (by simp)
    rw [runTS]
    split
    · exact run_ok l _ (ok_take h f.1 h1.2) (counts_take hc f.1 h2) fun g hg => hl g (by simp [hg])
    · exact ⟨h, hc⟩
theorem fl_ok {bs : List Int} (hb : byteL bs) : ∀ f ∈ flS bs, okFld f ∧ f.2.length ≤ 1000000 := by
  have hbd : byteL (bs.drop 1) := fun z hz => hb z (List.mem_of_mem_drop hz)
  rcases read_cases (bs.drop 1) hbd with ⟨_, _, hr, hw⟩ | ⟨hr, _⟩
  · intro f hf
    have h1 := right_at (rightF_iff.1 hr).1 f hf
    refine ⟨⟨by omega, fun z hz => hbd z ?_⟩, by omega⟩
    rw [← hw, writeF, List.mem_flatMap]
    exact ⟨f, hf, by simp [hz]⟩
  · intro f hf
    have : flS bs = [] := hr
    rw [this] at hf; cases hf
theorem read_ok {bs : List Int} (hb : byteL bs) : okRs (readS bs).1 ∧ (readS bs).1.counts.length ≤ 1000000 := by
  rw [readS]
  split
  · exact run_ok (flS bs) zeroRs zero_ok (by simp [zeroRs]) (fl_ok hb)
  · exact ⟨zero_ok, by simp [zeroRs]⟩
theorem all_ok {r : Rs} (hr : okRs r) : ∀ f ∈ allF r, okFld f := by
  intro f hf
  have hl := lists_ok hr
  simp only [listsL, List.mem_cons, List.not_mem_nil, or_false] at hl
  simp only [allF, List.mem_cons, List.not_mem_nil, or_false] at hf
  rcases hf with rfl | rfl | rfl | rfl | rfl | rfl | rfl | rfl | rfl | rfl | rfl | rfl | rfl
  · exact fN_ok (by omega)
  · exact fN_ok (by omega)
  · exact fN_ok (by omega)
  · exact fN_ok (by omega)
  · exact fN_ok (by omega)
  · exact fN_ok (by omega)
  · exact ⟨by simp, fun z hz => by cases hz⟩
  · exact ⟨by simp, forms_bytes _⟩
  · exact hl _ (.inl rfl)
  · exact hl _ (.inr (.inl rfl))
  · exact hl _ (.inr (.inr (.inl rfl)))
  · exact hl _ (.inr (.inr (.inr (.inl rfl))))
  · exact hl _ (.inr (.inr (.inr (.inr rfl))))
theorem write_okS {r : Rs} (hr : okRs r) (h : rightS r = true) : byteL (writeS r) := by
  intro z hz
  rcases List.mem_cons.1 hz with rfl | hz
  · omega
  · exact write_bytes (right_parts h).2.1 (fun f hf => all_ok hr f (tags_in r f hf).1) z hz
