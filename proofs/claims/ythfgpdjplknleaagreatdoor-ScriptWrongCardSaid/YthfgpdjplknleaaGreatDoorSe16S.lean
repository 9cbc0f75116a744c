/- Control: soundness. -/
import Derived.Test.YthfgpdjplknleaaGreatDoorSe16R
namespace Go.SE
open Go.RowKit

section
variable {P : Program} {c : Ctx} {r : Option Nat}

theorem wpIn_loop_ghost {F : Fence} {n : Nat} {cd : Code} {Q : Exit → Act → World → Prop} (I : Nat → Act → World → Prop) {j0 : Nat} {a : Act} {w : World} (h₀ : I j0 a w)
    (round : ∀ j a w, I j a w → cd.wpIn F n P (Exit.then (fun a' w' => ∃ j', j' < j ∧ I j' a' w') Q) a w) : (Code.loop cd).wpIn F n P Q a w := by
  intro b k cs hro hb hr
  have key : ∀ j a w, I j a w →
      ∃ e a' w', Q e a' w' ∧ ArrivesIn (Machine.fenced P F) P (lone (b.atR a (.code cd :: .inLoop cd :: k)) cs w) b k cs e a' w' := by
    intro j
    induction j using Nat.strongRecOn with
    | _ j ih =>
      intro a w hI
      obtain ⟨e, a₁, w₁, hq, harr⟩ := round j a w hI b (.inLoop cd :: k) cs hro hb hr
      cases e with
      | normal =>
        obtain ⟨j', hlt, hI₁⟩ := hq
        obtain ⟨e₂, a₂, w₂, hq₂, harr₂⟩ := ih j' hlt a₁ w₁ hI₁
        exact ⟨e₂, a₂, w₂, hq₂, .of_steps (StepsIn.trans harr (.one (fenced_calm hb hr rfl) stepR_inLoop)) harr₂⟩
      | exit id => exact ⟨_, a₁, w₁, hq, .pass (x := .inLoop cd) rfl (fun _ _ => .inl (by simp)) harr⟩
      | goto l => exact ⟨_, a₁, w₁, hq, .pass (x := .inLoop cd) rfl (fun _ _ => .inl (by simp)) harr⟩
      | ret => exact ⟨_, a₁, w₁, hq, .pass (x := .inLoop cd) rfl (fun _ _ => .inl (by simp)) harr⟩
      | panic ch => exact ⟨_, a₁, w₁, hq, .pass (x := .inLoop cd) rfl (fun _ _ => .inl (by simp)) harr⟩
      | outgrown => exact ⟨_, a₁, w₁, hq, .pass (x := .inLoop cd) rfl (fun _ _ => .inl (by simp)) harr⟩
  obtain ⟨e, a', w', hq, harr⟩ := key j0 a w h₀
  exact ⟨e, a', w', hq, .of_steps (.one (fenced_calm hb hr rfl) stepR_loop) harr⟩

theorem wpIn_scope {F : Fence} {n : Nat} {cd : Code} {Q : Exit → Act → World → Prop} {a : Act} {w : World} (h : cd.wpIn F n P (Exit.noGoto Q) a w) : (Code.scope cd).wpIn F n P Q a w := by
  intro b k cs hro hb hr
  have h0 : (lone (b.atR a (.code (.scope cd) :: k)) cs w).fenced P F := fenced_calm hb hr rfl
  have s0 : step P (lone (b.atR a (.code (.scope cd) :: k)) cs w) = .next (lone (b.atR a (.code cd :: .inScope cd :: k)) cs w) :=
    step_lone_go (by simp [stepG, stepG.exec, Frame.atR])
  have s1 : ∀ (a : Act) (w : World), step P (lone (b.atR a (.inScope cd :: k)) cs w) = .next (lone (b.atR a k) cs w) :=
    fun a w => step_lone_go (by simp [stepG, stepG.exec, Frame.atR])
  obtain ⟨e, a₁, w₁, hq, harr⟩ := h b (.inScope cd :: k) cs hro hb hr
  cases e with
  | normal => exact ⟨.normal, a₁, w₁, hq, .head h0 s0 (StepsIn.trans harr (.one (fenced_calm hb hr rfl) (s1 a₁ w₁)))⟩
  | exit id =>
    have hx : exitTo id (.inScope cd :: k) = exitTo id k := by simp [exitTo]
    exact ⟨.exit id, a₁, w₁, hq, fun k' hk => .head h0 s0 (harr.1 k' (by rw [hx]; exact hk)),
      fun hr' hk => let ⟨k₁, h1, h2⟩ := harr.2 hr' (by rw [hx]; exact hk); ⟨k₁, h1, .head h0 s0 h2⟩⟩
  | goto l => exact hq.elim
  | ret => exact ⟨_, a₁, w₁, hq, .of_steps (.one h0 s0) harr⟩
  | panic ch => exact ⟨_, a₁, w₁, hq, .of_steps (.one h0 s0) harr⟩
  | outgrown => exact ⟨_, a₁, w₁, hq, .of_steps (.one h0 s0) harr⟩

/-- WHAT IS SHOWN OF A BODY'S SYMBOLIC RUN HOLDS OF ITS RUN. -/
theorem se_sound : ∀ (cd : Code) {A : Ann} {r : Option Nat} {c : Ctx} {s : St} {K : SX → St → Prop} {Q : Exit → Act → World → Prop} {e : Env} {a : Act} {w : World}, se P A cd s K →
    (∀ (x : SX) (e' : Env) (s' : St) (a' : Act) (w' : World), K x s' → SatX c e' s' w' → SatA e' s' a' → s.I.le s'.I → s'.tm.length = s.tm.length → Q (toX x) a' w') →
    SatX c e s w → SatA e s a → A.rd = r.isSome → cd.wpIn (Fr r) 0 P Q a w
  | .skip, A, r, c, s, K, Q, e, a, w, h, hn, hS, hA, hrd => wpIn_skip (hn .norm e s a w h hS hA (Mem.le_refl _) rfl)
  | .label l, A, r, c, s, K, Q, e, a, w, h, hn, hS, hA, hrd => wpIn_label (hn .norm e s a w h hS hA (Mem.le_refl _) rfl)
  | .exit id, A, r, c, s, K, Q, e, a, w, h, hn, hS, hA, hrd => wpIn_exit (hn (.exit id) e s a w h hS hA (Mem.le_refl _) rfl)
  | .ret, A, r, c, s, K, Q, e, a, w, h, hn, hS, hA, hrd => wpIn_ret (hn .ret e s a w h hS hA (Mem.le_refl _) rfl)
  | .region id ops draw, A, r, c, s, K, Q, e, a, w, h, hn, hS, hA, hrd => by
    simp only [se] at h
    obtain ⟨s0, h, hS0, hA1, hle0, hlen0, hls⟩ := hand_sound h hS.toSat hA
    obtain ⟨s1, h, hS1, hA1, hI1, hlen2⟩ := give_sound h (hls.x hS hS0) hA1
    have hle1 : s.I.le s1.I := by rw [hI1]; exact hle0
    have hlen1 : s1.tm.length = s.tm.length := hlen2.trans hlen0
    cases draw with
    | false =>
      refine wpIn_region (seOps_sound (l := ops.toList) (idx := List.range ops.size) ?_ h hS1 hA1 fun e' s' a' w' hK hS' hA' hle hlen => hn .norm e' s' a' w' hK hS' hA' (Mem.le_trans hle1 hle) (hlen.trans hlen1))
      apply List.ext_getElem?
      intro k
      simp only [List.getElem?_map]
      by_cases hk : k < ops.size
      · simp [hk]
      · rw [List.getElem?_eq_none (by simpa using hk), List.getElem?_eq_none (by simpa using hk)]
        rfl
    | true => exact seDraw_sound h hS1 hA1 fun e' s' a' w' hK hS' hA' hle hlen => hn .norm e' s' a' w' hK hS' hA' (Mem.le_trans hle1 hle) (hlen.trans hlen1)
  | .cond cc x y, A, r, c, s, K, Q, e, a, w, h, hn, hS, hA, hrd => by
    simp only [se] at h
    split at h
    · rename_i t ht
      refine wpIn_cond_split (ev_v hA ht) (fun hT => ?_) (fun hT => ?_)
      · subst hT; exact se_sound x h hn hS hA hrd
      · subst hT; exact se_sound y h hn hS hA hrd
    · exact h.elim
  | .block id x, A, r, c, s, K, Q, e, a, w, h, hn, hS, hA, hrd => by
    simp only [se] at h
    refine wpIn_block (se_sound x h (fun x e' s' a' w' hK hS' hA' hle hlen => ?_) hS hA hrd)
    cases x with
    | norm => exact hn .norm e' s' a' w' hK hS' hA' hle hlen
    | ret => exact hn .ret e' s' a' w' hK hS' hA' hle hlen
    | exit i =>
      simp only [toX, Exit.inBlock]
      simp only at hK
      split at hK
      · rename_i hb
        rw [if_pos (Nat.eq_of_beq_eq_true hb)]
        exact hn .norm e' s' a' w' hK hS' hA' hle hlen
      · rename_i hb
        rw [if_neg (fun h => hb (by rw [h]; exact Nat.beq_refl _))]
        exact hn (.exit i) e' s' a' w' hK hS' hA' hle hlen
  | .scope x, A, r, c, s, K, Q, e, a, w, h, hn, hS, hA, hrd => by
    simp only [se] at h
    refine wpIn_scope (se_sound x h (fun x e' s' a' w' hK hS' hA' hle hlen => ?_) hS hA hrd)
    cases x with
    | norm => exact hn .norm e' s' a' w' hK hS' hA' hle hlen
    | ret => exact hn .ret e' s' a' w' hK hS' hA' hle hlen
    | exit i => exact hn (.exit i) e' s' a' w' hK hS' hA' hle hlen
  | .seq x y, A, r, c, s, K, Q, e, a, w, h, hn, hS, hA, hrd => by
    simp only [se] at h
    split at h
    · refine wpIn_seq (se_sound x h (fun x e' s' a' w' hK hS' hA' hle hlen => ?_) hS hA hrd)
      cases x with
      | norm =>
        obtain ⟨s1, hK, hS0, hA1, hle1, hlen1, hls⟩ := hand_sound hK hS'.toSat hA'
        exact se_sound y hK (fun x e2 s2 a2 w2 hK2 hS2 hA2 hle2 hlen2 => hn x e2 s2 a2 w2 hK2 hS2 hA2 (Mem.le_trans (Mem.le_trans hle hle1) hle2) (hlen2.trans (hlen1.trans hlen))) (hls.x hS' hS0) hA1 hrd
      | ret => exact hn .ret e' s' a' w' hK hS' hA' hle hlen
      | exit i => exact hn (.exit i) e' s' a' w' hK hS' hA' hle hlen
    · rename_i hd _
      obtain ⟨e1, s1, ⟨h1, h2⟩, hS1, hA1, hI1, hl1⟩ := preS_sound h hS hA
      refine wpIn_seq (se_sound x h1 (fun x e' s' a' w' hK hS' hA' hle hlen => ?_) hS1 hA1 hrd)
      cases x with
      | norm =>
        simp only at hK
        obtain ⟨s4, hK, hS0, hA4, hle4, hlen4, hls⟩ := hand_sound hK hS'.toSat hA'
        have hS4 := hls.x hS' hS0
        have hle := Mem.le_trans hle hle4
        have hlen := hlen4.trans hlen
        split at hK
        · rename_i hm
          obtain ⟨vals, xss, T, g1, g2, g3⟩ := headS_both (s := s1) (now := s4) (now' := { s1 with I := s4.I, G := s4.G }) rfl rfl (eqNats_eq hm) hlen hK (h2 s4.I s4.G hle)
          exact se_sound y (g2 g1) (fun x e2 s2 a2 w2 hK2 hS2 hA2 hle2 hlen2 => hn x e2 s2 a2 w2 hK2 hS2 hA2
            (Mem.le_trans (hI1 ▸ hle) (g3.I ▸ hle2)) (hlen2.trans (g3.len.trans (hlen.trans hl1)))) (hS4.ref g3) (hA4.ref g3) hrd
        · exact hK.elim
      | ret => exact hn .ret e' s' a' w' hK hS' hA' (hI1 ▸ hle) (hlen.trans hl1)
      | exit i => exact hn (.exit i) e' s' a' w' hK hS' hA' (hI1 ▸ hle) (hlen.trans hl1)
  | .loop x, A, r, c, s, K, Q, e, a, w, h, hn, hS, hA, hrd => by
    simp only [se] at h
    split at h
    · split at h
      · refine wpIn_loop_ghost (fun j a' w' => ∃ e' T, SatX c e' T w' ∧ SatA e' T a' ∧ s.I.le T.I ∧ T.tm.length = s.tm.length ∧ unrollS (se P A x) j T K) ⟨e, s, hS, hA, Mem.le_refl _, rfl, h⟩ ?_
        rintro j a' w' ⟨e', T, hST, hAT, hleT, hlenT, hu⟩
        cases j with
        | zero => exact hu.elim
        | succ j =>
          refine se_sound x hu (fun x e2 s2 a2 w2 hK hS2 hA2 hle2 hlen2 => ?_) hST hAT hrd
          cases x with
          | norm => exact ⟨j, Nat.lt_succ_self j, e2, s2, hS2, hA2, Mem.le_trans hleT hle2, hlen2.trans hlenT, hK⟩
          | ret => exact hn .ret e2 s2 a2 w2 hK hS2 hA2 (Mem.le_trans hleT hle2) (hlen2.trans hlenT)
          | exit i => exact hn (.exit i) e2 s2 a2 w2 hK hS2 hA2 (Mem.le_trans hleT hle2) (hlen2.trans hlenT)
      · rename_i hd gi _
        obtain ⟨e1, s1, ⟨h1, h2⟩, hS1, hA1, hI1, hl1⟩ := preS_sound h hS hA
        let Inv : Nat → Act → World → Prop := fun j a' w' => ∃ e' T, SatX c e' T w' ∧ SatA e' T a' ∧ s1.I.le T.I ∧ T.tm.length = s1.tm.length ∧
          se P A x T (fun x s' => match x with
              | .norm => if eqNats s'.marks s1.marks then headS (pickNow s1 s') hd s1 s' fun vals' xss' _ => ∃ j', j' < j ∧ gi j' vals' xss' s'.I s'.G else False
              | x => K x s')
        have at_ : ∀ {now : St} {e2 : Env} {a2 : Act} {w2 : World} {F : List Value → List (List Value) → St → Prop}, headS (pickNow s1 now) hd s1 now F → now.marks = s1.marks → now.tm.length = s1.tm.length → s1.I.le now.I → SatX c e2 now w2 → SatA e2 now a2 → ∃ vals xss T, F vals xss T ∧ ∀ j, gi j vals xss now.I now.G → Inv j a2 w2 := by
          intro now e2 a2 w2 F hK hm hl hle hS2 hA2
          obtain ⟨vals, xss, T, g1, g2, g3⟩ := headS_both (s := s1) (now := now) (now' := { s1 with I := now.I, G := now.G }) rfl rfl hm hl hK (h2 now.I now.G hle)
          exact ⟨vals, xss, T, g1, fun j hg => ⟨e2, T, hS2.ref g3, hA2.ref g3, g3.I ▸ hle, g3.len.trans hl, g2 j hg⟩⟩
        obtain ⟨_, _, _, ⟨j0, hj0⟩, h0⟩ := at_ h1 rfl rfl (Mem.le_refl _) hS1 hA1
        have h0 := h0 j0 hj0
        refine wpIn_loop_ghost Inv h0 ?_
        rintro j a' w' ⟨e', T, hST, hAT, hleT, hlenT, hbody⟩
        refine se_sound x hbody (fun x e2 s2 a2 w2 hK hS2 hA2 hle2 hlen2 => ?_) hST hAT hrd
        have hle12 : s1.I.le s2.I := Mem.le_trans hleT hle2
        cases x with
        | norm =>
          simp only at hK
          split at hK
          · rename_i hm
            obtain ⟨_, _, _, ⟨j', hlt, hg⟩, h3⟩ := at_ hK (eqNats_eq hm) (hlen2.trans hlenT) hle12 hS2 hA2
            exact ⟨j', hlt, h3 j' hg⟩
          · exact hK.elim
        | ret => exact hn .ret e2 s2 a2 w2 hK hS2 hA2 (hI1 ▸ hle12) ((hlen2.trans hlenT).trans hl1)
        | exit i => exact hn (.exit i) e2 s2 a2 w2 hK hS2 hA2 (hI1 ▸ hle12) ((hlen2.trans hlenT).trans hl1)
    · rename_i hd _
      obtain ⟨e1, s1, ⟨h1, h2⟩, hS1, hA1, hI1, hl1⟩ := preS_sound h hS hA
      let Inv : Nat → Act → World → Prop := fun j a' w' => ∃ e' T vals xss, SatX c e' T w' ∧ SatA e' T a' ∧ s1.I.le T.I ∧ T.tm.length = s1.tm.length ∧ hd.meas vals xss = j ∧
        se P A x T (fun x s' => match x with
            | .norm => if eqNats s'.marks s1.marks then headS (pickNow s1 s') hd s1 s' fun vals' xss' _ => hd.inv vals' xss' s'.I s'.G ∧ hd.meas vals' xss' < hd.meas vals xss else False
            | x => K x s')
      obtain ⟨vals, xss, T, g1, g2, g3⟩ := headS_both (s := s1) (now := s1) (now' := { s1 with I := s1.I, G := s1.G }) rfl rfl rfl rfl h1 (h2 s1.I s1.G (Mem.le_refl _))
      have h0 : Inv (hd.meas vals xss) a w := ⟨e1, T, vals, xss, hS1.ref g3, hA1.ref g3, g3.I ▸ Mem.le_refl _, g3.len, rfl, g2 g1⟩
      refine wpIn_loop_ghost Inv h0 ?_
      rintro j a' w' ⟨e', T, vals, xss, hST, hAT, hleT, hlenT, rfl, hbody⟩
      refine se_sound x hbody (fun x e2 s2 a2 w2 hK hS2 hA2 hle2 hlen2 => ?_) hST hAT hrd
      have hle12 : s1.I.le s2.I := Mem.le_trans hleT hle2
      cases x with
      | norm =>
        simp only at hK
        split at hK
        · rename_i hm
          obtain ⟨vals', xss', T', g1, g2, g3⟩ := headS_both (s := s1) (now := s2) (now' := { s1 with I := s2.I, G := s2.G }) rfl rfl (eqNats_eq hm) (hlen2.trans hlenT) hK (h2 s2.I s2.G hle12)
          exact ⟨_, g1.2, e2, T', vals', xss', hS2.ref g3, hA2.ref g3, g3.I ▸ hle12, g3.len.trans (hlen2.trans hlenT), rfl, g2 g1.1⟩
        · exact hK.elim
      | ret => exact hn .ret e2 s2 a2 w2 hK hS2 hA2 (hI1 ▸ hle12) ((hlen2.trans hlenT).trans hl1)
      | exit i => exact hn (.exit i) e2 s2 a2 w2 hK hS2 hA2 (hI1 ▸ hle12) ((hlen2.trans hlenT).trans hl1)
  | .rangeFunc g ps assign body, A, r, c, s, K, Q, e, a, w, h, hn, hS, hA, hrd =>
    rangeFunc_sound (fun h hn hS hA hrd => se_sound assign h hn hS hA hrd) (fun h hn hS hA hrd => se_sound body h hn hS hA hrd) h hn hS hA hrd
  | .goto _, _, _, _, _, _, _, _, _, _, h, _, _, _, _ => h.elim
  | .refuse _, _, _, _, _, _, _, _, _, _, h, _, _, _, _ => h.elim

end
end Go.SE
