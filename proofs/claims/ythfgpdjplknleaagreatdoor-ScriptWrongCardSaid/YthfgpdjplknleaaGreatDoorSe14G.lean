/- Own memory that is not looked into: its cells are read and written. -/
import Derived.Test.YthfgpdjplknleaaGreatDoorSe14K
namespace Go.SE
open Go.RowKit

/-- G' is G with cells written at an address. -/
def PutG (G : Mem) (a : Option Addr) (k : Nat) (vs : List Value) (G' : Mem) : Prop :=
  ∃ (b off : Nat) (cur : Array Value) (el : TypeId), a = some ⟨b, off, none⟩ ∧ G b = some (.cells cur el (0, 0)) ∧ off + k + vs.length ≤ cur.size ∧
    G' = fun x => if x = b then some (.cells (cur.toList.take (off + k) ++ vs ++ cur.toList.drop (off + k + vs.length)).toArray el (0, 0)) else G x

/-- A STORE into own memory that is not looked into. -/
def seSG (P : Program) (s : St) (t : TypeId) (addr x : SV) (K : St → Prop) : Prop :=
  match svCells x, szT P t with
  | some l, some z => if Nat.beq l.length z && l.all one then
      match addr, mapV l with
      | .ep a k, some vs => ∃ G', PutG s.G a k vs G' ∧ K { s with G := G' }
      | .v (.pointer a), some vs => ∃ G', PutG s.G a 0 vs G' ∧ K { s with G := G' }
      | _, _ => False
    else False
  | _, _ => False

section
variable {P : Program} {c : Ctx} {e : Env} {s : St} {w : World} {a : Act} {r : Option Nat}

theorem SatX.lookG (hS : SatX c e s w) : Sat c e { s with I := s.G } w := by
  have hG : ∀ {b : Nat} {Q : Prop}, (s.G b ≠ none → Q → False) → Q → s.G b = none := fun {b Q} h q => by
    cases hb : s.G b with
    | none => rfl
    | some o => exact (h (by rw [hb]; simp) q).elim
  refine ⟨hS.same, hS.size, hS.gIn, hS.hf, fun b hb _ => ?_, fun id x hx hal => ⟨(hS.owned id x hx hal).1, fun hn => ⟨hS.gOwn id x hx hal hn, ((hS.owned id x hx hal).2 hn).2⟩⟩, hS.apart, hS.names⟩
  exact hG (Q := True) (fun hne _ => hb (hS.gI b hne).2) trivial

theorem putG_sound (hS : SatX c e s w) {b off k : Nat} {cur : Array Value} {el : TypeId} {vs : List Value} (hb : s.G b = some (.cells cur el (0, 0))) (G' : Mem)
    (hG' : G' = fun x => if x = b then some (.cells (cur.toList.take (off + k) ++ vs ++ cur.toList.drop (off + k + vs.length)).toArray el (0, 0)) else s.G x) :
    SatX c e { s with G := G' } (w.setRow b (cur.toList.take (off + k) ++ vs ++ cur.toList.drop (off + k + vs.length)).toArray) ∧
      Evo true [] s e w { s with G := G' } e (w.setRow b (cur.toList.take (off + k) ++ vs ++ cur.toList.drop (off + k + vs.length)).toArray) := by
  subst hG'
  have hne : s.G b ≠ none := by rw [hb]; simp
  have hw := hS.gIn b _ hb
  have hlt := Mem.inW_lt hS.gIn hb
  have old : ∀ {k' : Nat}, s.G k' = none ∨ k' ≠ b → (w.setRow b (cur.toList.take (off + k) ++ vs ++ cur.toList.drop (off + k + vs.length)).toArray).heap[k']? = w.heap[k']? := by
    intro k' h
    refine setRow_other w b k' _ ?_
    rcases h with h | h
    · rintro rfl; exact hne h
    · exact h
  refine ⟨⟨⟨hS.same.trans (setRow_same ..), Nat.le_trans hS.size (Nat.le_of_eq (setRow_size ..).symm), fun k' o ho => ?_, fun k' o ho => ?_, hS.old, fun id x hx hal => ⟨holds_mem (fun hn => old (.inl (hS.gOwn id x hx hal hn))) (hS.owned id x hx hal).1, (hS.owned id x hx hal).2⟩, hS.apart, hS.names⟩, ?_, ?_, ?_⟩, ?_⟩
  · refine (old (.inr fun h => ?_)).trans (hS.I k' o ho)
    subst h
    rw [(hS.gI k' hne).1] at ho
    cases ho
  · refine (old (.inr fun h => ?_)).trans (hS.hf k' o ho)
    subst h
    rw [(hS.gI k' hne).2] at ho
    cases ho
  · intro k' o ho
    simp only at ho
    by_cases hk : k' = b
    · subst hk
      rw [if_pos rfl] at ho
      cases ho
      exact setRow_heap w k' _ _ el _ hw
    · rw [if_neg hk] at ho
      exact (old (.inr hk)).trans (hS.gIn k' o ho)
  · intro k' hk'
    by_cases hk : k' = b
    · subst hk; exact hS.gI k' hne
    · simp only [if_neg hk] at hk'
      exact hS.gI k' hk'
  · intro id x hx hal hn
    have := hS.gOwn id x hx hal hn
    simp only
    rw [if_neg (fun h => by rw [h] at this; exact hne this)]
    exact this
  · refine ⟨fun k' _ hg _ => old (.inl (hg rfl)), Nat.le_of_eq (setRow_size ..).symm, fun _ _ _ => ⟨rfl, rfl, rfl⟩, fun _ _ _ h => by simp at h, fun id x' h1 h2 => ?_, Nat.le_refl _, fun id x' _ h1 h2 => ⟨x', h1, h2⟩, fun k' _ hg => ?_, fun h => (by cases h), fun k' _ _ h0 => .inl h0⟩
    · have := (List.getElem?_eq_some_iff.1 h2).1
      simp only at this
      omega
    · simp only
      rw [if_neg (fun h => by rw [h] at hg; exact hne hg)]
      exact hg

theorem seSG_sound {t : TypeId} {addr x : Operand} {K : St → Prop} (h : seSG P s t (ev s addr) (ev s x) K) (hS : SatX c e s w) (hA : SatA e s a) :
    ∃ s' w', K s' ∧ SatX c e s' w' ∧ SatA e s' a ∧ s'.I = s.I ∧ s'.tm = s.tm ∧ Evo true [] s e w s' e w' ∧
      ∀ (d : Option Tmp) (ty : TypeId) (pos : String) (af : Array Edge) (g : Option (Nat × Bool)), (execOp a.eval ⟨d, .store t addr x, ty, pos, af, g⟩).run P w = .ok .skip w' := by
  simp only [seSG] at h
  split at h
  · rename_i l z hl hz
    split at h
    · rename_i hc
      simp only [Bool.and_eq_true] at hc
      have hlz := Nat.eq_of_beq_eq_true hc.1
      obtain ⟨hj, hd⟩ := svCells_den (e := e) hl
      have hv : (a.eval x).cells = (l.map (den e)).toArray := by rw [ev_ok hA x hj]; exact hd
      have go : ∀ {ad : Option Addr} {k : Nat} {vs : List Value}, a.eval addr = .pointer (ad.map (·.add k)) → mapV l = some vs → (∃ G', PutG s.G ad k vs G' ∧ K { s with G := G' }) →
          ∃ s' w', K s' ∧ SatX c e s' w' ∧ SatA e s' a ∧ s'.I = s.I ∧ s'.tm = s.tm ∧ Evo true [] s e w s' e w' ∧
            ∀ (d : Option Tmp) (ty : TypeId) (pos : String) (af : Array Edge) (g : Option (Nat × Bool)), (execOp a.eval ⟨d, .store t addr x, ty, pos, af, g⟩).run P w = .ok .skip w' := by
        intro ad k vs haddr hvs ⟨G', ⟨b, off, cur, el, h1, h2, h3, h4⟩, hK⟩
        obtain ⟨k1, k2⟩ := putG_sound hS h2 G' h4
        refine ⟨_, _, hK, k1, ⟨hA.size, hA.tm, hA.defers⟩, rfl, rfl, k2, fun d ty pos af g => ?_⟩
        subst h1
        have hv2 := (mapV_den (e := e) hvs).1
        simp only [execOp, haddr, Option.map_some, Addr.add_lit, Instr.storeAt, Instr.sureAddr, Sem.run_bind, Sem.run_pure, Result.andThen_ok,
          run_storeVar_block hz (hS.gIn b _ h2) (by rw [hv, hv2]) (by rw [mapV_length hvs, hlz]) (mapV_all hvs hc.2) h3]
      split at h
      · rename_i ad k vs hk hvs
        refine go ?_ hvs h
        have := ev_ok hA addr (by rw [hk]; rfl)
        rw [this, hk]
        simp [den]
      · rename_i ad vs hk hvs
        refine go (k := 0) ?_ hvs h
        have := ev_ok hA addr (by rw [hk]; rfl)
        rw [this, hk]
        cases ad with
        | none => simp [den]
        | some ad => simp [den, Addr.add]
      · exact h.elim
    · exact h.elim
  · exact h.elim

end
end Go.SE
