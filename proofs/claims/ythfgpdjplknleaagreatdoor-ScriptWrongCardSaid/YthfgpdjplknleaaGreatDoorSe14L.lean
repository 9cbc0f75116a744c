/- Calls that may write what the caller owns: functions that are given (a loop's body, say), and functions to which own memory is lent. -/
import Derived.Test.YthfgpdjplknleaaGreatDoorSe14
namespace Go.SE
open Go.RowKit

/-! ### Names of own memory -/

def memB (d : Nat) : List Nat → Bool
  | [] => false
  | x :: r => Nat.beq d x || memB d r
theorem memB_false {d : Nat} : ∀ {l : List Nat}, memB d l = false → d ∉ l
  | [], _ => by simp
  | x :: r, h => by
    simp only [memB, Bool.or_eq_false_iff] at h
    intro hm
    rcases List.mem_cons.1 hm with rfl | hm
    · simp at h
    · exact memB_false h.2 hm
theorem memB_true {d : Nat} : ∀ {l : List Nat}, memB d l = true → d ∈ l
  | x :: r, h => by
    simp only [memB, Bool.or_eq_true] at h
    rcases h with h | h
    · rw [Nat.eq_of_beq_eq_true h]; exact List.mem_cons_self ..
    · exact List.mem_cons_of_mem _ (memB_true h)
theorem memB_mem {d : Nat} {l : List Nat} (h : d ∈ l) : memB d l = true := by
  cases hm : memB d l with
  | true => rfl
  | false => exact absurd h (memB_false hm)
def nodupB : List Nat → Bool
  | [] => true
  | x :: r => !memB x r && nodupB r
def posOf (id : Nat) : List Nat → Nat
  | [] => 0
  | x :: r => bif Nat.beq id x then 0 else posOf id r + 1
theorem posOf_get {id : Nat} : ∀ {l : List Nat}, id ∈ l → l[posOf id l]? = some id
  | x :: r, h => by
    simp only [posOf]
    cases hb : Nat.beq id x with
    | true => rw [cond_true]; simp [Nat.eq_of_beq_eq_true hb]
    | false =>
      rw [cond_false]
      rcases List.mem_cons.1 h with rfl | h
      · simp at hb
      · simpa using posOf_get h
theorem posOf_at {id : Nat} : ∀ {l : List Nat} {j : Nat}, nodupB l = true → l[j]? = some id → posOf id l = j
  | [], j, _, h => by simp at h
  | x :: r, j, hn, h => by
    simp only [nodupB, Bool.and_eq_true, Bool.not_eq_true'] at hn
    simp only [posOf]
    cases j with
    | zero =>
      simp only [List.getElem?_cons_zero, Option.some.injEq] at h
      subst h
      simp
    | succ j =>
      have h : r[j]? = some id := by simpa using h
      have hne : Nat.beq id x = false := by
        cases hb : Nat.beq id x with
        | false => rfl
        | true =>
          rw [Nat.eq_of_beq_eq_true hb] at h
          exact absurd (List.mem_of_getElem? h) (memB_false hn.1)
      rw [hne, cond_false, posOf_at hn.2 h]

mutual
def renF (f : Nat → Nat) : SV → SV
  | .ptr i off => .ptr (f i) off
  | .sptr i off => .sptr (f i) off
  | .rsl i n => .rsl (f i) n
  | .xsl i off n c => .xsl (f i) off n c
  | .fn g a b => .fn g (renFL f a) (renFL f b)
  | .agg xs => .agg (renFL f xs)
  | .tup xs => .tup (renFL f xs)
  | .v x => .v x
  | .ep a k => .ep a k
  | .junk => .junk
def renFL (f : Nat → Nat) : List SV → List SV
  | [] => []
  | x :: xs => renF f x :: renFL f xs
end
theorem renFL_eq (f : Nat → Nat) : ∀ l, renFL f l = l.map (renF f)
  | [] => rfl
  | x :: xs => by simp [renFL, renFL_eq f xs]
mutual
/-- Is own memory number id named as a whole row in it? -/
def rslR (id : Nat) : SV → Bool
  | .rsl i _ => i == id
  | .fn _ a b => rslRL id a || rslRL id b
  | .agg xs | .tup xs => rslRL id xs
  | _ => false
def rslRL (id : Nat) : List SV → Bool
  | [] => false
  | x :: xs => rslR id x || rslRL id xs
end
mutual
theorem den_ren {e1 e : Env} {f : Nat → Nat} : ∀ {x : SV}, (∀ i, refs i x = true → e1.blk (f i) = e.blk i ∧ e1.nil (f i) = e.nil i ∧ (rslR i x = true → e1.cap (f i) = e.cap i)) → den e1 (renF f x) = den e x ∧ isJunk (renF f x) = isJunk x
  | .ptr i off, h | .sptr i off, h | .xsl i off n cp, h => by
    obtain ⟨h1, _, _⟩ := h i (by simp [refs])
    simp [renF, den, isJunk, h1]
  | .rsl i n, h => by
    obtain ⟨h1, h2, h3⟩ := h i (by simp [refs])
    simp [renF, den, isJunk, h1, h2, h3 (by simp [rslR])]
  | .fn g a b, h => by
    have ha := denL_ren (e1 := e1) (e := e) (f := f) (l := a) (fun i hi => by
      obtain ⟨h1, h2, h3⟩ := h i (by simp [refs, hi])
      exact ⟨h1, h2, fun hr => h3 (by simp [rslR, hr])⟩)
    have hb := denL_ren (e1 := e1) (e := e) (f := f) (l := b) (fun i hi => by
      obtain ⟨h1, h2, h3⟩ := h i (by simp [refs, hi])
      exact ⟨h1, h2, fun hr => h3 (by simp [rslR, hr])⟩)
    simp [renF, den, isJunk, ha, hb]
  | .agg xs, h => by
    have ha := denL_ren (e1 := e1) (e := e) (f := f) (l := xs) (fun i hi => by
      obtain ⟨h1, h2, h3⟩ := h i (by simp [refs, hi])
      exact ⟨h1, h2, fun hr => h3 (by simp [rslR, hr])⟩)
    simp [renF, den, isJunk, ha]
  | .tup xs, h => by
    have ha := denL_ren (e1 := e1) (e := e) (f := f) (l := xs) (fun i hi => by
      obtain ⟨h1, h2, h3⟩ := h i (by simp [refs, hi])
      exact ⟨h1, h2, fun hr => h3 (by simp [rslR, hr])⟩)
    simp [renF, den, isJunk, ha]
  | .v x, _ => by simp [renF, den, isJunk]
  | .ep a k, _ => by simp [renF, den, isJunk]
  | .junk, _ => by simp [renF, den, isJunk]
theorem denL_ren {e1 e : Env} {f : Nat → Nat} : ∀ {l : List SV}, (∀ i, refsL i l = true → e1.blk (f i) = e.blk i ∧ e1.nil (f i) = e.nil i ∧ (rslRL i l = true → e1.cap (f i) = e.cap i)) → denL e1 (renFL f l) = denL e l
  | [], _ => rfl
  | x :: xs, h => by
    have h1 := (den_ren (e1 := e1) (e := e) (f := f) (x := x) (fun i hi => by
      obtain ⟨h1, h2, h3⟩ := h i (by simp [refsL, hi])
      exact ⟨h1, h2, fun hr => h3 (by simp [rslRL, hr])⟩)).1
    have h2 := denL_ren (e1 := e1) (e := e) (f := f) (l := xs) (fun i hi => by
      obtain ⟨h1, h2, h3⟩ := h i (by simp [refsL, hi])
      exact ⟨h1, h2, fun hr => h3 (by simp [rslRL, hr])⟩)
    simp [renFL, denL, h1, h2]
end
mutual
theorem renF_id : ∀ x : SV, renF (fun i => i) x = x
  | .ptr _ _ | .sptr _ _ | .rsl _ _ | .xsl _ _ _ _ | .v _ | .ep _ _ | .junk => rfl
  | .fn g a b => by simp [renF, renFL_id a, renFL_id b]
  | .agg xs => by simp [renF, renFL_id xs]
  | .tup xs => by simp [renF, renFL_id xs]
theorem renFL_id : ∀ l : List SV, renFL (fun i => i) l = l
  | [] => rfl
  | x :: xs => by simp [renFL, renF_id x, renFL_id xs]
end
mutual
theorem refs_mem {id : Nat} : ∀ {x : SV}, refs id x = true → id ∈ refsOf x
  | .ptr i _, h | .sptr i _, h | .rsl i _, h | .xsl i _ _ _, h => by simp [refs] at h; simp [refsOf, h]
  | .fn _ a b, h => by
    simp only [refs, Bool.or_eq_true] at h
    simp only [refsOf, List.mem_append]
    exact h.imp refsL_mem refsL_mem
  | .agg xs, h => by simp only [refs] at h; exact refsL_mem h
  | .tup xs, h => by simp only [refs] at h; exact refsL_mem h
  | .v _, h | .ep _ _, h | .junk, h => by simp [refs] at h
theorem refsL_mem {id : Nat} : ∀ {l : List SV}, refsL id l = true → id ∈ refsOfL l
  | x :: xs, h => by
    simp only [refsL, Bool.or_eq_true] at h
    simp only [refsOfL, List.mem_append]
    exact h.imp refs_mem refsL_mem
end

/-- A state, with what functions that are given may write. -/
structure SatX (c : Ctx) (e : Env) (s : St) (w : World) : Prop extends Sat c e s w where
  gIn : s.G.inW w
  gI : ∀ b, s.G b ≠ none → s.I b = none ∧ c.hf b = none
  gOwn : ∀ (id : Nat) (x : Ent), s.H[id]? = some x → alive x.obj = true → e.nil id = false → s.G (e.blk id) = none

section
variable {P : Program} {c : Ctx} {e e' : Env} {s s' : St} {w w' : World} {a : Act} {r : Option Nat}

theorem SatX.step (hS : SatX c e s w) (hS' : Sat c e' s' w') {mods : List Nat} (hev : Evo false mods s e w s' e' w') : SatX c e' s' w' := by
  have hg : s'.G = s.G := hev.gEq rfl
  have lt : ∀ {b : Nat}, s.G b ≠ none → b < w.heap.size := fun hb => by
    obtain ⟨o, ho⟩ := Option.ne_none_iff_exists'.1 hb
    exact Mem.inW_lt hS.gIn ho
  refine ⟨hS', ?_, ?_, ?_⟩
  · intro b o hb
    rw [hg] at hb
    have hne : s.G b ≠ none := by rw [hb]; simp
    have := hS.gIn b o hb
    rw [hev.heap b (lt hne) (fun h => by cases h) (fun id x _ hx hal hn hbe => hne (hbe ▸ hS.gOwn id x hx hal hn))]
    exact this
  · intro b hb
    rw [hg] at hb
    refine ⟨?_, (hS.gI b hb).2⟩
    rcases hev.rd b (lt hb) (fun h => by cases h) (hS.gI b hb).1 with h | ⟨j, x, hx, hal, hn, rfl⟩
    · exact h
    · exact absurd (hS.gOwn j x hx hal hn) hb
  · intro id x hx hal hn
    rw [hg]
    have big : w.heap.size ≤ e'.blk id → s.G (e'.blk id) = none := fun h => by
      cases hb : s.G (e'.blk id) with
      | none => rfl
      | some o => exact absurd (Mem.inW_lt hS.gIn hb) (by omega)
    by_cases hlt : id < s.H.length
    · by_cases hid : id ∈ mods
      · rcases hev.mod id x hlt hid hx hal hn with h | ⟨j, y, _, hy, haly, hny, hbe⟩
        · exact big h
        · rw [hbe]; exact hS.gOwn j y hy haly hny
      · obtain ⟨a1, _, a3⟩ := hev.same id hlt hid
        obtain ⟨x0, hx0, hal0⟩ := hev.live id x hlt hx hal
        rw [← a1]
        exact hS.gOwn id x0 hx0 hal0 (a3.trans hn)
    · rcases hev.new id x (by omega) hx hal hn with h | ⟨j, y, _, hy, haly, hny, hbe⟩
      · exact big h
      · rw [hbe]; exact hS.gOwn j y hy haly hny

end
end Go.SE
