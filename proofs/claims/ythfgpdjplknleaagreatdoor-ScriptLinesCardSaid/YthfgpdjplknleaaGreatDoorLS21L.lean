/- Part of a proof by the rules of the symbolic walk (see the law's own text): contracts of functions of the program. -/
import Derived.Test.YthfgpdjplknleaaGreatDoorGU
open Go Go.Proofs Go.SE Go.RowKit
set_option linter.unusedVariables false
set_option maxRecDepth 100000
/-- A text whose lines are all ended. -/
def FullT (t : Tx) : Prop := ∀ u, linesT (t ++ u) = linesT t ++ linesT u
theorem full_nil : FullT [] := fun u => rfl
theorem full_snoc {t x : Tx} (h : FullT t) (hx : (10 : UInt8) ∉ x) : FullT (t ++ (x ++ [10])) ∧ linesT (t ++ (x ++ [10])) = linesT t ++ [x] := by
  have h1 : ∀ u, linesT (t ++ (x ++ [10]) ++ u) = linesT t ++ x :: linesT u := fun u => by
    rw [List.append_assoc, List.append_assoc, h, show [10] ++ u = 10 :: u from rfl, lines_hit x u hx]
  have h2 : linesT (t ++ (x ++ [10])) = linesT t ++ [x] := by
    have := h1 []
    rwa [List.append_nil] at this
  exact ⟨fun u => by rw [h1, h2]; simp, h2⟩
/-- A text that holds the entries so far, and further lines that say nothing. -/
def AccT (es : List En) (k : Nat) (t : Tx) (n : Int) : Prop := FullT t ∧ n = (linesT t).length ∧ ∀ r, parseGo (linesT t ++ r) 1 [] = parseGo r (n + 1) (es.take k)
theorem acc_nil (es : List En) : AccT es 0 [] 0 := ⟨full_nil, rfl, fun r => rfl⟩
theorem acc_skip {es : List En} {k : Nat} {t : Tx} {n : Int} {x : Tx} (h : AccT es k t n) (hx : (10 : UInt8) ∉ x) (hs : skipT x = true) : AccT es k (t ++ (x ++ [10])) (n + 1) := by
  obtain ⟨h1, h2, h3⟩ := h
  obtain ⟨g1, g2⟩ := full_snoc h1 hx
  refine ⟨g1, by rw [g2, h2]; simp, fun r => ?_⟩
  rw [g2, List.append_assoc, h3, show [x] ++ r = x :: r from rfl, parseGo, hs, if_pos rfl]
theorem acc_line {es : List En} {k : Nat} {t : Tx} {n : Int} {e : En} (h : AccT es k t n) (he : okEn e) (hc : cleanE e = true) (hk : es[k]? = some e) (hl : es.length ≤ 30) : AccT es (k + 1) (t ++ (lineT e ++ [10])) (n + 1) := by
  obtain ⟨h1, h2, h3⟩ := h
  obtain ⟨g1, g2⟩ := full_snoc h1 (lineT_free he)
  refine ⟨g1, by rw [g2, h2]; simp, fun r => ?_⟩
  rw [g2, List.append_assoc, h3, show [lineT e] ++ r = lineT e :: r from rfl, parseGo_line he hc _ _ _ (by rw [List.length_take]; omega), List.take_add_one, hk]
  rfl
theorem acc_all {es : List En} {t : Tx} {n : Int} (h : AccT es es.length t n) (hl : t.length ≤ 1048576) : parseL t = (es, 0, 0) := by
  obtain ⟨h1, h2, h3⟩ := h
  rw [parseL, if_neg (by omega)]
  have := h3 []
  rw [List.append_nil] at this
  rw [this, List.take_length]
  rfl
/-- The nine wrong lines. -/
def badLs : List ByteArray := [⟨#[116, 105, 99, 107, 32]⟩, ⟨#[32, 116, 105, 99, 107]⟩, ⟨#[112, 105, 99, 107]⟩, ⟨#[112, 105, 99, 107, 32, 45, 49]⟩, ⟨#[114, 97, 119, 32, 48]⟩, ⟨#[114, 97, 119, 32, 48, 32, 48, 48]⟩, ⟨#[97, 115, 107, 32, 48, 32, 115, 116, 101, 112, 32, 120]⟩, ⟨#[97, 115, 107, 32, 115, 116, 101, 112, 32, 53]⟩, ⟨#[102, 114, 97, 109, 101, 32, 48, 32, 37]⟩]
theorem badLs_read : ∀ q ∈ badLs, q.size ≤ 12 ∧ (readL (tx q)).2 = 411 ∧ skipT (tx q) = false ∧ linesT (tx q ++ [10, 63, 10]) = [tx q, [63]] := by decide +kernel
theorem acc_bent {es : List En} {k : Nat} {t : Tx} {n : Int} {q : ByteArray} (h : AccT es k t n) (hq : q ∈ badLs) (hl : t.length ≤ 1000000) : parseL (t ++ (tx q ++ [10, 63, 10])) = ([], n + 1, 411) := by
  obtain ⟨h1, h2, h3⟩ := h
  obtain ⟨q1, q2, q3, q4⟩ := badLs_read q hq
  have hlq : (tx q).length = q.size := Array.length_toList
  rw [parseL, if_neg (by simp only [List.length_append, List.length_cons, List.length_nil]; omega), h1, q4, h3, parseGo, q3, q2]
  rfl
