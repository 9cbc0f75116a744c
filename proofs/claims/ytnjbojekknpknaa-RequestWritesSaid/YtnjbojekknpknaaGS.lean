/- Part of a proof by the rules of the symbolic walk (see the law's own text): contracts of functions of the program. -/
import Derived.Test.YtnjbojekknpknaaGR
open Go Go.Proofs Go.SE Go.RowKit
set_option linter.unusedVariables false
def zeroRq : Rq := { kind := 0, what := 0, name := ⟨#[]⟩, p3 := 0, p4 := 0, p5 := 0, p6 := 0, p7 := 0, p8 := 0, p9 := 0, val := 0, fed := [] }
/-- What is made of fields that should have these tags. -/
def tryT : Rq → List Int → List (Int × List Int) → Rq × Bool
  | h, t :: ts, f :: fs => if f.1 = t then (if takeB h t f.2 then tryT (takeR h t f.2) ts fs else (h, false)) else (h, false)
  | h, [], [] => (h, true)
  | h, _, _ => (h, false)
def kindB (bs : List Int) : Int := (bs[1]?).getD 0
def flB (bs : List Int) : List (Int × List Int) := (readF (bs.drop 2)).1
def whatL (k : Int) : List (Int × List Int) → Int
  | [] => 0
  | f :: _ => if k = 7 ∧ (lastN f.2).2.2 = 0 ∧ (lastN f.2).1 < 256 then (lastN f.2).1 else 0
def whatB (bs : List Int) : Int := whatL (kindB bs) (flB bs)
def startQ (bs : List Int) : Rq := { zeroRq with kind := kindB bs, what := whatB bs }
def tagB (bs : List Int) : Option (List Int) := tagL (kindB bs) (whatB bs)
def runB (bs : List Int) : Rq × Bool := tryT (startQ bs) ((tagB bs).getD []) (flB bs)
def accB (bs : List Int) : Bool := decide (2 ≤ bs.length) && (decide (bs[0]? = some 1) && (decide ((readF (bs.drop 2)).2.2 = 0) && ((tagB bs).isSome && ((runB bs).2 && rightR (runB bs).1))))
def readR (bs : List Int) : Rq × Int := if accB bs then ((runB bs).1, 0) else (zeroRq, 341)
theorem tryT_len : ∀ (ts : List Int) (fs : List (Int × List Int)) (h : Rq), (tryT h ts fs).2 = true → ts.length = fs.length
  | [], [], _, _ => rfl
  | [], _ :: _, h, hc => by simp [tryT] at hc
  | _ :: _, [], h, hc => by simp [tryT] at hc
  | t :: ts, f :: fs, h, hc => by
    rw [tryT] at hc
    split at hc
    · split at hc
      · have := tryT_len ts fs _ hc
        simp only [List.length_cons, this]
      · cases hc
    · cases hc
theorem size_take {h : Rq} {t : Int} {bs : List Int} {B : Nat} (h1 : h.name.size ≤ B) (h2 : h.fed.length ≤ B) (hb : bs.length ≤ B) : (takeR h t bs).name.size ≤ B ∧ (takeR h t bs).fed.length ≤ B := by
  have hs : (strB bs).size = bs.length := by simp [strB, u8s, ByteArray.size]
  unfold takeR
  repeat' split
  all_goals exact ⟨by first | exact h1 | (simp only [hs]; exact hb), by first | exact h2 | exact hb⟩
theorem okRq_start {k w : Int} (hk : 0 ≤ k ∧ k ≤ 255) (hw : 0 ≤ w ∧ w ≤ 255) : okRq { zeroRq with kind := k, what := w } := by
  refine ⟨hk, hw, ?_, ?_, ?_, ?_, ?_, ?_, ?_, ?_, fun z hz => by cases hz⟩
  all_goals simp [zeroRq, i64R]
theorem ct16 (bs : List Int) (hbs : byteL bs) (a : Option Addr) (n c : Nat) (I : Mem) (h : SlM I a n 1 (ints .u8 bs)) (hn : n ≤ 1000000) (hc : n ≤ c) (hm : c ≤ maxLen) :
    Ct Try.prog (fnv 16) #[.slice a n c] I (fun v I' => ∃ y, v = .tuple #[.agg (rqV (readR bs).1 y).toArray, .int .i64 (readR bs).2] ∧ BySl I' y (readR bs).1.fed ∧ NewB I I' y) := by
  refine viaR (ctF_via (A := { calls := [(97, .lend [1] (.sh .bool) [.cells cellsE 29])], cuts := [(11, ⟨[(2, .keep), (4, .keep), (7, .keep)], [(0, .keep), (1, .cells cellsA)], [], fun vals _ _ _ => vals = rqV (startQ bs) (.slice none 0 0), fun _ _ => 0⟩), (13, ⟨[(2, .keep), (4, .keep), (7, .keep), (10, .keep), (11, .sh .bool)], [(0, .keep), (1, .keep)], [], fun vals _ _ _ => vals = [.bool ((tagB bs).isSome && decide (((tagB bs).getD []).length = (flB bs).length))], fun _ _ => 0⟩)], loops := [(14, ⟨[(2, .keep), (7, .keep), (10, .keep), (11, .sh .bool), (78, .keep), (79, .keep), (80, .sh (.int .i64))], [(0, .keep), (1, .cells cellsA)], [], fun vals _ I' _ => match vals with | .bool ok :: .int .i64 j :: cs => 0 ≤ j ∧ j ≤ (flB bs).length ∧ ∃ h y, cs = rqV h y ∧ okRq h ∧ h.name.size ≤ 1000000 ∧ h.fed.length ≤ 1000000 ∧ BySl I' y h.fed ∧ NewB I I' y ∧ (ok = true → (tagB bs).isSome = true ∧ ((tagB bs).getD []).length = (flB bs).length ∧ runB bs = tryT h (((tagB bs).getD []).drop j.toNat) ((flB bs).drop j.toNat)) ∧ (ok = false → ((tagB bs).isSome && (runB bs).2) = false) | _ => False, fun vals _ => match vals with | .bool ok :: .int .i64 j :: cs => ((flB bs).length - j).toNat | _ => 0⟩)] }) Try.func16 rfl Try.call16 rfl rfl) (Br (decide ((↑n : Int) < (2 : Int))) (∃ (y : Value), Value.tuple #[Value.agg #[Value.int IntKind.u8 (0 : Int), Value.int IntKind.u8 (0 : Int), Value.string (ByteArray.mk #[]), Value.int IntKind.i64 (0 : Int), Value.int IntKind.i64 (0 : Int), Value.int IntKind.i64 (0 : Int), Value.int IntKind.i64 (0 : Int), Value.int IntKind.i64 (0 : Int), Value.int IntKind.i64 (0 : Int), Value.int IntKind.i64 (0 : Int), Value.int IntKind.i64 (0 : Int), Value.slice none (0 : Nat) (0 : Nat)], Value.int IntKind.i64 (341 : Int)] = Value.tuple #[Value.agg #[Value.int IntKind.u8 (Rq.kind (Prod.fst (readR bs))), Value.int IntKind.u8 (Rq.what (Prod.fst (readR bs))), Value.string (Rq.name (Prod.fst (readR bs))), Value.int IntKind.i64 (Rq.p3 (Prod.fst (readR bs))), Value.int IntKind.i64 (Rq.p4 (Prod.fst (readR bs))), Value.int IntKind.i64 (Rq.p5 (Prod.fst (readR bs))), Value.int IntKind.i64 (Rq.p6 (Prod.fst (readR bs))), Value.int IntKind.i64 (Rq.p7 (Prod.fst (readR bs))), Value.int IntKind.i64 (Rq.p8 (Prod.fst (readR bs))), Value.int IntKind.i64 (Rq.p9 (Prod.fst (readR bs))), Value.int IntKind.i64 (Rq.val (Prod.fst (readR bs))), y], Value.int IntKind.i64 (Prod.snd (readR bs))] ∧ (∃ (b : Option Addr), ∃ (m : Nat), ∃ (c : Nat), y = Value.slice b m c ∧ SlM I b m (1 : Nat) (List.map (Value.int IntKind.u8) (Rq.fed (Prod.fst (readR bs)))) ∧ m ≤ c ∧ c ≤ (9223372036854775807 : Nat)) ∧ NewB I I y) ((0 : Int) ≤ (0 : Int) ∧ (0 : Int) < (↑n : Int) ∧ Option.isSome a = true ∧ ∃ (n_1 : Int), atI I a (0 : Nat) = some (Value.int IntKind.u8 n_1) ∧ Br (n_1 != (1 : Int)) (∃ (y : Value), Value.tuple #[Value.agg #[Value.int IntKind.u8 (0 : Int), Value.int IntKind.u8 (0 : Int), Value.string (ByteArray.mk #[]), Value.int IntKind.i64 (0 : Int), Value.int IntKind.i64 (0 : Int), Value.int IntKind.i64 (0 : Int), Value.int IntKind.i64 (0 : Int), Value.int IntKind.i64 (0 : Int), Value.int IntKind.i64 (0 : Int), Value.int IntKind.i64 (0 : Int), Value.int IntKind.i64 (0 : Int), Value.slice none (0 : Nat) (0 : Nat)], Value.int IntKind.i64 (341 : Int)] = Value.tuple #[Value.agg #[Value.int IntKind.u8 (Rq.kind (Prod.fst (readR bs))), Value.int IntKind.u8 (Rq.what (Prod.fst (readR bs))), Value.string (Rq.name (Prod.fst (readR bs))), Value.int IntKind.i64 (Rq.p3 (Prod.fst (readR bs))), Value.int IntKind.i64 (Rq.p4 (Prod.fst (readR bs))), Value.int IntKind.i64 (Rq.p5 (Prod.fst (readR bs))), Value.int IntKind.i64 (Rq.p6 (Prod.fst (readR bs))), Value.int IntKind.i64 (Rq.p7 (Prod.fst (readR bs))), Value.int IntKind.i64 (Rq.p8 (Prod.fst (readR bs))), Value.int IntKind.i64 (Rq.p9 (Prod.fst (readR bs))), Value.int IntKind.i64 (Rq.val (Prod.fst (readR bs))), y], Value.int IntKind.i64 (Prod.snd (readR bs))] ∧ (∃ (b : Option Addr), ∃ (m : Nat), ∃ (c : Nat), y = Value.slice b m c ∧ SlM I b m (1 : Nat) (List.map (Value.int IntKind.u8) (Rq.fed (Prod.fst (readR bs)))) ∧ m ≤ c ∧ c ≤ (9223372036854775807 : Nat)) ∧ NewB I I y) ((0 : Int) ≤ (2 : Int) ∧ (2 : Int) ≤ (↑n : Int) ∧ Ct Try.prog (Value.func (Fn.func (43 : Nat)) #[] #[]) #[Value.slice (sladdr a c (2 : Nat) (1 : Nat)) (n - (2 : Nat)) (c - (2 : Nat))] I fun (v : Value) (I' : Mem) => ∃ (a_1 : Option Addr), ∃ (n_2 : Nat), ∃ (c : Nat), ∃ (n_3 : Int), ∃ (n_4 : Int), v = Value.tuple #[Value.slice a_1 n_2 c, Value.int IntKind.i64 n_3, Value.int IntKind.i64 n_4] ∧ Br (n_4 != (0 : Int)) (∃ (y : Value), Value.tuple #[Value.agg #[Value.int IntKind.u8 (0 : Int), Value.int IntKind.u8 (0 : Int), Value.string (ByteArray.mk #[]), Value.int IntKind.i64 (0 : Int), Value.int IntKind.i64 (0 : Int), Value.int IntKind.i64 (0 : Int), Value.int IntKind.i64 (0 : Int), Value.int IntKind.i64 (0 : Int), Value.int IntKind.i64 (0 : Int), Value.int IntKind.i64 (0 : Int), Value.int IntKind.i64 (0 : Int), Value.slice none (0 : Nat) (0 : Nat)], Value.int IntKind.i64 (341 : Int)] = Value.tuple #[Value.agg #[Value.int IntKind.u8 (Rq.kind (Prod.fst (readR bs))), Value.int IntKind.u8 (Rq.what (Prod.fst (readR bs))), Value.string (Rq.name (Prod.fst (readR bs))), Value.int IntKind.i64 (Rq.p3 (Prod.fst (readR bs))), Value.int IntKind.i64 (Rq.p4 (Prod.fst (readR bs))), Value.int IntKind.i64 (Rq.p5 (Prod.fst (readR bs))), Value.int IntKind.i64 (Rq.p6 (Prod.fst (readR bs))), Value.int IntKind.i64 (Rq.p7 (Prod.fst (readR bs))), Value.int IntKind.i64 (Rq.p8 (Prod.fst (readR bs))), Value.int IntKind.i64 (Rq.p9 (Prod.fst (readR bs))), Value.int IntKind.i64 (Rq.val (Prod.fst (readR bs))), y], Value.int IntKind.i64 (Prod.snd (readR bs))] ∧ (∃ (b : Option Addr), ∃ (m : Nat), ∃ (c : Nat), y = Value.slice b m c ∧ SlM I' b m (1 : Nat) (List.map (Value.int IntKind.u8) (Rq.fed (Prod.fst (readR bs)))) ∧ m ≤ c ∧ c ≤ (9223372036854775807 : Nat)) ∧ NewB I I' y) ((0 : Int) ≤ (1 : Int) ∧ (1 : Int) < (↑n : Int) ∧ Option.isSome a = true ∧ ∃ (n : Int), atI I' a (1 : Nat) = some (Value.int IntKind.u8 n) ∧ Br (decide ((0 : Int) < (↑n_2 : Int))) (Br (n == (7 : Int)) ((0 : Int) ≤ (0 : Int) ∧ (0 : Int) < (↑n_2 : Int) ∧ Option.isSome a_1 = true ∧ (2 : Nat) = (2 : Nat) ∧ ∃ (n_5 : Int), atI I' a_1 (0 : Nat) = some (Value.int IntKind.i64 n_5) ∧ ∃ (a : Option Addr), ∃ (n_6 : Nat), ∃ (c_1 : Nat), atI I' a_1 (1 : Nat) = some (Value.slice a n_6 c_1) ∧ Ct Try.prog (Value.func (Fn.func (44 : Nat)) #[] #[]) #[Value.agg #[Value.int IntKind.i64 n_5, Value.slice a n_6 c_1]] I' fun (v : Value) (I' : Mem) => ∃ (n_7 : Int), ∃ (n_8 : Int), v = Value.tuple #[Value.int IntKind.u64 n_7, Value.int IntKind.i64 n_8] ∧ Br (n_8 == (0 : Int)) (Br (decide (n_7 < (256 : Int))) (Wr IntKind.u8 n_7 fun (c_2 : Int) => Ent.mk (EO.cells [SV.v (Value.int IntKind.u8 (0 : Int)), SV.v (Value.int IntKind.u8 (0 : Int)), SV.v (Value.string (ByteArray.mk #[])), SV.v (Value.int IntKind.i64 (0 : Int)), SV.v (Value.int IntKind.i64 (0 : Int)), SV.v (Value.int IntKind.i64 (0 : Int)), SV.v (Value.int IntKind.i64 (0 : Int)), SV.v (Value.int IntKind.i64 (0 : Int)), SV.v (Value.int IntKind.i64 (0 : Int)), SV.v (Value.int IntKind.i64 (0 : Int)), SV.v (Value.int IntKind.i64 (0 : Int)), SV.v (Value.slice none (0 : Nat) (0 : Nat))] (29 : Nat)) none = Ent.mk (EO.cells [SV.v (Value.int IntKind.u8 (0 : Int)), SV.v (Value.int IntKind.u8 (0 : Int)), SV.v (Value.string (ByteArray.mk #[])), SV.v (Value.int IntKind.i64 (0 : Int)), SV.v (Value.int IntKind.i64 (0 : Int)), SV.v (Value.int IntKind.i64 (0 : Int)), SV.v (Value.int IntKind.i64 (0 : Int)), SV.v (Value.int IntKind.i64 (0 : Int)), SV.v (Value.int IntKind.i64 (0 : Int)), SV.v (Value.int IntKind.i64 (0 : Int)), SV.v (Value.int IntKind.i64 (0 : Int)), SV.v (Value.slice none (0 : Nat) (0 : Nat))] (29 : Nat)) none ∧ SV.ptr (0 : Nat) (0 : Nat) = SV.ptr (0 : Nat) (0 : Nat) ∧ SV.v (Value.slice a_1 n_2 c) = SV.v (Value.slice a_1 n_2 c) ∧ SV.ptr (1 : Nat) (0 : Nat) = SV.ptr (1 : Nat) (0 : Nat) ∧ @none Nat = @none Nat ∧ [Value.int IntKind.u8 n, Value.int IntKind.u8 c_2, Value.string (ByteArray.mk #[]), Value.int IntKind.i64 (0 : Int), Value.int IntKind.i64 (0 : Int), Value.int IntKind.i64 (0 : Int), Value.int IntKind.i64 (0 : Int), Value.int IntKind.i64 (0 : Int), Value.int IntKind.i64 (0 : Int), Value.int IntKind.i64 (0 : Int), Value.int IntKind.i64 (0 : Int), Value.slice none (0 : Nat) (0 : Nat)] = [Value.int IntKind.u8 (kindB bs), Value.int IntKind.u8 (whatB bs), Value.string (ByteArray.mk #[]), Value.int IntKind.i64 (0 : Int), Value.int IntKind.i64 (0 : Int), Value.int IntKind.i64 (0 : Int), Value.int IntKind.i64 (0 : Int), Value.int IntKind.i64 (0 : Int), Value.int IntKind.i64 (0 : Int), Value.int IntKind.i64 (0 : Int), Value.int IntKind.i64 (0 : Int), Value.slice none (0 : Nat) (0 : Nat)]) (Ent.mk (EO.cells [SV.v (Value.int IntKind.u8 (0 : Int)), SV.v (Value.int IntKind.u8 (0 : Int)), SV.v (Value.string (ByteArray.mk #[])), SV.v (Value.int IntKind.i64 (0 : Int)), SV.v (Value.int IntKind.i64 (0 : Int)), SV.v (Value.int IntKind.i64 (0 : Int)), SV.v (Value.int IntKind.i64 (0 : Int)), SV.v (Value.int IntKind.i64 (0 : Int)), SV.v (Value.int IntKind.i64 (0 : Int)), SV.v (Value.int IntKind.i64 (0 : Int)), SV.v (Value.int IntKind.i64 (0 : Int)), SV.v (Value.slice none (0 : Nat) (0 : Nat))] (29 : Nat)) none = Ent.mk (EO.cells [SV.v (Value.int IntKind.u8 (0 : Int)), SV.v (Value.int IntKind.u8 (0 : Int)), SV.v (Value.string (ByteArray.mk #[])), SV.v (Value.int IntKind.i64 (0 : Int)), SV.v (Value.int IntKind.i64 (0 : Int)), SV.v (Value.int IntKind.i64 (0 : Int)), SV.v (Value.int IntKind.i64 (0 : Int)), SV.v (Value.int IntKind.i64 (0 : Int)), SV.v (Value.int IntKind.i64 (0 : Int)), SV.v (Value.int IntKind.i64 (0 : Int)), SV.v (Value.int IntKind.i64 (0 : Int)), SV.v (Value.slice none (0 : Nat) (0 : Nat))] (29 : Nat)) none ∧ SV.ptr (0 : Nat) (0 : Nat) = SV.ptr (0 : Nat) (0 : Nat) ∧ SV.v (Value.slice a_1 n_2 c) = SV.v (Value.slice a_1 n_2 c) ∧ SV.ptr (1 : Nat) (0 : Nat) = SV.ptr (1 : Nat) (0 : Nat) ∧ @none Nat = @none Nat ∧ [Value.int IntKind.u8 n, Value.int IntKind.u8 (0 : Int), Value.string (ByteArray.mk #[]), Value.int IntKind.i64 (0 : Int), Value.int IntKind.i64 (0 : Int), Value.int IntKind.i64 (0 : Int), Value.int IntKind.i64 (0 : Int), Value.int IntKind.i64 (0 : Int), Value.int IntKind.i64 (0 : Int), Value.int IntKind.i64 (0 : Int), Value.int IntKind.i64 (0 : Int), Value.slice none (0 : Nat) (0 : Nat)] = [Value.int IntKind.u8 (kindB bs), Value.int IntKind.u8 (whatB bs), Value.string (ByteArray.mk #[]), Value.int IntKind.i64 (0 : Int), Value.int IntKind.i64 (0 : Int), Value.int IntKind.i64 (0 : Int), Value.int IntKind.i64 (0 : Int), Value.int IntKind.i64 (0 : Int), Value.int IntKind.i64 (0 : Int), Value.int IntKind.i64 (0 : Int), Value.int IntKind.i64 (0 : Int), Value.slice none (0 : Nat) (0 : Nat)])) (Ent.mk (EO.cells [SV.v (Value.int IntKind.u8 (0 : Int)), SV.v (Value.int IntKind.u8 (0 : Int)), SV.v (Value.string (ByteArray.mk #[])), SV.v (Value.int IntKind.i64 (0 : Int)), SV.v (Value.int IntKind.i64 (0 : Int)), SV.v (Value.int IntKind.i64 (0 : Int)), SV.v (Value.int IntKind.i64 (0 : Int)), SV.v (Value.int IntKind.i64 (0 : Int)), SV.v (Value.int IntKind.i64 (0 : Int)), SV.v (Value.int IntKind.i64 (0 : Int)), SV.v (Value.int IntKind.i64 (0 : Int)), SV.v (Value.slice none (0 : Nat) (0 : Nat))] (29 : Nat)) none = Ent.mk (EO.cells [SV.v (Value.int IntKind.u8 (0 : Int)), SV.v (Value.int IntKind.u8 (0 : Int)), SV.v (Value.string (ByteArray.mk #[])), SV.v (Value.int IntKind.i64 (0 : Int)), SV.v (Value.int IntKind.i64 (0 : Int)), SV.v (Value.int IntKind.i64 (0 : Int)), SV.v (Value.int IntKind.i64 (0 : Int)), SV.v (Value.int IntKind.i64 (0 : Int)), SV.v (Value.int IntKind.i64 (0 : Int)), SV.v (Value.int IntKind.i64 (0 : Int)), SV.v (Value.int IntKind.i64 (0 : Int)), SV.v (Value.slice none (0 : Nat) (0 : Nat))] (29 : Nat)) none ∧ SV.ptr (0 : Nat) (0 : Nat) = SV.ptr (0 : Nat) (0 : Nat) ∧ SV.v (Value.slice a_1 n_2 c) = SV.v (Value.slice a_1 n_2 c) ∧ SV.ptr (1 : Nat) (0 : Nat) = SV.ptr (1 : Nat) (0 : Nat) ∧ @none Nat = @none Nat ∧ [Value.int IntKind.u8 n, Value.int IntKind.u8 (0 : Int), Value.string (ByteArray.mk #[]), Value.int IntKind.i64 (0 : Int), Value.int IntKind.i64 (0 : Int), Value.int IntKind.i64 (0 : Int), Value.int IntKind.i64 (0 : Int), Value.int IntKind.i64 (0 : Int), Value.int IntKind.i64 (0 : Int), Value.int IntKind.i64 (0 : Int), Value.int IntKind.i64 (0 : Int), Value.slice none (0 : Nat) (0 : Nat)] = [Value.int IntKind.u8 (kindB bs), Value.int IntKind.u8 (whatB bs), Value.string (ByteArray.mk #[]), Value.int IntKind.i64 (0 : Int), Value.int IntKind.i64 (0 : Int), Value.int IntKind.i64 (0 : Int), Value.int IntKind.i64 (0 : Int), Value.int IntKind.i64 (0 : Int), Value.int IntKind.i64 (0 : Int), Value.int IntKind.i64 (0 : Int), Value.int IntKind.i64 (0 : Int), Value.slice none (0 : Nat) (0 : Nat)])) (Ent.mk (EO.cells [SV.v (Value.int IntKind.u8 (0 : Int)), SV.v (Value.int IntKind.u8 (0 : Int)), SV.v (Value.string (ByteArray.mk #[])), SV.v (Value.int IntKind.i64 (0 : Int)), SV.v (Value.int IntKind.i64 (0 : Int)), SV.v (Value.int IntKind.i64 (0 : Int)), SV.v (Value.int IntKind.i64 (0 : Int)), SV.v (Value.int IntKind.i64 (0 : Int)), SV.v (Value.int IntKind.i64 (0 : Int)), SV.v (Value.int IntKind.i64 (0 : Int)), SV.v (Value.int IntKind.i64 (0 : Int)), SV.v (Value.slice none (0 : Nat) (0 : Nat))] (29 : Nat)) none = Ent.mk (EO.cells [SV.v (Value.int IntKind.u8 (0 : Int)), SV.v (Value.int IntKind.u8 (0 : Int)), SV.v (Value.string (ByteArray.mk #[])), SV.v (Value.int IntKind.i64 (0 : Int)), SV.v (Value.int IntKind.i64 (0 : Int)), SV.v (Value.int IntKind.i64 (0 : Int)), SV.v (Value.int IntKind.i64 (0 : Int)), SV.v (Value.int IntKind.i64 (0 : Int)), SV.v (Value.int IntKind.i64 (0 : Int)), SV.v (Value.int IntKind.i64 (0 : Int)), SV.v (Value.int IntKind.i64 (0 : Int)), SV.v (Value.slice none (0 : Nat) (0 : Nat))] (29 : Nat)) none ∧ SV.ptr (0 : Nat) (0 : Nat) = SV.ptr (0 : Nat) (0 : Nat) ∧ SV.v (Value.slice a_1 n_2 c) = SV.v (Value.slice a_1 n_2 c) ∧ SV.ptr (1 : Nat) (0 : Nat) = SV.ptr (1 : Nat) (0 : Nat) ∧ @none Nat = @none Nat ∧ [Value.int IntKind.u8 n, Value.int IntKind.u8 (0 : Int), Value.string (ByteArray.mk #[]), Value.int IntKind.i64 (0 : Int), Value.int IntKind.i64 (0 : Int), Value.int IntKind.i64 (0 : Int), Value.int IntKind.i64 (0 : Int), Value.int IntKind.i64 (0 : Int), Value.int IntKind.i64 (0 : Int), Value.int IntKind.i64 (0 : Int), Value.int IntKind.i64 (0 : Int), Value.slice none (0 : Nat) (0 : Nat)] = [Value.int IntKind.u8 (kindB bs), Value.int IntKind.u8 (whatB bs), Value.string (ByteArray.mk #[]), Value.int IntKind.i64 (0 : Int), Value.int IntKind.i64 (0 : Int), Value.int IntKind.i64 (0 : Int), Value.int IntKind.i64 (0 : Int), Value.int IntKind.i64 (0 : Int), Value.int IntKind.i64 (0 : Int), Value.int IntKind.i64 (0 : Int), Value.int IntKind.i64 (0 : Int), Value.slice none (0 : Nat) (0 : Nat)])) (Ent.mk (EO.cells [SV.v (Value.int IntKind.u8 (0 : Int)), SV.v (Value.int IntKind.u8 (0 : Int)), SV.v (Value.string (ByteArray.mk #[])), SV.v (Value.int IntKind.i64 (0 : Int)), SV.v (Value.int IntKind.i64 (0 : Int)), SV.v (Value.int IntKind.i64 (0 : Int)), SV.v (Value.int IntKind.i64 (0 : Int)), SV.v (Value.int IntKind.i64 (0 : Int)), SV.v (Value.int IntKind.i64 (0 : Int)), SV.v (Value.int IntKind.i64 (0 : Int)), SV.v (Value.int IntKind.i64 (0 : Int)), SV.v (Value.slice none (0 : Nat) (0 : Nat))] (29 : Nat)) none = Ent.mk (EO.cells [SV.v (Value.int IntKind.u8 (0 : Int)), SV.v (Value.int IntKind.u8 (0 : Int)), SV.v (Value.string (ByteArray.mk #[])), SV.v (Value.int IntKind.i64 (0 : Int)), SV.v (Value.int IntKind.i64 (0 : Int)), SV.v (Value.int IntKind.i64 (0 : Int)), SV.v (Value.int IntKind.i64 (0 : Int)), SV.v (Value.int IntKind.i64 (0 : Int)), SV.v (Value.int IntKind.i64 (0 : Int)), SV.v (Value.int IntKind.i64 (0 : Int)), SV.v (Value.int IntKind.i64 (0 : Int)), SV.v (Value.slice none (0 : Nat) (0 : Nat))] (29 : Nat)) none ∧ SV.ptr (0 : Nat) (0 : Nat) = SV.ptr (0 : Nat) (0 : Nat) ∧ SV.v (Value.slice a_1 n_2 c) = SV.v (Value.slice a_1 n_2 c) ∧ SV.ptr (1 : Nat) (0 : Nat) = SV.ptr (1 : Nat) (0 : Nat) ∧ @none Nat = @none Nat ∧ [Value.int IntKind.u8 n, Value.int IntKind.u8 (0 : Int), Value.string (ByteArray.mk #[]), Value.int IntKind.i64 (0 : Int), Value.int IntKind.i64 (0 : Int), Value.int IntKind.i64 (0 : Int), Value.int IntKind.i64 (0 : Int), Value.int IntKind.i64 (0 : Int), Value.int IntKind.i64 (0 : Int), Value.int IntKind.i64 (0 : Int), Value.int IntKind.i64 (0 : Int), Value.slice none (0 : Nat) (0 : Nat)] = [Value.int IntKind.u8 (kindB bs), Value.int IntKind.u8 (whatB bs), Value.string (ByteArray.mk #[]), Value.int IntKind.i64 (0 : Int), Value.int IntKind.i64 (0 : Int), Value.int IntKind.i64 (0 : Int), Value.int IntKind.i64 (0 : Int), Value.int IntKind.i64 (0 : Int), Value.int IntKind.i64 (0 : Int), Value.int IntKind.i64 (0 : Int), Value.int IntKind.i64 (0 : Int), Value.slice none (0 : Nat) (0 : Nat)]) ∧ ∀ (I'_1 G' : Mem), Mem.le I' I'_1 → ∀ (n n_5 : Int) (q : ByteArray) (n_6 n_7 n_8 n_9 n_10 n_11 n_12 n_13 : Int) (a : Option Addr) (n_14 c_1 : Nat), [Value.int IntKind.u8 n, Value.int IntKind.u8 n_5, Value.string q, Value.int IntKind.i64 n_6, Value.int IntKind.i64 n_7, Value.int IntKind.i64 n_8, Value.int IntKind.i64 n_9, Value.int IntKind.i64 n_10, Value.int IntKind.i64 n_11, Value.int IntKind.i64 n_12, Value.int IntKind.i64 n_13, Value.slice a n_14 c_1] = [Value.int IntKind.u8 (kindB bs), Value.int IntKind.u8 (whatB bs), Value.string (ByteArray.mk #[]), Value.int IntKind.i64 (0 : Int), Value.int IntKind.i64 (0 : Int), Value.int IntKind.i64 (0 : Int), Value.int IntKind.i64 (0 : Int), Value.int IntKind.i64 (0 : Int), Value.int IntKind.i64 (0 : Int), Value.int IntKind.i64 (0 : Int), Value.int IntKind.i64 (0 : Int), Value.slice none (0 : Nat) (0 : Nat)] → Ct Try.prog (Value.func (Fn.func (21 : Nat)) #[] #[]) #[Value.int IntKind.u8 n, Value.int IntKind.u8 n_5] I'_1 fun (v : Value) (I' : Mem) => ∃ (a_3 : Option Addr), ∃ (n_15 : Nat), ∃ (c_2 : Nat), ∃ (b : Bool), v = Value.tuple #[Value.slice a_3 n_15 c_2, Value.bool b] ∧ Br b (Ent.mk (EO.cells [SV.v (Value.int IntKind.u8 (0 : Int)), SV.v (Value.int IntKind.u8 (0 : Int)), SV.v (Value.string (ByteArray.mk #[])), SV.v (Value.int IntKind.i64 (0 : Int)), SV.v (Value.int IntKind.i64 (0 : Int)), SV.v (Value.int IntKind.i64 (0 : Int)), SV.v (Value.int IntKind.i64 (0 : Int)), SV.v (Value.int IntKind.i64 (0 : Int)), SV.v (Value.int IntKind.i64 (0 : Int)), SV.v (Value.int IntKind.i64 (0 : Int)), SV.v (Value.int IntKind.i64 (0 : Int)), SV.v (Value.slice none (0 : Nat) (0 : Nat))] (29 : Nat)) none = Ent.mk (EO.cells [SV.v (Value.int IntKind.u8 (0 : Int)), SV.v (Value.int IntKind.u8 (0 : Int)), SV.v (Value.string (ByteArray.mk #[])), SV.v (Value.int IntKind.i64 (0 : Int)), SV.v (Value.int IntKind.i64 (0 : Int)), SV.v (Value.int IntKind.i64 (0 : Int)), SV.v (Value.int IntKind.i64 (0 : Int)), SV.v (Value.int IntKind.i64 (0 : Int)), SV.v (Value.int IntKind.i64 (0 : Int)), SV.v (Value.int IntKind.i64 (0 : Int)), SV.v (Value.int IntKind.i64 (0 : Int)), SV.v (Value.slice none (0 : Nat) (0 : Nat))] (29 : Nat)) none ∧ Ent.mk (EO.cells [SV.v (Value.int IntKind.u8 n), SV.v (Value.int IntKind.u8 n_5), SV.v (Value.string q), SV.v (Value.int IntKind.i64 n_6), SV.v (Value.int IntKind.i64 n_7), SV.v (Value.int IntKind.i64 n_8), SV.v (Value.int IntKind.i64 n_9), SV.v (Value.int IntKind.i64 n_10), SV.v (Value.int IntKind.i64 n_11), SV.v (Value.int IntKind.i64 n_12), SV.v (Value.int IntKind.i64 n_13), SV.v (Value.slice a n_14 c_1)] (29 : Nat)) none = Ent.mk (EO.cells [SV.v (Value.int IntKind.u8 n), SV.v (Value.int IntKind.u8 n_5), SV.v (Value.string q), SV.v (Value.int IntKind.i64 n_6), SV.v (Value.int IntKind.i64 n_7), SV.v (Value.int IntKind.i64 n_8), SV.v (Value.int IntKind.i64 n_9), SV.v (Value.int IntKind.i64 n_10), SV.v (Value.int IntKind.i64 n_11), SV.v (Value.int IntKind.i64 n_12), SV.v (Value.int IntKind.i64 n_13), SV.v (Value.slice a n_14 c_1)] (29 : Nat)) none ∧ SV.ptr (0 : Nat) (0 : Nat) = SV.ptr (0 : Nat) (0 : Nat) ∧ SV.v (Value.slice a_1 n_2 c) = SV.v (Value.slice a_1 n_2 c) ∧ SV.ptr (1 : Nat) (0 : Nat) = SV.ptr (1 : Nat) (0 : Nat) ∧ SV.v (Value.slice a_3 n_15 c_2) = SV.v (Value.slice a_3 n_15 c_2) ∧ [Value.bool ((↑n_15 : Int) == (↑n_2 : Int))] = [Value.bool (Option.isSome (tagB bs) && decide (List.length (Option.getD (tagB bs) []) = List.length (flB bs)))]) (Ent.mk (EO.cells [SV.v (Value.int IntKind.u8 (0 : Int)), SV.v (Value.int IntKind.u8 (0 : Int)), SV.v (Value.string (ByteArray.mk #[])), SV.v (Value.int IntKind.i64 (0 : Int)), SV.v (Value.int IntKind.i64 (0 : Int)), SV.v (Value.int IntKind.i64 (0 : Int)), SV.v (Value.int IntKind.i64 (0 : Int)), SV.v (Value.int IntKind.i64 (0 : Int)), SV.v (Value.int IntKind.i64 (0 : Int)), SV.v (Value.int IntKind.i64 (0 : Int)), SV.v (Value.int IntKind.i64 (0 : Int)), SV.v (Value.slice none (0 : Nat) (0 : Nat))] (29 : Nat)) none = Ent.mk (EO.cells [SV.v (Value.int IntKind.u8 (0 : Int)), SV.v (Value.int IntKind.u8 (0 : Int)), SV.v (Value.string (ByteArray.mk #[])), SV.v (Value.int IntKind.i64 (0 : Int)), SV.v (Value.int IntKind.i64 (0 : Int)), SV.v (Value.int IntKind.i64 (0 : Int)), SV.v (Value.int IntKind.i64 (0 : Int)), SV.v (Value.int IntKind.i64 (0 : Int)), SV.v (Value.int IntKind.i64 (0 : Int)), SV.v (Value.int IntKind.i64 (0 : Int)), SV.v (Value.int IntKind.i64 (0 : Int)), SV.v (Value.slice none (0 : Nat) (0 : Nat))] (29 : Nat)) none ∧ Ent.mk (EO.cells [SV.v (Value.int IntKind.u8 n), SV.v (Value.int IntKind.u8 n_5), SV.v (Value.string q), SV.v (Value.int IntKind.i64 n_6), SV.v (Value.int IntKind.i64 n_7), SV.v (Value.int IntKind.i64 n_8), SV.v (Value.int IntKind.i64 n_9), SV.v (Value.int IntKind.i64 n_10), SV.v (Value.int IntKind.i64 n_11), SV.v (Value.int IntKind.i64 n_12), SV.v (Value.int IntKind.i64 n_13), SV.v (Value.slice a n_14 c_1)] (29 : Nat)) none = Ent.mk (EO.cells [SV.v (Value.int IntKind.u8 n), SV.v (Value.int IntKind.u8 n_5), SV.v (Value.string q), SV.v (Value.int IntKind.i64 n_6), SV.v (Value.int IntKind.i64 n_7), SV.v (Value.int IntKind.i64 n_8), SV.v (Value.int IntKind.i64 n_9), SV.v (Value.int IntKind.i64 n_10), SV.v (Value.int IntKind.i64 n_11), SV.v (Value.int IntKind.i64 n_12), SV.v (Value.int IntKind.i64 n_13), SV.v (Value.slice a n_14 c_1)] (29 : Nat)) none ∧ SV.ptr (0 : Nat) (0 : Nat) = SV.ptr (0 : Nat) (0 : Nat) ∧ SV.v (Value.slice a_1 n_2 c) = SV.v (Value.slice a_1 n_2 c) ∧ SV.ptr (1 : Nat) (0 : Nat) = SV.ptr (1 : Nat) (0 : Nat) ∧ SV.v (Value.slice a_3 n_15 c_2) = SV.v (Value.slice a_3 n_15 c_2) ∧ [Value.bool false] = [Value.bool (Option.isSome (tagB bs) && decide (List.length (Option.getD (tagB bs) []) = List.length (flB bs)))]) ∧ ∀ (I'_2 G' : Mem), Mem.le I' I'_2 → ∀ (b : Bool), [Value.bool b] = [Value.bool (Option.isSome (tagB bs) && decide (List.length (Option.getD (tagB bs) []) = List.length (flB bs)))] → (Ent.mk (EO.cells [SV.v (Value.int IntKind.u8 (0 : Int)), SV.v (Value.int IntKind.u8 (0 : Int)), SV.v (Value.string (ByteArray.mk #[])), SV.v (Value.int IntKind.i64 (0 : Int)), SV.v (Value.int IntKind.i64 (0 : Int)), SV.v (Value.int IntKind.i64 (0 : Int)), SV.v (Value.int IntKind.i64 (0 : Int)), SV.v (Value.int IntKind.i64 (0 : Int)), SV.v (Value.int IntKind.i64 (0 : Int)), SV.v (Value.int IntKind.i64 (0 : Int)), SV.v (Value.int IntKind.i64 (0 : Int)), SV.v (Value.slice none (0 : Nat) (0 : Nat))] (29 : Nat)) none = Ent.mk (EO.cells [SV.v (Value.int IntKind.u8 (0 : Int)), SV.v (Value.int IntKind.u8 (0 : Int)), SV.v (Value.string (ByteArray.mk #[])), SV.v (Value.int IntKind.i64 (0 : Int)), SV.v (Value.int IntKind.i64 (0 : Int)), SV.v (Value.int IntKind.i64 (0 : Int)), SV.v (Value.int IntKind.i64 (0 : Int)), SV.v (Value.int IntKind.i64 (0 : Int)), SV.v (Value.int IntKind.i64 (0 : Int)), SV.v (Value.int IntKind.i64 (0 : Int)), SV.v (Value.int IntKind.i64 (0 : Int)), SV.v (Value.slice none (0 : Nat) (0 : Nat))] (29 : Nat)) none ∧ Ent.mk (EO.cells [SV.v (Value.int IntKind.u8 n), SV.v (Value.int IntKind.u8 n_5), SV.v (Value.string q), SV.v (Value.int IntKind.i64 n_6), SV.v (Value.int IntKind.i64 n_7), SV.v (Value.int IntKind.i64 n_8), SV.v (Value.int IntKind.i64 n_9), SV.v (Value.int IntKind.i64 n_10), SV.v (Value.int IntKind.i64 n_11), SV.v (Value.int IntKind.i64 n_12), SV.v (Value.int IntKind.i64 n_13), SV.v (Value.slice a n_14 c_1)] (29 : Nat)) none = Ent.mk (EO.cells [SV.v (Value.int IntKind.u8 n), SV.v (Value.int IntKind.u8 n_5), SV.v (Value.string q), SV.v (Value.int IntKind.i64 n_6), SV.v (Value.int IntKind.i64 n_7), SV.v (Value.int IntKind.i64 n_8), SV.v (Value.int IntKind.i64 n_9), SV.v (Value.int IntKind.i64 n_10), SV.v (Value.int IntKind.i64 n_11), SV.v (Value.int IntKind.i64 n_12), SV.v (Value.int IntKind.i64 n_13), SV.v (Value.slice a n_14 c_1)] (29 : Nat)) none ∧ SV.ptr (0 : Nat) (0 : Nat) = SV.ptr (0 : Nat) (0 : Nat) ∧ SV.v (Value.slice a_1 n_2 c) = SV.v (Value.slice a_1 n_2 c) ∧ SV.ptr (1 : Nat) (0 : Nat) = SV.ptr (1 : Nat) (0 : Nat) ∧ SV.v (Value.slice a_3 n_15 c_2) = SV.v (Value.slice a_3 n_15 c_2) ∧ [Value.bool b] = [Value.bool (Option.isSome (tagB bs) && decide (List.length (Option.getD (tagB bs) []) = List.length (flB bs)))]) ∧ ∀ (I' G' : Mem), Mem.le I'_2 I' → ∀ (b : Bool), [Value.bool b] = [Value.bool (Option.isSome (tagB bs) && decide (List.length (Option.getD (tagB bs) []) = List.length (flB bs)))] → (Ent.mk (EO.cells [SV.v (Value.int IntKind.u8 (0 : Int)), SV.v (Value.int IntKind.u8 (0 : Int)), SV.v (Value.string (ByteArray.mk #[])), SV.v (Value.int IntKind.i64 (0 : Int)), SV.v (Value.int IntKind.i64 (0 : Int)), SV.v (Value.int IntKind.i64 (0 : Int)), SV.v (Value.int IntKind.i64 (0 : Int)), SV.v (Value.int IntKind.i64 (0 : Int)), SV.v (Value.int IntKind.i64 (0 : Int)), SV.v (Value.int IntKind.i64 (0 : Int)), SV.v (Value.int IntKind.i64 (0 : Int)), SV.v (Value.slice none (0 : Nat) (0 : Nat))] (29 : Nat)) none = Ent.mk (EO.cells [SV.v (Value.int IntKind.u8 (0 : Int)), SV.v (Value.int IntKind.u8 (0 : Int)), SV.v (Value.string (ByteArray.mk #[])), SV.v (Value.int IntKind.i64 (0 : Int)), SV.v (Value.int IntKind.i64 (0 : Int)), SV.v (Value.int IntKind.i64 (0 : Int)), SV.v (Value.int IntKind.i64 (0 : Int)), SV.v (Value.int IntKind.i64 (0 : Int)), SV.v (Value.int IntKind.i64 (0 : Int)), SV.v (Value.int IntKind.i64 (0 : Int)), SV.v (Value.int IntKind.i64 (0 : Int)), SV.v (Value.slice none (0 : Nat) (0 : Nat))] (29 : Nat)) none ∧ SV.ptr (0 : Nat) (0 : Nat) = SV.ptr (0 : Nat) (0 : Nat) ∧ SV.ptr (1 : Nat) (0 : Nat) = SV.ptr (1 : Nat) (0 : Nat) ∧ SV.v (Value.slice a_3 n_15 c_2) = SV.v (Value.slice a_3 n_15 c_2) ∧ SV.v (Value.slice a_1 n_2 c) = SV.v (Value.slice a_1 n_2 c) ∧ SV.v (Value.int IntKind.i64 (↑n_2 : Int)) = SV.v (Value.int IntKind.i64 (↑n_2 : Int)) ∧ @none Nat = @none Nat ∧ (0 : Int) ≤ (0 : Int) ∧ (0 : Int) ≤ (↑(List.length (flB bs)) : Int) ∧ ∃ (h : Rq), ∃ (y : Value), [Value.int IntKind.u8 n, Value.int IntKind.u8 n_5, Value.string q, Value.int IntKind.i64 n_6, Value.int IntKind.i64 n_7, Value.int IntKind.i64 n_8, Value.int IntKind.i64 n_9, Value.int IntKind.i64 n_10, Value.int IntKind.i64 n_11, Value.int IntKind.i64 n_12, Value.int IntKind.i64 n_13, Value.slice a n_14 c_1] = [Value.int IntKind.u8 (Rq.kind h), Value.int IntKind.u8 (Rq.what h), Value.string (Rq.name h), Value.int IntKind.i64 (Rq.p3 h), Value.int IntKind.i64 (Rq.p4 h), Value.int IntKind.i64 (Rq.p5 h), Value.int IntKind.i64 (Rq.p6 h), Value.int IntKind.i64 (Rq.p7 h), Value.int IntKind.i64 (Rq.p8 h), Value.int IntKind.i64 (Rq.p9 h), Value.int IntKind.i64 (Rq.val h), y] ∧ okRq h ∧ ByteArray.size (Rq.name h) ≤ (1000000 : Nat) ∧ List.length (Rq.fed h) ≤ (1000000 : Nat) ∧ (∃ (b : Option Addr), ∃ (m : Nat), ∃ (c : Nat), y = Value.slice b m c ∧ SlM I' b m (1 : Nat) (List.map (Value.int IntKind.u8) (Rq.fed h)) ∧ m ≤ c ∧ c ≤ (9223372036854775807 : Nat)) ∧ NewB I I' y ∧ (b = true → Option.isSome (tagB bs) = true ∧ List.length (Option.getD (tagB bs) []) = List.length (flB bs) ∧ runB bs = tryT h (List.drop (0 : Nat) (Option.getD (tagB bs) [])) (List.drop (0 : Nat) (flB bs))) ∧ (b = false → (Option.isSome (tagB bs) && Prod.snd (runB bs)) = false)) ∧ ∀ (I'_3 G' : Mem), Mem.le I' I'_3 → ∀ (b : Bool) (n n_16 n_17 : Int) (q : ByteArray) (n_18 n_19 n_20 n_21 n_22 n_23 n_24 n_25 : Int) (a : Option Addr) (n_26 c_3 : Nat), ((0 : Int) ≤ n ∧ n ≤ (↑(List.length (flB bs)) : Int) ∧ ∃ (h : Rq), ∃ (y : Value), [Value.int IntKind.u8 n_16, Value.int IntKind.u8 n_17, Value.string q, Value.int IntKind.i64 n_18, Value.int IntKind.i64 n_19, Value.int IntKind.i64 n_20, Value.int IntKind.i64 n_21, Value.int IntKind.i64 n_22, Value.int IntKind.i64 n_23, Value.int IntKind.i64 n_24, Value.int IntKind.i64 n_25, Value.slice a n_26 c_3] = [Value.int IntKind.u8 (Rq.kind h), Value.int IntKind.u8 (Rq.what h), Value.string (Rq.name h), Value.int IntKind.i64 (Rq.p3 h), Value.int IntKind.i64 (Rq.p4 h), Value.int IntKind.i64 (Rq.p5 h), Value.int IntKind.i64 (Rq.p6 h), Value.int IntKind.i64 (Rq.p7 h), Value.int IntKind.i64 (Rq.p8 h), Value.int IntKind.i64 (Rq.p9 h), Value.int IntKind.i64 (Rq.val h), y] ∧ okRq h ∧ ByteArray.size (Rq.name h) ≤ (1000000 : Nat) ∧ List.length (Rq.fed h) ≤ (1000000 : Nat) ∧ (∃ (b : Option Addr), ∃ (m : Nat), ∃ (c : Nat), y = Value.slice b m c ∧ SlM I'_3 b m (1 : Nat) (List.map (Value.int IntKind.u8) (Rq.fed h)) ∧ m ≤ c ∧ c ≤ (9223372036854775807 : Nat)) ∧ NewB I I'_3 y ∧ (b = true → Option.isSome (tagB bs) = true ∧ List.length (Option.getD (tagB bs) []) = List.length (flB bs) ∧ runB bs = tryT h (List.drop (Int.toNat n) (Option.getD (tagB bs) [])) (List.drop (Int.toNat n) (flB bs))) ∧ (b = false → (Option.isSome (tagB bs) && Prod.snd (runB bs)) = false)) → Br (decide (n < (↑n_2 : Int))) ((0 : Int) ≤ n ∧ n < (↑n_2 : Int) ∧ Option.isSome a_1 = true ∧ (2 : Nat) = (2 : Nat) ∧ ∃ (n_27 : Int), atI I'_3 a_1 (Int.toNat n * (2 : Nat) + (0 : Nat)) = some (Value.int IntKind.i64 n_27) ∧ ∃ (a_9 : Option Addr), ∃ (n_28 : Nat), ∃ (c_4 : Nat), atI I'_3 a_1 (Int.toNat n * (2 : Nat) + (1 : Nat)) = some (Value.slice a_9 n_28 c_4) ∧ Br b ((0 : Int) ≤ n ∧ n < (↑n_15 : Int) ∧ Option.isSome a_3 = true ∧ ∃ (n_29 : Int), atI I'_3 a_3 (Int.toNat n * (1 : Nat) + (0 : Nat)) = some (Value.int IntKind.i64 n_29) ∧ Br (n_27 == n_29) (∀ (b : Nat), CtS Try.prog (SV.v (Value.func (Fn.func (42 : Nat)) #[] #[])) [SV.ptr (0 : Nat) (0 : Nat), SV.agg [SV.v (Value.int IntKind.i64 n_27), SV.v (Value.slice a_9 n_28 c_4)]] [Ent.mk (EO.cells [SV.v (Value.int IntKind.u8 n_16), SV.v (Value.int IntKind.u8 n_17), SV.v (Value.string q), SV.v (Value.int IntKind.i64 n_18), SV.v (Value.int IntKind.i64 n_19), SV.v (Value.int IntKind.i64 n_20), SV.v (Value.int IntKind.i64 n_21), SV.v (Value.int IntKind.i64 n_22), SV.v (Value.int IntKind.i64 n_23), SV.v (Value.int IntKind.i64 n_24), SV.v (Value.int IntKind.i64 n_25), SV.v (Value.slice a n_26 c_3)] (29 : Nat)) (some b)] I'_3 fun (sv : SV) (H' : List Ent) (I' : Mem) => ∃ (b_1 : Bool), ∃ (n_30 : Int), ∃ (n_31 : Int), ∃ (q : ByteArray), ∃ (n_32 : Int), ∃ (n_33 : Int), ∃ (n_34 : Int), ∃ (n_35 : Int), ∃ (n_36 : Int), ∃ (n_37 : Int), ∃ (n_38 : Int), ∃ (n_39 : Int), ∃ (a : Option Addr), ∃ (n_40 : Nat), ∃ (c_5 : Nat), sv = SV.v (Value.bool b_1) ∧ H' = [Ent.mk (EO.cells [SV.v (Value.int IntKind.u8 n_30), SV.v (Value.int IntKind.u8 n_31), SV.v (Value.string q), SV.v (Value.int IntKind.i64 n_32), SV.v (Value.int IntKind.i64 n_33), SV.v (Value.int IntKind.i64 n_34), SV.v (Value.int IntKind.i64 n_35), SV.v (Value.int IntKind.i64 n_36), SV.v (Value.int IntKind.i64 n_37), SV.v (Value.int IntKind.i64 n_38), SV.v (Value.int IntKind.i64 n_39), SV.v (Value.slice a n_40 c_5)] (29 : Nat)) (some b)] ∧ Br (!b_1) (Br (!b_1) (∃ (y : Value), Value.tuple #[Value.agg #[Value.int IntKind.u8 (0 : Int), Value.int IntKind.u8 (0 : Int), Value.string (ByteArray.mk #[]), Value.int IntKind.i64 (0 : Int), Value.int IntKind.i64 (0 : Int), Value.int IntKind.i64 (0 : Int), Value.int IntKind.i64 (0 : Int), Value.int IntKind.i64 (0 : Int), Value.int IntKind.i64 (0 : Int), Value.int IntKind.i64 (0 : Int), Value.int IntKind.i64 (0 : Int), Value.slice none (0 : Nat) (0 : Nat)], Value.int IntKind.i64 (341 : Int)] = Value.tuple #[Value.agg #[Value.int IntKind.u8 (Rq.kind (Prod.fst (readR bs))), Value.int IntKind.u8 (Rq.what (Prod.fst (readR bs))), Value.string (Rq.name (Prod.fst (readR bs))), Value.int IntKind.i64 (Rq.p3 (Prod.fst (readR bs))), Value.int IntKind.i64 (Rq.p4 (Prod.fst (readR bs))), Value.int IntKind.i64 (Rq.p5 (Prod.fst (readR bs))), Value.int IntKind.i64 (Rq.p6 (Prod.fst (readR bs))), Value.int IntKind.i64 (Rq.p7 (Prod.fst (readR bs))), Value.int IntKind.i64 (Rq.p8 (Prod.fst (readR bs))), Value.int IntKind.i64 (Rq.p9 (Prod.fst (readR bs))), Value.int IntKind.i64 (Rq.val (Prod.fst (readR bs))), y], Value.int IntKind.i64 (Prod.snd (readR bs))] ∧ (∃ (b : Option Addr), ∃ (m : Nat), ∃ (c : Nat), y = Value.slice b m c ∧ SlM I' b m (1 : Nat) (List.map (Value.int IntKind.u8) (Rq.fed (Prod.fst (readR bs)))) ∧ m ≤ c ∧ c ≤ (9223372036854775807 : Nat)) ∧ NewB I I' y) (Ct Try.prog (Value.func (Fn.func (15 : Nat)) #[] #[]) #[Value.agg #[Value.int IntKind.u8 n_30, Value.int IntKind.u8 n_31, Value.string q, Value.int IntKind.i64 n_32, Value.int IntKind.i64 n_33, Value.int IntKind.i64 n_34, Value.int IntKind.i64 n_35, Value.int IntKind.i64 n_36, Value.int IntKind.i64 n_37, Value.int IntKind.i64 n_38, Value.int IntKind.i64 n_39, Value.slice a n_40 c_5]] I' fun (v : Value) (I' : Mem) => ∃ (b : Bool), v = Value.bool b ∧ Br (!b) (∃ (y : Value), Value.tuple #[Value.agg #[Value.int IntKind.u8 (0 : Int), Value.int IntKind.u8 (0 : Int), Value.string (ByteArray.mk #[]), Value.int IntKind.i64 (0 : Int), Value.int IntKind.i64 (0 : Int), Value.int IntKind.i64 (0 : Int), Value.int IntKind.i64 (0 : Int), Value.int IntKind.i64 (0 : Int), Value.int IntKind.i64 (0 : Int), Value.int IntKind.i64 (0 : Int), Value.int IntKind.i64 (0 : Int), Value.slice none (0 : Nat) (0 : Nat)], Value.int IntKind.i64 (341 : Int)] = Value.tuple #[Value.agg #[Value.int IntKind.u8 (Rq.kind (Prod.fst (readR bs))), Value.int IntKind.u8 (Rq.what (Prod.fst (readR bs))), Value.string (Rq.name (Prod.fst (readR bs))), Value.int IntKind.i64 (Rq.p3 (Prod.fst (readR bs))), Value.int IntKind.i64 (Rq.p4 (Prod.fst (readR bs))), Value.int IntKind.i64 (Rq.p5 (Prod.fst (readR bs))), Value.int IntKind.i64 (Rq.p6 (Prod.fst (readR bs))), Value.int IntKind.i64 (Rq.p7 (Prod.fst (readR bs))), Value.int IntKind.i64 (Rq.p8 (Prod.fst (readR bs))), Value.int IntKind.i64 (Rq.p9 (Prod.fst (readR bs))), Value.int IntKind.i64 (Rq.val (Prod.fst (readR bs))), y], Value.int IntKind.i64 (Prod.snd (readR bs))] ∧ (∃ (b : Option Addr), ∃ (m : Nat), ∃ (c : Nat), y = Value.slice b m c ∧ SlM I' b m (1 : Nat) (List.map (Value.int IntKind.u8) (Rq.fed (Prod.fst (readR bs)))) ∧ m ≤ c ∧ c ≤ (9223372036854775807 : Nat)) ∧ NewB I I' y) (∃ (y : Value), Value.tuple #[Value.agg #[Value.int IntKind.u8 n_30, Value.int IntKind.u8 n_31, Value.string q, Value.int IntKind.i64 n_32, Value.int IntKind.i64 n_33, Value.int IntKind.i64 n_34, Value.int IntKind.i64 n_35, Value.int IntKind.i64 n_36, Value.int IntKind.i64 n_37, Value.int IntKind.i64 n_38, Value.int IntKind.i64 n_39, Value.slice a n_40 c_5], Value.int IntKind.i64 (0 : Int)] = Value.tuple #[Value.agg #[Value.int IntKind.u8 (Rq.kind (Prod.fst (readR bs))), Value.int IntKind.u8 (Rq.what (Prod.fst (readR bs))), Value.string (Rq.name (Prod.fst (readR bs))), Value.int IntKind.i64 (Rq.p3 (Prod.fst (readR bs))), Value.int IntKind.i64 (Rq.p4 (Prod.fst (readR bs))), Value.int IntKind.i64 (Rq.p5 (Prod.fst (readR bs))), Value.int IntKind.i64 (Rq.p6 (Prod.fst (readR bs))), Value.int IntKind.i64 (Rq.p7 (Prod.fst (readR bs))), Value.int IntKind.i64 (Rq.p8 (Prod.fst (readR bs))), Value.int IntKind.i64 (Rq.p9 (Prod.fst (readR bs))), Value.int IntKind.i64 (Rq.val (Prod.fst (readR bs))), y], Value.int IntKind.i64 (Prod.snd (readR bs))] ∧ (∃ (b : Option Addr), ∃ (m : Nat), ∃ (c : Nat), y = Value.slice b m c ∧ SlM I' b m (1 : Nat) (List.map (Value.int IntKind.u8) (Rq.fed (Prod.fst (readR bs)))) ∧ m ≤ c ∧ c ≤ (9223372036854775807 : Nat)) ∧ NewB I I' y))) (Wr IntKind.i64 (n + (1 : Int)) fun (c_6 : Int) => Ent.mk (EO.cells [SV.v (Value.int IntKind.u8 (0 : Int)), SV.v (Value.int IntKind.u8 (0 : Int)), SV.v (Value.string (ByteArray.mk #[])), SV.v (Value.int IntKind.i64 (0 : Int)), SV.v (Value.int IntKind.i64 (0 : Int)), SV.v (Value.int IntKind.i64 (0 : Int)), SV.v (Value.int IntKind.i64 (0 : Int)), SV.v (Value.int IntKind.i64 (0 : Int)), SV.v (Value.int IntKind.i64 (0 : Int)), SV.v (Value.int IntKind.i64 (0 : Int)), SV.v (Value.int IntKind.i64 (0 : Int)), SV.v (Value.slice none (0 : Nat) (0 : Nat))] (29 : Nat)) none = Ent.mk (EO.cells [SV.v (Value.int IntKind.u8 (0 : Int)), SV.v (Value.int IntKind.u8 (0 : Int)), SV.v (Value.string (ByteArray.mk #[])), SV.v (Value.int IntKind.i64 (0 : Int)), SV.v (Value.int IntKind.i64 (0 : Int)), SV.v (Value.int IntKind.i64 (0 : Int)), SV.v (Value.int IntKind.i64 (0 : Int)), SV.v (Value.int IntKind.i64 (0 : Int)), SV.v (Value.int IntKind.i64 (0 : Int)), SV.v (Value.int IntKind.i64 (0 : Int)), SV.v (Value.int IntKind.i64 (0 : Int)), SV.v (Value.slice none (0 : Nat) (0 : Nat))] (29 : Nat)) none ∧ SV.ptr (0 : Nat) (0 : Nat) = SV.ptr (0 : Nat) (0 : Nat) ∧ SV.ptr (1 : Nat) (0 : Nat) = SV.ptr (1 : Nat) (0 : Nat) ∧ SV.v (Value.slice a_3 n_15 c_2) = SV.v (Value.slice a_3 n_15 c_2) ∧ SV.v (Value.slice a_1 n_2 c) = SV.v (Value.slice a_1 n_2 c) ∧ SV.v (Value.int IntKind.i64 (↑n_2 : Int)) = SV.v (Value.int IntKind.i64 (↑n_2 : Int)) ∧ ((0 : Int) ≤ c_6 ∧ c_6 ≤ (↑(List.length (flB bs)) : Int) ∧ ∃ (h : Rq), ∃ (y : Value), [Value.int IntKind.u8 n_30, Value.int IntKind.u8 n_31, Value.string q, Value.int IntKind.i64 n_32, Value.int IntKind.i64 n_33, Value.int IntKind.i64 n_34, Value.int IntKind.i64 n_35, Value.int IntKind.i64 n_36, Value.int IntKind.i64 n_37, Value.int IntKind.i64 n_38, Value.int IntKind.i64 n_39, Value.slice a n_40 c_5] = [Value.int IntKind.u8 (Rq.kind h), Value.int IntKind.u8 (Rq.what h), Value.string (Rq.name h), Value.int IntKind.i64 (Rq.p3 h), Value.int IntKind.i64 (Rq.p4 h), Value.int IntKind.i64 (Rq.p5 h), Value.int IntKind.i64 (Rq.p6 h), Value.int IntKind.i64 (Rq.p7 h), Value.int IntKind.i64 (Rq.p8 h), Value.int IntKind.i64 (Rq.p9 h), Value.int IntKind.i64 (Rq.val h), y] ∧ okRq h ∧ ByteArray.size (Rq.name h) ≤ (1000000 : Nat) ∧ List.length (Rq.fed h) ≤ (1000000 : Nat) ∧ (∃ (b : Option Addr), ∃ (m : Nat), ∃ (c : Nat), y = Value.slice b m c ∧ SlM I' b m (1 : Nat) (List.map (Value.int IntKind.u8) (Rq.fed h)) ∧ m ≤ c ∧ c ≤ (9223372036854775807 : Nat)) ∧ NewB I I' y ∧ (b_1 = true → Option.isSome (tagB bs) = true ∧ List.length (Option.getD (tagB bs) []) = List.length (flB bs) ∧ runB bs = tryT h (List.drop (Int.toNat c_6) (Option.getD (tagB bs) [])) (List.drop (Int.toNat c_6) (flB bs))) ∧ (b_1 = false → (Option.isSome (tagB bs) && Prod.snd (runB bs)) = false)) ∧ Int.toNat ((↑(List.length (flB bs)) : Int) - c_6) < Int.toNat ((↑(List.length (flB bs)) : Int) - n))) (∃ (y : Value), Value.tuple #[Value.agg #[Value.int IntKind.u8 (0 : Int), Value.int IntKind.u8 (0 : Int), Value.string (ByteArray.mk #[]), Value.int IntKind.i64 (0 : Int), Value.int IntKind.i64 (0 : Int), Value.int IntKind.i64 (0 : Int), Value.int IntKind.i64 (0 : Int), Value.int IntKind.i64 (0 : Int), Value.int IntKind.i64 (0 : Int), Value.int IntKind.i64 (0 : Int), Value.int IntKind.i64 (0 : Int), Value.slice none (0 : Nat) (0 : Nat)], Value.int IntKind.i64 (341 : Int)] = Value.tuple #[Value.agg #[Value.int IntKind.u8 (Rq.kind (Prod.fst (readR bs))), Value.int IntKind.u8 (Rq.what (Prod.fst (readR bs))), Value.string (Rq.name (Prod.fst (readR bs))), Value.int IntKind.i64 (Rq.p3 (Prod.fst (readR bs))), Value.int IntKind.i64 (Rq.p4 (Prod.fst (readR bs))), Value.int IntKind.i64 (Rq.p5 (Prod.fst (readR bs))), Value.int IntKind.i64 (Rq.p6 (Prod.fst (readR bs))), Value.int IntKind.i64 (Rq.p7 (Prod.fst (readR bs))), Value.int IntKind.i64 (Rq.p8 (Prod.fst (readR bs))), Value.int IntKind.i64 (Rq.p9 (Prod.fst (readR bs))), Value.int IntKind.i64 (Rq.val (Prod.fst (readR bs))), y], Value.int IntKind.i64 (Prod.snd (readR bs))] ∧ (∃ (b : Option Addr), ∃ (m : Nat), ∃ (c : Nat), y = Value.slice b m c ∧ SlM I'_3 b m (1 : Nat) (List.map (Value.int IntKind.u8) (Rq.fed (Prod.fst (readR bs)))) ∧ m ≤ c ∧ c ≤ (9223372036854775807 : Nat)) ∧ NewB I I'_3 y)) (∃ (y : Value), Value.tuple #[Value.agg #[Value.int IntKind.u8 (0 : Int), Value.int IntKind.u8 (0 : Int), Value.string (ByteArray.mk #[]), Value.int IntKind.i64 (0 : Int), Value.int IntKind.i64 (0 : Int), Value.int IntKind.i64 (0 : Int), Value.int IntKind.i64 (0 : Int), Value.int IntKind.i64 (0 : Int), Value.int IntKind.i64 (0 : Int), Value.int IntKind.i64 (0 : Int), Value.int IntKind.i64 (0 : Int), Value.slice none (0 : Nat) (0 : Nat)], Value.int IntKind.i64 (341 : Int)] = Value.tuple #[Value.agg #[Value.int IntKind.u8 (Rq.kind (Prod.fst (readR bs))), Value.int IntKind.u8 (Rq.what (Prod.fst (readR bs))), Value.string (Rq.name (Prod.fst (readR bs))), Value.int IntKind.i64 (Rq.p3 (Prod.fst (readR bs))), Value.int IntKind.i64 (Rq.p4 (Prod.fst (readR bs))), Value.int IntKind.i64 (Rq.p5 (Prod.fst (readR bs))), Value.int IntKind.i64 (Rq.p6 (Prod.fst (readR bs))), Value.int IntKind.i64 (Rq.p7 (Prod.fst (readR bs))), Value.int IntKind.i64 (Rq.p8 (Prod.fst (readR bs))), Value.int IntKind.i64 (Rq.p9 (Prod.fst (readR bs))), Value.int IntKind.i64 (Rq.val (Prod.fst (readR bs))), y], Value.int IntKind.i64 (Prod.snd (readR bs))] ∧ (∃ (b : Option Addr), ∃ (m : Nat), ∃ (c : Nat), y = Value.slice b m c ∧ SlM I'_3 b m (1 : Nat) (List.map (Value.int IntKind.u8) (Rq.fed (Prod.fst (readR bs)))) ∧ m ≤ c ∧ c ≤ (9223372036854775807 : Nat)) ∧ NewB I I'_3 y)) (Br (!b) (∃ (y : Value), Value.tuple #[Value.agg #[Value.int IntKind.u8 (0 : Int), Value.int IntKind.u8 (0 : Int), Value.string (ByteArray.mk #[]), Value.int IntKind.i64 (0 : Int), Value.int IntKind.i64 (0 : Int), Value.int IntKind.i64 (0 : Int), Value.int IntKind.i64 (0 : Int), Value.int IntKind.i64 (0 : Int), Value.int IntKind.i64 (0 : Int), Value.int IntKind.i64 (0 : Int), Value.int IntKind.i64 (0 : Int), Value.slice none (0 : Nat) (0 : Nat)], Value.int IntKind.i64 (341 : Int)] = Value.tuple #[Value.agg #[Value.int IntKind.u8 (Rq.kind (Prod.fst (readR bs))), Value.int IntKind.u8 (Rq.what (Prod.fst (readR bs))), Value.string (Rq.name (Prod.fst (readR bs))), Value.int IntKind.i64 (Rq.p3 (Prod.fst (readR bs))), Value.int IntKind.i64 (Rq.p4 (Prod.fst (readR bs))), Value.int IntKind.i64 (Rq.p5 (Prod.fst (readR bs))), Value.int IntKind.i64 (Rq.p6 (Prod.fst (readR bs))), Value.int IntKind.i64 (Rq.p7 (Prod.fst (readR bs))), Value.int IntKind.i64 (Rq.p8 (Prod.fst (readR bs))), Value.int IntKind.i64 (Rq.p9 (Prod.fst (readR bs))), Value.int IntKind.i64 (Rq.val (Prod.fst (readR bs))), y], Value.int IntKind.i64 (Prod.snd (readR bs))] ∧ (∃ (b : Option Addr), ∃ (m : Nat), ∃ (c : Nat), y = Value.slice b m c ∧ SlM I'_3 b m (1 : Nat) (List.map (Value.int IntKind.u8) (Rq.fed (Prod.fst (readR bs)))) ∧ m ≤ c ∧ c ≤ (9223372036854775807 : Nat)) ∧ NewB I I'_3 y) (Ct Try.prog (Value.func (Fn.func (15 : Nat)) #[] #[]) #[Value.agg #[Value.int IntKind.u8 n_16, Value.int IntKind.u8 n_17, Value.string q, Value.int IntKind.i64 n_18, Value.int IntKind.i64 n_19, Value.int IntKind.i64 n_20, Value.int IntKind.i64 n_21, Value.int IntKind.i64 n_22, Value.int IntKind.i64 n_23, Value.int IntKind.i64 n_24, Value.int IntKind.i64 n_25, Value.slice a n_26 c_3]] I'_3 fun (v : Value) (I' : Mem) => ∃ (b : Bool), v = Value.bool b ∧ Br (!b) (∃ (y : Value), Value.tuple #[Value.agg #[Value.int IntKind.u8 (0 : Int), Value.int IntKind.u8 (0 : Int), Value.string (ByteArray.mk #[]), Value.int IntKind.i64 (0 : Int), Value.int IntKind.i64 (0 : Int), Value.int IntKind.i64 (0 : Int), Value.int IntKind.i64 (0 : Int), Value.int IntKind.i64 (0 : Int), Value.int IntKind.i64 (0 : Int), Value.int IntKind.i64 (0 : Int), Value.int IntKind.i64 (0 : Int), Value.slice none (0 : Nat) (0 : Nat)], Value.int IntKind.i64 (341 : Int)] = Value.tuple #[Value.agg #[Value.int IntKind.u8 (Rq.kind (Prod.fst (readR bs))), Value.int IntKind.u8 (Rq.what (Prod.fst (readR bs))), Value.string (Rq.name (Prod.fst (readR bs))), Value.int IntKind.i64 (Rq.p3 (Prod.fst (readR bs))), Value.int IntKind.i64 (Rq.p4 (Prod.fst (readR bs))), Value.int IntKind.i64 (Rq.p5 (Prod.fst (readR bs))), Value.int IntKind.i64 (Rq.p6 (Prod.fst (readR bs))), Value.int IntKind.i64 (Rq.p7 (Prod.fst (readR bs))), Value.int IntKind.i64 (Rq.p8 (Prod.fst (readR bs))), Value.int IntKind.i64 (Rq.p9 (Prod.fst (readR bs))), Value.int IntKind.i64 (Rq.val (Prod.fst (readR bs))), y], Value.int IntKind.i64 (Prod.snd (readR bs))] ∧ (∃ (b : Option Addr), ∃ (m : Nat), ∃ (c : Nat), y = Value.slice b m c ∧ SlM I' b m (1 : Nat) (List.map (Value.int IntKind.u8) (Rq.fed (Prod.fst (readR bs)))) ∧ m ≤ c ∧ c ≤ (9223372036854775807 : Nat)) ∧ NewB I I' y) (∃ (y : Value), Value.tuple #[Value.agg #[Value.int IntKind.u8 n_16, Value.int IntKind.u8 n_17, Value.string q, Value.int IntKind.i64 n_18, Value.int IntKind.i64 n_19, Value.int IntKind.i64 n_20, Value.int IntKind.i64 n_21, Value.int IntKind.i64 n_22, Value.int IntKind.i64 n_23, Value.int IntKind.i64 n_24, Value.int IntKind.i64 n_25, Value.slice a n_26 c_3], Value.int IntKind.i64 (0 : Int)] = Value.tuple #[Value.agg #[Value.int IntKind.u8 (Rq.kind (Prod.fst (readR bs))), Value.int IntKind.u8 (Rq.what (Prod.fst (readR bs))), Value.string (Rq.name (Prod.fst (readR bs))), Value.int IntKind.i64 (Rq.p3 (Prod.fst (readR bs))), Value.int IntKind.i64 (Rq.p4 (Prod.fst (readR bs))), Value.int IntKind.i64 (Rq.p5 (Prod.fst (readR bs))), Value.int IntKind.i64 (Rq.p6 (Prod.fst (readR bs))), Value.int IntKind.i64 (Rq.p7 (Prod.fst (readR bs))), Value.int IntKind.i64 (Rq.p8 (Prod.fst (readR bs))), Value.int IntKind.i64 (Rq.p9 (Prod.fst (readR bs))), Value.int IntKind.i64 (Rq.val (Prod.fst (readR bs))), y], Value.int IntKind.i64 (Prod.snd (readR bs))] ∧ (∃ (b : Option Addr), ∃ (m : Nat), ∃ (c : Nat), y = Value.slice b m c ∧ SlM I' b m (1 : Nat) (List.map (Value.int IntKind.u8) (Rq.fed (Prod.fst (readR bs)))) ∧ m ≤ c ∧ c ≤ (9223372036854775807 : Nat)) ∧ NewB I I' y))))))) (by kernel_rfl) ?_
  simp only [eq_self, true_and, and_true]
  have hmx : maxLen = 9223372036854775807 := by decide
  have hln := h.numLen
  have Z : ∀ {J : Mem}, accB bs = false → ∃ y, Value.tuple #[.agg (rqV zeroRq (.slice none 0 0)).toArray, .int .i64 341] = Value.tuple #[.agg (rqV (readR bs).1 y).toArray, .int .i64 (readR bs).2] ∧ BySl J y (readR bs).1.fed ∧ NewB I J y := fun {J} hz => by
    have : readR bs = (zeroRq, 341) := by rw [readR, hz]; rfl
    rw [this]
    exact ⟨_, rfl, ⟨none, 0, 0, rfl, sl_nil _ _, by omega, by omega⟩, newB_sl (fun hc => absurd hc (by omega)) (by omega)⟩
  refine Br.mk (fun h1 => Z ?_) (fun h1 => ?_)
  · have h1 := of_decide_eq_true h1
    rw [accB, decide_eq_false (by omega)]; rfl
  have h1 := of_decide_eq_false h1
  obtain ⟨x0, hx0, e0⟩ := h.intAt (i := 0) (by omega) (by omega)
  have hx0 : bs[0]? = some x0 := hx0
  refine ⟨by omega, by omega, h.isSome (by omega), x0, e0, Br.mk (fun h2 => Z ?_) (fun h2 => ?_)⟩
  · have h2 : x0 ≠ 1 := by simpa using h2
    rw [accB, hx0, decide_eq_false (p := some x0 = some 1) (fun hc => h2 (Option.some.inj hc)), Bool.false_and, Bool.and_false]
  have h2 : x0 = 1 := by simpa using h2
  have hsub := sl_sub h (f := 2) (t := n) (by omega) (by omega) hc
  rw [List.take_of_length_le (by rw [List.length_drop]; omega)] at hsub
  have hbd : byteL (bs.drop 2) := fun z hz => hbs z (List.mem_of_mem_drop hz)
  refine ⟨by omega, by omega, (ct43 (bs.drop 2) hbd _ (n - 2) (c - 2) I hsub (by omega) (by omega) (by omega)).mono fun v I1 l1 ⟨a1, n1, c1, hv, hF, hn1, hc1⟩ => ⟨_, _, _, _, _, hv, Br.mk (fun h3 => Z ?_) (fun h3 => ?_)⟩⟩
  · have h3 : (readF (bs.drop 2)).2.2 ≠ 0 := by simpa using h3
    rw [accB, decide_eq_false (p := (readF (bs.drop 2)).2.2 = 0) h3]
    simp
  have h3 : (readF (bs.drop 2)).2.2 = 0 := by simpa using h3
  have hacc : accB bs = ((tagB bs).isSome && ((runB bs).2 && rightR (runB bs).1)) := by
    rw [accB, hx0, h2, decide_eq_true (p := 2 ≤ bs.length) (by omega), h3]; simp
  have hF : FldM I1 a1 n1 (flB bs) := hF
  have hlen := hF.len
  have hle : ∀ f ∈ flB bs, f.2.length ≤ 16384 := by
    rcases read_cases (bs.drop 2) hbd with ⟨_, _, hr, _⟩ | ⟨hr, _⟩
    · intro f hf
      have := right_at (rightF_iff.1 hr).1 f hf
      omega
    · intro f hf
      have : flB bs = [] := hr
      rw [this] at hf; cases hf
  obtain ⟨x1, hx1, e1⟩ := (h.mono l1).intAt (i := 1) (by omega) (by omega)
  have hx1 : bs[1]? = some x1 := hx1
  have hk : kindB bs = x1 := by rw [kindB, hx1]; rfl
  have hkr : 0 ≤ kindB bs ∧ kindB bs ≤ 255 := by rw [hk]; exact hbs x1 (List.mem_of_getElem? hx1)
  refine ⟨by omega, by omega, h.isSome (by omega), x1, e1, ?_, ?_⟩
  · have kE : ∀ {w : Int}, whatB bs = w → [Value.int .u8 x1, Value.int .u8 w, Value.string ⟨#[]⟩, Value.int .i64 0, Value.int .i64 0, Value.int .i64 0, Value.int .i64 0, Value.int .i64 0, Value.int .i64 0, Value.int .i64 0, Value.int .i64 0, Value.slice none 0 0] = rqV (startQ bs) (.slice none 0 0) := fun hw => by
      rw [startQ, hk, hw]; rfl
    refine Br.mk (fun g1 => ?_) (fun g1 => kE ?_)
    rotate_left
    · have g1 := of_decide_eq_false g1
      have : flB bs = [] := List.eq_nil_of_length_eq_zero (by omega)
      rw [whatB, this]; rfl
    have g1 := of_decide_eq_true g1
    obtain ⟨f, b, m, c', hf, hok, e2, e3, hfs, _, _⟩ := hF.at_ (i := 0) (by omega) g1
    obtain ⟨r0, hr0⟩ : ∃ r0, flB bs = f :: r0 := by
      cases hq : flB bs with
      | nil => rw [hq] at hf; cases hf
      | cons g r0 =>
        rw [hq] at hf
        cases hf; exact ⟨r0, rfl⟩
    have hml := hfs.numLen
    have hfl := hle f (by rw [hr0]; simp)
    have hw : whatB bs = if x1 = 7 ∧ (lastN f.2).2.2 = 0 ∧ (lastN f.2).1 < 256 then (lastN f.2).1 else 0 := by rw [whatB, hr0, hk]; rfl
    refine Br.mk (fun g2 => ?_) (fun g2 => kE ?_)
    rotate_left
    · rw [hw, if_neg (fun hc => nev g2 hc.1)]
    have g2 := eqv g2
    refine ⟨by omega, by omega, hF.isSome (by omega), _, e2, _, _, _, e3, (ct44 f hok b m c' I1 hfs (by omega)).mono fun v I2 l2 hv => ⟨_, _, hv, Br.mk (fun g3 => Br.mk (fun g4 => ?_) (fun g4 => kE ?_)) (fun g3 => kE ?_)⟩⟩
    · have g3 : (lastN f.2).2.2 = 0 := by simpa using g3
      have g4 := of_decide_eq_true g4
      have hr := last_range hok.2
      exact ⟨_, IntWalk.u8_in _ ⟨hr.1, by omega⟩, kE (by rw [hw, if_pos ⟨g2, g3, g4⟩])⟩
    · have g4 := of_decide_eq_false g4
      rw [hw, if_neg (fun hc => g4 hc.2.2)]
    · have g3 : ¬ (lastN f.2).2.2 = 0 := by simpa using g3
      rw [hw, if_neg (fun hc => g3 hc.2.1)]
  have hwr : 0 ≤ whatB bs ∧ whatB bs ≤ 255 := by
    rw [whatB]
    cases hq : flB bs with
    | nil =>
      show (0 : Int) ≤ 0 ∧ (0 : Int) ≤ 255
      omega
    | cons f r0 =>
      have hok := hF.ok f (by rw [hq]; simp)
      have hr := last_range hok.2
      rw [whatL]
      split <;> omega
  intro I2 _ l2 y0 y1 yq y3 y4 y5 y6 y7 y8 y9 y10 ah nh ch heq
  simp only [List.cons.injEq, Value.int.injEq, Value.string.injEq, Value.slice.injEq, true_and, and_true] at heq
  obtain ⟨rfl, rfl, rfl, rfl, rfl, rfl, rfl, rfl, rfl, rfl, rfl, rfl, rfl, rfl⟩ := heq
  refine (ct21 (kindB bs) (whatB bs) I2).mono fun v I3 l3 ⟨a3, n3, c3, hv, hs3, hn3, hc3, _⟩ => ⟨_, _, _, _, hv, ?_, ?_⟩
  · have hl3 := hs3.numLen
    have hl3 : n3 = ((tagB bs).getD []).length := hl3
    refine Br.mk (fun hb => ?_) (fun hb => ?_)
    · have hb : (tagB bs).isSome = true := hb
      rw [hb, Bool.true_and, ← hl3, hlen]
      congr 2
      by_cases hq : n3 = n1
      · simp [hq]
      · have : (n3 : Int) ≠ n1 := by omega
        simp [hq, this]
    · have hb : (tagB bs).isSome = false := hb
      rw [hb, Bool.false_and]
  intro I4 _ l4 ok hok
  refine ⟨hok, fun I5 _ l5 ok hok => ?_⟩
  simp only [List.cons.injEq, Value.bool.injEq, and_true] at hok
  have hs3' : SlM I3 a3 n3 1 (ints .i64 ((tagB bs).getD [])) := hs3
  have hl3 := hs3'.numLen
  have lI3 : I.le I3 := Mem.le_trans l1 (Mem.le_trans (by assumption) (by assumption))
  refine ⟨⟨by omega, by omega, startQ bs, .slice none 0 0, rfl, okRq_start hkr hwr, by simp [startQ, zeroRq, ByteArray.size], by simp [startQ, zeroRq], ⟨none, 0, 0, rfl, sl_nil _ _, by omega, by omega⟩, newB_sl (fun hc => absurd hc (by omega)) (by omega), fun ht => ?_, fun hf => ?_⟩, fun I6 _ l6 ok j y0 y1 yq y3 y4 y5 y6 y7 y8 y9 y10 ah nh ch ⟨j0, j1, h', yy, heq, okh, hsz, hfl, hyy, hnb, hT, hFf⟩ => ?_⟩
  · rw [hok, Bool.and_eq_true, decide_eq_true_eq] at ht
    exact ⟨ht.1, ht.2, rfl⟩
  · rw [hok] at hf
    cases hs : (tagB bs).isSome with
    | false => rfl
    | true =>
      rw [hs, Bool.true_and] at hf
      have hf := of_decide_eq_false hf
      cases hr : (runB bs).2 with
      | false => rfl
      | true => exact absurd (tryT_len _ _ _ hr) hf
  simp only [List.cons.injEq, Value.int.injEq, Value.string.injEq, true_and, and_true] at heq
  obtain ⟨rfl, rfl, rfl, rfl, rfl, rfl, rfl, rfl, rfl, rfl, rfl, rfl⟩ := heq
  have hyy : BySl I6 (.slice ah nh ch) h'.fed := hyy
  have no1 : ((tagB bs).isSome && (runB bs).2) = false → accB bs = false := fun hq => by rw [hacc, ← Bool.and_assoc, hq, Bool.false_and]
  have l16 : I1.le I6 := Mem.le_trans (by assumption) (Mem.le_trans (by assumption) (Mem.le_trans l4 (Mem.le_trans l5 l6)))
  have l36 : I3.le I6 := Mem.le_trans l4 (Mem.le_trans l5 l6)
  refine Br.mk (fun hlt => ?_) (fun hge => ?_)
  · have hlt := of_decide_eq_true hlt
    obtain ⟨f, b, m, c', hf, hokf, e2, e3, hfs, hm1, hm2⟩ := (hF.mono l16).at_ j0 hlt
    have hfm := List.mem_of_getElem? hf
    have hml := hfs.numLen
    have hf16 := hle f hfm
    refine ⟨j0, hlt, hF.isSome (by omega), _, e2, _, _, _, e3, Br.mk (fun ho => ?_) (fun ho => Z (no1 (hFf ho)))⟩
    obtain ⟨s1, s2, s3⟩ := hT ho
    obtain ⟨t, ht, e4⟩ := (hs3'.mono l36).intAt j0 (by omega)
    obtain ⟨tl, htl⟩ := Option.isSome_iff_exists.1 s1
    have htr := (tagL_ok htl).1
    have htr : 1 ≤ t ∧ t ≤ 11 := htr t (by rw [htl] at ht; exact List.mem_of_getElem? ht)
    rw [drop_cons ht, drop_cons hf, tryT] at s3
    refine ⟨j0, by omega, hs3'.isSome (by omega), t, e4, Br.mk (fun hq => ?_) (fun hq => Z ?_)⟩
    rotate_left
    · rw [if_neg (nev hq)] at s3
      exact no1 (by rw [s3, Bool.and_false])
    have hq := eqv hq
    rw [if_pos hq] at s3
    subst hq
    intro kb
    refine (cs_agg (cs42 f.1 htr kb h' okh (.slice ah nh ch) f.2 hokf.2 b m c' I6 hfs (by omega))).mono fun sv H' I7 l7 ⟨y', hv, hH, hy', hnb'⟩ => ?_
    have hb7 := hy' (hyy.mono l7)
    have hn7 := hnb' I (Mem.le_trans l1 l16) (hnb.mono l7)
    obtain ⟨b5, m5, c5, rfl, q1, q2, q3⟩ := hb7
    refine ⟨_, _, _, _, _, _, _, _, _, _, _, _, _, _, _, hv, hH, Br.mk (fun hb => Br.t hb (Z ?_)) (fun hb => ?_)⟩
    · have hb : takeB h' f.1 f.2 = false := by simpa using hb
      rw [hb] at s3
      exact no1 (by rw [s3]; simp)
    · have hb : takeB h' f.1 f.2 = true := by simpa using hb
      rw [if_pos hb] at s3
      have hst := size_take (t := f.1) (bs := f.2) hsz hfl (by omega)
      refine wr_i64 (by omega) (by omega) ⟨⟨by omega, by omega, _, _, rfl, okRq_take okh f.1 hokf.2, hst.1, hst.2, ⟨_, _, _, rfl, q1, q2, q3⟩, hn7, fun _ => ⟨s1, s2, ?_⟩, fun hc => ?_⟩, by omega⟩
      · rw [show (j + 1).toNat = j.toNat + 1 by omega]; exact s3
      · rw [hb] at hc; cases hc
  · have hge := of_decide_eq_false hge
    refine Br.mk (fun ho => Z (no1 (hFf (by simpa using ho)))) (fun ho => ?_)
    have ho : ok = true := by simpa using ho
    obtain ⟨s1, s2, s3⟩ := hT ho
    rw [List.drop_eq_nil_of_le (by omega), List.drop_eq_nil_of_le (by omega), tryT] at s3
    rw [s3, s1, Bool.true_and, Bool.true_and] at hacc
    refine (ct15 h' okh hsz (.slice ah nh ch) I6 hyy hfl).mono fun v I7 l7 hv => ⟨_, hv, Br.mk (fun hb => Z ?_) (fun hb => ?_)⟩
    · have hb : rightR h' = false := by simpa using hb
      rw [hacc, hb]
    · have hb : rightR h' = true := by simpa using hb
      have hr : readR bs = (h', 0) := by rw [readR, hacc, hb, if_pos rfl, s3]
      rw [hr]
      exact ⟨_, rfl, hyy.mono l7, hnb.mono l7⟩
open Go Go.Proofs Go.SE Go.RowKit
set_option linter.unusedVariables false
theorem lastN_f2 {x : Nat} (h : x < 256 ^ 8) : (lastN (formN x)).1 = (x : Int) ∧ (lastN (formN x)).2.2 = 0 := by
  rw [lastN_form x h]; exact ⟨rfl, rfl⟩
theorem strB_strL (s : ByteArray) : strB (strL s) = s := by
  have : u8s (strL s) = s.data.toList := by
    simp only [u8s, strL, List.map_map]
    conv => rhs; rw [← List.map_id s.data.toList]
    apply List.map_congr_left
    intro b _
    simp
  rw [strB, this]
theorem unfold_fold {x : Int} (h : i64R x) : unfoldZ (foldZ x) = x := by
  unfold foldZ unfoldZ
  split
  · rw [if_pos (by omega)]; omega
  · rw [if_neg (by omega)]; omega
theorem wrap_wrap {x : Int} (h : i64R x) : IntKind.i64.wrap (IntKind.u64.wrap x) = x := by
  obtain ⟨h1, h2⟩ := h
  rw [w64, IntKind.wrap_i64]
  omega
/-- One field of a request put into another one. -/
def copyT (r h : Rq) (t : Int) : Rq :=
  if t = 1 then { h with what := r.what } else if t = 2 then { h with name := r.name } else if t = 3 then { h with p3 := r.p3 } else if t = 4 then { h with p4 := r.p4 } else if t = 5 then { h with p5 := r.p5 } else if t = 6 then { h with p6 := r.p6 }
  else if t = 7 then { h with p7 := r.p7 } else if t = 8 then { h with p8 := r.p8 } else if t = 9 then { h with p9 := r.p9 } else if t = 10 then { h with val := r.val } else { h with fed := r.fed }
def okT (r : Rq) (t : Int) : Bool := decide (3 ≤ t → t ≤ 9 → 0 ≤ numR r t)
theorem step_num {r h : Rq} {t p : Int} (hr : i64R p) (ht : 3 ≤ t ∧ t ≤ 9) (hn : numR r t = p) : preR r h t = h ∧ takeB h t (bytesR r t) = decide (0 ≤ p) ∧ IntKind.i64.wrap (lastN (bytesR r t)).1 = p := by
  have hb : bytesR r t = formN (IntKind.u64.wrap p).toNat := by
    rw [bytesR, if_neg (by omega), if_neg (by omega), if_neg (by omega), if_neg (by omega), hn]
  have hw := w64_range p
  obtain ⟨g1, g2⟩ := lastN_f2 (x := (IntKind.u64.wrap p).toNat) (by omega)
  rw [Int.toNat_of_nonneg hw.1] at g1
  refine ⟨if_neg (by omega), ?_, by rw [hb, g1, wrap_wrap hr]⟩
  rw [takeB, if_neg (by omega), if_neg (by omega), if_neg (by omega), hb, g1, g2, decide_eq_true rfl, Bool.true_and]
  obtain ⟨h1, h2⟩ := hr
  apply decide_eq_decide.2
  rw [w64]
  omega
theorem step_copy {r h : Rq} (hr : okRq r) {t : Int} (ht : 1 ≤ t ∧ t ≤ 11) : takeB (preR r h t) t (bytesR r t) = okT r t ∧ (okT r t = true → takeR (preR r h t) t (bytesR r t) = copyT r h t) := by
  rcases (by omega : t = 1 ∨ t = 2 ∨ t = 3 ∨ t = 4 ∨ t = 5 ∨ t = 6 ∨ t = 7 ∨ t = 8 ∨ t = 9 ∨ t = 10 ∨ t = 11) with rfl | rfl | rfl | rfl | rfl | rfl | rfl | rfl | rfl | rfl | rfl
  · have hw := hr.what
    obtain ⟨g1, g2⟩ := lastN_f2 (x := r.what.toNat) (by omega)
    rw [Int.toNat_of_nonneg hw.1] at g1
    have hb : bytesR r 1 = formN r.what.toNat := rfl
    refine ⟨?_, fun _ => rfl⟩
    have hp : preR r h 1 = { h with what := r.what } := rfl
    rw [hp, hb, takeB, if_neg (by decide), if_pos rfl, g1, g2]
    simp [okT]
  · refine ⟨rfl, fun _ => ?_⟩
    show { h with name := strB (strL r.name) } = { h with name := r.name }
    rw [strB_strL]
  · obtain ⟨g1, g2, g3⟩ := step_num (h := h) hr.p3 (t := 3) (by omega) rfl
    exact ⟨by rw [g1, g2]; simp [okT]; rfl, fun _ => by rw [g1]; show { h with p3 := _ } = { h with p3 := _ }; rw [g3]⟩
  · obtain ⟨g1, g2, g3⟩ := step_num (h := h) hr.p4 (t := 4) (by omega) rfl
    exact ⟨by rw [g1, g2]; simp [okT]; rfl, fun _ => by rw [g1]; show { h with p4 := _ } = { h with p4 := _ }; rw [g3]⟩
  · obtain ⟨g1, g2, g3⟩ := step_num (h := h) hr.p5 (t := 5) (by omega) rfl
    exact ⟨by rw [g1, g2]; simp [okT]; rfl, fun _ => by rw [g1]; show { h with p5 := _ } = { h with p5 := _ }; rw [g3]⟩
  · obtain ⟨g1, g2, g3⟩ := step_num (h := h) hr.p6 (t := 6) (by omega) rfl
    exact ⟨by rw [g1, g2]; simp [okT]; rfl, fun _ => by rw [g1]; show { h with p6 := _ } = { h with p6 := _ }; rw [g3]⟩
  · obtain ⟨g1, g2, g3⟩ := step_num (h := h) hr.p7 (t := 7) (by omega) rfl
    exact ⟨by rw [g1, g2]; simp [okT]; rfl, fun _ => by rw [g1]; show { h with p7 := _ } = { h with p7 := _ }; rw [g3]⟩
  · obtain ⟨g1, g2, g3⟩ := step_num (h := h) hr.p8 (t := 8) (by omega) rfl
    exact ⟨by rw [g1, g2]; simp [okT]; rfl, fun _ => by rw [g1]; show { h with p8 := _ } = { h with p8 := _ }; rw [g3]⟩
  · obtain ⟨g1, g2, g3⟩ := step_num (h := h) hr.p9 (t := 9) (by omega) rfl
    exact ⟨by rw [g1, g2]; simp [okT]; rfl, fun _ => by rw [g1]; show { h with p9 := _ } = { h with p9 := _ }; rw [g3]⟩
  · have hv := foldZ_range hr.val
    obtain ⟨g1, g2⟩ := lastN_f2 (x := (foldZ r.val).toNat) (by omega)
    rw [Int.toNat_of_nonneg hv.1] at g1
    have hb : bytesR r 10 = formN (foldZ r.val).toNat := rfl
    have hp : preR r h 10 = h := rfl
    refine ⟨?_, fun _ => ?_⟩
    · rw [hp, hb, takeB, if_neg (by decide), if_neg (by decide), if_pos rfl, g2]
      simp [okT]
    · rw [hp, hb]
      show { h with val := unfoldZ (lastN (formN (foldZ r.val).toNat)).1 } = { h with val := r.val }
      rw [g1, unfold_fold hr.val]
  · exact ⟨rfl, fun _ => rfl⟩
theorem runR_copy {r : Rq} (hr : okRq r) : ∀ (l : List Int) (h : Rq), (∀ t ∈ l, 1 ≤ t ∧ t ≤ 11) → (runR r h l).2 = l.all (okT r) ∧ (l.all (okT r) = true → (runR r h l).1 = l.foldl (copyT r) h)
  | [], h, _ => ⟨rfl, fun _ => rfl⟩
  | t :: l, h, ht => by
    obtain ⟨g1, g2⟩ := step_copy (h := h) hr (ht t (by simp))
    rw [runR, g1]
    cases ho : okT r t with
    | false => simp [ho]
    | true =>
      obtain ⟨q1, q2⟩ := runR_copy hr l (copyT r h t) fun s hs => ht s (by simp [hs])
      rw [if_pos rfl, g2 ho]
      simp only [List.all_cons, ho, Bool.true_and, List.foldl_cons]
      exact ⟨q1, q2⟩
/-- A request is right (as the document says it). -/
def rightS (r : Rq) : Bool := match tagL r.kind r.what with
  | none => false
  | some l => decide (r.name.size ≤ 255) && (decide (r.fed.length ≤ 15000) && (l.all (okT r) && sameR (l.foldl (copyT r) (had0 r)) r))
theorem right_eq {r : Rq} (hr : okRq r) : rightR r = rightS r := by
  unfold rightR rightS
  cases hq : tagL r.kind r.what with
  | none => rfl
  | some l =>
    obtain ⟨q1, q2⟩ := runR_copy hr l (had0 r) (tagL_ok hq).1
    simp only
    rw [q1]
    cases ha : l.all (okT r) with
    | false => rfl
    | true => rw [q2 ha]
open Go Go.Proofs Go.SE Go.RowKit
set_option linter.unusedVariables false
def e1 : Rq := { zeroRq with kind := 9 }
def e2 : Rq := { zeroRq with kind := 6, p7 := 5 }
def e3 : Rq := { zeroRq with kind := 2, name := ⟨#[97]⟩, p3 := 2 }
def e4 : Rq := { zeroRq with kind := 5, p4 := 300, p7 := 7, val := -1 }
def e5 : Rq := { zeroRq with kind := 7, what := 2, p4 := 3 }
theorem ok_e : okRq e1 ∧ okRq e2 ∧ okRq e3 ∧ okRq e4 ∧ okRq e5 := by
  refine ⟨?_, ?_, ?_, ?_, ?_⟩
  all_goals constructor
  all_goals first
    | (intro z hz; cases hz)
    | (simp [e1, e2, e3, e4, e5, zeroRq, i64R])
theorem right_e : rightR e1 = true ∧ rightR e2 = true ∧ rightR e3 = true ∧ rightR e4 = true ∧ rightR e5 = true := by
  obtain ⟨h1, h2, h3, h4, h5⟩ := ok_e
  rw [right_eq h1, right_eq h2, right_eq h3, right_eq h4, right_eq h5]
  decide +kernel
theorem f300 : formN 300 = [248, 1, 44] := by simp [formN, digN, be]
theorem write_e : writeR e1 = [1, 9] ∧ writeR e2 = [1, 6, 7, 1, 5] ∧ writeR e3 = [1, 2, 2, 1, 97, 3, 1, 2] ∧ writeR e5 = [1, 7, 1, 1, 2, 4, 1, 3] := by
  decide +kernel
theorem write_e4 : writeR e4 = [1, 5, 4, 3, 248, 1, 44, 7, 1, 7, 10, 1, 1] := by
  have h4 : bytesR e4 4 = [248, 1, 44] := by
    show formN (IntKind.u64.wrap 300).toNat = _
    rw [show (IntKind.u64.wrap 300).toNat = 300 by decide, f300]
  have ht : tagsR e4 = [4, 7, 10] := rfl
  rw [writeR, ht, fldsR]
  simp only [List.map_cons, h4]
  decide +kernel
theorem acc_no {bs : List Int} (h : (readF (bs.drop 2)).2.2 ≠ 0) : accB bs = false := by
  rw [accB, decide_eq_false h]; simp
theorem acc_tag {bs : List Int} (h : (tagB bs).isSome = false ∨ (runB bs).2 = false) : accB bs = false := by
  rw [accB]
  rcases h with h | h <;> rw [h] <;> simp
theorem q1 : accB [1, 6] = false := by
  have h : readF [] = ([], 0, 0) := by simp [readF, yields, goF]
  have hf : flB [1, 6] = [] := by show (readF []).1 = []; rw [h]
  refine acc_tag (.inr ?_)
  rw [runB, tagB, whatB, hf]; rfl
theorem q2 : accB [1, 6, 7, 1, 5, 7, 1, 5] = false := acc_no (by
  show (readF [7, 1, 5, 7, 1, 5]).2.2 ≠ 0
  simp [readF, yields, fstep, intN, readN, goF])
theorem q3 : accB [2, 9] = false := by
  rw [accB]; simp
theorem q4 : accB [1, 0] = false := by
  have h : readF [] = ([], 0, 0) := by simp [readF, yields, goF]
  have hf : flB [1, 0] = [] := by show (readF []).1 = []; rw [h]
  refine acc_tag (.inl ?_)
  rw [tagB, whatB, hf]; rfl
theorem q5 : accB [1, 10] = false := by
  have h : readF [] = ([], 0, 0) := by simp [readF, yields, goF]
  have hf : flB [1, 10] = [] := by show (readF []).1 = []; rw [h]
  refine acc_tag (.inl ?_)
  rw [tagB, whatB, hf]; rfl
theorem q6 : accB [1, 9, 0] = false := acc_no (by
  show (readF [0]).2.2 ≠ 0
  have hf : fstep [0] 0 = none := by decide
  simp [readF, yields, hf, goF])
theorem q7 : accB [1, 7, 1, 1, 6] = false := by
  have h : (readF [1, 1, 6]).1 = [(1, [6])] := by simp [readF, yields, fstep, intN, readN, goF]
  have hf : flB [1, 7, 1, 1, 6] = [(1, [6])] := h
  refine acc_tag (.inl ?_)
  rw [tagB, whatB, hf]
  have hl : lastN [6] = (6, 1, 0) := by decide
  rw [whatL, hl]; rfl
open Go Go.Proofs Go.SE Go.RowKit
set_option linter.unusedVariables false
def namesL : List ByteArray := [⟨#[]⟩, ⟨#[99, 114, 101, 97, 116, 101]⟩, ⟨#[111, 112, 101, 110]⟩, ⟨#[103, 114, 97, 110, 116]⟩, ⟨#[114, 101, 118, 111, 107, 101]⟩, ⟨#[115, 117, 98, 109, 105, 116]⟩, ⟨#[115, 116, 101, 112]⟩, ⟨#[113, 117, 101, 114, 121]⟩, ⟨#[99, 97, 110, 99, 101, 108]⟩, ⟨#[100, 101, 115, 116, 114, 111, 121]⟩]
def asksL : List ByteArray := [⟨#[]⟩, ⟨#[115, 116, 97, 116, 117, 115]⟩, ⟨#[99, 101, 108, 108, 115]⟩, ⟨#[101, 118, 101, 110, 116, 115]⟩, ⟨#[112, 111, 114, 116, 115]⟩, ⟨#[104, 97, 110, 100, 108, 101, 115]⟩]
def nameS (k : Int) : ByteArray := (namesL[k.toNat]?).getD ⟨#[]⟩
def askS (k : Int) : ByteArray := (asksL[k.toNat]?).getD ⟨#[]⟩
theorem ct24 (k : Int) (hk : 0 ≤ k ∧ k ≤ 255) (I : Mem) : Ct Try.prog (fnv 24) #[.int .u8 k] I (fun v I' => v = .string (nameS k)) := by
  refine viaR (ct_via (A := { calls := [(10, .sym)] }) Try.func24 rfl Try.call24 rfl rfl) (Wr IntKind.i64 k fun (c : Int) => Br (decide ((10 : Int) ≤ c)) (Value.string (ByteArray.mk #[]) = Value.string (nameS k)) ((0 : Int) ≤ k ∧ k < (10 : Int) ∧ ∃ (q : ByteArray), [Value.string (ByteArray.mk #[]), Value.string (ByteArray.mk #[(99 : UInt8), (114 : UInt8), (101 : UInt8), (97 : UInt8), (116 : UInt8), (101 : UInt8)]), Value.string (ByteArray.mk #[(111 : UInt8), (112 : UInt8), (101 : UInt8), (110 : UInt8)]), Value.string (ByteArray.mk #[(103 : UInt8), (114 : UInt8), (97 : UInt8), (110 : UInt8), (116 : UInt8)]), Value.string (ByteArray.mk #[(114 : UInt8), (101 : UInt8), (118 : UInt8), (111 : UInt8), (107 : UInt8), (101 : UInt8)]), Value.string (ByteArray.mk #[(115 : UInt8), (117 : UInt8), (98 : UInt8), (109 : UInt8), (105 : UInt8), (116 : UInt8)]), Value.string (ByteArray.mk #[(115 : UInt8), (116 : UInt8), (101 : UInt8), (112 : UInt8)]), Value.string (ByteArray.mk #[(113 : UInt8), (117 : UInt8), (101 : UInt8), (114 : UInt8), (121 : UInt8)]), Value.string (ByteArray.mk #[(99 : UInt8), (97 : UInt8), (110 : UInt8), (99 : UInt8), (101 : UInt8), (108 : UInt8)]), Value.string (ByteArray.mk #[(100 : UInt8), (101 : UInt8), (115 : UInt8), (116 : UInt8), (114 : UInt8), (111 : UInt8), (121 : UInt8)])][(0 : Nat) + Int.toNat k * (1 : Nat) + (0 : Nat)]? = some (Value.string q) ∧ Value.string q = Value.string (nameS k))) (by kernel_rfl) ?_
  refine wr_i64 (by omega) (by omega) (Br.mk (fun h => ?_) (fun h => ?_))
  · have h := of_decide_eq_true h
    have : nameS k = ⟨#[]⟩ := by rw [nameS, List.getElem?_eq_none (by simp [namesL]; omega)]; rfl
    rw [this]
  · have h := of_decide_eq_false h
    rcases (by omega : k = 0 ∨ k = 1 ∨ k = 2 ∨ k = 3 ∨ k = 4 ∨ k = 5 ∨ k = 6 ∨ k = 7 ∨ k = 8 ∨ k = 9) with rfl | rfl | rfl | rfl | rfl | rfl | rfl | rfl | rfl | rfl
    all_goals exact ⟨by omega, by omega, _, rfl, rfl⟩
theorem ct28 (k : Int) (hk : 0 ≤ k ∧ k ≤ 255) (I : Mem) : Ct Try.prog (fnv 28) #[.int .u8 k] I (fun v I' => v = .string (askS k)) := by
  refine viaR (ct_via (A := { calls := [(10, .sym)] }) Try.func28 rfl Try.call28 rfl rfl) (Wr IntKind.i64 k fun (c : Int) => Br (decide ((6 : Int) ≤ c)) (Value.string (ByteArray.mk #[]) = Value.string (askS k)) ((0 : Int) ≤ k ∧ k < (6 : Int) ∧ ∃ (q : ByteArray), [Value.string (ByteArray.mk #[]), Value.string (ByteArray.mk #[(115 : UInt8), (116 : UInt8), (97 : UInt8), (116 : UInt8), (117 : UInt8), (115 : UInt8)]), Value.string (ByteArray.mk #[(99 : UInt8), (101 : UInt8), (108 : UInt8), (108 : UInt8), (115 : UInt8)]), Value.string (ByteArray.mk #[(101 : UInt8), (118 : UInt8), (101 : UInt8), (110 : UInt8), (116 : UInt8), (115 : UInt8)]), Value.string (ByteArray.mk #[(112 : UInt8), (111 : UInt8), (114 : UInt8), (116 : UInt8), (115 : UInt8)]), Value.string (ByteArray.mk #[(104 : UInt8), (97 : UInt8), (110 : UInt8), (100 : UInt8), (108 : UInt8), (101 : UInt8), (115 : UInt8)])][(0 : Nat) + Int.toNat k * (1 : Nat) + (0 : Nat)]? = some (Value.string q) ∧ Value.string q = Value.string (askS k))) (by kernel_rfl) ?_
  refine wr_i64 (by omega) (by omega) (Br.mk (fun h => ?_) (fun h => ?_))
  · have h := of_decide_eq_true h
    have : askS k = ⟨#[]⟩ := by rw [askS, List.getElem?_eq_none (by simp [asksL]; omega)]; rfl
    rw [this]
  · have h := of_decide_eq_false h
    rcases (by omega : k = 0 ∨ k = 1 ∨ k = 2 ∨ k = 3 ∨ k = 4 ∨ k = 5) with rfl | rfl | rfl | rfl | rfl | rfl
    all_goals exact ⟨by omega, by omega, _, rfl, rfl⟩
theorem bysl_lit {I : Mem} {b n : Nat} {cs : Array Value} {el : TypeId} {bs : List Int} (h : I b = some (.cells cs el)) (hx : cs = (ints .u8 bs).toArray) (hn : n = bs.length) (hm : n ≤ 100) : SlM I (some ⟨b, 0, none⟩) n 1 (ints .u8 bs) := by
  subst hx
  have := sl_cells (n := n) (sz := 1) h (by simp [ints]; omega) (by simp only [maxLen]; omega)
  simpa using this
theorem ex_step (e : Rq) (hok : okRq e) (hnm : e.name.size ≤ 1000000) (hfd : e.fed = []) (hr : rightR e = true) (form : List Int) (hw : writeR e = form) (hf : byteL form) (J : Mem) (b : Option Addr) (m c : Nat) (hs : SlM J b m 1 (ints .u8 form)) (Q : Prop) (hq : Q) :
    Ct Try.prog (fnv 14) #[.agg (rqV e (.slice none 0 0)).toArray] J (fun v I' => ∃ a n_13 c_1 n_14, v = Value.tuple #[Value.slice a n_13 c_1, Value.int .i64 n_14] ∧ Br (n_14 != 0) (Value.bool false = Value.bool true) (Ct Try.prog (fnv 18) #[Value.slice a n_13 c_1, Value.slice b m c] I' fun v I' => ∃ b, v = Value.bool b ∧ Br (!b) (Value.bool false = Value.bool true) Q)) := by
  refine (ct14 e hok hnm (.slice none 0 0) J ⟨none, 0, 0, rfl, by rw [hfd]; exact sl_nil _ _, by omega, by omega⟩ (by rw [hfd]; simp)).mono fun v I1 l1 ⟨a, n, c', hv, h1, h2, h3⟩ => ⟨_, _, _, _, hv, ?_⟩
  rw [hr, if_pos rfl, hw] at h1
  rw [hr]
  exact Br.f rfl ((ct18 form form hf hf a b n c' m c I1 h1 (hs.mono l1)).mono fun v I2 l2 hv => ⟨_, hv, Br.f (by simp) hq⟩)
theorem no_step (bs : List Int) (hb : byteL bs) (hno : accB bs = false) (J : Mem) (b : Option Addr) (m : Nat) (hm : m ≤ 100) (hs : SlM J b m 1 (ints .u8 bs)) (Q : Mem → Prop) (hq : ∀ J', J.le J' → Q J') :
    Ct Try.prog (fnv 16) #[.slice b m m] J (fun v I' => ∃ n_2 n_3 q n_4 n_5 n_6 n_7 n_8 n_9 n_10 n_11 a n_12 c n_13, v = Value.tuple #[Value.agg #[Value.int .u8 n_2, Value.int .u8 n_3, Value.string q, Value.int .i64 n_4, Value.int .i64 n_5, Value.int .i64 n_6, Value.int .i64 n_7, Value.int .i64 n_8, Value.int .i64 n_9, Value.int .i64 n_10, Value.int .i64 n_11, Value.slice a n_12 c], Value.int .i64 n_13] ∧ Br (n_13 != 341) (Value.bool false = Value.bool true) (Q I')) := by
  refine (ct16 bs hb b m m J hs (by omega) (by omega) (by simp only [maxLen]; omega)).mono fun v I1 l1 ⟨y, hv, hy, _⟩ => ?_
  obtain ⟨a, n, c, rfl, _⟩ := hy
  have hr : readR bs = (zeroRq, 341) := by rw [readR, hno]; rfl
  rw [hr] at hv
  exact ⟨_, _, _, _, _, _, _, _, _, _, _, _, _, _, _, hv, Br.f rfl (hq I1 l1)⟩
theorem ct12 (I : Mem) : Ct Try.prog (fnv 12) #[] I (fun v I' => v = .bool true) := by
  refine viaR (ct_via (A := { befores := [(2, [5]), (9, [13])], loops := [(2, ⟨[(24, .keep), (25, .keep), (26, .sh (.int .i64))], [], [], fun vals _ _ _ => match vals with | [.int .i64 j] => 0 ≤ j ∧ j ≤ 5 | _ => False, fun vals _ => match vals with | [.int .i64 j] => (5 - j).toNat | _ => 0⟩), (9, ⟨[(53, .keep), (54, .keep), (55, .sh (.int .i64))], [], [], fun vals _ _ _ => match vals with | [.int .i64 j] => 0 ≤ j ∧ j ≤ 7 | _ => False, fun vals _ => match vals with | [.int .i64 j] => (7 - j).toNat | _ => 0⟩)] }) Try.func12 rfl Try.call12 rfl rfl) (∀ (b : Nat) (I' : Mem), Mem.le I I' → I' b = some (Obj.cells #[Value.int IntKind.u8 (1 : Int), Value.int IntKind.u8 (9 : Int)] (5 : Nat)) → ∀ (b_1 : Nat) (I'_1 : Mem), Mem.le I' I'_1 → I'_1 b_1 = some (Obj.cells #[Value.int IntKind.u8 (1 : Int), Value.int IntKind.u8 (6 : Int), Value.int IntKind.u8 (7 : Int), Value.int IntKind.u8 (1 : Int), Value.int IntKind.u8 (5 : Int)] (5 : Nat)) → ∀ (b_2 : Nat) (I' : Mem), Mem.le I'_1 I' → I' b_2 = some (Obj.cells #[Value.int IntKind.u8 (1 : Int), Value.int IntKind.u8 (2 : Int), Value.int IntKind.u8 (2 : Int), Value.int IntKind.u8 (1 : Int), Value.int IntKind.u8 (97 : Int), Value.int IntKind.u8 (3 : Int), Value.int IntKind.u8 (1 : Int), Value.int IntKind.u8 (2 : Int)] (5 : Nat)) → ∀ (b_3 : Nat) (I'_2 : Mem), Mem.le I' I'_2 → I'_2 b_3 = some (Obj.cells #[Value.int IntKind.u8 (1 : Int), Value.int IntKind.u8 (5 : Int), Value.int IntKind.u8 (4 : Int), Value.int IntKind.u8 (3 : Int), Value.int IntKind.u8 (248 : Int), Value.int IntKind.u8 (1 : Int), Value.int IntKind.u8 (44 : Int), Value.int IntKind.u8 (7 : Int), Value.int IntKind.u8 (1 : Int), Value.int IntKind.u8 (7 : Int), Value.int IntKind.u8 (10 : Int), Value.int IntKind.u8 (1 : Int), Value.int IntKind.u8 (1 : Int)] (5 : Nat)) → ∀ (b_4 : Nat) (I' : Mem), Mem.le I'_2 I' → I' b_4 = some (Obj.cells #[Value.int IntKind.u8 (1 : Int), Value.int IntKind.u8 (7 : Int), Value.int IntKind.u8 (1 : Int), Value.int IntKind.u8 (1 : Int), Value.int IntKind.u8 (2 : Int), Value.int IntKind.u8 (4 : Int), Value.int IntKind.u8 (1 : Int), Value.int IntKind.u8 (3 : Int)] (5 : Nat)) → ∀ (b_5 : Nat) (I'_3 : Mem), Mem.le I' I'_3 → I'_3 b_5 = some (Obj.cells #[Value.int IntKind.u8 (9 : Int), Value.int IntKind.u8 (0 : Int), Value.string (ByteArray.mk #[]), Value.int IntKind.i64 (0 : Int), Value.int IntKind.i64 (0 : Int), Value.int IntKind.i64 (0 : Int), Value.int IntKind.i64 (0 : Int), Value.int IntKind.i64 (0 : Int), Value.int IntKind.i64 (0 : Int), Value.int IntKind.i64 (0 : Int), Value.int IntKind.i64 (0 : Int), Value.slice none (0 : Nat) (0 : Nat), Value.slice (some (Addr.mk b (0 : Nat) none)) (2 : Nat) (2 : Nat), Value.int IntKind.u8 (6 : Int), Value.int IntKind.u8 (0 : Int), Value.string (ByteArray.mk #[]), Value.int IntKind.i64 (0 : Int), Value.int IntKind.i64 (0 : Int), Value.int IntKind.i64 (0 : Int), Value.int IntKind.i64 (0 : Int), Value.int IntKind.i64 (5 : Int), Value.int IntKind.i64 (0 : Int), Value.int IntKind.i64 (0 : Int), Value.int IntKind.i64 (0 : Int), Value.slice none (0 : Nat) (0 : Nat), Value.slice (some (Addr.mk b_1 (0 : Nat) none)) (5 : Nat) (5 : Nat), Value.int IntKind.u8 (2 : Int), Value.int IntKind.u8 (0 : Int), Value.string (ByteArray.mk #[(97 : UInt8)]), Value.int IntKind.i64 (2 : Int), Value.int IntKind.i64 (0 : Int), Value.int IntKind.i64 (0 : Int), Value.int IntKind.i64 (0 : Int), Value.int IntKind.i64 (0 : Int), Value.int IntKind.i64 (0 : Int), Value.int IntKind.i64 (0 : Int), Value.int IntKind.i64 (0 : Int), Value.slice none (0 : Nat) (0 : Nat), Value.slice (some (Addr.mk b_2 (0 : Nat) none)) (8 : Nat) (8 : Nat), Value.int IntKind.u8 (5 : Int), Value.int IntKind.u8 (0 : Int), Value.string (ByteArray.mk #[]), Value.int IntKind.i64 (0 : Int), Value.int IntKind.i64 (300 : Int), Value.int IntKind.i64 (0 : Int), Value.int IntKind.i64 (0 : Int), Value.int IntKind.i64 (7 : Int), Value.int IntKind.i64 (0 : Int), Value.int IntKind.i64 (0 : Int), Value.int IntKind.i64 (-1 : Int), Value.slice none (0 : Nat) (0 : Nat), Value.slice (some (Addr.mk b_3 (0 : Nat) none)) (13 : Nat) (13 : Nat), Value.int IntKind.u8 (7 : Int), Value.int IntKind.u8 (2 : Int), Value.string (ByteArray.mk #[]), Value.int IntKind.i64 (0 : Int), Value.int IntKind.i64 (3 : Int), Value.int IntKind.i64 (0 : Int), Value.int IntKind.i64 (0 : Int), Value.int IntKind.i64 (0 : Int), Value.int IntKind.i64 (0 : Int), Value.int IntKind.i64 (0 : Int), Value.int IntKind.i64 (0 : Int), Value.slice none (0 : Nat) (0 : Nat), Value.slice (some (Addr.mk b_4 (0 : Nat) none)) (8 : Nat) (8 : Nat)] (66 : Nat)) → (SV.v (Value.slice (some (Addr.mk b_5 (0 : Nat) none)) (5 : Nat) (5 : Nat)) = SV.v (Value.slice (some (Addr.mk b_5 (0 : Nat) none)) (5 : Nat) (5 : Nat)) ∧ SV.v (Value.int IntKind.i64 (5 : Int)) = SV.v (Value.int IntKind.i64 (5 : Int)) ∧ (0 : Int) ≤ (0 : Int) ∧ (0 : Int) ≤ (5 : Int)) ∧ ∀ (I' G' : Mem), Mem.le I'_3 I' → ∀ (n : Int), (0 : Int) ≤ n ∧ n ≤ (5 : Int) → Br (decide (n < (5 : Int))) ((0 : Int) ≤ n ∧ n < (5 : Int) ∧ true = true ∧ (13 : Nat) = (13 : Nat) ∧ ∃ (n_1 : Int), atI I' (some (Addr.mk b_5 (0 : Nat) none)) (Int.toNat n * (13 : Nat) + (0 : Nat)) = some (Value.int IntKind.u8 n_1) ∧ ∃ (n_2 : Int), atI I' (some (Addr.mk b_5 (0 : Nat) none)) (Int.toNat n * (13 : Nat) + (1 : Nat)) = some (Value.int IntKind.u8 n_2) ∧ ∃ (q : ByteArray), atI I' (some (Addr.mk b_5 (0 : Nat) none)) (Int.toNat n * (13 : Nat) + (2 : Nat)) = some (Value.string q) ∧ ∃ (n_3 : Int), atI I' (some (Addr.mk b_5 (0 : Nat) none)) (Int.toNat n * (13 : Nat) + (3 : Nat)) = some (Value.int IntKind.i64 n_3) ∧ ∃ (n_4 : Int), atI I' (some (Addr.mk b_5 (0 : Nat) none)) (Int.toNat n * (13 : Nat) + (4 : Nat)) = some (Value.int IntKind.i64 n_4) ∧ ∃ (n_5 : Int), atI I' (some (Addr.mk b_5 (0 : Nat) none)) (Int.toNat n * (13 : Nat) + (5 : Nat)) = some (Value.int IntKind.i64 n_5) ∧ ∃ (n_6 : Int), atI I' (some (Addr.mk b_5 (0 : Nat) none)) (Int.toNat n * (13 : Nat) + (6 : Nat)) = some (Value.int IntKind.i64 n_6) ∧ ∃ (n_7 : Int), atI I' (some (Addr.mk b_5 (0 : Nat) none)) (Int.toNat n * (13 : Nat) + (7 : Nat)) = some (Value.int IntKind.i64 n_7) ∧ ∃ (n_8 : Int), atI I' (some (Addr.mk b_5 (0 : Nat) none)) (Int.toNat n * (13 : Nat) + (8 : Nat)) = some (Value.int IntKind.i64 n_8) ∧ ∃ (n_9 : Int), atI I' (some (Addr.mk b_5 (0 : Nat) none)) (Int.toNat n * (13 : Nat) + (9 : Nat)) = some (Value.int IntKind.i64 n_9) ∧ ∃ (n_10 : Int), atI I' (some (Addr.mk b_5 (0 : Nat) none)) (Int.toNat n * (13 : Nat) + (10 : Nat)) = some (Value.int IntKind.i64 n_10) ∧ ∃ (a : Option Addr), ∃ (n_11 : Nat), ∃ (c : Nat), atI I' (some (Addr.mk b_5 (0 : Nat) none)) (Int.toNat n * (13 : Nat) + (11 : Nat)) = some (Value.slice a n_11 c) ∧ ∃ (a_1 : Option Addr), ∃ (n_12 : Nat), ∃ (c_1 : Nat), atI I' (some (Addr.mk b_5 (0 : Nat) none)) (Int.toNat n * (13 : Nat) + (12 : Nat)) = some (Value.slice a_1 n_12 c_1) ∧ Ct Try.prog (Value.func (Fn.func (14 : Nat)) #[] #[]) #[Value.agg #[Value.int IntKind.u8 n_1, Value.int IntKind.u8 n_2, Value.string q, Value.int IntKind.i64 n_3, Value.int IntKind.i64 n_4, Value.int IntKind.i64 n_5, Value.int IntKind.i64 n_6, Value.int IntKind.i64 n_7, Value.int IntKind.i64 n_8, Value.int IntKind.i64 n_9, Value.int IntKind.i64 n_10, Value.slice a n_11 c]] I' fun (v : Value) (I' : Mem) => ∃ (a : Option Addr), ∃ (n_13 : Nat), ∃ (c : Nat), ∃ (n_14 : Int), v = Value.tuple #[Value.slice a n_13 c, Value.int IntKind.i64 n_14] ∧ Br (n_14 != (0 : Int)) (Value.bool false = Value.bool true) (Ct Try.prog (Value.func (Fn.func (18 : Nat)) #[] #[]) #[Value.slice a n_13 c, Value.slice a_1 n_12 c_1] I' fun (v : Value) (I' : Mem) => ∃ (b : Bool), v = Value.bool b ∧ Br (!b) (Value.bool false = Value.bool true) (Wr IntKind.i64 (n + (1 : Int)) fun (c : Int) => SV.v (Value.slice (some (Addr.mk b_5 (0 : Nat) none)) (5 : Nat) (5 : Nat)) = SV.v (Value.slice (some (Addr.mk b_5 (0 : Nat) none)) (5 : Nat) (5 : Nat)) ∧ SV.v (Value.int IntKind.i64 (5 : Int)) = SV.v (Value.int IntKind.i64 (5 : Int)) ∧ ((0 : Int) ≤ c ∧ c ≤ (5 : Int)) ∧ Int.toNat ((5 : Int) - c) < Int.toNat ((5 : Int) - n)))) (∀ (b : Nat) (I'_4 : Mem), Mem.le I' I'_4 → I'_4 b = some (Obj.cells #[Value.int IntKind.u8 (1 : Int), Value.int IntKind.u8 (6 : Int)] (5 : Nat)) → ∀ (b_6 : Nat) (I' : Mem), Mem.le I'_4 I' → I' b_6 = some (Obj.cells #[Value.int IntKind.u8 (1 : Int), Value.int IntKind.u8 (6 : Int), Value.int IntKind.u8 (7 : Int), Value.int IntKind.u8 (1 : Int), Value.int IntKind.u8 (5 : Int), Value.int IntKind.u8 (7 : Int), Value.int IntKind.u8 (1 : Int), Value.int IntKind.u8 (5 : Int)] (5 : Nat)) → ∀ (b_7 : Nat) (I'_5 : Mem), Mem.le I' I'_5 → I'_5 b_7 = some (Obj.cells #[Value.int IntKind.u8 (2 : Int), Value.int IntKind.u8 (9 : Int)] (5 : Nat)) → ∀ (b_8 : Nat) (I' : Mem), Mem.le I'_5 I' → I' b_8 = some (Obj.cells #[Value.int IntKind.u8 (1 : Int), Value.int IntKind.u8 (0 : Int)] (5 : Nat)) → ∀ (b_9 : Nat) (I'_6 : Mem), Mem.le I' I'_6 → I'_6 b_9 = some (Obj.cells #[Value.int IntKind.u8 (1 : Int), Value.int IntKind.u8 (10 : Int)] (5 : Nat)) → ∀ (b_10 : Nat) (I' : Mem), Mem.le I'_6 I' → I' b_10 = some (Obj.cells #[Value.int IntKind.u8 (1 : Int), Value.int IntKind.u8 (9 : Int), Value.int IntKind.u8 (0 : Int)] (5 : Nat)) → ∀ (b_11 : Nat) (I'_7 : Mem), Mem.le I' I'_7 → I'_7 b_11 = some (Obj.cells #[Value.int IntKind.u8 (1 : Int), Value.int IntKind.u8 (7 : Int), Value.int IntKind.u8 (1 : Int), Value.int IntKind.u8 (1 : Int), Value.int IntKind.u8 (6 : Int)] (5 : Nat)) → ∀ (b_12 : Nat) (I' : Mem), Mem.le I'_7 I' → I' b_12 = some (Obj.cells #[Value.slice (some (Addr.mk b (0 : Nat) none)) (2 : Nat) (2 : Nat), Value.slice (some (Addr.mk b_6 (0 : Nat) none)) (8 : Nat) (8 : Nat), Value.slice (some (Addr.mk b_7 (0 : Nat) none)) (2 : Nat) (2 : Nat), Value.slice (some (Addr.mk b_8 (0 : Nat) none)) (2 : Nat) (2 : Nat), Value.slice (some (Addr.mk b_9 (0 : Nat) none)) (2 : Nat) (2 : Nat), Value.slice (some (Addr.mk b_10 (0 : Nat) none)) (3 : Nat) (3 : Nat), Value.slice (some (Addr.mk b_11 (0 : Nat) none)) (5 : Nat) (5 : Nat)] (22 : Nat)) → (SV.v (Value.slice (some (Addr.mk b_12 (0 : Nat) none)) (7 : Nat) (7 : Nat)) = SV.v (Value.slice (some (Addr.mk b_12 (0 : Nat) none)) (7 : Nat) (7 : Nat)) ∧ SV.v (Value.int IntKind.i64 (7 : Int)) = SV.v (Value.int IntKind.i64 (7 : Int)) ∧ (0 : Int) ≤ (0 : Int) ∧ (0 : Int) ≤ (7 : Int)) ∧ ∀ (I'_8 G' : Mem), Mem.le I' I'_8 → ∀ (n : Int), (0 : Int) ≤ n ∧ n ≤ (7 : Int) → Br (decide (n < (7 : Int))) ((0 : Int) ≤ n ∧ n < (7 : Int) ∧ true = true ∧ ∃ (a : Option Addr), ∃ (n_1 : Nat), ∃ (c : Nat), atI I'_8 (some (Addr.mk b_12 (0 : Nat) none)) (Int.toNat n * (1 : Nat) + (0 : Nat)) = some (Value.slice a n_1 c) ∧ Ct Try.prog (Value.func (Fn.func (16 : Nat)) #[] #[]) #[Value.slice a n_1 c] I'_8 fun (v : Value) (I' : Mem) => ∃ (n_2 : Int), ∃ (n_3 : Int), ∃ (q : ByteArray), ∃ (n_4 : Int), ∃ (n_5 : Int), ∃ (n_6 : Int), ∃ (n_7 : Int), ∃ (n_8 : Int), ∃ (n_9 : Int), ∃ (n_10 : Int), ∃ (n_11 : Int), ∃ (a : Option Addr), ∃ (n_12 : Nat), ∃ (c : Nat), ∃ (n_13 : Int), v = Value.tuple #[Value.agg #[Value.int IntKind.u8 n_2, Value.int IntKind.u8 n_3, Value.string q, Value.int IntKind.i64 n_4, Value.int IntKind.i64 n_5, Value.int IntKind.i64 n_6, Value.int IntKind.i64 n_7, Value.int IntKind.i64 n_8, Value.int IntKind.i64 n_9, Value.int IntKind.i64 n_10, Value.int IntKind.i64 n_11, Value.slice a n_12 c], Value.int IntKind.i64 n_13] ∧ Br (n_13 != (341 : Int)) (Value.bool false = Value.bool true) (Wr IntKind.i64 (n + (1 : Int)) fun (c : Int) => SV.v (Value.slice (some (Addr.mk b_12 (0 : Nat) none)) (7 : Nat) (7 : Nat)) = SV.v (Value.slice (some (Addr.mk b_12 (0 : Nat) none)) (7 : Nat) (7 : Nat)) ∧ SV.v (Value.int IntKind.i64 (7 : Int)) = SV.v (Value.int IntKind.i64 (7 : Int)) ∧ ((0 : Int) ≤ c ∧ c ≤ (7 : Int)) ∧ Int.toNat ((7 : Int) - c) < Int.toNat ((7 : Int) - n))) (Ct Try.prog (Value.func (Fn.func (24 : Nat)) #[] #[]) #[Value.int IntKind.u8 (6 : Int)] I'_8 fun (v : Value) (I' : Mem) => ∃ (q : ByteArray), v = Value.string q ∧ Br (ByteArray.toList q == ByteArray.toList (ByteArray.mk #[(115 : UInt8), (116 : UInt8), (101 : UInt8), (112 : UInt8)])) (Ct Try.prog (Value.func (Fn.func (28 : Nat)) #[] #[]) #[Value.int IntKind.u8 (3 : Int)] I' fun (v : Value) (I' : Mem) => ∃ (q : ByteArray), v = Value.string q ∧ Value.bool (ByteArray.toList q == ByteArray.toList (ByteArray.mk #[(101 : UInt8), (118 : UInt8), (101 : UInt8), (110 : UInt8), (116 : UInt8), (115 : UInt8)])) = Value.bool true) (Value.bool false = Value.bool true)))) (by kernel_rfl) ?_
  simp only [eq_self, true_and]
  intro b1 I1 l1 h1 b2 I2 l2 h2 b3 I3 l3 h3 b4 I4 l4 h4 b5 I5 l5 h5 b6 I6 l6 h6
  refine ⟨⟨by omega, by omega⟩, fun I7 _ l7 n ⟨n0, n1⟩ => Br.mk (fun hlt => ?_) (fun hge => ?_)⟩
  · have hlt := of_decide_eq_true hlt
    have g6 := l7 _ _ h6
    have g5 := (Mem.le_trans l6 l7) _ _ h5
    have g4 := (Mem.le_trans l5 (Mem.le_trans l6 l7)) _ _ h4
    have g3 := (Mem.le_trans l4 (Mem.le_trans l5 (Mem.le_trans l6 l7))) _ _ h3
    have g2 := (Mem.le_trans l3 (Mem.le_trans l4 (Mem.le_trans l5 (Mem.le_trans l6 l7)))) _ _ h2
    have g1 := (Mem.le_trans l2 (Mem.le_trans l3 (Mem.le_trans l4 (Mem.le_trans l5 (Mem.le_trans l6 l7))))) _ _ h1
    obtain ⟨o1, o2, o3, o4, o5⟩ := ok_e
    obtain ⟨r1, r2, r3, r4, r5⟩ := right_e
    obtain ⟨w1, w2, w3, w5⟩ := write_e
    refine ⟨n0, hlt, ?_⟩
    rcases (by omega : n = 0 ∨ n = 1 ∨ n = 2 ∨ n = 3 ∨ n = 4) with rfl | rfl | rfl | rfl | rfl
    · refine ⟨_, atC g6 rfl, _, atC g6 rfl, _, atC g6 rfl, _, atC g6 rfl, _, atC g6 rfl, _, atC g6 rfl, _, atC g6 rfl, _, atC g6 rfl, _, atC g6 rfl, _, atC g6 rfl, _, atC g6 rfl, _, _, _, atC g6 rfl, _, _, _, atC g6 rfl, ?_⟩
      exact ex_step e1 o1 (by decide) rfl r1 [1, 9] w1 (by simp [byteL]) I7 _ _ _ (bysl_lit g1 rfl rfl (by decide)) _ (wr_i64 (by omega) (by omega) ⟨⟨by omega, by omega⟩, by omega⟩)
    · refine ⟨_, atC g6 rfl, _, atC g6 rfl, _, atC g6 rfl, _, atC g6 rfl, _, atC g6 rfl, _, atC g6 rfl, _, atC g6 rfl, _, atC g6 rfl, _, atC g6 rfl, _, atC g6 rfl, _, atC g6 rfl, _, _, _, atC g6 rfl, _, _, _, atC g6 rfl, ?_⟩
      exact ex_step e2 o2 (by decide) rfl r2 [1, 6, 7, 1, 5] w2 (by simp [byteL]) I7 _ _ _ (bysl_lit g2 rfl rfl (by decide)) _ (wr_i64 (by omega) (by omega) ⟨⟨by omega, by omega⟩, by omega⟩)
    · refine ⟨_, atC g6 rfl, _, atC g6 rfl, _, atC g6 rfl, _, atC g6 rfl, _, atC g6 rfl, _, atC g6 rfl, _, atC g6 rfl, _, atC g6 rfl, _, atC g6 rfl, _, atC g6 rfl, _, atC g6 rfl, _, _, _, atC g6 rfl, _, _, _, atC g6 rfl, ?_⟩
      exact ex_step e3 o3 (by decide) rfl r3 [1, 2, 2, 1, 97, 3, 1, 2] w3 (by simp [byteL]) I7 _ _ _ (bysl_lit g3 rfl rfl (by decide)) _ (wr_i64 (by omega) (by omega) ⟨⟨by omega, by omega⟩, by omega⟩)
    · refine ⟨_, atC g6 rfl, _, atC g6 rfl, _, atC g6 rfl, _, atC g6 rfl, _, atC g6 rfl, _, atC g6 rfl, _, atC g6 rfl, _, atC g6 rfl, _, atC g6 rfl, _, atC g6 rfl, _, atC g6 rfl, _, _, _, atC g6 rfl, _, _, _, atC g6 rfl, ?_⟩
      exact ex_step e4 o4 (by decide) rfl r4 [1, 5, 4, 3, 248, 1, 44, 7, 1, 7, 10, 1, 1] write_e4 (by simp [byteL]) I7 _ _ _ (bysl_lit g4 rfl rfl (by decide)) _ (wr_i64 (by omega) (by omega) ⟨⟨by omega, by omega⟩, by omega⟩)
    · refine ⟨_, atC g6 rfl, _, atC g6 rfl, _, atC g6 rfl, _, atC g6 rfl, _, atC g6 rfl, _, atC g6 rfl, _, atC g6 rfl, _, atC g6 rfl, _, atC g6 rfl, _, atC g6 rfl, _, atC g6 rfl, _, _, _, atC g6 rfl, _, _, _, atC g6 rfl, ?_⟩
      exact ex_step e5 o5 (by decide) rfl r5 [1, 7, 1, 1, 2, 4, 1, 3] w5 (by simp [byteL]) I7 _ _ _ (bysl_lit g5 rfl rfl (by decide)) _ (wr_i64 (by omega) (by omega) ⟨⟨by omega, by omega⟩, by omega⟩)
  intro c1 J1 m1 k1 c2 J2 m2 k2 c3 J3 m3 k3 c4 J4 m4 k4 c5 J5 m5 k5 c6 J6 m6 k6 c7 J7 m7 k7 c8 J8 m8 k8
  refine ⟨⟨by omega, by omega⟩, fun J9 _ m9 n ⟨n0, n1⟩ => Br.mk (fun hlt => ?_) (fun hge => ?_)⟩
  · have hlt := of_decide_eq_true hlt
    have g8 := m9 _ _ k8
    have g7 := (Mem.le_trans m8 m9) _ _ k7
    have g6 := (Mem.le_trans m7 (Mem.le_trans m8 m9)) _ _ k6
    have g5 := (Mem.le_trans m6 (Mem.le_trans m7 (Mem.le_trans m8 m9))) _ _ k5
    have g4 := (Mem.le_trans m5 (Mem.le_trans m6 (Mem.le_trans m7 (Mem.le_trans m8 m9)))) _ _ k4
    have g3 := (Mem.le_trans m4 (Mem.le_trans m5 (Mem.le_trans m6 (Mem.le_trans m7 (Mem.le_trans m8 m9))))) _ _ k3
    have g2 := (Mem.le_trans m3 (Mem.le_trans m4 (Mem.le_trans m5 (Mem.le_trans m6 (Mem.le_trans m7 (Mem.le_trans m8 m9)))))) _ _ k2
    have g1 := (Mem.le_trans m2 (Mem.le_trans m3 (Mem.le_trans m4 (Mem.le_trans m5 (Mem.le_trans m6 (Mem.le_trans m7 (Mem.le_trans m8 m9))))))) _ _ k1
    refine ⟨n0, hlt, ?_⟩
    rcases (by omega : n = 0 ∨ n = 1 ∨ n = 2 ∨ n = 3 ∨ n = 4 ∨ n = 5 ∨ n = 6) with rfl | rfl | rfl | rfl | rfl | rfl | rfl
    · refine ⟨_, _, _, atC g8 rfl, ?_⟩
      exact no_step [1, 6] (by simp [byteL]) q1 J9 _ _ (by decide) (bysl_lit g1 rfl rfl (by decide)) (fun _ => _) fun J' _ => wr_i64 (by omega) (by omega) ⟨⟨by omega, by omega⟩, by omega⟩
    · refine ⟨_, _, _, atC g8 rfl, ?_⟩
      exact no_step [1, 6, 7, 1, 5, 7, 1, 5] (by simp [byteL]) q2 J9 _ _ (by decide) (bysl_lit g2 rfl rfl (by decide)) (fun _ => _) fun J' _ => wr_i64 (by omega) (by omega) ⟨⟨by omega, by omega⟩, by omega⟩
    · refine ⟨_, _, _, atC g8 rfl, ?_⟩
      exact no_step [2, 9] (by simp [byteL]) q3 J9 _ _ (by decide) (bysl_lit g3 rfl rfl (by decide)) (fun _ => _) fun J' _ => wr_i64 (by omega) (by omega) ⟨⟨by omega, by omega⟩, by omega⟩
    · refine ⟨_, _, _, atC g8 rfl, ?_⟩
      exact no_step [1, 0] (by simp [byteL]) q4 J9 _ _ (by decide) (bysl_lit g4 rfl rfl (by decide)) (fun _ => _) fun J' _ => wr_i64 (by omega) (by omega) ⟨⟨by omega, by omega⟩, by omega⟩
    · refine ⟨_, _, _, atC g8 rfl, ?_⟩
      exact no_step [1, 10] (by simp [byteL]) q5 J9 _ _ (by decide) (bysl_lit g5 rfl rfl (by decide)) (fun _ => _) fun J' _ => wr_i64 (by omega) (by omega) ⟨⟨by omega, by omega⟩, by omega⟩
    · refine ⟨_, _, _, atC g8 rfl, ?_⟩
      exact no_step [1, 9, 0] (by simp [byteL]) q6 J9 _ _ (by decide) (bysl_lit g6 rfl rfl (by decide)) (fun _ => _) fun J' _ => wr_i64 (by omega) (by omega) ⟨⟨by omega, by omega⟩, by omega⟩
    · refine ⟨_, _, _, atC g8 rfl, ?_⟩
      exact no_step [1, 7, 1, 1, 6] (by simp [byteL]) q7 J9 _ _ (by decide) (bysl_lit g7 rfl rfl (by decide)) (fun _ => _) fun J' _ => wr_i64 (by omega) (by omega) ⟨⟨by omega, by omega⟩, by omega⟩
  · refine (ct24 6 (by omega) J9).mono fun v J10 m10 hv => ⟨_, hv, Br.t ?_ ((ct28 3 (by omega) J10).mono fun v J11 m11 hv => ⟨_, hv, ?_⟩)⟩
    · rw [str_eq]; decide
    · rw [str_eq, decide_eq_true (show askS 3 = ⟨#[101, 118, 101, 110, 116, 115]⟩ by decide)]
open Go Go.Proofs Go.SE Go.RowKit
set_option linter.unusedVariables false
structure Sm where
  kind : Int
  name : ByteArray
  a : Int
  b : Int
  c : Int
  val : Int
structure okSm (x : Sm) : Prop where
  kind : 0 ≤ x.kind ∧ x.kind ≤ 255
  name : x.name.size ≤ maxLen
  a : 0 ≤ x.a ∧ x.a ≤ 4294967295
  b : 0 ≤ x.b ∧ x.b ≤ 4294967295
  c : 0 ≤ x.c ∧ x.c ≤ 4294967295
  val : i64R x.val
def smV (x : Sm) : List Value := [.int .u8 x.kind, .string x.name, .int .u32 x.a, .int .u32 x.b, .int .u32 x.c, .int .i64 x.val]
def cutN (x : Sm) : ByteArray := x.name.extract 0 (imin x.name.size 100).toNat
def madeK (k w : Int) (x : Sm) : Rq :=
  if k = 1 then { zeroRq with kind := 1, fed := strL (cutN x) } else if k = 2 then { zeroRq with kind := 2, name := cutN x, p3 := x.a } else if k = 3 then { zeroRq with kind := 3, p4 := x.a, p5 := x.b, p6 := x.c }
  else if k = 4 then { zeroRq with kind := 4, p4 := x.a } else if k = 5 then { zeroRq with kind := 5, p4 := x.a, p7 := x.b, val := x.val } else if k = 6 then { zeroRq with kind := 6, p7 := x.a }
  else if k = 7 then (if w = 2 then { zeroRq with kind := 7, what := 2, p4 := x.a } else if w = 5 then { zeroRq with kind := 7, what := 5, p4 := x.a } else if w = 3 then { zeroRq with kind := 7, what := 3, p7 := x.a, p8 := x.b, p9 := x.c } else if w = 4 then { zeroRq with kind := 7, what := 4, name := cutN x } else { zeroRq with kind := 7, what := w })
  else if k = 8 then { zeroRq with kind := 8, p8 := x.a, p9 := x.b } else { zeroRq with kind := k }
def madeR (x : Sm) : Rq := madeK (1 + x.kind % 9) (1 + x.kind / 9 % 5) x
theorem ct13 (x : Sm) (hx : okSm x) (I : Mem) : Ct Try.prog (fnv 13) #[.agg (smV x).toArray] I (fun v I' => ∃ y, v = .agg (rqV (madeR x) y).toArray ∧ BySl I' y (madeR x).fed) := by
  refine viaR (ct_via (A := { }) Try.func13 rfl Try.call13 rfl rfl) ((9 : Int) ≠ (0 : Int) ∧ Wr IntKind.u8 ((1 : Int) + Int.tmod (Sm.kind x) (9 : Int)) fun (c : Int) => ((0 : Int) ≤ bif false then imax (↑(ByteArray.size (Sm.name x)) : Int) (100 : Int) else imin (↑(ByteArray.size (Sm.name x)) : Int) (100 : Int)) ∧ (bif false then imax (↑(ByteArray.size (Sm.name x)) : Int) (100 : Int) else imin (↑(ByteArray.size (Sm.name x)) : Int) (100 : Int)) ≤ (↑(ByteArray.size (Sm.name x)) : Int) ∧ Wr IntKind.i64 (Sm.a x) fun (c_1 : Int) => Wr IntKind.i64 (Sm.b x) fun (c_2 : Int) => Wr IntKind.i64 (Sm.c x) fun (c_3 : Int) => Br (c == (1 : Int)) (ByteArray.size (ByteArray.extract (Sm.name x) (0 : Nat) (Int.toNat (bif false then imax (↑(ByteArray.size (Sm.name x)) : Int) (100 : Int) else imin (↑(ByteArray.size (Sm.name x)) : Int) (100 : Int)))) ≤ (4611686018427387904 : Nat) ∧ ∀ (a : Option Addr) (cp : Nat) (I' : Mem), Mem.le I I' → Option.isSome a = true → ByteArray.size (ByteArray.extract (Sm.name x) (0 : Nat) (Int.toNat (bif false then imax (↑(ByteArray.size (Sm.name x)) : Int) (100 : Int) else imin (↑(ByteArray.size (Sm.name x)) : Int) (100 : Int)))) ≤ cp → cp ≤ (9223372036854775807 : Nat) → (∀ (j : Nat) (b : UInt8), (Array.toList (ByteArray.data (ByteArray.extract (Sm.name x) (0 : Nat) (Int.toNat (bif false then imax (↑(ByteArray.size (Sm.name x)) : Int) (100 : Int) else imin (↑(ByteArray.size (Sm.name x)) : Int) (100 : Int))))))[j]? = some b → atI I' a j = some (Value.int IntKind.u8 (↑(UInt8.toNat b) : Int))) → ∃ (y : Value), Value.agg #[Value.int IntKind.u8 c, Value.int IntKind.u8 (0 : Int), Value.string (ByteArray.mk #[]), Value.int IntKind.i64 (0 : Int), Value.int IntKind.i64 (0 : Int), Value.int IntKind.i64 (0 : Int), Value.int IntKind.i64 (0 : Int), Value.int IntKind.i64 (0 : Int), Value.int IntKind.i64 (0 : Int), Value.int IntKind.i64 (0 : Int), Value.int IntKind.i64 (0 : Int), Value.slice a (ByteArray.size (ByteArray.extract (Sm.name x) (0 : Nat) (Int.toNat (bif false then imax (↑(ByteArray.size (Sm.name x)) : Int) (100 : Int) else imin (↑(ByteArray.size (Sm.name x)) : Int) (100 : Int))))) cp] = Value.agg #[Value.int IntKind.u8 (Rq.kind (madeR x)), Value.int IntKind.u8 (Rq.what (madeR x)), Value.string (Rq.name (madeR x)), Value.int IntKind.i64 (Rq.p3 (madeR x)), Value.int IntKind.i64 (Rq.p4 (madeR x)), Value.int IntKind.i64 (Rq.p5 (madeR x)), Value.int IntKind.i64 (Rq.p6 (madeR x)), Value.int IntKind.i64 (Rq.p7 (madeR x)), Value.int IntKind.i64 (Rq.p8 (madeR x)), Value.int IntKind.i64 (Rq.p9 (madeR x)), Value.int IntKind.i64 (Rq.val (madeR x)), y] ∧ ∃ (b : Option Addr), ∃ (m : Nat), ∃ (c : Nat), y = Value.slice b m c ∧ SlM I' b m (1 : Nat) (List.map (Value.int IntKind.u8) (Rq.fed (madeR x))) ∧ m ≤ c ∧ c ≤ (9223372036854775807 : Nat)) (Br (c == (2 : Int)) (∃ (y : Value), Value.agg #[Value.int IntKind.u8 c, Value.int IntKind.u8 (0 : Int), Value.string (ByteArray.extract (Sm.name x) (0 : Nat) (Int.toNat (bif false then imax (↑(ByteArray.size (Sm.name x)) : Int) (100 : Int) else imin (↑(ByteArray.size (Sm.name x)) : Int) (100 : Int)))), Value.int IntKind.i64 c_1, Value.int IntKind.i64 (0 : Int), Value.int IntKind.i64 (0 : Int), Value.int IntKind.i64 (0 : Int), Value.int IntKind.i64 (0 : Int), Value.int IntKind.i64 (0 : Int), Value.int IntKind.i64 (0 : Int), Value.int IntKind.i64 (0 : Int), Value.slice none (0 : Nat) (0 : Nat)] = Value.agg #[Value.int IntKind.u8 (Rq.kind (madeR x)), Value.int IntKind.u8 (Rq.what (madeR x)), Value.string (Rq.name (madeR x)), Value.int IntKind.i64 (Rq.p3 (madeR x)), Value.int IntKind.i64 (Rq.p4 (madeR x)), Value.int IntKind.i64 (Rq.p5 (madeR x)), Value.int IntKind.i64 (Rq.p6 (madeR x)), Value.int IntKind.i64 (Rq.p7 (madeR x)), Value.int IntKind.i64 (Rq.p8 (madeR x)), Value.int IntKind.i64 (Rq.p9 (madeR x)), Value.int IntKind.i64 (Rq.val (madeR x)), y] ∧ ∃ (b : Option Addr), ∃ (m : Nat), ∃ (c : Nat), y = Value.slice b m c ∧ SlM I b m (1 : Nat) (List.map (Value.int IntKind.u8) (Rq.fed (madeR x))) ∧ m ≤ c ∧ c ≤ (9223372036854775807 : Nat)) (Br (c == (3 : Int)) (∃ (y : Value), Value.agg #[Value.int IntKind.u8 c, Value.int IntKind.u8 (0 : Int), Value.string (ByteArray.mk #[]), Value.int IntKind.i64 (0 : Int), Value.int IntKind.i64 c_1, Value.int IntKind.i64 c_2, Value.int IntKind.i64 c_3, Value.int IntKind.i64 (0 : Int), Value.int IntKind.i64 (0 : Int), Value.int IntKind.i64 (0 : Int), Value.int IntKind.i64 (0 : Int), Value.slice none (0 : Nat) (0 : Nat)] = Value.agg #[Value.int IntKind.u8 (Rq.kind (madeR x)), Value.int IntKind.u8 (Rq.what (madeR x)), Value.string (Rq.name (madeR x)), Value.int IntKind.i64 (Rq.p3 (madeR x)), Value.int IntKind.i64 (Rq.p4 (madeR x)), Value.int IntKind.i64 (Rq.p5 (madeR x)), Value.int IntKind.i64 (Rq.p6 (madeR x)), Value.int IntKind.i64 (Rq.p7 (madeR x)), Value.int IntKind.i64 (Rq.p8 (madeR x)), Value.int IntKind.i64 (Rq.p9 (madeR x)), Value.int IntKind.i64 (Rq.val (madeR x)), y] ∧ ∃ (b : Option Addr), ∃ (m : Nat), ∃ (c : Nat), y = Value.slice b m c ∧ SlM I b m (1 : Nat) (List.map (Value.int IntKind.u8) (Rq.fed (madeR x))) ∧ m ≤ c ∧ c ≤ (9223372036854775807 : Nat)) (Br (c == (4 : Int)) (∃ (y : Value), Value.agg #[Value.int IntKind.u8 c, Value.int IntKind.u8 (0 : Int), Value.string (ByteArray.mk #[]), Value.int IntKind.i64 (0 : Int), Value.int IntKind.i64 c_1, Value.int IntKind.i64 (0 : Int), Value.int IntKind.i64 (0 : Int), Value.int IntKind.i64 (0 : Int), Value.int IntKind.i64 (0 : Int), Value.int IntKind.i64 (0 : Int), Value.int IntKind.i64 (0 : Int), Value.slice none (0 : Nat) (0 : Nat)] = Value.agg #[Value.int IntKind.u8 (Rq.kind (madeR x)), Value.int IntKind.u8 (Rq.what (madeR x)), Value.string (Rq.name (madeR x)), Value.int IntKind.i64 (Rq.p3 (madeR x)), Value.int IntKind.i64 (Rq.p4 (madeR x)), Value.int IntKind.i64 (Rq.p5 (madeR x)), Value.int IntKind.i64 (Rq.p6 (madeR x)), Value.int IntKind.i64 (Rq.p7 (madeR x)), Value.int IntKind.i64 (Rq.p8 (madeR x)), Value.int IntKind.i64 (Rq.p9 (madeR x)), Value.int IntKind.i64 (Rq.val (madeR x)), y] ∧ ∃ (b : Option Addr), ∃ (m : Nat), ∃ (c : Nat), y = Value.slice b m c ∧ SlM I b m (1 : Nat) (List.map (Value.int IntKind.u8) (Rq.fed (madeR x))) ∧ m ≤ c ∧ c ≤ (9223372036854775807 : Nat)) (Br (c == (5 : Int)) (∃ (y : Value), Value.agg #[Value.int IntKind.u8 c, Value.int IntKind.u8 (0 : Int), Value.string (ByteArray.mk #[]), Value.int IntKind.i64 (0 : Int), Value.int IntKind.i64 c_1, Value.int IntKind.i64 (0 : Int), Value.int IntKind.i64 (0 : Int), Value.int IntKind.i64 c_2, Value.int IntKind.i64 (0 : Int), Value.int IntKind.i64 (0 : Int), Value.int IntKind.i64 (Sm.val x), Value.slice none (0 : Nat) (0 : Nat)] = Value.agg #[Value.int IntKind.u8 (Rq.kind (madeR x)), Value.int IntKind.u8 (Rq.what (madeR x)), Value.string (Rq.name (madeR x)), Value.int IntKind.i64 (Rq.p3 (madeR x)), Value.int IntKind.i64 (Rq.p4 (madeR x)), Value.int IntKind.i64 (Rq.p5 (madeR x)), Value.int IntKind.i64 (Rq.p6 (madeR x)), Value.int IntKind.i64 (Rq.p7 (madeR x)), Value.int IntKind.i64 (Rq.p8 (madeR x)), Value.int IntKind.i64 (Rq.p9 (madeR x)), Value.int IntKind.i64 (Rq.val (madeR x)), y] ∧ ∃ (b : Option Addr), ∃ (m : Nat), ∃ (c : Nat), y = Value.slice b m c ∧ SlM I b m (1 : Nat) (List.map (Value.int IntKind.u8) (Rq.fed (madeR x))) ∧ m ≤ c ∧ c ≤ (9223372036854775807 : Nat)) (Br (c == (6 : Int)) (∃ (y : Value), Value.agg #[Value.int IntKind.u8 c, Value.int IntKind.u8 (0 : Int), Value.string (ByteArray.mk #[]), Value.int IntKind.i64 (0 : Int), Value.int IntKind.i64 (0 : Int), Value.int IntKind.i64 (0 : Int), Value.int IntKind.i64 (0 : Int), Value.int IntKind.i64 c_1, Value.int IntKind.i64 (0 : Int), Value.int IntKind.i64 (0 : Int), Value.int IntKind.i64 (0 : Int), Value.slice none (0 : Nat) (0 : Nat)] = Value.agg #[Value.int IntKind.u8 (Rq.kind (madeR x)), Value.int IntKind.u8 (Rq.what (madeR x)), Value.string (Rq.name (madeR x)), Value.int IntKind.i64 (Rq.p3 (madeR x)), Value.int IntKind.i64 (Rq.p4 (madeR x)), Value.int IntKind.i64 (Rq.p5 (madeR x)), Value.int IntKind.i64 (Rq.p6 (madeR x)), Value.int IntKind.i64 (Rq.p7 (madeR x)), Value.int IntKind.i64 (Rq.p8 (madeR x)), Value.int IntKind.i64 (Rq.p9 (madeR x)), Value.int IntKind.i64 (Rq.val (madeR x)), y] ∧ ∃ (b : Option Addr), ∃ (m : Nat), ∃ (c : Nat), y = Value.slice b m c ∧ SlM I b m (1 : Nat) (List.map (Value.int IntKind.u8) (Rq.fed (madeR x))) ∧ m ≤ c ∧ c ≤ (9223372036854775807 : Nat)) (Br (c == (7 : Int)) ((9 : Int) ≠ (0 : Int) ∧ Wr IntKind.u8 (Int.tdiv (Sm.kind x) (9 : Int)) fun (c_4 : Int) => (5 : Int) ≠ (0 : Int) ∧ Wr IntKind.u8 ((1 : Int) + Int.tmod c_4 (5 : Int)) fun (c_5 : Int) => Br (c_5 == (2 : Int)) (Br (c_5 == (2 : Int)) (∃ (y : Value), Value.agg #[Value.int IntKind.u8 c, Value.int IntKind.u8 c_5, Value.string (ByteArray.mk #[]), Value.int IntKind.i64 (0 : Int), Value.int IntKind.i64 c_1, Value.int IntKind.i64 (0 : Int), Value.int IntKind.i64 (0 : Int), Value.int IntKind.i64 (0 : Int), Value.int IntKind.i64 (0 : Int), Value.int IntKind.i64 (0 : Int), Value.int IntKind.i64 (0 : Int), Value.slice none (0 : Nat) (0 : Nat)] = Value.agg #[Value.int IntKind.u8 (Rq.kind (madeR x)), Value.int IntKind.u8 (Rq.what (madeR x)), Value.string (Rq.name (madeR x)), Value.int IntKind.i64 (Rq.p3 (madeR x)), Value.int IntKind.i64 (Rq.p4 (madeR x)), Value.int IntKind.i64 (Rq.p5 (madeR x)), Value.int IntKind.i64 (Rq.p6 (madeR x)), Value.int IntKind.i64 (Rq.p7 (madeR x)), Value.int IntKind.i64 (Rq.p8 (madeR x)), Value.int IntKind.i64 (Rq.p9 (madeR x)), Value.int IntKind.i64 (Rq.val (madeR x)), y] ∧ ∃ (b : Option Addr), ∃ (m : Nat), ∃ (c : Nat), y = Value.slice b m c ∧ SlM I b m (1 : Nat) (List.map (Value.int IntKind.u8) (Rq.fed (madeR x))) ∧ m ≤ c ∧ c ≤ (9223372036854775807 : Nat)) (Br (c_5 == (3 : Int)) (∃ (y : Value), Value.agg #[Value.int IntKind.u8 c, Value.int IntKind.u8 c_5, Value.string (ByteArray.mk #[]), Value.int IntKind.i64 (0 : Int), Value.int IntKind.i64 (0 : Int), Value.int IntKind.i64 (0 : Int), Value.int IntKind.i64 (0 : Int), Value.int IntKind.i64 c_1, Value.int IntKind.i64 c_2, Value.int IntKind.i64 c_3, Value.int IntKind.i64 (0 : Int), Value.slice none (0 : Nat) (0 : Nat)] = Value.agg #[Value.int IntKind.u8 (Rq.kind (madeR x)), Value.int IntKind.u8 (Rq.what (madeR x)), Value.string (Rq.name (madeR x)), Value.int IntKind.i64 (Rq.p3 (madeR x)), Value.int IntKind.i64 (Rq.p4 (madeR x)), Value.int IntKind.i64 (Rq.p5 (madeR x)), Value.int IntKind.i64 (Rq.p6 (madeR x)), Value.int IntKind.i64 (Rq.p7 (madeR x)), Value.int IntKind.i64 (Rq.p8 (madeR x)), Value.int IntKind.i64 (Rq.p9 (madeR x)), Value.int IntKind.i64 (Rq.val (madeR x)), y] ∧ ∃ (b : Option Addr), ∃ (m : Nat), ∃ (c : Nat), y = Value.slice b m c ∧ SlM I b m (1 : Nat) (List.map (Value.int IntKind.u8) (Rq.fed (madeR x))) ∧ m ≤ c ∧ c ≤ (9223372036854775807 : Nat)) (Br (c_5 == (4 : Int)) (∃ (y : Value), Value.agg #[Value.int IntKind.u8 c, Value.int IntKind.u8 c_5, Value.string (ByteArray.extract (Sm.name x) (0 : Nat) (Int.toNat (bif false then imax (↑(ByteArray.size (Sm.name x)) : Int) (100 : Int) else imin (↑(ByteArray.size (Sm.name x)) : Int) (100 : Int)))), Value.int IntKind.i64 (0 : Int), Value.int IntKind.i64 (0 : Int), Value.int IntKind.i64 (0 : Int), Value.int IntKind.i64 (0 : Int), Value.int IntKind.i64 (0 : Int), Value.int IntKind.i64 (0 : Int), Value.int IntKind.i64 (0 : Int), Value.int IntKind.i64 (0 : Int), Value.slice none (0 : Nat) (0 : Nat)] = Value.agg #[Value.int IntKind.u8 (Rq.kind (madeR x)), Value.int IntKind.u8 (Rq.what (madeR x)), Value.string (Rq.name (madeR x)), Value.int IntKind.i64 (Rq.p3 (madeR x)), Value.int IntKind.i64 (Rq.p4 (madeR x)), Value.int IntKind.i64 (Rq.p5 (madeR x)), Value.int IntKind.i64 (Rq.p6 (madeR x)), Value.int IntKind.i64 (Rq.p7 (madeR x)), Value.int IntKind.i64 (Rq.p8 (madeR x)), Value.int IntKind.i64 (Rq.p9 (madeR x)), Value.int IntKind.i64 (Rq.val (madeR x)), y] ∧ ∃ (b : Option Addr), ∃ (m : Nat), ∃ (c : Nat), y = Value.slice b m c ∧ SlM I b m (1 : Nat) (List.map (Value.int IntKind.u8) (Rq.fed (madeR x))) ∧ m ≤ c ∧ c ≤ (9223372036854775807 : Nat)) (∃ (y : Value), Value.agg #[Value.int IntKind.u8 c, Value.int IntKind.u8 c_5, Value.string (ByteArray.mk #[]), Value.int IntKind.i64 (0 : Int), Value.int IntKind.i64 (0 : Int), Value.int IntKind.i64 (0 : Int), Value.int IntKind.i64 (0 : Int), Value.int IntKind.i64 (0 : Int), Value.int IntKind.i64 (0 : Int), Value.int IntKind.i64 (0 : Int), Value.int IntKind.i64 (0 : Int), Value.slice none (0 : Nat) (0 : Nat)] = Value.agg #[Value.int IntKind.u8 (Rq.kind (madeR x)), Value.int IntKind.u8 (Rq.what (madeR x)), Value.string (Rq.name (madeR x)), Value.int IntKind.i64 (Rq.p3 (madeR x)), Value.int IntKind.i64 (Rq.p4 (madeR x)), Value.int IntKind.i64 (Rq.p5 (madeR x)), Value.int IntKind.i64 (Rq.p6 (madeR x)), Value.int IntKind.i64 (Rq.p7 (madeR x)), Value.int IntKind.i64 (Rq.p8 (madeR x)), Value.int IntKind.i64 (Rq.p9 (madeR x)), Value.int IntKind.i64 (Rq.val (madeR x)), y] ∧ ∃ (b : Option Addr), ∃ (m : Nat), ∃ (c : Nat), y = Value.slice b m c ∧ SlM I b m (1 : Nat) (List.map (Value.int IntKind.u8) (Rq.fed (madeR x))) ∧ m ≤ c ∧ c ≤ (9223372036854775807 : Nat))))) (Br (c_5 == (5 : Int)) (∃ (y : Value), Value.agg #[Value.int IntKind.u8 c, Value.int IntKind.u8 c_5, Value.string (ByteArray.mk #[]), Value.int IntKind.i64 (0 : Int), Value.int IntKind.i64 c_1, Value.int IntKind.i64 (0 : Int), Value.int IntKind.i64 (0 : Int), Value.int IntKind.i64 (0 : Int), Value.int IntKind.i64 (0 : Int), Value.int IntKind.i64 (0 : Int), Value.int IntKind.i64 (0 : Int), Value.slice none (0 : Nat) (0 : Nat)] = Value.agg #[Value.int IntKind.u8 (Rq.kind (madeR x)), Value.int IntKind.u8 (Rq.what (madeR x)), Value.string (Rq.name (madeR x)), Value.int IntKind.i64 (Rq.p3 (madeR x)), Value.int IntKind.i64 (Rq.p4 (madeR x)), Value.int IntKind.i64 (Rq.p5 (madeR x)), Value.int IntKind.i64 (Rq.p6 (madeR x)), Value.int IntKind.i64 (Rq.p7 (madeR x)), Value.int IntKind.i64 (Rq.p8 (madeR x)), Value.int IntKind.i64 (Rq.p9 (madeR x)), Value.int IntKind.i64 (Rq.val (madeR x)), y] ∧ ∃ (b : Option Addr), ∃ (m : Nat), ∃ (c : Nat), y = Value.slice b m c ∧ SlM I b m (1 : Nat) (List.map (Value.int IntKind.u8) (Rq.fed (madeR x))) ∧ m ≤ c ∧ c ≤ (9223372036854775807 : Nat)) (Br (c_5 == (3 : Int)) (∃ (y : Value), Value.agg #[Value.int IntKind.u8 c, Value.int IntKind.u8 c_5, Value.string (ByteArray.mk #[]), Value.int IntKind.i64 (0 : Int), Value.int IntKind.i64 (0 : Int), Value.int IntKind.i64 (0 : Int), Value.int IntKind.i64 (0 : Int), Value.int IntKind.i64 c_1, Value.int IntKind.i64 c_2, Value.int IntKind.i64 c_3, Value.int IntKind.i64 (0 : Int), Value.slice none (0 : Nat) (0 : Nat)] = Value.agg #[Value.int IntKind.u8 (Rq.kind (madeR x)), Value.int IntKind.u8 (Rq.what (madeR x)), Value.string (Rq.name (madeR x)), Value.int IntKind.i64 (Rq.p3 (madeR x)), Value.int IntKind.i64 (Rq.p4 (madeR x)), Value.int IntKind.i64 (Rq.p5 (madeR x)), Value.int IntKind.i64 (Rq.p6 (madeR x)), Value.int IntKind.i64 (Rq.p7 (madeR x)), Value.int IntKind.i64 (Rq.p8 (madeR x)), Value.int IntKind.i64 (Rq.p9 (madeR x)), Value.int IntKind.i64 (Rq.val (madeR x)), y] ∧ ∃ (b : Option Addr), ∃ (m : Nat), ∃ (c : Nat), y = Value.slice b m c ∧ SlM I b m (1 : Nat) (List.map (Value.int IntKind.u8) (Rq.fed (madeR x))) ∧ m ≤ c ∧ c ≤ (9223372036854775807 : Nat)) (Br (c_5 == (4 : Int)) (∃ (y : Value), Value.agg #[Value.int IntKind.u8 c, Value.int IntKind.u8 c_5, Value.string (ByteArray.extract (Sm.name x) (0 : Nat) (Int.toNat (bif false then imax (↑(ByteArray.size (Sm.name x)) : Int) (100 : Int) else imin (↑(ByteArray.size (Sm.name x)) : Int) (100 : Int)))), Value.int IntKind.i64 (0 : Int), Value.int IntKind.i64 (0 : Int), Value.int IntKind.i64 (0 : Int), Value.int IntKind.i64 (0 : Int), Value.int IntKind.i64 (0 : Int), Value.int IntKind.i64 (0 : Int), Value.int IntKind.i64 (0 : Int), Value.int IntKind.i64 (0 : Int), Value.slice none (0 : Nat) (0 : Nat)] = Value.agg #[Value.int IntKind.u8 (Rq.kind (madeR x)), Value.int IntKind.u8 (Rq.what (madeR x)), Value.string (Rq.name (madeR x)), Value.int IntKind.i64 (Rq.p3 (madeR x)), Value.int IntKind.i64 (Rq.p4 (madeR x)), Value.int IntKind.i64 (Rq.p5 (madeR x)), Value.int IntKind.i64 (Rq.p6 (madeR x)), Value.int IntKind.i64 (Rq.p7 (madeR x)), Value.int IntKind.i64 (Rq.p8 (madeR x)), Value.int IntKind.i64 (Rq.p9 (madeR x)), Value.int IntKind.i64 (Rq.val (madeR x)), y] ∧ ∃ (b : Option Addr), ∃ (m : Nat), ∃ (c : Nat), y = Value.slice b m c ∧ SlM I b m (1 : Nat) (List.map (Value.int IntKind.u8) (Rq.fed (madeR x))) ∧ m ≤ c ∧ c ≤ (9223372036854775807 : Nat)) (∃ (y : Value), Value.agg #[Value.int IntKind.u8 c, Value.int IntKind.u8 c_5, Value.string (ByteArray.mk #[]), Value.int IntKind.i64 (0 : Int), Value.int IntKind.i64 (0 : Int), Value.int IntKind.i64 (0 : Int), Value.int IntKind.i64 (0 : Int), Value.int IntKind.i64 (0 : Int), Value.int IntKind.i64 (0 : Int), Value.int IntKind.i64 (0 : Int), Value.int IntKind.i64 (0 : Int), Value.slice none (0 : Nat) (0 : Nat)] = Value.agg #[Value.int IntKind.u8 (Rq.kind (madeR x)), Value.int IntKind.u8 (Rq.what (madeR x)), Value.string (Rq.name (madeR x)), Value.int IntKind.i64 (Rq.p3 (madeR x)), Value.int IntKind.i64 (Rq.p4 (madeR x)), Value.int IntKind.i64 (Rq.p5 (madeR x)), Value.int IntKind.i64 (Rq.p6 (madeR x)), Value.int IntKind.i64 (Rq.p7 (madeR x)), Value.int IntKind.i64 (Rq.p8 (madeR x)), Value.int IntKind.i64 (Rq.p9 (madeR x)), Value.int IntKind.i64 (Rq.val (madeR x)), y] ∧ ∃ (b : Option Addr), ∃ (m : Nat), ∃ (c : Nat), y = Value.slice b m c ∧ SlM I b m (1 : Nat) (List.map (Value.int IntKind.u8) (Rq.fed (madeR x))) ∧ m ≤ c ∧ c ≤ (9223372036854775807 : Nat)))))) (Br (c == (8 : Int)) (∃ (y : Value), Value.agg #[Value.int IntKind.u8 c, Value.int IntKind.u8 (0 : Int), Value.string (ByteArray.mk #[]), Value.int IntKind.i64 (0 : Int), Value.int IntKind.i64 (0 : Int), Value.int IntKind.i64 (0 : Int), Value.int IntKind.i64 (0 : Int), Value.int IntKind.i64 (0 : Int), Value.int IntKind.i64 c_1, Value.int IntKind.i64 c_2, Value.int IntKind.i64 (0 : Int), Value.slice none (0 : Nat) (0 : Nat)] = Value.agg #[Value.int IntKind.u8 (Rq.kind (madeR x)), Value.int IntKind.u8 (Rq.what (madeR x)), Value.string (Rq.name (madeR x)), Value.int IntKind.i64 (Rq.p3 (madeR x)), Value.int IntKind.i64 (Rq.p4 (madeR x)), Value.int IntKind.i64 (Rq.p5 (madeR x)), Value.int IntKind.i64 (Rq.p6 (madeR x)), Value.int IntKind.i64 (Rq.p7 (madeR x)), Value.int IntKind.i64 (Rq.p8 (madeR x)), Value.int IntKind.i64 (Rq.p9 (madeR x)), Value.int IntKind.i64 (Rq.val (madeR x)), y] ∧ ∃ (b : Option Addr), ∃ (m : Nat), ∃ (c : Nat), y = Value.slice b m c ∧ SlM I b m (1 : Nat) (List.map (Value.int IntKind.u8) (Rq.fed (madeR x))) ∧ m ≤ c ∧ c ≤ (9223372036854775807 : Nat)) (∃ (y : Value), Value.agg #[Value.int IntKind.u8 c, Value.int IntKind.u8 (0 : Int), Value.string (ByteArray.mk #[]), Value.int IntKind.i64 (0 : Int), Value.int IntKind.i64 (0 : Int), Value.int IntKind.i64 (0 : Int), Value.int IntKind.i64 (0 : Int), Value.int IntKind.i64 (0 : Int), Value.int IntKind.i64 (0 : Int), Value.int IntKind.i64 (0 : Int), Value.int IntKind.i64 (0 : Int), Value.slice none (0 : Nat) (0 : Nat)] = Value.agg #[Value.int IntKind.u8 (Rq.kind (madeR x)), Value.int IntKind.u8 (Rq.what (madeR x)), Value.string (Rq.name (madeR x)), Value.int IntKind.i64 (Rq.p3 (madeR x)), Value.int IntKind.i64 (Rq.p4 (madeR x)), Value.int IntKind.i64 (Rq.p5 (madeR x)), Value.int IntKind.i64 (Rq.p6 (madeR x)), Value.int IntKind.i64 (Rq.p7 (madeR x)), Value.int IntKind.i64 (Rq.p8 (madeR x)), Value.int IntKind.i64 (Rq.p9 (madeR x)), Value.int IntKind.i64 (Rq.val (madeR x)), y] ∧ ∃ (b : Option Addr), ∃ (m : Nat), ∃ (c : Nat), y = Value.slice b m c ∧ SlM I b m (1 : Nat) (List.map (Value.int IntKind.u8) (Rq.fed (madeR x))) ∧ m ≤ c ∧ c ≤ (9223372036854775807 : Nat)))))))))) (by kernel_rfl) ?_
  have hmx : maxLen = 9223372036854775807 := by decide
  have hk := hx.kind
  have ha := hx.a
  have hb := hx.b
  have hc := hx.c
  have hsz := hx.name
  have t1 : x.kind.tmod 9 = x.kind % 9 := Int.tmod_eq_emod_of_nonneg hk.1
  have t2 : x.kind.tdiv 9 = x.kind / 9 := Int.tdiv_eq_ediv_of_nonneg hk.1
  have t3 : (x.kind / 9).tmod 5 = x.kind / 9 % 5 := Int.tmod_eq_emod_of_nonneg (by omega)
  have hmin : 0 ≤ imin (x.name.size : Int) 100 ∧ imin (x.name.size : Int) 100 ≤ x.name.size ∧ imin (x.name.size : Int) 100 ≤ 100 := by
    unfold imin
    split <;> omega
  simp only [cond_false, t1, t2]
  have hcut : (cutN x).size ≤ 100 := by
    unfold cutN
    rw [ByteArray.size_extract]
    omega
  have hm0 : madeR x = madeK (1 + x.kind % 9) (1 + x.kind / 9 % 5) x := rfl
  rw [hm0]
  refine ⟨by omega, _, IntWalk.u8_in _ ⟨by omega, by omega⟩, hmin.1, hmin.2.1, wr_i64 (by omega) (by omega) (wr_i64 (by omega) (by omega) (wr_i64 (by omega) (by omega) ?_))⟩
  have hKr : 1 ≤ 1 + x.kind % 9 ∧ 1 + x.kind % 9 ≤ 9 := by omega
  have hWr : 1 ≤ 1 + x.kind / 9 % 5 ∧ 1 + x.kind / 9 % 5 ≤ 5 := by omega
  refine Br.mk (fun h => ?_) (fun h1 => Br.mk (fun h => ?_) (fun h2 => Br.mk (fun h => ?_) (fun h3 => Br.mk (fun h => ?_) (fun h4 => Br.mk (fun h => ?_) (fun h5 => Br.mk (fun h => ?_) (fun h6 => Br.mk (fun h => ?_) (fun h7 => Br.mk (fun h => ?_) (fun h8 => ?_))))))))
  · rw [eqv h]
    refine ⟨by have := hcut; unfold cutN at this; omega, fun a cp I1 l1 hs hq hcp hat => ⟨_, rfl, ⟨_, _, _, rfl, str_sl hs (by have := hcut; unfold cutN at this; omega) hat, hq, hcp⟩⟩⟩
  · rw [eqv h]
    exact ⟨_, rfl, ⟨none, 0, 0, rfl, sl_nil _ _, by omega, by omega⟩⟩
  · rw [eqv h]
    exact ⟨_, rfl, ⟨none, 0, 0, rfl, sl_nil _ _, by omega, by omega⟩⟩
  · rw [eqv h]
    exact ⟨_, rfl, ⟨none, 0, 0, rfl, sl_nil _ _, by omega, by omega⟩⟩
  · rw [eqv h]
    exact ⟨_, rfl, ⟨none, 0, 0, rfl, sl_nil _ _, by omega, by omega⟩⟩
  · rw [eqv h]
    exact ⟨_, rfl, ⟨none, 0, 0, rfl, sl_nil _ _, by omega, by omega⟩⟩
  · rw [eqv h]
    refine ⟨by omega, _, IntWalk.u8_in _ ⟨by omega, by omega⟩, by omega, ?_⟩
    rw [t3]
    refine ⟨_, IntWalk.u8_in _ ⟨by omega, by omega⟩, ?_⟩
    generalize 1 + x.kind / 9 % 5 = W at hWr ⊢
    refine Br.mk (fun g => Br.mk (fun _ => ?_) (fun g2 => absurd g (by rw [g2]; decide))) (fun g2 => Br.mk (fun g => ?_) (fun g5 => Br.mk (fun g => ?_) (fun g3 => Br.mk (fun g => ?_) (fun g4 => ?_))))
    · rw [eqv g]
      exact ⟨_, rfl, ⟨none, 0, 0, rfl, sl_nil _ _, by omega, by omega⟩⟩
    · rw [eqv g]
      exact ⟨_, rfl, ⟨none, 0, 0, rfl, sl_nil _ _, by omega, by omega⟩⟩
    · rw [eqv g]
      exact ⟨_, rfl, ⟨none, 0, 0, rfl, sl_nil _ _, by omega, by omega⟩⟩
    · rw [eqv g]
      exact ⟨_, rfl, ⟨none, 0, 0, rfl, sl_nil _ _, by omega, by omega⟩⟩
    · have n2 := nev g2
      have n3 := nev g3
      have n4 := nev g4
      have n5 := nev g5
      obtain rfl : W = 1 := by omega
      exact ⟨_, rfl, ⟨none, 0, 0, rfl, sl_nil _ _, by omega, by omega⟩⟩
  · rw [eqv h]
    exact ⟨_, rfl, ⟨none, 0, 0, rfl, sl_nil _ _, by omega, by omega⟩⟩
  · have n1 := nev h1
    have n2 := nev h2
    have n3 := nev h3
    have n4 := nev h4
    have n5 := nev h5
    have n6 := nev h6
    have n7 := nev h7
    have n8 := nev h8
    rw [show 1 + x.kind % 9 = 9 by omega]
    exact ⟨_, rfl, ⟨none, 0, 0, rfl, sl_nil _ _, by omega, by omega⟩⟩
open Go Go.Proofs Go.SE Go.RowKit
set_option linter.unusedVariables false
theorem cut_size (x : Sm) : (cutN x).size ≤ 100 := by
  unfold cutN imin
  rw [ByteArray.size_extract]
  split <;> omega
theorem strL_len (s : ByteArray) : (strL s).length = s.size := by simp [strL]
theorem strL_byte (s : ByteArray) : byteL (strL s) := fun z hz => by
  simp only [strL, List.mem_map] at hz
  obtain ⟨b, _, rfl⟩ := hz
  have := b.toNat_lt
  omega
theorem made_okRq (x : Sm) (hx : okSm x) (W K : Int) (hW : 1 ≤ W ∧ W ≤ 5) (hK : 1 ≤ K ∧ K ≤ 9) : okRq (madeK K W x) ∧ (madeK K W x).name.size ≤ 100 ∧ (madeK K W x).fed.length ≤ 100 := by
  have ha : i64R x.a := by have := hx.a; unfold i64R; omega
  have hb : i64R x.b := by have := hx.b; unfold i64R; omega
  have hc : i64R x.c := by have := hx.c; unfold i64R; omega
  have hv := hx.val
  have h0 : i64R 0 := by unfold i64R; omega
  have hcut := cut_size x
  have hl := strL_len (cutN x)
  have hby := strL_byte (cutN x)
  have hnil : byteL [] := fun z hz => by cases hz
  have u0 : (0 : Int) ≤ 0 ∧ (0 : Int) ≤ 255 := by omega
  have u1 : (0 : Int) ≤ 1 ∧ (1 : Int) ≤ 255 := by omega
  have u2 : (0 : Int) ≤ 2 ∧ (2 : Int) ≤ 255 := by omega
  have u3 : (0 : Int) ≤ 3 ∧ (3 : Int) ≤ 255 := by omega
  have u4 : (0 : Int) ≤ 4 ∧ (4 : Int) ≤ 255 := by omega
  have u5 : (0 : Int) ≤ 5 ∧ (5 : Int) ≤ 255 := by omega
  have u6 : (0 : Int) ≤ 6 ∧ (6 : Int) ≤ 255 := by omega
  have u7 : (0 : Int) ≤ 7 ∧ (7 : Int) ≤ 255 := by omega
  have u8 : (0 : Int) ≤ 8 ∧ (8 : Int) ≤ 255 := by omega
  have u9 : (0 : Int) ≤ 9 ∧ (9 : Int) ≤ 255 := by omega
  have z0 : (⟨#[]⟩ : ByteArray).size ≤ 100 := by decide
  have f0 : ([] : List Int).length ≤ 100 := by decide
  have f1 : (strL (cutN x)).length ≤ 100 := by omega
  rcases (by omega : K = 1 ∨ K = 2 ∨ K = 3 ∨ K = 4 ∨ K = 5 ∨ K = 6 ∨ K = 7 ∨ K = 8 ∨ K = 9) with rfl | rfl | rfl | rfl | rfl | rfl | rfl | rfl | rfl
  · exact ⟨⟨u1, u0, h0, h0, h0, h0, h0, h0, h0, h0, hby⟩, z0, f1⟩
  · exact ⟨⟨u2, u0, ha, h0, h0, h0, h0, h0, h0, h0, hnil⟩, hcut, f0⟩
  · exact ⟨⟨u3, u0, h0, ha, hb, hc, h0, h0, h0, h0, hnil⟩, z0, f0⟩
  · exact ⟨⟨u4, u0, h0, ha, h0, h0, h0, h0, h0, h0, hnil⟩, z0, f0⟩
  · exact ⟨⟨u5, u0, h0, ha, h0, h0, hb, h0, h0, hv, hnil⟩, z0, f0⟩
  · exact ⟨⟨u6, u0, h0, h0, h0, h0, ha, h0, h0, h0, hnil⟩, z0, f0⟩
  · rcases (by omega : W = 1 ∨ W = 2 ∨ W = 3 ∨ W = 4 ∨ W = 5) with rfl | rfl | rfl | rfl | rfl
    · exact ⟨⟨u7, u1, h0, h0, h0, h0, h0, h0, h0, h0, hnil⟩, z0, f0⟩
    · exact ⟨⟨u7, u2, h0, ha, h0, h0, h0, h0, h0, h0, hnil⟩, z0, f0⟩
    · exact ⟨⟨u7, u3, h0, h0, h0, h0, ha, hb, hc, h0, hnil⟩, z0, f0⟩
    · exact ⟨⟨u7, u4, h0, h0, h0, h0, h0, h0, h0, h0, hnil⟩, hcut, f0⟩
    · exact ⟨⟨u7, u5, h0, ha, h0, h0, h0, h0, h0, h0, hnil⟩, z0, f0⟩
  · exact ⟨⟨u8, u0, h0, h0, h0, h0, h0, ha, hb, h0, hnil⟩, z0, f0⟩
  · exact ⟨⟨u9, u0, h0, h0, h0, h0, h0, h0, h0, h0, hnil⟩, z0, f0⟩
theorem rightS_of {r : Rq} {l : List Int} (ht : tagL r.kind r.what = some l) (h1 : r.name.size ≤ 255) (h2 : r.fed.length ≤ 15000) (h3 : l.all (okT r) = true) (h4 : l.foldl (copyT r) (had0 r) = r) : rightS r = true := by
  rw [rightS, ht]
  simp only
  rw [h3, h4, decide_eq_true h1, decide_eq_true h2]
  simp [sameR]
theorem made_rightS (x : Sm) (hx : okSm x) (W K : Int) (hW : 1 ≤ W ∧ W ≤ 5) (hK : 1 ≤ K ∧ K ≤ 9) (hs : (madeK K W x).name.size ≤ 100 ∧ (madeK K W x).fed.length ≤ 100) : rightS (madeK K W x) = true := by
  have a0 := hx.a.1
  have b0 := hx.b.1
  have c0 := hx.c.1
  have s1 : (madeK K W x).name.size ≤ 255 := by omega
  have s2 : (madeK K W x).fed.length ≤ 15000 := by omega
  rcases (by omega : K = 1 ∨ K = 2 ∨ K = 3 ∨ K = 4 ∨ K = 5 ∨ K = 6 ∨ K = 7 ∨ K = 8 ∨ K = 9) with rfl | rfl | rfl | rfl | rfl | rfl | rfl | rfl | rfl
  · exact rightS_of (l := [11]) rfl s1 s2 (by simp [okT, numR, madeK, zeroRq]; try omega) rfl
  · exact rightS_of (l := [2, 3]) rfl s1 s2 (by simp [okT, numR, madeK, zeroRq]; try omega) rfl
  · exact rightS_of (l := [4, 5, 6]) rfl s1 s2 (by simp [okT, numR, madeK, zeroRq]; try omega) rfl
  · exact rightS_of (l := [4]) rfl s1 s2 (by simp [okT, numR, madeK, zeroRq]; try omega) rfl
  · exact rightS_of (l := [4, 7, 10]) rfl s1 s2 (by simp [okT, numR, madeK, zeroRq]; try omega) rfl
  · exact rightS_of (l := [7]) rfl s1 s2 (by simp [okT, numR, madeK, zeroRq]; try omega) rfl
  · rcases (by omega : W = 1 ∨ W = 2 ∨ W = 3 ∨ W = 4 ∨ W = 5) with rfl | rfl | rfl | rfl | rfl
    · exact rightS_of (l := [1]) rfl s1 s2 (by simp [okT, numR, madeK, zeroRq]; try omega) rfl
    · exact rightS_of (l := [1, 4]) rfl s1 s2 (by simp [okT, numR, madeK, zeroRq]; try omega) rfl
    · exact rightS_of (l := [1, 7, 8, 9]) rfl s1 s2 (by simp [okT, numR, madeK, zeroRq]; try omega) rfl
    · exact rightS_of (l := [1, 2]) rfl s1 s2 (by simp [okT, numR, madeK, zeroRq]; try omega) rfl
    · exact rightS_of (l := [1, 4]) rfl s1 s2 (by simp [okT, numR, madeK, zeroRq]; try omega) rfl
  · exact rightS_of (l := [8, 9]) rfl s1 s2 (by simp [okT, numR, madeK, zeroRq]; try omega) rfl
  · exact rightS_of (l := []) rfl s1 s2 (by simp [okT, numR, madeK, zeroRq]; try omega) rfl
theorem made_shape (x : Sm) (hx : okSm x) : okRq (madeR x) ∧ (madeR x).name.size ≤ 100 ∧ (madeR x).fed.length ≤ 100 ∧ rightR (madeR x) = true := by
  have hk := hx.kind
  obtain ⟨h1, h2, h3⟩ := made_okRq x hx (1 + x.kind / 9 % 5) (1 + x.kind % 9) (by omega) (by omega)
  exact ⟨h1, h2, h3, (right_eq h1).trans (made_rightS x hx _ _ (by omega) (by omega) ⟨h2, h3⟩)⟩
open Go Go.Proofs Go.SE Go.RowKit
set_option linter.unusedVariables false
theorem right_none {r : Rq} (h : tagL r.kind r.what = none) : rightR r = false := by rw [rightR, h]
theorem tag_none {k w : Int} (h : k < 1 ∨ 9 < k) : tagL k w = none := by
  rw [tagL, if_neg (by omega), if_neg (by omega), if_neg (by omega), if_neg (by omega), if_neg (by omega), if_neg (by omega), if_neg (by omega), if_neg (by omega), if_neg (by omega)]
theorem ask_none {w : Int} (h : w < 1 ∨ 5 < w) : tagL 7 w = none := by
  have : askL w = none := by rw [askL, if_neg (by omega), if_neg (by omega), if_neg (by omega), if_neg (by omega), if_neg (by omega)]
  show (askL w).map (1 :: ·) = none
  rw [this]; rfl
theorem right_all {r : Rq} (hr : okRq r) {l : List Int} (ht : tagL r.kind r.what = some l) (h : l.all (okT r) = false) : rightR r = false := by
  rw [right_eq hr, rightS, ht]
  simp only
  rw [h, Bool.false_and, Bool.and_false, Bool.and_false]
theorem right_size {r : Rq} (h : 255 < r.name.size ∨ 15000 < r.fed.length) : rightR r = false := by
  rw [rightR]
  split
  · rfl
  · rcases h with h | h
    · rw [decide_eq_false (p := r.name.size ≤ 255) (by omega), Bool.false_and]
    · rw [decide_eq_false (p := r.fed.length ≤ 15000) (by omega), Bool.false_and, Bool.and_false]
def isWrong (I : Mem) (p : Option Addr) : Prop := ∃ k r y, p = some ⟨k, 0, none⟩ ∧ I k = some (.cells (rqV r y).toArray 29) ∧ okRq r ∧ r.name.size ≤ 1000000 ∧ r.fed.length ≤ 1000000 ∧ BySl I y r.fed ∧ rightR r = false
theorem zeros_of {n : Nat} {xs : List Value} (hl : xs.length = n) (h : ∀ (j : Nat) (v : Value), xs[j]? = some v → #[Value.int .u8 0][j % 1]? = some v) : xs = ints .u8 (List.replicate n 0) := by
  apply List.ext_getElem?
  intro j
  simp only [ints, List.getElem?_map, List.getElem?_replicate]
  by_cases hj : j < n
  · have h1 : xs[j]? = some xs[j] := List.getElem?_eq_getElem (by omega)
    have := h j _ h1
    rw [Nat.mod_one] at this
    rw [if_pos hj, h1, ← this]; rfl
  · rw [if_neg hj, List.getElem?_eq_none (by omega)]; rfl
theorem byteL_zeros (n : Nat) : byteL (List.replicate n 0) := fun z hz => by
  rw [List.eq_of_mem_replicate hz]; omega
theorem bysl_big {I : Mem} {b n : Nat} {xs : List Value} {el : TypeId} {bs : List Int} (h : I b = some (.cells xs.toArray el)) (hx : xs = ints .u8 bs) (hn : n = bs.length) (hm : n ≤ maxLen) : SlM I (some ⟨b, 0, none⟩) n 1 (ints .u8 bs) := by
  subst hx
  have := sl_cells (n := n) (sz := 1) h (by simp [ints]; omega) hm
  simpa using this
theorem ct4 (I : Mem) (x : Sm) (hx : okSm x) (n : Int) (hn : i64R n) (w : Int) (hw : 0 ≤ w ∧ w ≤ 255) : Ct Try.prog (fnv 4) #[.agg (smV x).toArray, .int .i64 n, .int .u8 w] I (fun v I' => v = .bool true) := by
  refine viaR (ct_via (A := { chands := [(16, [7])], calls := [(28, .sym), (40, .sym), (54, .sym), (55, .hd), (16, .sym)], cuts := [(16, ⟨[(7, .sh .ptr)], [], [], fun vals _ I' _ => match vals with | [.pointer p] => ∃ k r y, p = some ⟨k, 0, none⟩ ∧ I' k = some (.cells (rqV r y).toArray 29) ∧ okRq r ∧ r.name.size ≤ 1000000 ∧ r.fed.length ≤ 1000000 ∧ BySl I' y r.fed ∧ rightR r = false | _ => False, fun _ _ => 0⟩)] }) Try.func4 rfl Try.call4 rfl rfl) (Ct Try.prog (Value.func (Fn.func (12 : Nat)) #[] #[]) #[] I fun (v : Value) (I' : Mem) => ∃ (b : Bool), v = Value.bool b ∧ Br (!b) (Value.bool false = Value.bool true) (Ct Try.prog (Value.func (Fn.func (13 : Nat)) #[] #[]) #[Value.agg #[Value.int IntKind.u8 (Sm.kind x), Value.string (Sm.name x), Value.int IntKind.u32 (Sm.a x), Value.int IntKind.u32 (Sm.b x), Value.int IntKind.u32 (Sm.c x), Value.int IntKind.i64 (Sm.val x)]] I' fun (v : Value) (I' : Mem) => ∃ (n_1 : Int), ∃ (n_2 : Int), ∃ (q : ByteArray), ∃ (n_3 : Int), ∃ (n_4 : Int), ∃ (n_5 : Int), ∃ (n_6 : Int), ∃ (n_7 : Int), ∃ (n_8 : Int), ∃ (n_9 : Int), ∃ (n_10 : Int), ∃ (a : Option Addr), ∃ (n_11 : Nat), ∃ (c : Nat), v = Value.agg #[Value.int IntKind.u8 n_1, Value.int IntKind.u8 n_2, Value.string q, Value.int IntKind.i64 n_3, Value.int IntKind.i64 n_4, Value.int IntKind.i64 n_5, Value.int IntKind.i64 n_6, Value.int IntKind.i64 n_7, Value.int IntKind.i64 n_8, Value.int IntKind.i64 n_9, Value.int IntKind.i64 n_10, Value.slice a n_11 c] ∧ ((6 : Int) ≠ (0 : Int) ∧ Br (Int.tmod w (6 : Int) == (0 : Int)) ((200 : Int) ≠ (0 : Int) ∧ Wr IntKind.u8 ((10 : Int) + Int.tmod w (200 : Int)) fun (c_1 : Int) => (4 : Int) ≠ (0 : Int) ∧ (0 : Int) ≤ Int.tmod (Sm.kind x) (4 : Int) ∧ Int.tmod (Sm.kind x) (4 : Int) < (4 : Int) ∧ ∃ (n : Int), [Value.int IntKind.u8 (0 : Int), Value.int IntKind.u8 (10 : Int), Value.int IntKind.u8 (255 : Int), Value.int IntKind.u8 c_1][(0 : Nat) + Int.toNat (Int.tmod (Sm.kind x) (4 : Int)) * (1 : Nat) + (0 : Nat)]? = some (Value.int IntKind.u8 n) ∧ ∀ (b : Nat) (I'_1 : Mem), Mem.le I' I'_1 → I'_1 b = some (Obj.cells #[Value.int IntKind.u8 n, Value.int IntKind.u8 n_2, Value.string q, Value.int IntKind.i64 n_3, Value.int IntKind.i64 n_4, Value.int IntKind.i64 n_5, Value.int IntKind.i64 n_6, Value.int IntKind.i64 n_7, Value.int IntKind.i64 n_8, Value.int IntKind.i64 n_9, Value.int IntKind.i64 n_10, Value.slice a n_11 c] (29 : Nat)) → ∃ (k : Nat), ∃ (r : Rq), ∃ (y : Value), some (Addr.mk b (0 : Nat) none) = some (Addr.mk k (0 : Nat) none) ∧ I'_1 k = some (Obj.cells #[Value.int IntKind.u8 (Rq.kind r), Value.int IntKind.u8 (Rq.what r), Value.string (Rq.name r), Value.int IntKind.i64 (Rq.p3 r), Value.int IntKind.i64 (Rq.p4 r), Value.int IntKind.i64 (Rq.p5 r), Value.int IntKind.i64 (Rq.p6 r), Value.int IntKind.i64 (Rq.p7 r), Value.int IntKind.i64 (Rq.p8 r), Value.int IntKind.i64 (Rq.p9 r), Value.int IntKind.i64 (Rq.val r), y] (29 : Nat)) ∧ okRq r ∧ ByteArray.size (Rq.name r) ≤ (1000000 : Nat) ∧ List.length (Rq.fed r) ≤ (1000000 : Nat) ∧ (∃ (b : Option Addr), ∃ (m : Nat), ∃ (c : Nat), y = Value.slice b m c ∧ SlM I'_1 b m (1 : Nat) (List.map (Value.int IntKind.u8) (Rq.fed r)) ∧ m ≤ c ∧ c ≤ (9223372036854775807 : Nat)) ∧ rightR r = false) (Br (Int.tmod w (6 : Int) == (1 : Int)) ((200 : Int) ≠ (0 : Int) ∧ Wr IntKind.u8 ((6 : Int) + Int.tmod w (200 : Int)) fun (c : Int) => (4 : Int) ≠ (0 : Int) ∧ (0 : Int) ≤ Int.tmod (Sm.kind x) (4 : Int) ∧ Int.tmod (Sm.kind x) (4 : Int) < (4 : Int) ∧ ∃ (n : Int), [Value.int IntKind.u8 (0 : Int), Value.int IntKind.u8 (6 : Int), Value.int IntKind.u8 (255 : Int), Value.int IntKind.u8 c][(0 : Nat) + Int.toNat (Int.tmod (Sm.kind x) (4 : Int)) * (1 : Nat) + (0 : Nat)]? = some (Value.int IntKind.u8 n) ∧ ∀ (b : Nat) (I'_1 : Mem), Mem.le I' I'_1 → I'_1 b = some (Obj.cells #[Value.int IntKind.u8 (7 : Int), Value.int IntKind.u8 n, Value.string (ByteArray.mk #[]), Value.int IntKind.i64 (0 : Int), Value.int IntKind.i64 (0 : Int), Value.int IntKind.i64 (0 : Int), Value.int IntKind.i64 (0 : Int), Value.int IntKind.i64 (0 : Int), Value.int IntKind.i64 (0 : Int), Value.int IntKind.i64 (0 : Int), Value.int IntKind.i64 (0 : Int), Value.slice none (0 : Nat) (0 : Nat)] (29 : Nat)) → ∃ (k : Nat), ∃ (r : Rq), ∃ (y : Value), some (Addr.mk b (0 : Nat) none) = some (Addr.mk k (0 : Nat) none) ∧ I'_1 k = some (Obj.cells #[Value.int IntKind.u8 (Rq.kind r), Value.int IntKind.u8 (Rq.what r), Value.string (Rq.name r), Value.int IntKind.i64 (Rq.p3 r), Value.int IntKind.i64 (Rq.p4 r), Value.int IntKind.i64 (Rq.p5 r), Value.int IntKind.i64 (Rq.p6 r), Value.int IntKind.i64 (Rq.p7 r), Value.int IntKind.i64 (Rq.p8 r), Value.int IntKind.i64 (Rq.p9 r), Value.int IntKind.i64 (Rq.val r), y] (29 : Nat)) ∧ okRq r ∧ ByteArray.size (Rq.name r) ≤ (1000000 : Nat) ∧ List.length (Rq.fed r) ≤ (1000000 : Nat) ∧ (∃ (b : Option Addr), ∃ (m : Nat), ∃ (c : Nat), y = Value.slice b m c ∧ SlM I'_1 b m (1 : Nat) (List.map (Value.int IntKind.u8) (Rq.fed r)) ∧ m ≤ c ∧ c ≤ (9223372036854775807 : Nat)) ∧ rightR r = false) (Br (Int.tmod w (6 : Int) == (2 : Int)) (∀ (b : Nat) (I'_1 : Mem), Mem.le I' I'_1 → I'_1 b = some (Obj.cells #[Value.int IntKind.u8 (6 : Int), Value.int IntKind.u8 (0 : Int), Value.string (ByteArray.mk #[]), Value.int IntKind.i64 (0 : Int), Value.int IntKind.i64 (0 : Int), Value.int IntKind.i64 (0 : Int), Value.int IntKind.i64 (0 : Int), Value.int IntKind.i64 (bif false then imax n (-1 : Int) else imin n (-1 : Int)), Value.int IntKind.i64 (0 : Int), Value.int IntKind.i64 (0 : Int), Value.int IntKind.i64 (0 : Int), Value.slice none (0 : Nat) (0 : Nat)] (29 : Nat)) → ∃ (k : Nat), ∃ (r : Rq), ∃ (y : Value), some (Addr.mk b (0 : Nat) none) = some (Addr.mk k (0 : Nat) none) ∧ I'_1 k = some (Obj.cells #[Value.int IntKind.u8 (Rq.kind r), Value.int IntKind.u8 (Rq.what r), Value.string (Rq.name r), Value.int IntKind.i64 (Rq.p3 r), Value.int IntKind.i64 (Rq.p4 r), Value.int IntKind.i64 (Rq.p5 r), Value.int IntKind.i64 (Rq.p6 r), Value.int IntKind.i64 (Rq.p7 r), Value.int IntKind.i64 (Rq.p8 r), Value.int IntKind.i64 (Rq.p9 r), Value.int IntKind.i64 (Rq.val r), y] (29 : Nat)) ∧ okRq r ∧ ByteArray.size (Rq.name r) ≤ (1000000 : Nat) ∧ List.length (Rq.fed r) ≤ (1000000 : Nat) ∧ (∃ (b : Option Addr), ∃ (m : Nat), ∃ (c : Nat), y = Value.slice b m c ∧ SlM I'_1 b m (1 : Nat) (List.map (Value.int IntKind.u8) (Rq.fed r)) ∧ m ≤ c ∧ c ≤ (9223372036854775807 : Nat)) ∧ rightR r = false) (Br (Int.tmod w (6 : Int) == (3 : Int)) (∀ (b : Nat) (I'_1 : Mem), Mem.le I' I'_1 → I'_1 b = some (Obj.cells #[Value.int IntKind.u8 (8 : Int), Value.int IntKind.u8 (0 : Int), Value.string (ByteArray.mk #[]), Value.int IntKind.i64 (0 : Int), Value.int IntKind.i64 (0 : Int), Value.int IntKind.i64 (0 : Int), Value.int IntKind.i64 (0 : Int), Value.int IntKind.i64 (0 : Int), Value.int IntKind.i64 (1 : Int), Value.int IntKind.i64 (bif false then imax n (-1 : Int) else imin n (-1 : Int)), Value.int IntKind.i64 (0 : Int), Value.slice none (0 : Nat) (0 : Nat)] (29 : Nat)) → ∃ (k : Nat), ∃ (r : Rq), ∃ (y : Value), some (Addr.mk b (0 : Nat) none) = some (Addr.mk k (0 : Nat) none) ∧ I'_1 k = some (Obj.cells #[Value.int IntKind.u8 (Rq.kind r), Value.int IntKind.u8 (Rq.what r), Value.string (Rq.name r), Value.int IntKind.i64 (Rq.p3 r), Value.int IntKind.i64 (Rq.p4 r), Value.int IntKind.i64 (Rq.p5 r), Value.int IntKind.i64 (Rq.p6 r), Value.int IntKind.i64 (Rq.p7 r), Value.int IntKind.i64 (Rq.p8 r), Value.int IntKind.i64 (Rq.p9 r), Value.int IntKind.i64 (Rq.val r), y] (29 : Nat)) ∧ okRq r ∧ ByteArray.size (Rq.name r) ≤ (1000000 : Nat) ∧ List.length (Rq.fed r) ≤ (1000000 : Nat) ∧ (∃ (b : Option Addr), ∃ (m : Nat), ∃ (c : Nat), y = Value.slice b m c ∧ SlM I'_1 b m (1 : Nat) (List.map (Value.int IntKind.u8) (Rq.fed r)) ∧ m ≤ c ∧ c ≤ (9223372036854775807 : Nat)) ∧ rightR r = false) (Br (Int.tmod w (6 : Int) == (4 : Int)) ((256 : Int) = (256 : Int) ∧ (0 : Int) ≤ (256 : Int) ∧ (256 : Int) ≤ (281474976710656 : Int) ∧ (256 : Int) ≤ (281474976710656 : Int) ∧ ∀ (xs : List Value), List.length xs = (256 : Nat) → (∀ (j : Nat) (v : Value), xs[j]? = some v → #[Value.int IntKind.u8 (0 : Int)][j % (1 : Nat)]? = some v) → ∀ (b : Nat) (I'_1 : Mem), Mem.le I' I'_1 → I'_1 b = some (Obj.cells (List.toArray xs) (5 : Nat)) → ∃ (q : List UInt8), List.length q = (256 : Nat) ∧ (some (Addr.mk b (0 : Nat) none) = none → (256 : Nat) = (0 : Nat)) ∧ (∀ (j : Nat) (b_1 : UInt8), q[j]? = some b_1 → atI I'_1 (some (Addr.mk b (0 : Nat) none)) j = some (Value.int IntKind.u8 (↑(UInt8.toNat b_1) : Int))) ∧ ∀ (b : Nat) (I' : Mem), Mem.le I'_1 I' → I' b = some (Obj.cells #[Value.int IntKind.u8 (2 : Int), Value.int IntKind.u8 (0 : Int), Value.string (ByteArray.mk (List.toArray q)), Value.int IntKind.i64 (0 : Int), Value.int IntKind.i64 (0 : Int), Value.int IntKind.i64 (0 : Int), Value.int IntKind.i64 (0 : Int), Value.int IntKind.i64 (0 : Int), Value.int IntKind.i64 (0 : Int), Value.int IntKind.i64 (0 : Int), Value.int IntKind.i64 (0 : Int), Value.slice none (0 : Nat) (0 : Nat)] (29 : Nat)) → ∃ (k : Nat), ∃ (r : Rq), ∃ (y : Value), some (Addr.mk b (0 : Nat) none) = some (Addr.mk k (0 : Nat) none) ∧ I' k = some (Obj.cells #[Value.int IntKind.u8 (Rq.kind r), Value.int IntKind.u8 (Rq.what r), Value.string (Rq.name r), Value.int IntKind.i64 (Rq.p3 r), Value.int IntKind.i64 (Rq.p4 r), Value.int IntKind.i64 (Rq.p5 r), Value.int IntKind.i64 (Rq.p6 r), Value.int IntKind.i64 (Rq.p7 r), Value.int IntKind.i64 (Rq.p8 r), Value.int IntKind.i64 (Rq.p9 r), Value.int IntKind.i64 (Rq.val r), y] (29 : Nat)) ∧ okRq r ∧ ByteArray.size (Rq.name r) ≤ (1000000 : Nat) ∧ List.length (Rq.fed r) ≤ (1000000 : Nat) ∧ (∃ (b : Option Addr), ∃ (m : Nat), ∃ (c : Nat), y = Value.slice b m c ∧ SlM I' b m (1 : Nat) (List.map (Value.int IntKind.u8) (Rq.fed r)) ∧ m ≤ c ∧ c ≤ (9223372036854775807 : Nat)) ∧ rightR r = false) ((15001 : Int) = (15001 : Int) ∧ (0 : Int) ≤ (15001 : Int) ∧ (15001 : Int) ≤ (281474976710656 : Int) ∧ (15001 : Int) ≤ (281474976710656 : Int) ∧ ∀ (xs : List Value), List.length xs = (15001 : Nat) → (∀ (j : Nat) (v : Value), xs[j]? = some v → #[Value.int IntKind.u8 (0 : Int)][j % (1 : Nat)]? = some v) → ∀ (b : Nat) (I'_1 : Mem), Mem.le I' I'_1 → I'_1 b = some (Obj.cells (List.toArray xs) (5 : Nat)) → ∀ (b_1 : Nat) (I' : Mem), Mem.le I'_1 I' → I' b_1 = some (Obj.cells #[Value.int IntKind.u8 (1 : Int), Value.int IntKind.u8 (0 : Int), Value.string (ByteArray.mk #[]), Value.int IntKind.i64 (0 : Int), Value.int IntKind.i64 (0 : Int), Value.int IntKind.i64 (0 : Int), Value.int IntKind.i64 (0 : Int), Value.int IntKind.i64 (0 : Int), Value.int IntKind.i64 (0 : Int), Value.int IntKind.i64 (0 : Int), Value.int IntKind.i64 (0 : Int), Value.slice (some (Addr.mk b (0 : Nat) none)) (15001 : Nat) (15001 : Nat)] (29 : Nat)) → ∃ (k : Nat), ∃ (r : Rq), ∃ (y : Value), some (Addr.mk b_1 (0 : Nat) none) = some (Addr.mk k (0 : Nat) none) ∧ I' k = some (Obj.cells #[Value.int IntKind.u8 (Rq.kind r), Value.int IntKind.u8 (Rq.what r), Value.string (Rq.name r), Value.int IntKind.i64 (Rq.p3 r), Value.int IntKind.i64 (Rq.p4 r), Value.int IntKind.i64 (Rq.p5 r), Value.int IntKind.i64 (Rq.p6 r), Value.int IntKind.i64 (Rq.p7 r), Value.int IntKind.i64 (Rq.p8 r), Value.int IntKind.i64 (Rq.p9 r), Value.int IntKind.i64 (Rq.val r), y] (29 : Nat)) ∧ okRq r ∧ ByteArray.size (Rq.name r) ≤ (1000000 : Nat) ∧ List.length (Rq.fed r) ≤ (1000000 : Nat) ∧ (∃ (b : Option Addr), ∃ (m : Nat), ∃ (c : Nat), y = Value.slice b m c ∧ SlM I' b m (1 : Nat) (List.map (Value.int IntKind.u8) (Rq.fed r)) ∧ m ≤ c ∧ c ≤ (9223372036854775807 : Nat)) ∧ rightR r = false)))))) ∧ ∀ (I'_1 G' : Mem), Mem.le I' I'_1 → ∀ (a : Option Addr), (∃ (k : Nat), ∃ (r : Rq), ∃ (y : Value), a = some (Addr.mk k (0 : Nat) none) ∧ I'_1 k = some (Obj.cells #[Value.int IntKind.u8 (Rq.kind r), Value.int IntKind.u8 (Rq.what r), Value.string (Rq.name r), Value.int IntKind.i64 (Rq.p3 r), Value.int IntKind.i64 (Rq.p4 r), Value.int IntKind.i64 (Rq.p5 r), Value.int IntKind.i64 (Rq.p6 r), Value.int IntKind.i64 (Rq.p7 r), Value.int IntKind.i64 (Rq.p8 r), Value.int IntKind.i64 (Rq.p9 r), Value.int IntKind.i64 (Rq.val r), y] (29 : Nat)) ∧ okRq r ∧ ByteArray.size (Rq.name r) ≤ (1000000 : Nat) ∧ List.length (Rq.fed r) ≤ (1000000 : Nat) ∧ (∃ (b : Option Addr), ∃ (m : Nat), ∃ (c : Nat), y = Value.slice b m c ∧ SlM I'_1 b m (1 : Nat) (List.map (Value.int IntKind.u8) (Rq.fed r)) ∧ m ≤ c ∧ c ≤ (9223372036854775807 : Nat)) ∧ rightR r = false) → (12 : Nat) = (12 : Nat) ∧ ∃ (n : Int), atI I'_1 a (0 : Nat) = some (Value.int IntKind.u8 n) ∧ ∃ (n_12 : Int), atI I'_1 a (1 : Nat) = some (Value.int IntKind.u8 n_12) ∧ ∃ (q : ByteArray), atI I'_1 a (2 : Nat) = some (Value.string q) ∧ ∃ (n_13 : Int), atI I'_1 a (3 : Nat) = some (Value.int IntKind.i64 n_13) ∧ ∃ (n_14 : Int), atI I'_1 a (4 : Nat) = some (Value.int IntKind.i64 n_14) ∧ ∃ (n_15 : Int), atI I'_1 a (5 : Nat) = some (Value.int IntKind.i64 n_15) ∧ ∃ (n_16 : Int), atI I'_1 a (6 : Nat) = some (Value.int IntKind.i64 n_16) ∧ ∃ (n_17 : Int), atI I'_1 a (7 : Nat) = some (Value.int IntKind.i64 n_17) ∧ ∃ (n_18 : Int), atI I'_1 a (8 : Nat) = some (Value.int IntKind.i64 n_18) ∧ ∃ (n_19 : Int), atI I'_1 a (9 : Nat) = some (Value.int IntKind.i64 n_19) ∧ ∃ (n_20 : Int), atI I'_1 a (10 : Nat) = some (Value.int IntKind.i64 n_20) ∧ ∃ (a_2 : Option Addr), ∃ (n_21 : Nat), ∃ (c : Nat), atI I'_1 a (11 : Nat) = some (Value.slice a_2 n_21 c) ∧ Ct Try.prog (Value.func (Fn.func (14 : Nat)) #[] #[]) #[Value.agg #[Value.int IntKind.u8 n, Value.int IntKind.u8 n_12, Value.string q, Value.int IntKind.i64 n_13, Value.int IntKind.i64 n_14, Value.int IntKind.i64 n_15, Value.int IntKind.i64 n_16, Value.int IntKind.i64 n_17, Value.int IntKind.i64 n_18, Value.int IntKind.i64 n_19, Value.int IntKind.i64 n_20, Value.slice a_2 n_21 c]] I'_1 fun (v : Value) (I' : Mem) => ∃ (a_3 : Option Addr), ∃ (n : Nat), ∃ (c : Nat), ∃ (n_22 : Int), v = Value.tuple #[Value.slice a_3 n c, Value.int IntKind.i64 n_22] ∧ (12 : Nat) = (12 : Nat) ∧ ∃ (n_23 : Int), atI I' a (0 : Nat) = some (Value.int IntKind.u8 n_23) ∧ ∃ (n_24 : Int), atI I' a (1 : Nat) = some (Value.int IntKind.u8 n_24) ∧ ∃ (q : ByteArray), atI I' a (2 : Nat) = some (Value.string q) ∧ ∃ (n_25 : Int), atI I' a (3 : Nat) = some (Value.int IntKind.i64 n_25) ∧ ∃ (n_26 : Int), atI I' a (4 : Nat) = some (Value.int IntKind.i64 n_26) ∧ ∃ (n_27 : Int), atI I' a (5 : Nat) = some (Value.int IntKind.i64 n_27) ∧ ∃ (n_28 : Int), atI I' a (6 : Nat) = some (Value.int IntKind.i64 n_28) ∧ ∃ (n_29 : Int), atI I' a (7 : Nat) = some (Value.int IntKind.i64 n_29) ∧ ∃ (n_30 : Int), atI I' a (8 : Nat) = some (Value.int IntKind.i64 n_30) ∧ ∃ (n_31 : Int), atI I' a (9 : Nat) = some (Value.int IntKind.i64 n_31) ∧ ∃ (n_32 : Int), atI I' a (10 : Nat) = some (Value.int IntKind.i64 n_32) ∧ ∃ (a_4 : Option Addr), ∃ (n_33 : Nat), ∃ (c : Nat), atI I' a (11 : Nat) = some (Value.slice a_4 n_33 c) ∧ Ct Try.prog (Value.func (Fn.func (15 : Nat)) #[] #[]) #[Value.agg #[Value.int IntKind.u8 n_23, Value.int IntKind.u8 n_24, Value.string q, Value.int IntKind.i64 n_25, Value.int IntKind.i64 n_26, Value.int IntKind.i64 n_27, Value.int IntKind.i64 n_28, Value.int IntKind.i64 n_29, Value.int IntKind.i64 n_30, Value.int IntKind.i64 n_31, Value.int IntKind.i64 n_32, Value.slice a_4 n_33 c]] I' fun (v : Value) (I' : Mem) => ∃ (b : Bool), v = Value.bool b ∧ Br (!b) (Br ((↑n : Int) == (0 : Int)) (Value.bool (n_22 == (340 : Int)) = Value.bool true) (Value.bool false = Value.bool true)) (Value.bool false = Value.bool true))) (by kernel_rfl) ?_
  simp only [eq_self, true_and]
  have hmx : maxLen = 9223372036854775807 := by decide
  have hk := hx.kind
  have t4 : x.kind.tmod 4 = x.kind % 4 := Int.tmod_eq_emod_of_nonneg hk.1
  have t6 : w.tmod 6 = w % 6 := Int.tmod_eq_emod_of_nonneg hw.1
  have t200 : w.tmod 200 = w % 200 := Int.tmod_eq_emod_of_nonneg hw.1
  have hmin : i64R (imin n (-1)) ∧ imin n (-1) < 0 := by
    obtain ⟨h1, h2⟩ := hn
    unfold imin i64R
    split <;> omega
  have h0 : i64R 0 := by unfold i64R; omega
  have hi1 : i64R 1 := by unfold i64R; omega
  have hnil : byteL [] := fun z hz => by cases hz
  have z0 : (⟨#[]⟩ : ByteArray).size ≤ 1000000 := by decide
  have f0 : ([] : List Int).length ≤ 1000000 := by decide
  have u0 : (0 : Int) ≤ 0 ∧ (0 : Int) ≤ 255 := by omega
  have hnb : ∀ {J : Mem}, BySl J (.slice none 0 0) [] := fun {J} => ⟨none, 0, 0, rfl, sl_nil _ _, by omega, by omega⟩
  simp only [t4, t6, t200, cond_false]
  refine (ct12 I).mono fun v I1 l1 hv => ⟨_, hv, Br.f rfl ?_⟩
  refine (ct13 x hx I1).mono fun v I2 l2 ⟨y, hv, hy⟩ => ?_
  obtain ⟨ya, yn, yc, rfl, hy1, hy2, hy3⟩ := hy
  obtain ⟨mok, ms1, ms2, _⟩ := made_shape x hx
  refine ⟨_, _, _, _, _, _, _, _, _, _, _, _, _, _, hv, ⟨by omega, ?_⟩, ?_⟩
  · refine Br.mk (fun _ => ⟨by omega, ?_⟩) (fun _ => Br.mk (fun _ => ⟨by omega, ?_⟩) (fun _ => Br.mk (fun _ b I3 l3 hb => ?_) (fun _ => Br.mk (fun _ b I3 l3 hb => ?_) (fun _ => Br.mk (fun _ => ?_) (fun _ => ?_)))))
    · refine ⟨_, IntWalk.u8_in _ ⟨by omega, by omega⟩, by omega, by omega, by omega, ?_⟩
      have go : ∀ kk : Int, (kk = 0 ∨ 10 ≤ kk ∧ kk ≤ 255) → ∀ (b : Nat) (I3 : Mem), I2.le I3 → I3 b = some (.cells (rqV { madeR x with kind := kk } (.slice ya yn yc)).toArray 29) → isWrong I3 (some ⟨b, 0, none⟩) := fun kk hkk b I3 l3 hb =>
        ⟨b, { madeR x with kind := kk }, .slice ya yn yc, rfl, hb, ⟨by show 0 ≤ kk ∧ kk ≤ 255; omega, mok.what, mok.p3, mok.p4, mok.p5, mok.p6, mok.p7, mok.p8, mok.p9, mok.val, mok.fed⟩, by show (madeR x).name.size ≤ 1000000; omega, by show (madeR x).fed.length ≤ 1000000; omega, ⟨_, _, _, rfl, hy1.mono l3, hy2, hy3⟩, right_none (tag_none (k := kk) (by omega))⟩
      rcases (by omega : x.kind % 4 = 0 ∨ x.kind % 4 = 1 ∨ x.kind % 4 = 2 ∨ x.kind % 4 = 3) with h | h | h | h
      all_goals rw [h]
      · exact ⟨_, rfl, go 0 (by omega)⟩
      · exact ⟨_, rfl, go 10 (by omega)⟩
      · exact ⟨_, rfl, go 255 (by omega)⟩
      · exact ⟨_, rfl, go _ (by omega)⟩
    · refine ⟨_, IntWalk.u8_in _ ⟨by omega, by omega⟩, by omega, by omega, by omega, ?_⟩
      have go : ∀ kk : Int, (kk = 0 ∨ 6 ≤ kk ∧ kk ≤ 255) → ∀ (b : Nat) (I3 : Mem), I2.le I3 → I3 b = some (.cells (rqV { zeroRq with kind := 7, what := kk } (.slice none 0 0)).toArray 29) → isWrong I3 (some ⟨b, 0, none⟩) := fun kk hkk b I3 l3 hb =>
        ⟨b, { zeroRq with kind := 7, what := kk }, .slice none 0 0, rfl, hb, ⟨by show (0 : Int) ≤ 7 ∧ (7 : Int) ≤ 255; omega, by show 0 ≤ kk ∧ kk ≤ 255; omega, h0, h0, h0, h0, h0, h0, h0, h0, hnil⟩, z0, f0, hnb, right_none (ask_none (w := kk) (by omega))⟩
      rcases (by omega : x.kind % 4 = 0 ∨ x.kind % 4 = 1 ∨ x.kind % 4 = 2 ∨ x.kind % 4 = 3) with h | h | h | h
      all_goals rw [h]
      · exact ⟨_, rfl, go 0 (by omega)⟩
      · exact ⟨_, rfl, go 6 (by omega)⟩
      · exact ⟨_, rfl, go 255 (by omega)⟩
      · exact ⟨_, rfl, go _ (by omega)⟩
    · have ok : okRq { zeroRq with kind := 6, p7 := imin n (-1) } := ⟨by show (0 : Int) ≤ 6 ∧ (6 : Int) ≤ 255; omega, u0, h0, h0, h0, h0, hmin.1, h0, h0, h0, hnil⟩
      exact ⟨b, { zeroRq with kind := 6, p7 := imin n (-1) }, .slice none 0 0, rfl, hb, ok, z0, f0, hnb, right_all ok (l := [7]) rfl (by
        have : okT { zeroRq with kind := 6, p7 := imin n (-1) } 7 = false := decide_eq_false (fun h => by
          have : (0 : Int) ≤ imin n (-1) := h (by omega) (by omega)
          omega)
        rw [List.all_cons, this, Bool.false_and])⟩
    · have ok : okRq { zeroRq with kind := 8, p8 := 1, p9 := imin n (-1) } := ⟨by show (0 : Int) ≤ 8 ∧ (8 : Int) ≤ 255; omega, u0, h0, h0, h0, h0, h0, hi1, hmin.1, h0, hnil⟩
      exact ⟨b, { zeroRq with kind := 8, p8 := 1, p9 := imin n (-1) }, .slice none 0 0, rfl, hb, ok, z0, f0, hnb, right_all ok (l := [8, 9]) rfl (by
        have : okT { zeroRq with kind := 8, p8 := 1, p9 := imin n (-1) } 9 = false := decide_eq_false (fun h => by
          have : (0 : Int) ≤ imin n (-1) := h (by omega) (by omega)
          omega)
        rw [List.all_cons, List.all_cons, this, Bool.false_and, Bool.and_false])⟩
    · refine ⟨by omega, by omega, by omega, fun xs hxl hxz b I3 l3 hb => ?_⟩
      have hsl : SlM I3 (some ⟨b, 0, none⟩) 256 1 (ints .u8 (List.replicate 256 0)) := bysl_big hb (zeros_of hxl hxz) (by rw [List.length_replicate]) (by omega)
      obtain ⟨g1, g2, g3⟩ := u8s_at (byteL_zeros 256) hsl
      refine ⟨_, g1, g2, g3, fun b2 I4 l4 hb2 => ?_⟩
      generalize u8s (List.replicate 256 0) = q at g1 hb2
      have hq : (⟨q.toArray⟩ : ByteArray).size = 256 := by
        show q.toArray.size = 256
        simpa using g1
      exact ⟨b2, { zeroRq with kind := 2, name := ⟨q.toArray⟩ }, .slice none 0 0, rfl, hb2, ⟨by show (0 : Int) ≤ 2 ∧ (2 : Int) ≤ 255; omega, u0, h0, h0, h0, h0, h0, h0, h0, h0, hnil⟩, by show (⟨q.toArray⟩ : ByteArray).size ≤ 1000000; omega, f0, hnb, right_size (.inl (by show 255 < (⟨q.toArray⟩ : ByteArray).size; omega))⟩
    · refine ⟨by omega, by omega, by omega, fun xs hxl hxz b I3 l3 hb b2 I4 l4 hb2 => ?_⟩
      obtain ⟨m, hm⟩ : ∃ m : Nat, m = 15001 := ⟨_, rfl⟩
      have hsl : SlM I4 (some ⟨b, 0, none⟩) 15001 1 (ints .u8 (List.replicate m 0)) := bysl_big (l4 _ _ hb) (zeros_of (by rw [hxl, hm]) hxz) (by rw [List.length_replicate, hm]) (by omega)
      have hlr : (List.replicate m (0 : Int)).length = m := List.length_replicate
      exact ⟨b2, { zeroRq with kind := 1, fed := List.replicate m 0 }, .slice (some ⟨b, 0, none⟩) 15001 15001, rfl, hb2, ⟨by show (0 : Int) ≤ 1 ∧ (1 : Int) ≤ 255; omega, u0, h0, h0, h0, h0, h0, h0, h0, h0, byteL_zeros m⟩, z0, by show (List.replicate m (0 : Int)).length ≤ 1000000; omega, ⟨_, _, _, rfl, hsl, by omega, by omega⟩, right_size (.inr (by show 15000 < (List.replicate m (0 : Int)).length; omega))⟩
  · rintro I3 G3 l3 p ⟨k, r, y, rfl, hb, hok, hs1, hs2, hy, hr⟩
    obtain ⟨ra, rn, rc, rfl, hy4, hy5, hy6⟩ := hy
    have hyB : BySl I3 (.slice ra rn rc) r.fed := ⟨_, _, _, rfl, hy4, hy5, hy6⟩
    refine ⟨_, atC hb rfl, _, atC hb rfl, _, atC hb rfl, _, atC hb rfl, _, atC hb rfl, _, atC hb rfl, _, atC hb rfl, _, atC hb rfl, _, atC hb rfl, _, atC hb rfl, _, atC hb rfl, _, _, _, atC hb rfl, ?_⟩
    refine (ct14 r hok hs1 _ I3 hyB hs2).mono fun v I4 l4 ⟨a', n', c', hv, hw2, _⟩ => ?_
    rw [hr] at hv hw2
    have hz := hw2.numLen
    have hb := l4 _ _ hb
    refine ⟨_, _, _, _, hv, _, atC hb rfl, _, atC hb rfl, _, atC hb rfl, _, atC hb rfl, _, atC hb rfl, _, atC hb rfl, _, atC hb rfl, _, atC hb rfl, _, atC hb rfl, _, atC hb rfl, _, atC hb rfl, _, _, _, atC hb rfl, ?_⟩
    refine (ct15 r hok hs1 _ I4 (hyB.mono l4) hs2).mono fun v I5 l5 hv => ⟨_, hv, ?_⟩
    rw [hr]
    exact Br.t rfl (Br.t (by simp at hz; simp [hz]) rfl)
