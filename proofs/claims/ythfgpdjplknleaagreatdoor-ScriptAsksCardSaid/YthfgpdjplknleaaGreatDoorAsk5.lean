/- Part of a proof by the rules of the symbolic walk (see the law's own text): contracts of functions of the program. -/
import Derived.Test.YthfgpdjplknleaaGreatDoorAsk4
import Derived.Lib.SplitLaws
import Derived.Lib.IndexBytes
import Derived.Lib.ItoaNum
import Derived.Lib.ParseIntB
import Derived.Lib.Join
import Derived.Test.YthfgpdjplknleaaGreatDoorAskShelf
import Derived.Lib.SmallJoins
import Derived.Lib.AtoiAll
import Derived.Test.YthfgpdjplknleaaGreatDoorRows
import Derived.Lib.LaidTab
import Derived.Lib.LaidU8
import Derived.Stop.LaidErr
import Derived.Stop.Joined
import Derived.Shelf.Vars
import Derived.Lay
import Derived.MakeChecks
import Derived.ProofKit
import Derived.Test.YthfgpdjplknleaaGreatDoorAsk3
import Derived.Lib.Builder
import Derived.Shelf.RegionOpenPlain
import Derived.Shelf.Strings.BuilderX
import Derived.Lib.UnsafeStr
import Derived.Lib.Strings
import Derived.Lib.Walk
import Derived.WalkKit
import Derived.Laws.Externs
set_option linter.unusedVariables false
set_option linter.unusedSimpArgs false
open Go Go.Proofs Go.SE Go.RowKit
set_option linter.unusedVariables false
set_option maxRecDepth 100000
def nameStep (b c : Int) : Bool := if (97 <= c /\ c <= 122) \/ (48 <= c /\ c <= 57) then true else if c = 45 then decide (b ≠ 46) else if c = 46 then decide (b ≠ 46) && decide (b ≠ 45) else false
def nameGo : List Int -> Int -> Option Int
 | [], b => some b
 | c :: r, b => if nameStep b c then nameGo r c else none
def nameEnd : Option Int -> Bool
 | none => false
 | some b => decide (b ≠ 46) && decide (b ≠ 45)
def nameB (s : List Int) : Bool := decide (1 <= s.length) && (decide (s.length <= 32) && (decide (97 <= s.headD 0 /\ s.headD 0 <= 122) && nameEnd (nameGo s 46)))
theorem strL_get {s : ByteArray} {j : Nat} {c : UInt8} (h : s.data.toList[j]? = some c) : (strL s)[j]? = some (c.toNat : Int) := by
 rw [strL, List.getElem?_map, h]; rfl
theorem str_at {s : ByteArray} {j : Int} (h0 : 0 <= j) (h1 : j < s.size) : ∃ c : UInt8, s.data.toList[j.toNat]? = some c := by
 have : j.toNat < s.data.toList.length := by
  rw [Array.length_toList];have e : s.size = s.data.size := rfl;omega
 exact ⟨_, List.getElem?_eq_getElem this⟩
theorem ct54 (s : ByteArray) (I : Mem) : Ct Tryz.prog (fnv 54) #[.string s] I (fun v _ => v = .bool (nameB (strL s))) := by
 refine viaR (ct_via (A := { cuts := [(15, ⟨[(0, .keep), (2, .keep), (3, .sh .bool), (4, .kv), (5, .keep), (6, .kv), (26, .keep), (27, .keep)], [], [], fun vals _ _ _ => match vals with | [.bool ok, .int .u8 b, .int .u8 c] => ok = nameStep b c | _ => False, fun _ _ => 0⟩)], loops := [(6, ⟨[(0, .keep), (2, .keep), (3, .sh .bool), (4, .sh (.int .u8)), (26, .keep), (27, .sh (.int .i64))], [], [], fun vals _ _ _ => match vals with | [.bool ok, .int .u8 b, .int .i64 j] => 0 <= j /\ j <= s.size /\ ok = true /\ nameGo (strL s) 46 = nameGo ((strL s).drop j.toNat) b | _ => False, fun vals _ => match vals with | [_, _, .int .i64 j] => (s.size - j).toNat | _ => 0⟩)] }) Tryz.func54 rfl Tryz.call54 rfl rfl) (Br (decide ((s.size : Int) < 1)) (Value.bool false = .bool (nameB (strL s))) (Br (decide (32 < (s.size : Int))) (Value.bool false = .bool (nameB (strL s))) (∃ c, s.data.toList[0]? = some c /\ (0 : Int) <= 0 /\ Br (decide ((c.toNat : Int) < 97)) (Value.bool false = .bool (nameB (strL s))) (∃ a, s.data.toList[0]? = some a /\ (0 : Int) <= 0 /\ Br (decide (122 < (a.toNat : Int))) (Value.bool false = .bool (nameB (strL s))) ((Rf (SV.v (.string s)) /\ Rf (SV.v (.bool false)) /\ Rf (SV.v (.int .i64 (s.size : Int))) /\ (0 : Int) <= 0 /\ 0 <= (s.size : Int) /\ true = true /\ nameGo (strL s) 46 = nameGo (List.drop 0 (strL s)) 46) /\ ∀ (b : Mem), Mem -> I.le b -> ∀ (d : Bool) (n e : Int), 0 <= e /\ e <= (s.size : Int) /\ d = true /\ nameGo (strL s) 46 = nameGo (List.drop e.toNat (strL s)) n -> Br (decide (e < (s.size : Int))) (∃ f, s.data.toList[e.toNat]? = some f /\ 0 <= e /\ Br (decide (97 <= (f.toNat : Int))) (Br (decide ((f.toNat : Int) <= 122)) (Rf (SV.v (.string s)) /\ Rf (SV.v (.bool false)) /\ Rf (SV.v (.int .u8 n)) /\ Rf (SV.v (.int .i64 e)) /\ Rf (SV.v (.int .u8 (f.toNat : Int))) /\ Rf (SV.v (.int .i64 (s.size : Int))) /\ Rf (SV.v (.int .i64 e)) /\ d = nameStep n (f.toNat : Int)) (Br (decide (48 <= (f.toNat : Int))) (Br (decide ((f.toNat : Int) <= 57)) (Rf (SV.v (.string s)) /\ Rf (SV.v (.bool false)) /\ Rf (SV.v (.int .u8 n)) /\ Rf (SV.v (.int .i64 e)) /\ Rf (SV.v (.int .u8 (f.toNat : Int))) /\ Rf (SV.v (.int .i64 (s.size : Int))) /\ Rf (SV.v (.int .i64 e)) /\ d = nameStep n (f.toNat : Int)) (Br ((f.toNat : Int) == 45) (Rf (SV.v (.string s)) /\ Rf (SV.v (.bool false)) /\ Rf (SV.v (.int .u8 n)) /\ Rf (SV.v (.int .i64 e)) /\ Rf (SV.v (.int .u8 (f.toNat : Int))) /\ Rf (SV.v (.int .i64 (s.size : Int))) /\ Rf (SV.v (.int .i64 e)) /\ (n != 46) = nameStep n (f.toNat : Int)) (Br ((f.toNat : Int) == 46) (Br (n != 46) (Rf (SV.v (.string s)) /\ Rf (SV.v (.bool false)) /\ Rf (SV.v (.int .u8 n)) /\ Rf (SV.v (.int .i64 e)) /\ Rf (SV.v (.int .u8 (f.toNat : Int))) /\ Rf (SV.v (.int .i64 (s.size : Int))) /\ Rf (SV.v (.int .i64 e)) /\ (n != 45) = nameStep n (f.toNat : Int)) (Rf (SV.v (.string s)) /\ Rf (SV.v (.bool false)) /\ Rf (SV.v (.int .u8 n)) /\ Rf (SV.v (.int .i64 e)) /\ Rf (SV.v (.int .u8 (f.toNat : Int))) /\ Rf (SV.v (.int .i64 (s.size : Int))) /\ Rf (SV.v (.int .i64 e)) /\ false = nameStep n (f.toNat : Int))) (Rf (SV.v (.string s)) /\ Rf (SV.v (.bool false)) /\ Rf (SV.v (.int .u8 n)) /\ Rf (SV.v (.int .i64 e)) /\ Rf (SV.v (.int .u8 (f.toNat : Int))) /\ Rf (SV.v (.int .i64 (s.size : Int))) /\ Rf (SV.v (.int .i64 e)) /\ false = nameStep n (f.toNat : Int))))) (Br ((f.toNat : Int) == 45) (Rf (SV.v (.string s)) /\ Rf (SV.v (.bool false)) /\ Rf (SV.v (.int .u8 n)) /\ Rf (SV.v (.int .i64 e)) /\ Rf (SV.v (.int .u8 (f.toNat : Int))) /\ Rf (SV.v (.int .i64 (s.size : Int))) /\ Rf (SV.v (.int .i64 e)) /\ (n != 46) = nameStep n (f.toNat : Int)) (Br ((f.toNat : Int) == 46) (Br (n != 46) (Rf (SV.v (.string s)) /\ Rf (SV.v (.bool false)) /\ Rf (SV.v (.int .u8 n)) /\ Rf (SV.v (.int .i64 e)) /\ Rf (SV.v (.int .u8 (f.toNat : Int))) /\ Rf (SV.v (.int .i64 (s.size : Int))) /\ Rf (SV.v (.int .i64 e)) /\ (n != 45) = nameStep n (f.toNat : Int)) (Rf (SV.v (.string s)) /\ Rf (SV.v (.bool false)) /\ Rf (SV.v (.int .u8 n)) /\ Rf (SV.v (.int .i64 e)) /\ Rf (SV.v (.int .u8 (f.toNat : Int))) /\ Rf (SV.v (.int .i64 (s.size : Int))) /\ Rf (SV.v (.int .i64 e)) /\ false = nameStep n (f.toNat : Int))) (Rf (SV.v (.string s)) /\ Rf (SV.v (.bool false)) /\ Rf (SV.v (.int .u8 n)) /\ Rf (SV.v (.int .i64 e)) /\ Rf (SV.v (.int .u8 (f.toNat : Int))) /\ Rf (SV.v (.int .i64 (s.size : Int))) /\ Rf (SV.v (.int .i64 e)) /\ false = nameStep n (f.toNat : Int)))))) (Br (decide (48 <= (f.toNat : Int))) (Br (decide ((f.toNat : Int) <= 57)) (Rf (SV.v (.string s)) /\ Rf (SV.v (.bool false)) /\ Rf (SV.v (.int .u8 n)) /\ Rf (SV.v (.int .i64 e)) /\ Rf (SV.v (.int .u8 (f.toNat : Int))) /\ Rf (SV.v (.int .i64 (s.size : Int))) /\ Rf (SV.v (.int .i64 e)) /\ d = nameStep n (f.toNat : Int)) (Br ((f.toNat : Int) == 45) (Rf (SV.v (.string s)) /\ Rf (SV.v (.bool false)) /\ Rf (SV.v (.int .u8 n)) /\ Rf (SV.v (.int .i64 e)) /\ Rf (SV.v (.int .u8 (f.toNat : Int))) /\ Rf (SV.v (.int .i64 (s.size : Int))) /\ Rf (SV.v (.int .i64 e)) /\ (n != 46) = nameStep n (f.toNat : Int)) (Br ((f.toNat : Int) == 46) (Br (n != 46) (Rf (SV.v (.string s)) /\ Rf (SV.v (.bool false)) /\ Rf (SV.v (.int .u8 n)) /\ Rf (SV.v (.int .i64 e)) /\ Rf (SV.v (.int .u8 (f.toNat : Int))) /\ Rf (SV.v (.int .i64 (s.size : Int))) /\ Rf (SV.v (.int .i64 e)) /\ (n != 45) = nameStep n (f.toNat : Int)) (Rf (SV.v (.string s)) /\ Rf (SV.v (.bool false)) /\ Rf (SV.v (.int .u8 n)) /\ Rf (SV.v (.int .i64 e)) /\ Rf (SV.v (.int .u8 (f.toNat : Int))) /\ Rf (SV.v (.int .i64 (s.size : Int))) /\ Rf (SV.v (.int .i64 e)) /\ false = nameStep n (f.toNat : Int))) (Rf (SV.v (.string s)) /\ Rf (SV.v (.bool false)) /\ Rf (SV.v (.int .u8 n)) /\ Rf (SV.v (.int .i64 e)) /\ Rf (SV.v (.int .u8 (f.toNat : Int))) /\ Rf (SV.v (.int .i64 (s.size : Int))) /\ Rf (SV.v (.int .i64 e)) /\ false = nameStep n (f.toNat : Int))))) (Br ((f.toNat : Int) == 45) (Rf (SV.v (.string s)) /\ Rf (SV.v (.bool false)) /\ Rf (SV.v (.int .u8 n)) /\ Rf (SV.v (.int .i64 e)) /\ Rf (SV.v (.int .u8 (f.toNat : Int))) /\ Rf (SV.v (.int .i64 (s.size : Int))) /\ Rf (SV.v (.int .i64 e)) /\ (n != 46) = nameStep n (f.toNat : Int)) (Br ((f.toNat : Int) == 46) (Br (n != 46) (Rf (SV.v (.string s)) /\ Rf (SV.v (.bool false)) /\ Rf (SV.v (.int .u8 n)) /\ Rf (SV.v (.int .i64 e)) /\ Rf (SV.v (.int .u8 (f.toNat : Int))) /\ Rf (SV.v (.int .i64 (s.size : Int))) /\ Rf (SV.v (.int .i64 e)) /\ (n != 45) = nameStep n (f.toNat : Int)) (Rf (SV.v (.string s)) /\ Rf (SV.v (.bool false)) /\ Rf (SV.v (.int .u8 n)) /\ Rf (SV.v (.int .i64 e)) /\ Rf (SV.v (.int .u8 (f.toNat : Int))) /\ Rf (SV.v (.int .i64 (s.size : Int))) /\ Rf (SV.v (.int .i64 e)) /\ false = nameStep n (f.toNat : Int))) (Rf (SV.v (.string s)) /\ Rf (SV.v (.bool false)) /\ Rf (SV.v (.int .u8 n)) /\ Rf (SV.v (.int .i64 e)) /\ Rf (SV.v (.int .u8 (f.toNat : Int))) /\ Rf (SV.v (.int .i64 (s.size : Int))) /\ Rf (SV.v (.int .i64 e)) /\ false = nameStep n (f.toNat : Int))))) /\ ∀ (g : Mem), Mem -> b.le g -> ∀ (h : Bool), h = nameStep n (f.toNat : Int) -> Br (!h) (Br h (Br (n != 46) (Value.bool (n != 45) = .bool (nameB (strL s))) (Value.bool false = .bool (nameB (strL s)))) (Value.bool false = .bool (nameB (strL s)))) (Wr .i64 (e + 1) (fun i => Rf (SV.v (.string s)) /\ Rf (SV.v (.bool false)) /\ Rf (SV.v (.int .i64 (s.size : Int))) /\ (0 <= i /\ i <= (s.size : Int) /\ h = true /\ nameGo (strL s) 46 = nameGo (List.drop i.toNat (strL s)) (f.toNat : Int)) /\ Int.toNat ((s.size : Int) - i) < Int.toNat ((s.size : Int) - e)))) (Br d (Br (n != 46) (Value.bool (n != 45) = .bool (nameB (strL s))) (Value.bool false = .bool (nameB (strL s)))) (Value.bool false = .bool (nameB (strL s))))))))) (by kernel_rfl) ?_
 have hl := strL_len s;refine Br.mk (fun h => ?_) (fun h1 => Br.mk (fun h => ?_) (fun h2 => ?_))
 · have h := of_decide_eq_true h
   rw [nameB, decide_eq_false (by omega), Bool.false_and]
 · have h := of_decide_eq_true h
   rw [nameB, decide_eq_false (p := (strL s).length <= 32) (by omega), Bool.false_and, Bool.and_false]
 have h1 := of_decide_eq_false h1;have h2 := of_decide_eq_false h2
 obtain ⟨c0, hc0⟩ := str_at (s := s) (j := 0) (by omega) (by omega)
 have hc0' := strL_get hc0
 have hd : (strL s).headD 0 = (c0.toNat : Int) := by
  cases hq : strL s with
  | nil => rw [hq] at hc0'; cases hc0'
  | cons x r => rw [hq] at hc0'; exact Option.some.inj hc0'
 have hB : nameB (strL s) = (decide (97 <= (c0.toNat : Int) /\ (c0.toNat : Int) <= 122) && nameEnd (nameGo (strL s) 46)) := by
  rw [nameB, decide_eq_true (by omega), decide_eq_true (p := (strL s).length <= 32) (by omega), hd, Bool.true_and, Bool.true_and]
 refine ⟨c0, hc0, by omega, Br.mk (fun h => ?_) (fun h3 => ⟨c0, hc0, by omega, Br.mk (fun h => ?_) (fun h4 => ?_)⟩)⟩
 · have h := of_decide_eq_true h
   rw [hB, decide_eq_false (by omega), Bool.false_and]
 · have h := of_decide_eq_true h
   rw [hB, decide_eq_false (by omega), Bool.false_and]
 have h3 := of_decide_eq_false h3;have h4 := of_decide_eq_false h4
 have hB : nameB (strL s) = nameEnd (nameGo (strL s) 46) := by
  rw [hB, decide_eq_true (by omega), Bool.true_and]
 rw [hB]
 have fin : ∀ (ok : Bool) (b : Int), (if ok then nameEnd (some b) else false) = nameEnd (nameGo (strL s) 46) -> Br ok (Br (b != 46) (Value.bool (b != 45) = Value.bool (nameEnd (nameGo (strL s) 46))) (Value.bool false = Value.bool (nameEnd (nameGo (strL s) 46)))) (Value.bool false = Value.bool (nameEnd (nameGo (strL s) 46))) := fun ok b h => by
  rw [<- h]
  cases ok with
  | false => exact rfl
  | true =>
   refine Br.t rfl (Br.mk (fun g => ?_) (fun g => ?_))
   · have g : b ≠ 46 := fun e => by rw [e] at g; cases g
     simp only [nameEnd, if_true];rw [decide_eq_true g, Bool.true_and]
     congr 1
     by_cases h45 : b = 45 <;> simp [h45]
   · have g : b = 46 := by
      by_cases e : b = 46
      · exact e
      · rw [bne_iff_ne.2 e] at g; cases g
     subst g; rfl
 refine ⟨⟨rfl, rfl, rfl, by omega, by omega, rfl, rfl⟩, fun I1 _ l1 ok b j ⟨j0, j1, hok, hgo⟩ => Br.mk (fun hlt => ?_) (fun hge => ?_)⟩
 rotate_left
 · have hge := of_decide_eq_false hge
   refine fin ok b ?_
   rw [hgo, List.drop_eq_nil_of_le (by omega), hok]; rfl
 have hlt := of_decide_eq_true hlt;obtain ⟨c, hc⟩ := str_at j0 hlt;have hc' := strL_get hc;rw [drop_cons hc', nameGo] at hgo;refine ⟨c, hc, j0, ?_, fun I2 _ l2 ok2 hok2 => ?_⟩
 · rw [hok]
   generalize (c.toNat : Int) = x
   clear fin hgo
   repeat' refine Br.mk (fun _ => ?_) (fun _ => ?_)
   all_goals
    refine ⟨rfl, rfl, rfl, rfl, rfl, rfl, rfl, ?_⟩;simp only [decide_eq_true_eq, decide_eq_false_iff_not, beq_iff_eq, beq_eq_false_iff_ne, bne_iff_ne, bne_eq_false_iff_eq, ne_eq] at *;unfold nameStep
    repeat' split
    all_goals first
     | omega
     | rfl
     | (simp_all; done)
     | (by_cases e45 : b = 45 <;> by_cases e46 : b = 46 <;> simp_all <;> omega)
     | skip
 · rw [<- hok2] at hgo
   refine Br.mk (fun h => fin ok2 b ?_) (fun h => ?_)
   · have h : ok2 = false := by simpa using h
     rw [h] at hgo ⊢
     rw [hgo]; rfl
   · have h : ok2 = true := by simpa using h
     rw [h, if_pos rfl] at hgo
     exact wr_i64 (by omega) (by omega) ⟨rfl, rfl, rfl, ⟨by omega, by omega, h, by rw [show (j + 1).toNat = j.toNat + 1 by omega]; exact hgo⟩, by omega⟩
abbrev Tx := List UInt8
def hexC (n : Nat) : UInt8 := if n < 10 then UInt8.ofNat (48 + n) else UInt8.ofNat (87 + n)
def hexV (c : UInt8) : Option Nat := if 48 <= c.toNat /\ c.toNat <= 57 then some (c.toNat - 48) else if 97 <= c.toNat /\ c.toNat <= 102 then some (c.toNat - 87) else none
theorem hexC_nat {n : Nat} (h : n < 16) : (hexC n).toNat = if n < 10 then 48 + n else 87 + n := by
 unfold hexC;split
 · rw [UInt8.toNat_ofNat']; omega
 · rw [UInt8.toNat_ofNat']; omega
theorem hexV_lt {c : UInt8} {n : Nat} (h : hexV c = some n) : n < 16 /\ hexC n = c := by
 unfold hexV at h
 split at h
 · simp only [Option.some.injEq] at h
   subst h
   refine ⟨by omega, UInt8.toNat_inj.1 ?_⟩
   rw [hexC_nat (by omega), if_pos (by omega)]; omega
 · split at h
   · simp only [Option.some.injEq] at h
     subst h
     refine ⟨by omega, UInt8.toNat_inj.1 ?_⟩
     rw [hexC_nat (by omega), if_neg (by omega)]; omega
   · cases h
def hex2 (b : Int) : Tx := [hexC (b.toNat / 16), hexC (b.toNat % 16)]
def wordT (bs : List Int) : Tx := 37 :: bs.flatMap hex2
def pairsT : Tx -> Option (List Int)
 | [] => some []
 | [_] => none
 | a :: b :: r => match hexV a, hexV b, pairsT r with
  | some x, some y, some l => some (((16 * x + y : Nat) : Int) :: l)
  | _, _, _ => none
def unwordT : Tx -> Option (List Int)
 | [] => none
 | c :: r => if c = 37 /\ r.length % 2 = 0 then pairsT r else none
theorem hex_len (bs : List Int) : (bs.flatMap hex2).length = 2 * bs.length := by
 induction bs with
 | nil => rfl
 | cons b r ih => simp only [List.flatMap_cons, List.length_append, ih, hex2, List.length_cons, List.length_nil]; omega
theorem pairs_spec : ∀ {s : Tx} {bs : List Int}, pairsT s = some bs -> (∀ z ∈ bs, 0 <= z /\ z <= 255) /\ bs.flatMap hex2 = s
 | [], bs, h => by simp only [pairsT, Option.some.injEq] at h; subst h; exact ⟨fun z hz => (by cases hz), rfl⟩
 | [_], _, h => by simp [pairsT] at h
 | a :: b :: r, bs, h => by
  rw [pairsT] at h
  split at h
  · rename_i x y l hx hy hl
    simp only [Option.some.injEq] at h;subst h;obtain ⟨h1, h2⟩ := hexV_lt hx;obtain ⟨h3, h4⟩ := hexV_lt hy;obtain ⟨h5, h6⟩ := pairs_spec hl;refine ⟨fun z hz => ?_, ?_⟩
    · rcases List.mem_cons.1 hz with rfl | hz
      · omega
      · exact h5 z hz
    · simp only [List.flatMap_cons, hex2, h6, Int.toNat_natCast]
      rw [show (16 * x + y) / 16 = x by omega, show (16 * x + y) % 16 = y by omega, h2, h4]
      rfl
  · cases h
theorem unword_spec {s : Tx} {bs : List Int} (h : unwordT s = some bs) : (∀ z ∈ bs, 0 <= z /\ z <= 255) /\ wordT bs = s := by
 cases s with
 | nil => cases h
 | cons c r =>
  rw [unwordT] at h
  split at h
  · rename_i hc
    obtain ⟨h1, h2⟩ := pairs_spec h
    exact ⟨h1, by rw [wordT, h2, hc.1]⟩
  · cases h
def splitC (c : UInt8) : Tx -> List Tx
 | [] => [[]]
 | b :: r => if b = c then [] :: splitC c r else match splitC c r with
  | x :: xs => (b :: x) :: xs
  | [] => [[b]]
theorem splitC_ne (c : UInt8) (s : Tx) : splitC c s ≠ [] := by
 cases s with
 | nil => simp [splitC]
 | cons b r =>
  rw [splitC];split
  · simp
  · split <;> simp
theorem splitC_free (c : UInt8) : ∀ (s : Tx), ∀ x ∈ splitC c s, c ∉ x
 | [], x, hx => by simp [splitC] at hx; subst hx; simp
 | b :: r, x, hx => by
  have ih := splitC_free c r;rw [splitC] at hx
  split at hx
  · rcases List.mem_cons.1 hx with rfl | hx
    · simp
    · exact ih x hx
  · rename_i hb
    split at hx
    · rename_i y ys e
      rw [e] at ih
      rcases List.mem_cons.1 hx with rfl | hx
      · have := ih y (by simp)
        simp only [List.mem_cons, not_or];exact ⟨fun h => hb h.symm, this⟩
      · exact ih x (List.mem_cons_of_mem _ hx)
    · rename_i e
      exact absurd e (splitC_ne c r)
def joinC (c : UInt8) : List Tx -> Tx
 | [] => []
 | [x] => x
 | x :: y :: r => x ++ c :: joinC c (y :: r)
theorem split_app {c : UInt8} {x : Tx} (hx : c ∉ x) (s : Tx) : splitC c (x ++ c :: s) = x :: splitC c s := by
 induction x with
 | nil => rw [List.nil_append, splitC, if_pos rfl]
 | cons b r ih =>
  simp only [List.mem_cons, not_or] at hx;rw [List.cons_append, splitC, if_neg (fun h => hx.1 h.symm), ih hx.2]
theorem split_free {c : UInt8} {x : Tx} (hx : c ∉ x) : splitC c x = [x] := by
 induction x with
 | nil => rfl
 | cons b r ih =>
  simp only [List.mem_cons, not_or] at hx;rw [splitC, if_neg (fun h => hx.1 h.symm), ih hx.2]
theorem joinC_eq (c : UInt8) : ∀ ws : List Tx, Lib.join ws [c] = joinC c ws
 | [] => rfl
 | [x] => by rw [Lib.join_one, joinC]
 | x :: y :: r => by
  have ih := joinC_eq c (y :: r);rw [joinC, <- ih, Lib.join_cons, Lib.join_cons, Lib.joinTail, List.map_cons, List.flatten_cons, Lib.joinTail]
  simp
theorem count_splitC (c : UInt8) : ∀ s : Tx, s.count c + 1 = (splitC c s).length
 | [] => rfl
 | b :: r => by
  have ih := count_splitC c r;rw [splitC];split
  · rename_i h; subst h; rw [List.count_cons_self, List.length_cons, ih]
  · rename_i h
    rw [List.count_cons_of_ne (fun e => h e), ih]
    cases e : splitC c r with
    | nil => exact absurd e (splitC_ne c r)
    | cons x xs => rfl
theorem splitK_one (c : UInt8) : ∀ (s : Tx), Lib.splitK [c] 0 (s.count c) s = splitC c s := by
 have key : ∀ (x : Tx) (r : Tx), c ∉ x -> Lib.index (x ++ c :: r) [c] = x.length := by
  intro x r hx;rw [Lib.index_one]
  induction x with
  | nil => simp [Lib.indexByte]
  | cons b t ih =>
   simp only [List.mem_cons, not_or] at hx
   rw [List.cons_append, Lib.indexByte, ih hx.2, if_neg (by simpa using fun h => hx.1 h.symm), if_neg (by simp)]
   simp
 have miss : ∀ (x : Tx), c ∉ x -> Lib.index x [c] = -1 := by
  intro x hx;rw [Lib.index_one]
  induction x with
  | nil => rfl
  | cons b t ih =>
   simp only [List.mem_cons, not_or] at hx
   rw [Lib.indexByte, ih hx.2, if_neg (by simpa using fun h => hx.1 h.symm)]
   simp
 have main : ∀ (n : Nat) (s : Tx), s.length <= n -> Lib.splitK [c] 0 (s.count c) s = splitC c s := by
  intro n
  induction n with
  | zero =>
   intro s hs
   have : s = [] := List.eq_nil_of_length_eq_zero (by omega)
   subst this; rfl
  | succ n ih =>
   intro s hs
   by_cases hc : c ∈ s
   · obtain ⟨x, r, rfl, hx⟩ := List.eq_append_cons_of_mem hc
     have hcnt : (x ++ c :: r).count c = r.count c + 1 := by
      rw [List.count_append, List.count_cons_self, List.count_eq_zero.2 hx]; omega
     rw [hcnt, Lib.splitK, key x r hx, split_app hx]
     have h1 : ((x.length : Int) == -1) = false := by simp
     rw [h1];simp only [Bool.false_eq_true, if_false, Int.toNat_natCast, Nat.add_zero, List.length_singleton]
     rw [List.take_left', List.drop_append, List.drop_of_length_le (by omega), show x.length + 1 - x.length = 1 by omega, List.nil_append, List.drop_succ_cons, List.drop_zero]
     · rw [ih r (by simp at hs; omega)]
     · rfl
   · rw [List.count_eq_zero.2 hc, Lib.splitK, split_free hc]
 exact fun s => main s.length s (Nat.le_refl _)
theorem dec_digits : ∀ u : Nat, Lib.decDigits u ≠ [] /\ (∀ c ∈ Lib.decDigits u, 48 <= c.toNat /\ c.toNat <= 57) := by
 intro u
 induction u using Nat.strongRecOn with
 | _ u ih =>
  rw [Lib.decDigits];split
  · rename_i h
    refine ⟨by simp, fun c hc => ?_⟩
    simp only [List.mem_cons, List.not_mem_nil, or_false] at hc;subst hc
    rw [UInt8.toNat_ofNat']; omega
  · rename_i h
    refine ⟨by simp, fun c hc => ?_⟩
    rcases List.mem_append.1 hc with hc | hc
    · exact (ih (u / 10) (by omega)).2 c hc
    · simp only [List.mem_cons, List.not_mem_nil, or_false] at hc
      subst hc
      rw [UInt8.toNat_ofNat']; omega
theorem parseM_app (M acc : Nat) : ∀ (x : Tx) (r : Tx) (v : Nat), Lib.parseUintM M acc x = .ok v -> Lib.parseUintM M acc (x ++ r) = Lib.parseUintM M v r := by
 intro x
 induction x generalizing acc with
 | nil => intro r v h; simp only [Lib.parseUintM, Lib.NumEnd.ok.injEq] at h; subst h; rfl
 | cons c t ih =>
  intro r v h;rw [Lib.parseUintM] at h;rw [List.cons_append, Lib.parseUintM]
  split at h
  · rename_i h1
    rw [if_pos h1]
    split at h
    · cases h
    · rename_i h2
      rw [if_neg h2]
      split at h
      · cases h
      · rename_i h3
        rw [if_neg h3];exact ih _ r v h
  · cases h
theorem parse_dec : ∀ u : Nat, u < 18446744073709551616 -> Lib.parseUintM 18446744073709551615 0 (Lib.decDigits u) = .ok u := by
 intro u
 induction u using Nat.strongRecOn with
 | _ u ih =>
  intro hu;rw [Lib.decDigits];split
  · rename_i h
    have e : (UInt8.ofNat (48 + u)).toNat = 48 + u := by rw [UInt8.toNat_ofNat']; omega
    rw [Lib.parseUintM, e, if_pos (by omega), if_neg (by omega), if_neg (by omega), Lib.parseUintM]
    congr 1; omega
  · rename_i h
    have e : (UInt8.ofNat (48 + u % 10)).toNat = 48 + u % 10 := by rw [UInt8.toNat_ofNat']; omega
    rw [parseM_app _ _ _ _ _ (ih (u / 10) (by omega) (by omega)), Lib.parseUintM, e, if_pos (by omega), if_neg (by omega), if_neg (by omega), Lib.parseUintM]
    congr 1; omega
structure En where
 kind : Int
 slot : Int
 n : Int
 bs : List Int
 deriving DecidableEq
def enV (e : En) (y : Value) : List Value := [.int .u8 e.kind, .int .i64 e.slot, .int .i64 e.n, y]
structure okEn (e : En) : Prop where
 kind : 0 <= e.kind /\ e.kind <= 255
 slot : i64R e.slot
 n : i64R e.n
 bs : byteL e.bs
def withinB (n : Int) : Bool := decide (0 <= n /\ n <= 4294967295)
def cleanE (e : En) : Bool :=
 if e.kind = 1 then withinB e.slot && (decide (e.n = 0) && decide (e.bs.length <= 16384))
 else if e.kind = 2 then decide (e = ⟨2, 0, 0, []⟩)
 else if e.kind = 3 then withinB e.n && decide (e = ⟨3, 0, e.n, []⟩) else false
theorem ct72 (n : Int) (I : Mem) : Ct Tryz.prog (fnv 72) #[.int .i64 n] I (fun v _ => v = .bool (withinB n)) := by
 refine viaR (ct_via (A := { }) Tryz.func72 rfl Tryz.call72 rfl rfl) (Br (decide (0 <= n)) (Value.bool (decide (n <= 4294967295)) = .bool (withinB n)) (Value.bool false = .bool (withinB n))) (by kernel_rfl) ?_
 refine Br.mk (fun h => ?_) (fun h => ?_)
 · have h := of_decide_eq_true h
   rw [withinB]; congr 1; exact decide_eq_decide.2 ⟨fun h1 => ⟨by omega, by omega⟩, fun h1 => by omega⟩
 · have h := of_decide_eq_false h
   rw [withinB, decide_eq_false (by omega)]
theorem ct33 (a b : En) (y z : Value) (I : Mem) (hy : BySl I y a.bs) (hz : BySl I z b.bs) (ha : byteL a.bs) (hb : byteL b.bs) :
 Ct Tryz.prog (fnv 33) #[.agg (enV a y).toArray, .agg (enV b z).toArray] I (fun v _ => v = .bool (decide (a = b))) := by
 obtain ⟨p, n, c, rfl, hp, _⟩ := hy;obtain ⟨q, m, d, rfl, hq, _⟩ := hz;obtain ⟨D, hD⟩ : ∃ D, D = decide (a = b) := ⟨_, rfl⟩;rw [<- hD]
 refine viaR (ct_via (A := { }) Tryz.func33 rfl Tryz.call33 rfl rfl) (Br (a.kind == b.kind) (Br (a.slot == b.slot) (Br (a.n == b.n) (Ct Tryz.prog (fnv 43) #[.slice p n c, .slice q m d] I (fun v e => ∃ f, v = .bool f /\ Value.bool f = .bool D)) (Value.bool false = .bool D)) (Value.bool false = .bool D)) (Value.bool false = .bool D)) (by kernel_rfl) ?_
 have NO : ∀ {P : Prop}, ¬ P -> (a = b -> P) -> Value.bool false = Value.bool D := fun h1 h2 => by rw [hD, decide_eq_false fun e => h1 (h2 e)]
 refine Br.mk (fun h1 => Br.mk (fun h2 => Br.mk (fun h3 => (ct43 _ _ ha hb _ _ _ _ _ _ I hp hq).mono fun v J l hv => ⟨_, hv, ?_⟩) (fun h => NO (P := a.n = b.n) (by simpa using h) (by rintro rfl; rfl))) (fun h => NO (P := a.slot = b.slot) (by simpa using h) (by rintro rfl; rfl))) (fun h => NO (P := a.kind = b.kind) (by simpa using h) (by rintro rfl; rfl))
 rw [hD];obtain ⟨k, sl, m1, bs⟩ := a;obtain ⟨k', sl', m1', bs'⟩ := b;simp only [beq_iff_eq] at h1 h2 h3
 simp only at h1 h2 h3 ⊢
 subst h1 h2 h3
 congr 1
 exact decide_eq_decide.2 ⟨fun h => by rw [h], fun h => by cases h; rfl⟩
theorem byteL_nil : byteL [] := fun z hz => by cases hz
theorem bysl_nil (I : Mem) : BySl I (.slice none 0 0) [] := ⟨none, 0, 0, rfl, sl_nil _ _, Nat.le_refl 0, Nat.zero_le _⟩
theorem ct32 (e : En) (y : Value) (I : Mem) (hy : BySl I y e.bs) (hb : byteL e.bs) : Ct Tryz.prog (fnv 32) #[.agg (enV e y).toArray] I (fun v _ => v = .bool (cleanE e)) := by
 have hy' := hy;obtain ⟨p, n, c, rfl, hp, hpc, hpm⟩ := hy;obtain ⟨D, hD⟩ : ∃ D, D = cleanE e := ⟨_, rfl⟩;rw [<- hD]
 refine viaR (ct_via (A := { }) Tryz.func32 rfl Tryz.call32 rfl rfl) (Br (e.kind == 1) (Ct Tryz.prog (fnv 72) #[.int .i64 e.slot] I (fun v a => ∃ b, v = .bool b /\ Br b (Br (e.n == 0) (Value.bool (decide ((n : Int) <= 16384)) = .bool D) (Value.bool false = .bool D)) (Value.bool false = .bool D))) (Br (e.kind == 2) (Ct Tryz.prog (fnv 33) #[.agg #[.int .u8 e.kind, .int .i64 e.slot, .int .i64 e.n, .slice p n c], .agg #[.int .u8 2, .int .i64 0, .int .i64 0, .slice none 0 0]] I (fun v a => ∃ b, v = .bool b /\ Value.bool b = .bool D)) (Br (e.kind == 3) (Ct Tryz.prog (fnv 72) #[.int .i64 e.n] I (fun v a => ∃ b, v = .bool b /\ Br b (Ct Tryz.prog (fnv 33) #[.agg #[.int .u8 e.kind, .int .i64 e.slot, .int .i64 e.n, .slice p n c], .agg #[.int .u8 3, .int .i64 0, .int .i64 e.n, .slice none 0 0]] a (fun d f => ∃ g, d = .bool g /\ Value.bool g = .bool D)) (Value.bool false = .bool D))) (Value.bool false = .bool D)))) (by kernel_rfl) ?_
 have hn := hp.numLen;have e1 := fun (x : Int) => beq_iff_eq (a := e.kind) (b := x);refine Br.mk (fun h => ?_) (fun h => ?_)
 · have hk : e.kind = 1 := by simpa using h
   refine (ct72 e.slot I).mono fun v J l hv => ⟨_, hv, ?_⟩;rw [hD, cleanE, if_pos hk];refine Br.mk (fun h1 => Br.mk (fun h2 => ?_) (fun h2 => ?_)) (fun h1 => ?_)
   · have h2 : e.n = 0 := by simpa using h2
     rw [h1, decide_eq_true h2, Bool.true_and, Bool.true_and]
     congr 1; exact decide_eq_decide.2 (by omega)
   · have h2 : e.n ≠ 0 := by simpa using h2
     rw [decide_eq_false h2, Bool.false_and, Bool.and_false]
   · rw [h1, Bool.false_and]
 have hk : e.kind ≠ 1 := by simpa using h
 refine Br.mk (fun h => ?_) (fun h => ?_)
 · have hk2 : e.kind = 2 := by simpa using h
   refine (ct33 e ⟨2, 0, 0, []⟩ _ _ I hy' (bysl_nil I) hb byteL_nil).mono fun v J l hv => ⟨_, hv, ?_⟩;rw [hD, cleanE, if_neg hk, if_pos hk2]
 have hk2 : e.kind ≠ 2 := by simpa using h
 refine Br.mk (fun h => ?_) (fun h => ?_)
 · have hk3 : e.kind = 3 := by simpa using h
   refine (ct72 e.n I).mono fun v J l hv => ⟨_, hv, ?_⟩;rw [hD, cleanE, if_neg hk, if_neg hk2, if_pos hk3];refine Br.mk (fun h1 => ?_) (fun h1 => ?_)
   · exact (ct33 e ⟨3, 0, e.n, []⟩ _ _ J (hy'.mono l) (bysl_nil J) hb byteL_nil).mono fun v J' l' hv => ⟨_, hv, by rw [h1, Bool.true_and]⟩
   · rw [h1, Bool.false_and]
 · have hk3 : e.kind ≠ 3 := by simpa using h
   rw [hD, cleanE, if_neg hk, if_neg hk2, if_neg hk3]
def intT (t : Tx) : List Int := t.map fun c => (c.toNat : Int)
def tx (s : ByteArray) : Tx := s.data.toList
theorem hexAt : ∀ {k : Nat}, k < 16 -> [UInt8.ofNat 48, UInt8.ofNat 49, UInt8.ofNat 50, UInt8.ofNat 51, UInt8.ofNat 52, UInt8.ofNat 53, UInt8.ofNat 54, UInt8.ofNat 55, UInt8.ofNat 56, UInt8.ofNat 57, UInt8.ofNat 97, UInt8.ofNat 98, UInt8.ofNat 99, UInt8.ofNat 100, UInt8.ofNat 101, UInt8.ofNat 102][k]? = some (hexC k) := by
 have : ∀ k : Fin 16, [UInt8.ofNat 48, UInt8.ofNat 49, UInt8.ofNat 50, UInt8.ofNat 51, UInt8.ofNat 52, UInt8.ofNat 53, UInt8.ofNat 54, UInt8.ofNat 55, UInt8.ofNat 56, UInt8.ofNat 57, UInt8.ofNat 97, UInt8.ofNat 98, UInt8.ofNat 99, UInt8.ofNat 100, UInt8.ofNat 101, UInt8.ofNat 102][k.val]? = some (hexC k.val) := by decide
 intro k h;exact this ⟨k, h⟩
theorem and15 (c : UInt8) : bitsV .and .u8 (c.toNat : Int) 15 = ((c.toNat % 16 : Nat) : Int) := by
 have : ∀ x : Fin 256, bitsV .and .u8 (x.val : Int) 15 = ((x.val % 16 : Nat) : Int) := by decide +kernel
 exact this ⟨c.toNat, c.toNat_lt⟩
theorem fdiv16 (c : UInt8) : (c.toNat : Int).fdiv 16 = ((c.toNat / 16 : Nat) : Int) := by
 rw [Int.fdiv_eq_ediv_of_nonneg _ (by omega)]; omega
theorem word_app (l : List Int) (x : Int) : wordT (l ++ [x]) = wordT l ++ hex2 x := by simp [wordT]
theorem ints_T (t : Tx) : ints .u8 (intT t) = t.map fun b => Value.int .u8 b.toNat := by simp [ints, intT]
theorem ct55 (s : ByteArray) (hs : s.size <= 1000000) (I : Mem) : Ct Tryz.prog (fnv 55) #[.string s] I (fun v _ => v = .string ⟨(wordT (strL s)).toArray⟩) := by
 obtain ⟨WI, hWI⟩ : ∃ f : Int -> List Value -> Prop, f = fun (j : Int) xs => 0 <= j /\ j <= s.size /\ xs = ints .u8 (intT (wordT ((strL s).take j.toNat))) := ⟨_, rfl⟩;obtain ⟨Q, hQ⟩ : ∃ q : Value, q = .string ⟨(wordT (strL s)).toArray⟩ := ⟨_, rfl⟩;rw [<- hQ]
 refine viaR (ct_via (A := { loops := [(3, ⟨[(0, .keep), (3, .row 0), (7, .keep), (8, .sh (.int .i64))], [(0, .row)], [(3, 1, 5)], fun vals xss _ _ => match vals, xss with | [.int .i64 j], [xs] => WI j xs | _, _ => False, fun vals _ => match vals with | [.int .i64 j] => (s.size - j).toNat | _ => 0⟩)] }) Tryz.func55 rfl Tryz.call55 rfl rfl) ((Rf (SV.v (.string s)) /\ (1 : Nat) = 1 /\ Rf (SV.v (.int .i64 (s.size : Int))) /\ WI 0 [.int .u8 37]) /\ ∀ (a : Mem), Mem -> I.le a -> ∀ (x : List Value) (n : Int), WI n x -> Br (decide (n < (s.size : Int))) (∃ c, s.data.toList[n.toNat]? = some c /\ 0 <= n /\ (0 : Int) <= 4 /\ ∃ b, [UInt8.ofNat 48, UInt8.ofNat 49, UInt8.ofNat 50, UInt8.ofNat 51, UInt8.ofNat 52, UInt8.ofNat 53, UInt8.ofNat 54, UInt8.ofNat 55, UInt8.ofNat 56, UInt8.ofNat 57, UInt8.ofNat 97, UInt8.ofNat 98, UInt8.ofNat 99, UInt8.ofNat 100, UInt8.ofNat 101, UInt8.ofNat 102][(Int.fdiv (c.toNat : Int) 16).toNat]? = some b /\ 0 <= Int.fdiv (c.toNat : Int) 16 /\ ∃ d, s.data.toList[n.toNat]? = some d /\ 0 <= n /\ ∃ e, [UInt8.ofNat 48, UInt8.ofNat 49, UInt8.ofNat 50, UInt8.ofNat 51, UInt8.ofNat 52, UInt8.ofNat 53, UInt8.ofNat 54, UInt8.ofNat 55, UInt8.ofNat 56, UInt8.ofNat 57, UInt8.ofNat 97, UInt8.ofNat 98, UInt8.ofNat 99, UInt8.ofNat 100, UInt8.ofNat 101, UInt8.ofNat 102][(bitsV .and .u8 (d.toNat : Int) 15).toNat]? = some e /\ 0 <= bitsV .and .u8 (d.toNat : Int) 15 /\ x.length = x.length * 1 /\ x.length + 2 <= 9223372036854775807 /\ (x.length + 2) * 1 <= 140737488355328 /\ Wr .i64 (n + 1) fun f => Rf (SV.v (.string s)) /\ x.length + 2 = List.length (x ++ [.int .u8 (b.toNat : Int), .int .u8 (e.toNat : Int)]) /\ Rf (SV.v (.int .i64 (s.size : Int))) /\ WI f (x ++ [.int .u8 (b.toNat : Int), .int .u8 (e.toNat : Int)]) /\ Int.toNat ((s.size : Int) - f) < Int.toNat ((s.size : Int) - n)) (∃ q, q.length = x.length /\ List.take x.length x = List.map (fun (b : UInt8) => .int .u8 (b.toNat : Int)) q /\ Value.string ⟨q.toArray⟩ = Q)) (by kernel_rfl) ?_
 have hl := strL_len s
 refine ⟨⟨rfl, rfl, rfl, by rw [hWI]; exact ⟨by omega, by omega, rfl⟩⟩, fun I' G' hle xs j hj => ?_⟩
 rw [hWI] at hj;obtain ⟨h0, h1, rfl⟩ := hj
 have hlen : (ints .u8 (intT (wordT ((strL s).take j.toNat)))).length = 1 + 2 * j.toNat := by
  rw [ints_len, intT, List.length_map, wordT, List.length_cons, hex_len, List.length_take]; omega
 refine Br.mk (fun h => ?_) (fun h => ?_)
 · have h := of_decide_eq_true h
   obtain ⟨c, hc⟩ := str_at h0 h;have hcb := c.toNat_lt;have e1 := fdiv16 c;have e2 := and15 c
   refine ⟨c, hc, h0, by omega, hexC (c.toNat / 16), by rw [e1, Int.toNat_natCast]; exact hexAt (by omega), by omega, c, hc, h0, hexC (c.toNat % 16), by rw [e2, Int.toNat_natCast]; exact hexAt (by omega), by omega, by omega, by omega, by omega, wr_i64 (by omega) (by omega) ⟨rfl, by simp, rfl, ?_, by omega⟩⟩
   rw [hWI]
   refine ⟨by omega, by omega, ?_⟩
   rw [show (j + 1).toNat = j.toNat + 1 by omega, List.take_add_one, strL_get hc, Option.toList_some, word_app]
   simp [ints_T, hex2]
 · have h := of_decide_eq_false h
   have hj : (strL s).take j.toNat = strL s := List.take_of_length_le (by omega)
   rw [hj] at hlen ⊢
   exact ⟨wordT (strL s), by rw [ints_T, List.length_map], by rw [List.take_length, ints_T], hQ.symm⟩
def hexI (c : UInt8) : Int := match hexV c with
 | some n => n
 | none => -1
theorem hexI_eq (c : UInt8) : Lib.indexByte [48, 49, 50, 51, 52, 53, 54, 55, 56, 57, 97, 98, 99, 100, 101, 102] c = hexI c := by
 have : ∀ x : Fin 256, Lib.indexByte [48, 49, 50, 51, 52, 53, 54, 55, 56, 57, 97, 98, 99, 100, 101, 102] (UInt8.ofNat x.val) = hexI (UInt8.ofNat x.val) := by decide +kernel
 have h := this ⟨c.toNat, c.toNat_lt⟩;simpa using h
theorem ct156 (c : UInt8) (I : Mem) : Ct Tryz.prog (fnv 156) #[.string ⟨#[UInt8.ofNat 48, UInt8.ofNat 49, UInt8.ofNat 50, UInt8.ofNat 51, UInt8.ofNat 52, UInt8.ofNat 53, UInt8.ofNat 54, UInt8.ofNat 55, UInt8.ofNat 56, UInt8.ofNat 57, UInt8.ofNat 97, UInt8.ofNat 98, UInt8.ofNat 99, UInt8.ofNat 100, UInt8.ofNat 101, UInt8.ofNat 102]⟩, .int .u8 c.toNat] I (fun v _ => v = .int .i64 (hexI c)) := by
 refine ct_of_calls Tryz.call156 fun w _ => ?_;refine (Tryz.strings_IndexByte _ _ w).mono fun e w' h => ?_;obtain ⟨rfl, rfl⟩ := h
 have e : ((c.toNat : Int).toNat).toUInt8 = c := by simp
 refine ⟨⟨_, rfl, ?_⟩, Below.refl _ _⟩;rw [e, <- hexI_eq c];rfl
theorem or16 {a b : Nat} (ha : a < 16) (hb : b < 16) : bitsV .or .i64 ((a : Int) * 16) (b : Int) = ((16 * a + b : Nat) : Int) := by
 have : ∀ (x y : Fin 16), bitsV .or .i64 ((x.val : Int) * 16) (y.val : Int) = ((16 * x.val + y.val : Nat) : Int) := by decide +kernel
 exact this ⟨a, ha⟩ ⟨b, hb⟩
theorem hexI_neg {c : UInt8} (h : hexI c < 0) : hexV c = none := by
 unfold hexI at h
 split at h
 · omega
 · assumption
theorem hexI_pos {c : UInt8} (h : ¬ hexI c < 0) : ∃ n, hexV c = some n /\ hexI c = n /\ n < 16 := by
 unfold hexI at h ⊢
 split at h
 · rename_i n hn
   exact ⟨n, hn, rfl, (hexV_lt hn).1⟩
 · omega
theorem ints_u8s {L : List Int} (h : byteL L) : (u8s L).map (fun b => Value.int .u8 b.toNat) = ints .u8 L := by
 simp only [u8s, ints, List.map_map];refine List.map_congr_left fun z hz => ?_;have := h z hz;simp only [Function.comp]
 congr 1
 rw [UInt8.toNat_ofNat']; omega
def unwV (o : Option (List Int)) : Value := match o with
 | some bs => .tuple #[.string (strB bs), .bool true]
 | none => .tuple #[.string ⟨#[]⟩, .bool false]
theorem drop_two {α : Type} {l : List α} {j : Nat} {b e : α} (hb : l[j]? = some b) (he : l[j + 1]? = some e) : l.drop j = b :: e :: l.drop (j + 2) := by
 have h1 := (List.getElem?_eq_some_iff.1 hb);have h2 := (List.getElem?_eq_some_iff.1 he);obtain ⟨g1, g2⟩ := h1;obtain ⟨g3, g4⟩ := h2;rw [List.drop_eq_getElem_cons g1, g2, List.drop_eq_getElem_cons g3, g4]
theorem ct115 (s : ByteArray) (hs : s.size <= 1000000) (I : Mem) : Ct Tryz.prog (fnv 115) #[.string s] I (fun v _ => v = unwV (unwordT (tx s))) := by
 obtain ⟨WI, hWI⟩ : ∃ f : Int -> List Value -> Prop, f = fun (j : Int) xs => 1 <= j /\ j % 2 = 1 /\ j <= s.size /\ ∃ L, xs = ints .u8 L /\ L.length <= j /\ byteL L /\ pairsT ((tx s).drop 1) = (pairsT ((tx s).drop j.toNat)).map (L ++ ·) := ⟨_, rfl⟩;obtain ⟨Q, hQ⟩ : ∃ q : Value, q = unwV (unwordT (tx s)) := ⟨_, rfl⟩;rw [<- hQ]
 refine viaR (ct_via (A := { loops := [(5, ⟨[(0, .keep), (4, .row 0), (5, .sh (.int .i64))], [(0, .row)], [(4, 1, 5)], fun vals xss _ _ => match vals, xss with | [.int .i64 j], [xs] => WI j xs | _, _ => False, fun vals _ => match vals with | [.int .i64 j] => (s.size - j).toNat | _ => 0⟩)] }) Tryz.func115 rfl Tryz.call115 rfl rfl) ((2 : Int) ≠ 0 /\ Br (Int.tmod (s.size : Int) 2 != 1) (Value.tuple #[.string ⟨#[]⟩, .bool false] = Q) (∃ c, s.data.toList[0]? = some c /\ (0 : Int) <= 0 /\ Br ((c.toNat : Int) != 37) (Value.tuple #[.string ⟨#[]⟩, .bool false] = Q) ((Rf (SV.v (.string s)) /\ (0 : Nat) = 0 /\ WI 1 []) /\ ∀ (a : Mem), Mem -> I.le a -> ∀ (x : List Value) (n : Int), WI n x -> Br (decide (n < (s.size : Int))) (∃ b, s.data.toList[n.toNat]? = some b /\ 0 <= n /\ Wr .i64 (n + 1) fun d => ∃ e, s.data.toList[d.toNat]? = some e /\ 0 <= d /\ Ct Tryz.prog (fnv 156) #[.string ⟨#[48, 49, 50, 51, 52, 53, 54, 55, 56, 57, 97, 98, 99, 100, 101, 102]⟩, .int .u8 (b.toNat : Int)] a fun v f => ∃ g, v = .int .i64 g /\ Ct Tryz.prog (fnv 156) #[.string ⟨#[48, 49, 50, 51, 52, 53, 54, 55, 56, 57, 97, 98, 99, 100, 101, 102]⟩, .int .u8 (e.toNat : Int)] f fun h i => ∃ j, h = .int .i64 j /\ Br (decide (g < 0)) (Value.tuple #[.string ⟨#[]⟩, .bool false] = Q) (Br (decide (j < 0)) (Value.tuple #[.string ⟨#[]⟩, .bool false] = Q) ((0 : Int) <= 4 /\ Wr .i64 (g * 16) fun k => Wr .u8 (bitsV .or .i64 k j) fun l => x.length = x.length * 1 /\ x.length + 1 <= 9223372036854775807 /\ (x.length + 1) * 1 <= 140737488355328 /\ Wr .i64 (n + 2) fun m => Rf (SV.v (.string s)) /\ x.length + 1 = List.length (x ++ [.int .u8 l]) /\ WI m (x ++ [.int .u8 l]) /\ Int.toNat ((s.size : Int) - m) < Int.toNat ((s.size : Int) - n)))) (∃ q, q.length = x.length /\ List.take x.length x = List.map (fun (b : UInt8) => .int .u8 (b.toNat : Int)) q /\ Value.tuple #[.string ⟨q.toArray⟩, .bool true] = Q)))) (by kernel_rfl) ?_
 have hsz : (tx s).length = s.size := Array.length_toList
 have ht : ((s.size : Nat) : Int).tmod 2 = ((s.size % 2 : Nat) : Int) := by rw [Int.tmod_eq_emod_of_nonneg (by omega)]; omega
 have bad : unwordT (tx s) = none -> Value.tuple #[Value.string ⟨#[]⟩, Value.bool false] = Q := fun h => by rw [hQ, h]; rfl
 refine ⟨by omega, Br.mk (fun h => bad ?_) (fun h => ?_)⟩
 · have h : s.size % 2 ≠ 1 := fun hq => by rw [ht, hq] at h; exact absurd h (by decide)
   cases hc : tx s with
   | nil => rfl
   | cons c r => rw [hc, List.length_cons] at hsz; rw [unwordT, if_neg (by omega)]
 have h : s.size % 2 = 1 := by rw [ht] at h; simp at h; omega
 obtain ⟨c, hc⟩ := str_at (s := s) (j := 0) (by omega) (by omega)
 have hc0 : (tx s)[0]? = some c := hc
 obtain ⟨r, hr⟩ : ∃ r, tx s = c :: r := by
  cases hq : tx s with
  | nil => rw [hq] at hc0; cases hc0
  | cons d r => rw [hq] at hc0; simp at hc0; exact ⟨r, by rw [hc0]⟩
 have hrl : r.length + 1 = s.size := by rw [<- hsz, hr, List.length_cons]
 refine ⟨c, hc, by omega, Br.mk (fun h2 => bad ?_) (fun h2 => ?_)⟩
 · have h2 : ¬ c = 37 := fun e => by subst e; simp at h2
   rw [hr, unwordT, if_neg (fun hh => h2 hh.1)]
 have h2 : c = 37 := by
  have : (c.toNat : Int) = 37 := by simpa using h2
  exact UInt8.toNat_inj.1 (by rw [show (37 : UInt8).toNat = 37 by decide]; omega)
 have hun : unwordT (tx s) = pairsT ((tx s).drop 1) := by
  rw [hr, unwordT, if_pos ⟨h2, by omega⟩]; rfl
 refine ⟨⟨rfl, rfl, by rw [hWI]; exact ⟨by omega, by omega, by omega, [], rfl, by simp, byteL_nil, by simp⟩⟩, fun I' G' hle xs j hj => ?_⟩
 rw [hWI] at hj;obtain ⟨h0, h1, h3, L, rfl, hL, hbL, hp⟩ := hj;refine Br.mk (fun h4 => ?_) (fun h4 => ?_)
 · have h4 := of_decide_eq_true h4
   obtain ⟨b, hb⟩ := str_at (s := s) (j := j) (by omega) (by omega)
   obtain ⟨e, he⟩ := str_at (s := s) (j := j + 1) (by omega) (by omega)
   have hd := drop_two (l := tx s) hb (by rw [show j.toNat + 1 = (j + 1).toNat by omega]; exact he)
   refine ⟨b, hb, by omega, wr_i64 (by omega) (by omega) ⟨e, he, by omega, (ct156 b I').mono fun v J l hv => ⟨_, hv, (ct156 e J).mono fun v2 J2 l2 hv2 => ⟨_, hv2, Br.mk (fun h5 => bad ?_) (fun h5 => Br.mk (fun h6 => bad ?_) (fun h6 => ?_))⟩⟩⟩⟩
   · rw [hun, hp, hd, pairsT, hexI_neg (of_decide_eq_true h5)]; rfl
   · obtain ⟨x, hx, _⟩ := hexI_pos (of_decide_eq_false h5)
     rw [hun, hp, hd, pairsT, hexI_neg (of_decide_eq_true h6), hx]; rfl
   · obtain ⟨x, hx, hx2, hx3⟩ := hexI_pos (of_decide_eq_false h5)
     obtain ⟨y, hy, hy2, hy3⟩ := hexI_pos (of_decide_eq_false h6);rw [hx2, hy2]
     refine ⟨by omega, wr_i64 (by omega) (by omega) ⟨((16 * x + y : Nat) : Int), by rw [or16 hx3 hy3, IntKind.wrap_u8]; omega, by rw [ints_len]; omega, by rw [ints_len]; omega, by rw [ints_len]; omega, wr_i64 (by omega) (by omega) ⟨rfl, by simp, ?_, by omega⟩⟩⟩
     rw [hWI]
     refine ⟨by omega, by omega, by omega, L ++ [((16 * x + y : Nat) : Int)], by simp [ints], by simp; omega, fun z hz => ?_, ?_⟩
     · rcases List.mem_append.1 hz with hz | hz
       · exact hbL z hz
       · simp only [List.mem_cons, List.not_mem_nil, or_false] at hz
         subst hz; omega
     · rw [hp, hd, pairsT, hx, hy, show (j + 2).toNat = j.toNat + 2 by omega]
       cases pairsT ((tx s).drop (j.toNat + 2)) with
       | none => rfl
       | some l => simp
 · have h4 := of_decide_eq_false h4
   have hnil : (tx s).drop j.toNat = [] := List.drop_eq_nil_of_le (by omega)
   rw [hnil] at hp
   have hQ2 : unwordT (tx s) = some L := by rw [hun, hp]; simp [pairsT]
   refine ⟨u8s L, ?_, ?_, by rw [hQ, hQ2]; rfl⟩
   · rw [ints_len]; simp [u8s]
   · rw [List.take_length, ints_u8s hbL]
def Globs (I : Mem) : Prop := ∀ w : World, I.inW w -> (∃ m, w.cell? ⟨0, 0, none⟩ = some (.int .i64 m)) /\ Lib.TabIs Tryz.prog w "internal/strconv.uint64pow10" .u64 Lib.pow10Tab /\
 (∃ tp p, w.cell? ⟨2, 0, none⟩ = some (.iface tp p)) /\ ∃ tp p, w.cell? ⟨3, 0, none⟩ = some (.iface tp p)
theorem Globs.mono {I J : Mem} (h : Globs I) (hle : I.le J) : Globs J := fun w hw => h w (Mem.inW_of_le hle hw)
def strT (t : Tx) : ByteArray := ⟨t.toArray⟩
theorem below_gr (w : World) (n : Nat) (os : Array Obj) : Below w.heap.size w (Go.Sort.grow (w.drewN n) os) :=
 ⟨rfl, rfl, rfl, by simp [Go.Sort.grow, World.drewN], fun k hk => by simp [Go.Sort.grow, World.drewN, Array.getElem?_append_left hk]⟩
theorem ct57 (n : Int) (hn : i64R n) (I : Mem) (hG : Globs I) : Ct Tryz.prog (fnv 57) #[.int .i64 n] I (fun v _ => v = .string (strT (Lib.itoa n))) := by
 refine ct_of_calls Tryz.call57 fun w hw => ?_;refine (Tryz.strconv_Itoa n hn.1 hn.2 w (hG w hw).2.1).mono fun e w' h => ?_;obtain ⟨rfl, k, os, rfl⟩ := h;exact ⟨⟨_, rfl, rfl⟩, below_gr _ _ _⟩
theorem ct103 (n : Int) (hn : i64R n) (I : Mem) (hG : Globs I) : Ct Tryz.prog (fnv 103) #[.int .i64 n, .int .i64 10] I (fun v _ => v = .string (strT (Lib.itoa n))) := by
 refine ct_of_calls Tryz.call103 fun w hw => ?_;refine (Tryz.internal_strconv_FormatInt_10 n hn.1 hn.2 w (hG w hw).2.1).mono fun e w' h => ?_;obtain ⟨rfl, k, os, rfl⟩ := h;exact ⟨⟨_, rfl, rfl⟩, below_gr _ _ _⟩
theorem ct56 (n : Int) (hn : i64R n) (I : Mem) (hG : Globs I) : Ct Tryz.prog (fnv 56) #[.int .i64 n, .int .i64 10] I (fun v _ => v = .string (strT (Lib.itoa n))) := by
 obtain ⟨Q, hQ⟩ : ∃ q : Value, q = .string (strT (Lib.itoa n)) := ⟨_, rfl⟩;rw [<- hQ]
 refine viaR (ct_via (A := { }) Tryz.func56 rfl Tryz.call56 rfl rfl) (Ct Tryz.prog (fnv 103) #[.int .i64 n, .int .i64 10] I fun v a => ∃ q, v = .string q /\ Value.string q = Q) (by kernel_rfl) ?_
 exact (ct103 n hn I hG).mono fun v J l hv => ⟨_, hv, hQ.symm⟩
def errV (ok : Bool) (e : Value) : Prop := if ok then e = .nilIface else ∃ t p, e = .iface t p
def numP (t : Tx) : Int × Bool := match Lib.parseIntB 64 t with
 | .ok v => (v, true)
 | .range => (Lib.intSat 64 t, false)
 | _ => (0, false)
def numA (t : Tx) : Int × Bool := match Lib.atoiAll t with
 | .ok v => (v, true)
 | .range => (Lib.atoiSat t, false)
 | _ => (0, false)
def NumR (p : Int × Bool) (v : Value) : Prop := ∃ e, v = .tuple #[.int .i64 p.1, e] /\ errV p.2 e
theorem ct159 (s : ByteArray) (hs : s.size <= 1000000) (I : Mem) (hG : Globs I) : Ct Tryz.prog (fnv 159) #[.string s, .int .i64 10, .int .i64 64] I (fun v _ => NumR (numP (tx s)) v) := by
 refine ct_of_calls Tryz.call159 fun w hw => ?_;obtain ⟨_, _, ⟨tp, p, h1⟩, ⟨tq, q, h2⟩⟩ := hG w hw
 cases h : Lib.parseIntB 64 s.data.toList
 · rename_i v
   refine (Tryz.strconv_ParseInt_10_at64_ok s (by omega) v h w).mono fun e w' hh => ?_
   obtain ⟨rfl, hw'⟩ := hh
   refine ⟨⟨_, rfl, .nilIface, by rw [numP, tx, h], by rw [numP, tx, h]; rfl⟩, ?_⟩
   rcases hw' with rfl | ⟨t, rfl⟩
   · exact Below.refl _ _
   · exact Go.Joins.below_bytesWorld _ _ _ _ (Nat.le_refl _)
 · refine (Tryz.strconv_ParseInt_10_at64_syntax s (by omega) h _ w h1 (.inr ⟨_, _, rfl⟩)).mono fun e w' hh => ?_
   obtain ⟨N, rfl, _, _, hb⟩ := hh
   exact ⟨⟨_, rfl, _, by rw [numP, tx, h], by rw [numP, tx, h]; exact ⟨_, _, rfl⟩⟩, hb⟩
 · refine (Tryz.strconv_ParseInt_10_at64_range s (by omega) h _ w h2 (.inr ⟨_, _, rfl⟩)).mono fun e w' hh => ?_
   obtain ⟨N, rfl, _, _, hb⟩ := hh
   exact ⟨⟨_, rfl, _, by rw [numP, tx, h], by rw [numP, tx, h]; exact ⟨_, _, rfl⟩⟩, hb⟩
theorem ct114 (s : ByteArray) (hs : s.size <= 1000000) (I : Mem) (hG : Globs I) : Ct Tryz.prog (fnv 114) #[.string s] I (fun v _ => NumR (numA (tx s)) v) := by
 refine ct_of_calls Tryz.call114 fun w hw => ?_;obtain ⟨_, _, ⟨tp, p, h1⟩, ⟨tq, q, h2⟩⟩ := hG w hw
 cases h : Lib.atoiAll s.data.toList
 · rename_i v
   refine (Tryz.strconv_Atoi_ok s (by omega) v h w).mono fun e w' hh => ?_
   obtain ⟨rfl, hw'⟩ := hh
   refine ⟨⟨_, rfl, .nilIface, by rw [numA, tx, h], by rw [numA, tx, h]; rfl⟩, ?_⟩
   rcases hw' with rfl | ⟨t, rfl⟩
   · exact Below.refl _ _
   · exact Go.Joins.below_bytesWorld _ _ _ _ (Nat.le_refl _)
 · refine (Tryz.strconv_Atoi_syntax s (by omega) h _ w h1 (.inr ⟨_, _, rfl⟩)).mono fun e w' hh => ?_
   obtain ⟨N, rfl, _, _, hb⟩ := hh
   exact ⟨⟨_, rfl, _, by rw [numA, tx, h], by rw [numA, tx, h]; exact ⟨_, _, rfl⟩⟩, hb⟩
 · refine (Tryz.strconv_Atoi_range s (by omega) h _ w h2 (.inr ⟨_, _, rfl⟩)).mono fun e w' hh => ?_
   obtain ⟨N, rfl, _, _, hb⟩ := hh
   exact ⟨⟨_, rfl, _, by rw [numA, tx, h], by rw [numA, tx, h]; exact ⟨_, _, rfl⟩⟩, hb⟩
def kindGo (f : Int -> ByteArray) (s : ByteArray) : Nat -> Int -> Int
 | 0, _ => 0
 | k + 1, n => if f n = ⟨#[]⟩ then 0 else if f n = s then n else kindGo f s k (n + 1)
def kindS (f : Int -> ByteArray) (s : ByteArray) : Int := kindGo f s 19 1
theorem ct160 (s : ByteArray) (fv : Value) (f : Int -> ByteArray) (hf : ∀ (k : Int) (J : Mem), 0 <= k /\ k <= 255 -> Ct Tryz.prog fv #[.int .u8 k] J (fun v _ => v = .string (f k))) (I : Mem) :
 Ct Tryz.prog (fnv 160) #[.string s, fv] I (fun v _ => v = .int .u8 (kindS f s)) := by
 obtain ⟨K, hK⟩ : ∃ k, k = kindS f s := ⟨_, rfl⟩;rw [<- hK]
 refine viaR (ct_via (A := { loops := [(2, ⟨[(0, .keep), (1, .keep), (5, .sh (.int .u8))], [], [], fun vals _ _ _ => match vals with | [.int .u8 n] => 1 <= n /\ n <= 20 /\ K = kindGo f s (20 - n.toNat) n | _ => False, fun vals _ => match vals with | [.int .u8 n] => (20 - n).toNat | _ => 0⟩)] }) Tryz.func160 rfl Tryz.call160 rfl rfl) ((Rf (SV.v (.string s)) /\ Rf (SV.v fv) /\ (1 : Int) <= 1 /\ (1 : Int) <= 20 /\ K = kindGo f s 19 1) /\ ∀ (a : Mem), Mem -> I.le a -> ∀ (n : Int), 1 <= n /\ n <= 20 /\ K = kindGo f s (20 - n.toNat) n -> Br (decide (n < 20)) (Ct Tryz.prog fv #[.int .u8 n] a (fun v b => ∃ q, v = .string q /\ Br (!(q.toList == (ByteArray.mk #[]).toList)) (Ct Tryz.prog fv #[.int .u8 n] b (fun c d => ∃ e, c = .string e /\ Br (e.toList == s.toList) (Value.int .u8 n = .int .u8 K) (Wr .u8 (n + 1) (fun g => Rf (SV.v (.string s)) /\ Rf (SV.v fv) /\ (1 <= g /\ g <= 20 /\ K = kindGo f s (20 - g.toNat) g) /\ Int.toNat (20 - g) < Int.toNat (20 - n))))) (Value.int .u8 0 = .int .u8 K))) (Value.int .u8 0 = .int .u8 K)) (by kernel_rfl) ?_
 refine ⟨⟨rfl, rfl, by omega, by omega, hK⟩, fun I' G' hle n hn => ?_⟩
 obtain ⟨h1, h2, h3⟩ := hn;refine Br.mk (fun h => ?_) (fun h => ?_)
 · have h := of_decide_eq_true h
   obtain ⟨k, hk⟩ : ∃ k, 20 - n.toNat = k + 1 := ⟨19 - n.toNat, by omega⟩
   rw [hk, kindGo] at h3
   refine (hf n I' (by omega)).mono fun v J l hv => ⟨_, hv, ?_⟩
   rw [str_eq];refine Br.mk (fun h4 => ?_) (fun h4 => ?_)
   · have h4 : f n ≠ ⟨#[]⟩ := by simpa using h4
     rw [if_neg h4] at h3
     refine (hf n J (by omega)).mono fun v2 J2 l2 hv2 => ⟨_, hv2, ?_⟩
     rw [str_eq];refine Br.mk (fun h5 => ?_) (fun h5 => ?_)
     · rw [if_pos (of_decide_eq_true h5)] at h3; rw [h3]
     · rw [if_neg (of_decide_eq_false h5)] at h3
       exact ⟨n + 1, by rw [IntKind.wrap_u8]; omega, rfl, rfl, ⟨by omega, by omega, by rw [h3]; congr 1; omega⟩, by omega⟩
   · have h4 : f n = ⟨#[]⟩ := by simpa using h4
     rw [if_pos h4] at h3; rw [h3]
 · have h := of_decide_eq_false h
   rw [show 20 - n.toNat = 0 by omega, kindGo] at h3; rw [h3]
def strs (l : List ByteArray) : List Value := l.map .string
theorem strs_get {l : List ByteArray} {j : Nat} {y : ByteArray} (h : l[j]? = some y) : (strs l)[j]? = some (.string y) := by simp [strs, h]
def joinB (l : List ByteArray) : ByteArray := strT (joinC 32 (l.map tx))
theorem ct58 (l : List ByteArray) (a : Option Addr) (cp : Nat) (I : Mem) (h : RowM I a cp 1 (strs l)) (hlen : (joinB l).size <= 1000000000) (hN : l.length <= 1000000) :
 Ct Tryz.prog (fnv 58) #[.slice a l.length cp, .string ⟨#[UInt8.ofNat 32]⟩] I (fun v _ => v = .string (joinB l)) := by
 have e0 : joinB l = ⟨(Lib.join (l.map (·.data.toList)) [UInt8.ofNat 32]).toArray⟩ := by rw [joinB, strT, <- joinC_eq]; rfl
 obtain ⟨h1, h2, h3, h4⟩ := h
 have hl : l.length <= cp := by simpa [strs] using h1
 refine ct_of_calls Tryz.call58 fun w hI => ?_
 cases a with
 | none =>
  have hnil : l = [] := by
   have := (h3 rfl).1;simpa [strs] using this
  subst hnil
  refine (Tryz.strings_Join_none _ _ _ w).mono fun e w' ⟨he, hw⟩ => ⟨⟨_, he, by rfl⟩, hw ▸ Below.refl _ _⟩
 | some ad =>
  cases l with
  | nil => exact (Tryz.strings_Join_none _ _ _ w).mono fun e w' ⟨he, hw⟩ => ⟨⟨_, he, by rfl⟩, hw ▸ Below.refl _ _⟩
  | cons x r =>
   have hc : ∀ (j : Nat) (y : ByteArray), (x :: r)[j]? = some y -> w.cell? (ad.add j) = some (.string y) := fun j y hj =>
    cellM_world hI (h4 j _ (strs_get hj))
   have h0 := hc 0 x rfl;obtain ⟨b, o, sp⟩ := ad
   obtain rfl : sp = none := by
    cases sp with
    | none => rfl
    | some s => have := h4 0 (.string x) rfl; simp only [atI, Option.bind_some, cellM, Addr.add, if_true] at this; split at this <;> simp at this
   have hlt : b < w.heap.size := by
    have := h4 0 (.string x) rfl;simp only [atI, Option.bind_some, cellM, Addr.add, if_true] at this
    split at this
    · rename_i hb; exact Mem.inW_lt hI hb
    · cases this
   have hln : (Lib.join ((x :: r).map (·.data.toList)) [UInt8.ofNat 32]).length <= 140737488355328 := by
    have : (joinB (x :: r)).size = (Lib.join ((x :: r).map (·.data.toList)) [UInt8.ofNat 32]).length := by rw [e0]; rfl
    omega
   refine (Tryz.strings_Join b o cp (x :: r) ⟨#[UInt8.ofNat 32]⟩ w (fun j y hj => ?_) hlt (by omega) hl hln).mono fun e w' ⟨he, hw⟩ => ⟨⟨_, he, by rw [e0]⟩, hw⟩
   have := hc j y hj
   by_cases hj0 : j = 0
   · subst hj0; exact this
   · simpa [Addr.add, hj0] using this
theorem ct_of_callsN {P : Program} {f : FuncId} {args : Array Value} {I : Mem} {post : Value -> Mem -> Prop}
 (hcall : ∀ (args : Array Value) (w : World), (callFunc f args).run P w = .ok (.enter f args) w)
 (h : ∀ w : World, I.inW w -> Calls P f args w fun e w' => ∃ v M, e = .returned v /\ M.inW w' /\ I.le M /\ (∀ b, b < w.heap.size -> I b = none -> M b = none) /\ post v M /\ Below w.heap.size w w') : Ct P (fnv f) args I post := by
 intro W hI _ _
 refine callV_func hcall (args := args.toList) (by simp) (callsIn_wide.2 ?_)
 refine (h W hI).mono ?_;rintro e w' ⟨v, M, he, hM, hle, hn, hp, hb⟩;exact ⟨v, M, Mem.emp, he, hle, hM, Mem.emp_inW _, fun b => .inr rfl, hb.size, ⟨hb.os, hb.tape, hb.output⟩, fun b hlt _ => hb.block b hlt, fun b hb _ => ⟨rfl, hn b hb⟩, hp⟩
theorem ct83 (s : ByteArray) (hs : s.size <= 1000000) (I : Mem) (hG : Globs I) :
 Ct Tryz.prog (fnv 83) #[.string s, .string ⟨#[UInt8.ofNat 32]⟩] I (fun v I' => ∃ (l : List ByteArray) (a : Option Addr) (n c : Nat), v = .slice a n c /\ l.map tx = splitC 32 (tx s) /\ SlM I' a n 1 (strs l) /\ n <= c /\ c <= maxLen) := by
 refine ct_of_callsN Tryz.call83 fun w hI => ?_;obtain ⟨⟨m, hm⟩, _⟩ := hG w hI
 refine (Tryz.strings_Split s ⟨#[UInt8.ofNat 32]⟩ m w (by omega) hm (Nat.le_refl 1)).mono fun e w' ⟨he, hw⟩ => ?_
 obtain ⟨L, hL⟩ : ∃ L, L = Lib.splitB ⟨#[UInt8.ofNat 32]⟩ 0 (Lib.countB s ⟨#[UInt8.ofNat 32]⟩) s := ⟨_, rfl⟩;have hlen := Lib.splitB_all ⟨#[UInt8.ofNat 32]⟩ (Nat.le_refl 1) 0 _ s rfl;have hcnt : Lib.countB s ⟨#[UInt8.ofNat 32]⟩ = (tx s).count 32 := Lib.count_one 32 (tx s)
 have hmap : L.map tx = splitC 32 (tx s) := by
  rw [hL, hcnt];have := Lib.splitB_data ⟨#[UInt8.ofNat 32]⟩ 0 ((tx s).count 32) s;exact this.trans (splitK_one 32 (tx s))
 rw [<- hL] at hw hlen;have hcle : Lib.countB s ⟨#[UInt8.ofNat 32]⟩ <= s.size := Lib.countB_le ⟨#[UInt8.ofNat 32]⟩ (Nat.le_refl 1) _ s (Nat.le_refl _);subst hw
 have hnew : I w.heap.size = none := by
  cases hb : I w.heap.size with
  | none => rfl
  | some o => exact absurd (Mem.inW_lt hI hb) (Nat.lt_irrefl _)
 refine ⟨_, fun b => if b = w.heap.size then some (.cells (L.map Value.string).toArray 9 (0, 0)) else I b, he, fun b o hb => ?_, fun b o hb => ?_, fun b hb hn => ?_, ⟨L, some ⟨w.heap.size, 0, none⟩, _, _, rfl, hmap, ?_, Nat.le_refl _, ?_⟩, (Below.refl _ _).alloc (Nat.le_refl _) _⟩
 · simp only at hb
   split at hb
   · rename_i h; subst h; cases hb; exact Array.getElem?_push_size
   · rw [Below.heap_alloc w _ b (Mem.inW_lt hI hb)]; exact hI b o hb
 · simp only
   rw [if_neg (fun h => by subst h; rw [hnew] at hb; cases hb)]; exact hb
 · simp only
   rw [if_neg (by omega)]; exact hn
 · exact sl_cells (if_pos rfl) (by simp; omega) (by simp only [maxLen]; omega)
 · simp only [maxLen]; omega
def fieldT (r : Rq) (t : Int) : Tx :=
 if t = 1 then tx (askS r.what) else if t = 2 then (if nameB (strL r.name) then tx r.name else wordT (strL r.name)) else if t = 10 then Lib.itoa r.val else if t = 11 then wordT r.fed else Lib.itoa (numR r t)
def wordsL (r : Rq) : List ByteArray := nameS r.kind :: (tagsR r).map fun t => strT (fieldT r t)
def wordsB (r : Rq) : ByteArray := joinB (wordsL r)
theorem dec_len : ∀ (k u : Nat), u < 10 ^ (k + 1) -> (Lib.decDigits u).length <= k + 1
 | 0, u, h => by rw [Lib.decDigits, dif_pos (by simpa using h)]; simp
 | k + 1, u, h => by
  rw [Lib.decDigits];split
  · simp
  · have := dec_len k (u / 10) (by rw [Nat.pow_succ] at h; omega)
    simp only [List.length_append, List.length_cons, List.length_nil]; omega
theorem itoa_len {n : Int} (h : i64R n) : (Lib.itoa n).length <= 21 := by
 have h1 := h.1;have h2 := h.2;unfold Lib.itoa;split
 · have := dec_len 19 n.natAbs (by omega)
   simp only [List.length_cons]; omega
 · have := dec_len 19 n.toNat (by omega)
   omega
theorem joinC_len (c : UInt8) (B : Nat) : ∀ ws : List Tx, (∀ w ∈ ws, w.length <= B) -> (joinC c ws).length <= ws.length * (B + 1)
 | [], _ => by simp [joinC]
 | [x], h => by have := h x (by simp); simp only [joinC, List.length_cons, List.length_nil]; omega
 | x :: y :: r, h => by
  have h1 := h x (by simp)
  have h2 := joinC_len c B (y :: r) fun w hw => h w (List.mem_cons_of_mem _ hw);simp only [joinC, List.length_append, List.length_cons] at h2 ⊢;rw [Nat.add_mul _ 1];omega
theorem tag_some {k w : Int} {l : List Int} (h : tagL k w = some l) : l.length <= 4 /\ ∀ t ∈ l, 1 <= t /\ t <= 11 := by
 unfold tagL at h
 by_cases h7 : k = 7
 · subst h7
   simp only [show ¬ (7 : Int) = 1 by decide, show ¬ (7 : Int) = 2 by decide, show ¬ (7 : Int) = 3 by decide, show ¬ (7 : Int) = 4 by decide, show ¬ (7 : Int) = 5 by decide, show ¬ (7 : Int) = 6 by decide, if_false, if_true] at h
   unfold askL at h
   repeat' split at h
   all_goals first | (cases h; exact ⟨by decide, by decide⟩) | cases h
 · simp only [h7, if_false] at h
   repeat' split at h
   all_goals first | (cases h; exact ⟨by decide, by decide⟩) | cases h
theorem tag_len (k w : Int) : ((tagL k w).getD []).length <= 4 /\ ∀ t ∈ (tagL k w).getD [], 1 <= t /\ t <= 11 := by
 cases h : tagL k w with
 | none => exact ⟨by decide, by decide⟩
 | some l => exact tag_some h
theorem num_ok {r : Rq} (hr : okRq r) (t : Int) : i64R (numR r t) := by
 unfold numR
 repeat' split
 · exact hr.p3
 · exact hr.p4
 · exact hr.p5
 · exact hr.p6
 · exact hr.p7
 · exact hr.p8
 · exact hr.p9
theorem word_len (bs : List Int) : (wordT bs).length = 1 + 2 * bs.length := by rw [wordT, List.length_cons, hex_len]; omega
theorem field_len {r : Rq} (hr : okRq r) (hn : r.name.size <= 255) (hf : r.fed.length <= 15000) (t : Int) : (fieldT r t).length <= 40000 := by
 have h1 : (tx r.name).length = r.name.size := Array.length_toList;have h2 := strL_len r.name;unfold fieldT;split
 · have : ∀ w : Int, (tx (askS w)).length <= 40000 := fun w => by
    rw [askS]
    cases h : asksL[w.toNat]? with
    | none => decide
    | some x =>
     have := List.mem_of_getElem? h;simp only [asksL, List.mem_cons, List.not_mem_nil, or_false] at this
     rcases this with rfl | rfl | rfl | rfl | rfl | rfl <;> decide
   exact this _
 · split
   · split
     · omega
     · rw [word_len]; omega
   · split
     · have := itoa_len hr.val; omega
     · split
       · rw [word_len]; omega
       · have := itoa_len (num_ok hr t); omega
theorem name_len (k : Int) : (nameS k).size <= 40000 := by
 rw [nameS]
 cases h : namesL[k.toNat]? with
 | none => decide
 | some x =>
  have := List.mem_of_getElem? h;simp only [namesL, List.mem_cons, List.not_mem_nil, or_false] at this
  rcases this with rfl | rfl | rfl | rfl | rfl | rfl | rfl | rfl | rfl | rfl <;> decide
theorem tx_strT (t : Tx) : tx (strT t) = t := by simp [tx, strT]
theorem strT_size (t : Tx) : (strT t).size = t.length := by show t.toArray.size = _; simp
theorem words_len {r : Rq} (hr : okRq r) (h : rightR r = true) : (wordsL r).length <= 5 /\ (wordsB r).size <= 1000000 := by
 obtain ⟨_, h1, h2, _⟩ := right_tag h;have h3 := (tag_len r.kind r.what).1
 have h4 : (wordsL r).length <= 5 := by simp only [wordsL, tagsR, List.length_cons, List.length_map]; omega
 refine ⟨h4, ?_⟩;rw [wordsB, joinB, strT_size]
 have := joinC_len 32 40000 ((wordsL r).map tx) fun w hw => by
  obtain ⟨u, hu, rfl⟩ := List.mem_map.1 hw;simp only [wordsL, List.mem_cons, List.mem_map] at hu
  rcases hu with rfl | ⟨t, _, rfl⟩
  · have := name_len r.kind
    have e : (tx (nameS r.kind)).length = (nameS r.kind).size := Array.length_toList;omega
  · rw [tx_strT]; exact field_len hr h1 h2 t
 rw [List.length_map] at this;have h5 : (wordsL r).length * (40000 + 1) <= 5 * (40000 + 1) := Nat.mul_le_mul_right _ h4;omega
def numsV (r : Rq) : List Value := [.int .i64 0, .int .i64 0, .int .i64 0, .int .i64 r.p3, .int .i64 r.p4, .int .i64 r.p5, .int .i64 r.p6, .int .i64 r.p7, .int .i64 r.p8, .int .i64 r.p9]
theorem ct21 (r : Rq) (hr : okRq r) (hnm : r.name.size <= 1000000) (y : Value) (I : Mem) (hG : Globs I) (hy : BySl I y r.fed) (hfl : r.fed.length <= 1000000) (hfb : byteL r.fed) :
 Ct Tryz.prog (fnv 21) #[.agg (rqV r y).toArray] I (fun v _ => v = .tuple #[.string (if rightR r then wordsB r else ⟨#[]⟩), .int .i64 (if rightR r then 0 else 412)]) := by
 have hy' := hy;obtain ⟨p, n, c, rfl, hp, hpc, hpm⟩ := hy;obtain ⟨WI, hWI⟩ : ∃ f : Int -> List Value -> List Value -> Prop, f = fun (j : Int) xs ns => ns = numsV r /\ 0 <= j /\ j <= (tagsR r).length /\ xs = strs ((wordsL r).take (1 + j.toNat)) := ⟨_, rfl⟩
 obtain ⟨Q, hQ⟩ : ∃ q : Value, q = .tuple #[.string (if rightR r then wordsB r else ⟨#[]⟩), .int .i64 (if rightR r then 0 else 412)] := ⟨_, rfl⟩
 rw [<- hQ]
 refine viaR (ct_via (A := { hands := [(21, [1])], calls := [(49, .sym)], loops := [(7, ⟨[(1, .keep), (4, .row 1), (7, .keep), (40, .keep), (41, .keep), (42, .sh (.int .i64))], [(0, .keep), (1, .row), (2, .vec)], [(4, 1, 9)], fun vals xss _ _ => match vals, xss with | [.int .i64 j], [xs, ns] => WI j xs ns | _, _ => False, fun vals _ => match vals with | [.int .i64 j] => ((tagsR r).length - j).toNat | _ => 0⟩)] }) Tryz.func21 rfl Tryz.call21 rfl rfl) (let E1 := Ent.mk (.cells [.v (.int .u8 r.kind), .v (.int .u8 r.what), .v (.string r.name), .v (.int .i64 r.p3), .v (.int .i64 r.p4), .v (.int .i64 r.p5), .v (.int .i64 r.p6), .v (.int .i64 r.p7), .v (.int .i64 r.p8), .v (.int .i64 r.p9), .v (.int .i64 r.val), .v (.slice p n c)] 26) none
  Ct Tryz.prog (fnv 52) #[.agg #[.int .u8 r.kind, .int .u8 r.what, .string r.name, .int .i64 r.p3, .int .i64 r.p4, .int .i64 r.p5, .int .i64 r.p6, .int .i64 r.p7, .int .i64 r.p8, .int .i64 r.p9, .int .i64 r.val, .slice p n c]] I fun (v : Value) (a : Mem) => ∃ (b : Bool), v = .bool b /\ Br (!b) (Value.tuple #[.string ⟨#[]⟩, .int .i64 412] = Q) (Ct Tryz.prog (fnv 27) #[.int .u8 r.kind] a (fun (d : Value) (e : Mem) => ∃ (q : ByteArray), d = .string q /\ Ct Tryz.prog (fnv 28) #[.int .u8 r.kind, .int .u8 r.what] e fun (f : Value) (g : Mem) => ∃ (h : Option Addr) (i j : Nat) (k : Bool), f = .tuple #[.slice h i j, .bool k] /\ (Rf E1 /\ Rf (none : Option Nat) /\ Rf (SV.ptr 0 0) /\ (1 : Nat) = 1 /\ Rf (SV.ptr 2 0) /\ Rf (SV.v (.slice h i j)) /\ Rf (SV.v (.int .i64 (i : Int))) /\ WI 0 [.string q] [.int .i64 0, .int .i64 0, .int .i64 0, .int .i64 r.p3, .int .i64 r.p4, .int .i64 r.p5, .int .i64 r.p6, .int .i64 r.p7, .int .i64 r.p8, .int .i64 r.p9]) /\ ∀ (l : Mem), Mem -> g.le l -> ∀ (x m : List Value) (o : Int), WI o x m -> Br (decide (o < (i : Int))) (0 <= o /\ o < (i : Int) /\ h.isSome = true /\ ∃ (s : Int), atI l h (o.toNat * 1 + 0) = some (.int .i64 s) /\ Br (s == 1) (Ct Tryz.prog (fnv 53) #[.int .u8 r.what] l (fun (t : Value) (u : Mem) => ∃ (w : ByteArray), t = .string w /\ x.length = x.length * 1 /\ x.length + 1 <= 9223372036854775807 /\ (x.length + 1) * 16 <= 140737488355328 /\ Wr .i64 (o + 1) fun (y : Int) => Rf E1 /\ Rf (none : Option Nat) /\ Rf (SV.ptr 0 0) /\ x.length + 1 = List.length (x ++ [.string w]) /\ Rf (SV.ptr 2 0) /\ Rf (SV.v (.slice h i j)) /\ Rf (SV.v (.int .i64 (i : Int))) /\ WI y (x ++ [.string w]) m /\ Int.toNat (((tagsR r).length : Int) - y) < Int.toNat (((tagsR r).length : Int) - o))) (Br (s == 2) (Ct Tryz.prog (fnv 54) #[.string r.name] l (fun (t : Value) (u : Mem) => ∃ (w : Bool), t = .bool w /\ Br w (x.length = x.length * 1 /\ x.length + 1 <= 9223372036854775807 /\ (x.length + 1) * 16 <= 140737488355328 /\ Wr .i64 (o + 1) fun (y : Int) => Rf E1 /\ Rf (none : Option Nat) /\ Rf (SV.ptr 0 0) /\ x.length + 1 = List.length (x ++ [.string r.name]) /\ Rf (SV.ptr 2 0) /\ Rf (SV.v (.slice h i j)) /\ Rf (SV.v (.int .i64 (i : Int))) /\ WI y (x ++ [.string r.name]) m /\ Int.toNat (((tagsR r).length : Int) - y) < Int.toNat (((tagsR r).length : Int) - o)) (Br (s == 2) (Ct Tryz.prog (fnv 55) #[.string r.name] u (fun (y : Value) (z : Mem) => ∃ (q1 : ByteArray), y = .string q1 /\ x.length = x.length * 1 /\ x.length + 1 <= 9223372036854775807 /\ (x.length + 1) * 16 <= 140737488355328 /\ Wr .i64 (o + 1) fun (c1 : Int) => Rf E1 /\ Rf (none : Option Nat) /\ Rf (SV.ptr 0 0) /\ x.length + 1 = List.length (x ++ [.string q1]) /\ Rf (SV.ptr 2 0) /\ Rf (SV.v (.slice h i j)) /\ Rf (SV.v (.int .i64 (i : Int))) /\ WI c1 (x ++ [.string q1]) m /\ Int.toNat (((tagsR r).length : Int) - c1) < Int.toNat (((tagsR r).length : Int) - o))) (Br (s == 10) (Ct Tryz.prog (fnv 56) #[.int .i64 r.val, .int .i64 10] u (fun (y : Value) (z : Mem) => ∃ (q1 : ByteArray), y = .string q1 /\ x.length = x.length * 1 /\ x.length + 1 <= 9223372036854775807 /\ (x.length + 1) * 16 <= 140737488355328 /\ Wr .i64 (o + 1) fun (c1 : Int) => Rf E1 /\ Rf (none : Option Nat) /\ Rf (SV.ptr 0 0) /\ x.length + 1 = List.length (x ++ [.string q1]) /\ Rf (SV.ptr 2 0) /\ Rf (SV.v (.slice h i j)) /\ Rf (SV.v (.int .i64 (i : Int))) /\ WI c1 (x ++ [.string q1]) m /\ Int.toNat (((tagsR r).length : Int) - c1) < Int.toNat (((tagsR r).length : Int) - o))) (Br (s == 11) (∃ (y : List UInt8), y.length = n /\ (p = none -> n = 0) /\ (∀ (z : Nat) (b1 : UInt8), y[z]? = some b1 -> atI u p z = some (.int .u8 (b1.toNat : Int))) /\ Ct Tryz.prog (fnv 55) #[.string ⟨y.toArray⟩] u fun (z : Value) (I1 : Mem) => ∃ (q1 : ByteArray), z = .string q1 /\ x.length = x.length * 1 /\ x.length + 1 <= 9223372036854775807 /\ (x.length + 1) * 16 <= 140737488355328 /\ Wr .i64 (o + 1) fun (c1 : Int) => Rf E1 /\ Rf (none : Option Nat) /\ Rf (SV.ptr 0 0) /\ x.length + 1 = List.length (x ++ [.string q1]) /\ Rf (SV.ptr 2 0) /\ Rf (SV.v (.slice h i j)) /\ Rf (SV.v (.int .i64 (i : Int))) /\ WI c1 (x ++ [.string q1]) m /\ Int.toNat (((tagsR r).length : Int) - c1) < Int.toNat (((tagsR r).length : Int) - o)) (0 <= s /\ s < 10 /\ ∃ (y : Int), m[0 + s.toNat * 1 + 0]? = some (.int .i64 y) /\ Ct Tryz.prog (fnv 57) #[.int .i64 y] u fun (z : Value) (I1 : Mem) => ∃ (q1 : ByteArray), z = .string q1 /\ x.length = x.length * 1 /\ x.length + 1 <= 9223372036854775807 /\ (x.length + 1) * 16 <= 140737488355328 /\ Wr .i64 (o + 1) fun (c1 : Int) => Rf E1 /\ Rf (none : Option Nat) /\ Rf (SV.ptr 0 0) /\ x.length + 1 = List.length (x ++ [.string q1]) /\ Rf (SV.ptr 2 0) /\ Rf (SV.v (.slice h i j)) /\ Rf (SV.v (.int .i64 (i : Int))) /\ WI c1 (x ++ [.string q1]) m /\ Int.toNat (((tagsR r).length : Int) - c1) < Int.toNat (((tagsR r).length : Int) - o))))))) (Br (s == 2) (Ct Tryz.prog (fnv 55) #[.string r.name] l (fun (t : Value) (u : Mem) => ∃ (w : ByteArray), t = .string w /\ x.length = x.length * 1 /\ x.length + 1 <= 9223372036854775807 /\ (x.length + 1) * 16 <= 140737488355328 /\ Wr .i64 (o + 1) fun (y : Int) => Rf E1 /\ Rf (none : Option Nat) /\ Rf (SV.ptr 0 0) /\ x.length + 1 = List.length (x ++ [.string w]) /\ Rf (SV.ptr 2 0) /\ Rf (SV.v (.slice h i j)) /\ Rf (SV.v (.int .i64 (i : Int))) /\ WI y (x ++ [.string w]) m /\ Int.toNat (((tagsR r).length : Int) - y) < Int.toNat (((tagsR r).length : Int) - o))) (Br (s == 10) (Ct Tryz.prog (fnv 56) #[.int .i64 r.val, .int .i64 10] l (fun (t : Value) (u : Mem) => ∃ (w : ByteArray), t = .string w /\ x.length = x.length * 1 /\ x.length + 1 <= 9223372036854775807 /\ (x.length + 1) * 16 <= 140737488355328 /\ Wr .i64 (o + 1) fun (y : Int) => Rf E1 /\ Rf (none : Option Nat) /\ Rf (SV.ptr 0 0) /\ x.length + 1 = List.length (x ++ [.string w]) /\ Rf (SV.ptr 2 0) /\ Rf (SV.v (.slice h i j)) /\ Rf (SV.v (.int .i64 (i : Int))) /\ WI y (x ++ [.string w]) m /\ Int.toNat (((tagsR r).length : Int) - y) < Int.toNat (((tagsR r).length : Int) - o))) (Br (s == 11) (∃ (t : List UInt8), t.length = n /\ (p = none -> n = 0) /\ (∀ (u : Nat) (w : UInt8), t[u]? = some w -> atI l p u = some (.int .u8 (w.toNat : Int))) /\ Ct Tryz.prog (fnv 55) #[.string ⟨t.toArray⟩] l fun (u : Value) (w : Mem) => ∃ (y : ByteArray), u = .string y /\ x.length = x.length * 1 /\ x.length + 1 <= 9223372036854775807 /\ (x.length + 1) * 16 <= 140737488355328 /\ Wr .i64 (o + 1) fun (z : Int) => Rf E1 /\ Rf (none : Option Nat) /\ Rf (SV.ptr 0 0) /\ x.length + 1 = List.length (x ++ [.string y]) /\ Rf (SV.ptr 2 0) /\ Rf (SV.v (.slice h i j)) /\ Rf (SV.v (.int .i64 (i : Int))) /\ WI z (x ++ [.string y]) m /\ Int.toNat (((tagsR r).length : Int) - z) < Int.toNat (((tagsR r).length : Int) - o)) (0 <= s /\ s < 10 /\ ∃ (t : Int), m[0 + s.toNat * 1 + 0]? = some (.int .i64 t) /\ Ct Tryz.prog (fnv 57) #[.int .i64 t] l fun (u : Value) (w : Mem) => ∃ (y : ByteArray), u = .string y /\ x.length = x.length * 1 /\ x.length + 1 <= 9223372036854775807 /\ (x.length + 1) * 16 <= 140737488355328 /\ Wr .i64 (o + 1) fun (z : Int) => Rf E1 /\ Rf (none : Option Nat) /\ Rf (SV.ptr 0 0) /\ x.length + 1 = List.length (x ++ [.string y]) /\ Rf (SV.ptr 2 0) /\ Rf (SV.v (.slice h i j)) /\ Rf (SV.v (.int .i64 (i : Int))) /\ WI z (x ++ [.string y]) m /\ Int.toNat (((tagsR r).length : Int) - z) < Int.toNat (((tagsR r).length : Int) - o))))))) (∀ (s : Option Addr) (t : Nat) (u : Mem), l.le u -> RowM u s t 1 x -> Ct Tryz.prog (fnv 58) #[.slice s x.length t, .string ⟨#[32]⟩] u fun (w : Value) (y : Mem) => ∃ (z : ByteArray), w = .string z /\ Value.tuple #[.string z, .int .i64 0] = Q)))) (by kernel_rfl) ?_
 intro E1;refine (ct52 r hr hnm _ I hy' hfl).mono fun v I1 l1 hv => ⟨_, hv, Br.mk (fun h => ?_) (fun h => ?_)⟩
 · have h : rightR r = false := by simpa using h
   rw [hQ, h]; rfl
 have hR : rightR r = true := by simpa using h
 obtain ⟨htl, hn1, hf1, _⟩ := right_tag hR;have hTL := tag_len r.kind r.what;have htg : (tagL r.kind r.what).getD [] = tagsR r := rfl;rw [htg] at hTL
 have hwl : (wordsL r).length = 1 + (tagsR r).length := by simp only [wordsL, List.length_cons, List.length_map]; omega
 refine (ct27 r.kind hr.kind I1).mono fun v I2 l2 hv => ⟨_, hv, (ct28 r.kind r.what I2).mono fun v I3 l3 ⟨ta, tn, tc, hv, hsl, hle, hcm, hnew⟩ => ⟨ta, tn, tc, _, hv, ⟨rfl, rfl, rfl, rfl, rfl, rfl, rfl, ?_⟩, fun J G' lJ xs ns j hj => ?_⟩⟩
 · rw [hWI]; exact ⟨rfl, by omega, by omega, rfl⟩
 have hGJ := hG.mono (Mem.le_trans l1 (Mem.le_trans l2 (Mem.le_trans l3 lJ)));have hlJ := Mem.le_trans l1 (Mem.le_trans l2 (Mem.le_trans l3 lJ));rw [htg] at hsl;have htn := hsl.numLen;rw [hWI] at hj;obtain ⟨hns, h0, h1, hxs⟩ := hj
 have hlen : xs.length = 1 + j.toNat := by rw [hxs, strs, List.length_map, List.length_take]; omega
 refine Br.mk (fun h2 => ?_) (fun h2 => ?_)
 · have h2 := of_decide_eq_true h2
   obtain ⟨t, ht, hcell⟩ := (hsl.mono lJ).intAt (i := j) h0 h2;have htr := hTL.2 t (List.mem_of_getElem? ht)
   have key : ∀ u : ByteArray, u = strT (fieldT r t) -> WI (j + 1) (xs ++ [.string u]) ns := fun u hu => by
    rw [hWI]
    refine ⟨hns, by omega, by omega, ?_⟩
    have hw : (wordsL r)[1 + j.toNat]? = some (strT (fieldT r t)) := by
     rw [wordsL, Nat.add_comm, List.getElem?_cons_succ, List.getElem?_map, ht]; rfl
    rw [show 1 + (j + 1).toNat = 1 + j.toNat + 1 by omega, List.take_add_one, hw, hxs, hu]
    simp [strs]
   have mk : ∀ {A B C D E F : Prop} {u : ByteArray} , u = strT (fieldT r t) -> A -> B -> C -> D -> E -> F -> (xs.length = xs.length * 1 /\ xs.length + 1 <= 9223372036854775807 /\ (xs.length + 1) * 16 <= 140737488355328 /\ Wr .i64 (j + 1) fun w => A /\ B /\ C /\ xs.length + 1 = (xs ++ [Value.string u]).length /\ D /\ E /\ F /\ WI w (xs ++ [.string u]) ns /\ (((tagsR r).length : Int) - w).toNat < (((tagsR r).length : Int) - j).toNat) :=
    fun hu a b c d e f => ⟨by omega, by omega, by omega, wr_i64 (by omega) (by omega) ⟨a, b, c, by simp, d, e, f, key _ hu, by omega⟩⟩
   refine ⟨h0, h2, hsl.isSome (by omega), t, hcell, Br.mk (fun e1 => ?_) (fun e1 => ?_)⟩
   · have e1 : t = 1 := by simpa using e1
     refine (ct53 r.what hr.what J).mono fun v J2 lJ2 hv => ⟨_, hv, mk (by rw [fieldT, if_pos e1]; rfl) rfl rfl rfl rfl rfl rfl⟩
   have e1 : t ≠ 1 := by simpa using e1
   have d10 : t = 10 -> fieldT r t = Lib.itoa r.val := fun e => by rw [fieldT, if_neg (by omega), if_neg (by omega), if_pos e]
   have d11 : t = 11 -> fieldT r t = wordT r.fed := fun e => by rw [fieldT, if_neg (by omega), if_neg (by omega), if_neg (by omega), if_pos e]
   have dN : t ≠ 2 -> t ≠ 10 -> t ≠ 11 -> fieldT r t = Lib.itoa (numR r t) := fun h3 h4 h5 => by rw [fieldT, if_neg e1, if_neg h3, if_neg h4, if_neg h5]
   obtain ⟨us, hus, hnil, hat⟩ : ∃ us : List UInt8, us = u8s r.fed /\ (p = none -> n = 0) /\ ∀ (q : Nat) (b : UInt8), us[q]? = some b -> atI J p q = some (Value.int IntKind.u8 ↑b.toNat) := ⟨_, rfl, (u8s_at hfb (hp.mono hlJ)).2⟩;refine Br.mk (fun e2 => ?_) (fun e2 => ?_)
   · have e2 : t = 2 := by simpa using e2
     refine (ct54 r.name J).mono fun v J2 lJ2 hv => ⟨_, hv, Br.mk (fun e3 => ?_) (fun e3 => Br.mk (fun _ => ?_) (fun h => absurd (by simp [e2]) (Bool.eq_false_iff.1 h)))⟩
     · exact mk (by rw [fieldT, if_neg e1, if_pos e2, if_pos e3]; rfl) rfl rfl rfl rfl rfl rfl
     · refine (ct55 r.name (by omega) J2).mono fun v J3 lJ3 hv => ⟨_, hv, mk (by rw [fieldT, if_neg e1, if_pos e2, if_neg (by rw [e3]; decide)]; rfl) rfl rfl rfl rfl rfl rfl⟩
   have e2 : t ≠ 2 := by simpa using e2
   refine Br.f (by simpa using e2) (Br.mk (fun e3 => ?_) (fun e3 => ?_))
   · have e3 : t = 10 := by simpa using e3
     exact (ct56 r.val hr.val J hGJ).mono fun v J2 lJ2 hv => ⟨_, hv, mk (by rw [d10 e3]) rfl rfl rfl rfl rfl rfl⟩
   have e3 : t ≠ 10 := by simpa using e3
   refine Br.mk (fun e4 => ?_) (fun e4 => ?_)
   · have e4 : t = 11 := by simpa using e4
     have hsz : (⟨us.toArray⟩ : ByteArray).size = r.fed.length := by show us.toArray.size = _; rw [hus]; simp [u8s]
     refine ⟨us, by rw [hus, u8s, List.length_map]; exact hp.numLen.symm, hnil, hat, (ct55 ⟨us.toArray⟩ (by omega) J).mono fun v J2 lJ2 hv => ⟨_, hv, mk (by rw [d11 e4, hus]; exact congrArg (fun z => (⟨(wordT z).toArray⟩ : ByteArray)) (strL_strB hfb)) rfl rfl rfl rfl rfl rfl⟩⟩
   have e4 : t ≠ 11 := by simpa using e4
   have hnum : ns[0 + t.toNat * 1 + 0]? = some (Value.int IntKind.i64 (numR r t)) := by
    rw [hns]
    rcases (by omega : t = 3 \/ t = 4 \/ t = 5 \/ t = 6 \/ t = 7 \/ t = 8 \/ t = 9) with rfl | rfl | rfl | rfl | rfl | rfl | rfl <;> rfl
   exact ⟨by omega, by omega, _, hnum, (ct57 _ (num_ok hr t) J hGJ).mono fun v J2 lJ2 hv => ⟨_, hv, mk (by rw [dN e2 e3 e4]) rfl rfl rfl rfl rfl rfl⟩⟩
 · have h2 := of_decide_eq_false h2
   intro o cp J2 lJ2 hrow
   have hx : xs = strs (wordsL r) := by rw [hxs, List.take_of_length_le (by omega)]
   have hwb := words_len hr hR;rw [hx] at hrow ⊢
   have hl2 : (strs (wordsL r)).length = (wordsL r).length := by simp [strs]
   rw [hl2]
   exact (ct58 _ o cp J2 hrow (by have := hwb.2; rw [wordsB] at this; omega) (by omega)).mono fun v J3 lJ3 hv => ⟨_, hv, by rw [hQ, hR]; rfl⟩
def zeroEn : En := ⟨0, 0, 0, []⟩
def askE (slot : Int) (r : Rq) : En × Int := if rightR r then (if cleanE ⟨1, slot, 0, writeR r⟩ then (⟨1, slot, 0, writeR r⟩, 0) else (zeroEn, 410)) else (zeroEn, 412)
theorem ct20 (slot : Int) (hsl : i64R slot) (r : Rq) (hr : okRq r) (hnm : r.name.size <= 1000000) (y : Value) (I : Mem) (hy : BySl I y r.fed) (hfl : r.fed.length <= 1000000) :
 Ct Tryz.prog (fnv 20) #[.int .i64 slot, .agg (rqV r y).toArray] I (fun v I' => ∃ z, v = .tuple #[.agg (enV (askE slot r).1 z).toArray, .int .i64 (askE slot r).2] /\ BySl I' z (askE slot r).1.bs) := by
 have hy' := hy;obtain ⟨p, n, c, rfl, hp, hpc, hpm⟩ := hy;obtain ⟨Q, hQ⟩ : ∃ q : Value -> Mem -> Prop, q = fun v I' => ∃ z, v = .tuple #[.agg (enV (askE slot r).1 z).toArray, .int .i64 (askE slot r).2] /\ BySl I' z (askE slot r).1.bs := ⟨_, rfl⟩;rw [<- hQ]
 refine viaR (ct_via (A := { }) Tryz.func20 rfl Tryz.call20 rfl rfl) (Ct Tryz.prog (fnv 51) #[.agg #[.int .u8 r.kind, .int .u8 r.what, .string r.name, .int .i64 r.p3, .int .i64 r.p4, .int .i64 r.p5, .int .i64 r.p6, .int .i64 r.p7, .int .i64 r.p8, .int .i64 r.p9, .int .i64 r.val, .slice p n c]] I fun v a => ∃ b d e f, v = .tuple #[.slice b d e, .int .i64 f] /\ Br (f != 0) (Q (.tuple #[.agg #[.int .u8 0, .int .i64 0, .int .i64 0, .slice none 0 0], .int .i64 412]) a) (Ct Tryz.prog (fnv 32) #[.agg #[.int .u8 1, .int .i64 slot, .int .i64 0, .slice b d e]] a (fun g h => ∃ i, g = .bool i /\ Br (!i) (Q (.tuple #[.agg #[.int .u8 0, .int .i64 0, .int .i64 0, .slice none 0 0], .int .i64 410]) h) (Q (.tuple #[.agg #[.int .u8 1, .int .i64 slot, .int .i64 0, .slice b d e], .int .i64 0]) h)))) (by kernel_rfl) ?_
 refine (ct51 r hr hnm _ I hy' hfl).mono fun v I1 l1 ⟨a, m, d, hv, hs, h1, h2⟩ => ⟨a, m, d, _, hv, Br.mk (fun h => ?_) (fun h => ?_)⟩
 · have h : rightR r = false := by
    cases hR : rightR r with
    | false => rfl
    | true => rw [hR] at h; exact absurd h (by decide)
   have e : askE slot r = (zeroEn, 412) := by rw [askE, h]; rfl
   rw [hQ, e];exact ⟨_, rfl, bysl_nil _⟩
 have hR : rightR r = true := by
  cases hR : rightR r with
  | true => rfl
  | false => rw [hR] at h; exact absurd h (by decide)
 rw [hR] at hs;simp only [if_true] at hs;have hb := write_ok hr hR;refine (ct32 ⟨1, slot, 0, writeR r⟩ (.slice a m d) I1 ⟨a, m, d, rfl, hs, h1, h2⟩ hb).mono fun v I2 l2 hv => ⟨_, hv, Br.mk (fun h => ?_) (fun h => ?_)⟩
 · have hc : cleanE ⟨1, slot, 0, writeR r⟩ = false := by simpa using h
   have e : askE slot r = (zeroEn, 410) := by rw [askE, hR, hc]; rfl
   rw [hQ, e];exact ⟨_, rfl, bysl_nil _⟩
 · have hc : cleanE ⟨1, slot, 0, writeR r⟩ = true := by simpa using h
   have e : askE slot r = (⟨1, slot, 0, writeR r⟩, 0) := by rw [askE, hR, hc]; rfl
   rw [hQ, e];exact ⟨_, rfl, a, m, d, rfl, hs.mono l2, h1, h2⟩
theorem cts_cap {P : Program} {f : FuncId} {first args cap : List SV} {H : List Ent} {I : Mem} {post : SV -> List Ent -> Mem -> Prop} (h : CtS P (.v (fnv f)) (first ++ args ++ cap) H I post) : CtS P (.fn (.func f) first cap) args H I post := by
 intro e hp hO W h1 h2 h3;have h := h e hp hO W h1 h2 h3;simp only [den, denL_eq] at h ⊢;unfold CallV fnv at *;rw [run_semV_func] at *;simpa using h
def nextW : List ByteArray × Bool -> ByteArray × (List ByteArray × Bool)
 | ([], _) => (⟨#[]⟩, ([], false))
 | (w :: r, b) => (w, (r, b))
def WsL (I : Mem) (v : Value) (ws : List ByteArray) : Prop := ∃ p n c, v = .slice p n c /\ SlM I p n 1 (strs ws) /\ n <= c /\ c <= maxLen
theorem WsL.mono {I J : Mem} {v : Value} {ws : List ByteArray} (h : WsL I v ws) (hle : I.le J) : WsL J v ws := by
 obtain ⟨p, n, c, h1, h2, h3⟩ := h;exact ⟨p, n, c, h1, h2.mono hle, h3⟩
theorem sl_drop {I : Mem} {a : Option Addr} {n c k : Nat} {xs : List Value} (h : SlM I a n 1 xs) (hk : k <= n) (hc : n <= c) : SlM I (sladdr a c k 1) (n - k) 1 (xs.drop k) := by
 have hl := h.len
 refine ⟨by rw [List.length_drop]; omega, fun hs => ?_, Nat.le_trans (by omega) h.max, fun j v hj => ?_⟩
 · unfold sladdr at hs
   split at hs
   · omega
   · cases a with
     | none => have := h.nil rfl; omega
     | some ad => cases hs
 · rw [List.getElem?_drop] at hj
   have hlt := (List.getElem?_eq_some_iff.1 hj).1;have hat := h.at_ _ _ hj;unfold sladdr
   rw [if_neg (by omega)]
   cases a with
   | none => have := h.nil rfl; omega
   | some ad =>
    simp only [Option.map_some, Nat.mul_one];simp only [atI, Option.bind_some] at hat ⊢;rw [add_add];exact hat
def wsE (v : Value) (k : Nat) : Ent := ⟨.cells [.v v] 64, some k⟩
def okE (b : Bool) (k : Nat) : Ent := ⟨.cells [.v (.bool b)] 4, some k⟩
theorem cs157 (ws : List ByteArray) (b : Bool) (k1 k2 : Nat) (v : Value) (I : Mem) (h : WsL I v ws) :
 CtS Tryz.prog (.v (fnv 157)) [.ptr 0 0, .ptr 1 0] [wsE v k1, okE b k2] I (fun sv H' I' => ∃ v', sv = .v (.string (nextW (ws, b)).1) /\ H' = [wsE v' k1, okE (nextW (ws, b)).2.2 k2] /\ WsL I' v' (nextW (ws, b)).2.1) := by
 obtain ⟨p, n, c, rfl, hp, hpc, hpm⟩ := h;obtain ⟨Q, hQ⟩ : ∃ q : SV -> List Ent -> Mem -> Prop, q = fun sv H' I' => ∃ v', sv = .v (.string (nextW (ws, b)).1) /\ H' = [wsE v' k1, okE (nextW (ws, b)).2.2 k2] /\ WsL I' v' (nextW (ws, b)).2.1 := ⟨_, rfl⟩;rw [<- hQ]
 refine viaR (ctS_via (A := { }) Tryz.func157 rfl Tryz.call157 [0, 1] rfl) (Br ((n : Int) == 0) (Q (.v (.string ⟨#[]⟩)) [⟨.cells [.v (.slice p n c)] 64, some k1⟩, ⟨.cells [.v (.bool false)] 4, some k2⟩] I) ((0 : Int) <= 0 /\ 0 < (n : Int) /\ p.isSome = true /\ ∃ q, atI I p 0 = some (.string q) /\ (0 : Int) <= 1 /\ 1 <= (n : Int) /\ Q (.v (.string q)) [⟨.cells [.v (.slice (sladdr p c 1 1) (n - 1) (c - 1))] 64, some k1⟩, ⟨.cells [.v (.bool b)] 4, some k2⟩] I)) (by kernel_rfl) ?_
 have hl : (strs ws).length = n := by rw [hp.len, Nat.mul_one]
 refine Br.mk (fun h => ?_) (fun h => ?_)
 · have h : n = 0 := by simpa using h
   have hw : ws = [] := by
    rw [h] at hl;simpa [strs] using hl
   subst hw;rw [hQ];exact ⟨.slice p n c, rfl, rfl, p, n, c, rfl, hp, hpc, hpm⟩
 · have h : n ≠ 0 := by simpa using h
   cases ws with
   | nil => exact absurd hl (by simp [strs]; omega)
   | cons w r =>
    have h0 : atI I p 0 = some (.string w) := hp.at_ 0 _ rfl
    refine ⟨by omega, by omega, hp.isSome (by omega), w, h0, by omega, by omega, ?_⟩
    rw [hQ]
    exact ⟨_, rfl, rfl, _, _, _, rfl, sl_drop (k := 1) hp (by omega) hpc, by omega, by omega⟩
def numW (s : List ByteArray × Bool) : Int × (List ByteArray × Bool) := ((numP (tx (nextW s).1)).1, ((nextW s).2.1, (nextW s).2.2 && (numP (tx (nextW s).1)).2))
def nxE (k : Nat) : Ent := ⟨.cells [.fn (.func 157) [] [.ptr 0 0, .ptr 1 0]] 122, some k⟩
theorem next_size {ws : List ByteArray} {b : Bool} (h : ∀ w ∈ ws, w.size <= 1000000) : (nextW (ws, b)).1.size <= 1000000 /\ ∀ w ∈ (nextW (ws, b)).2.1, w.size <= 1000000 := by
 cases ws with
 | nil => exact ⟨Nat.zero_le _, fun w hw => by cases hw⟩
 | cons w r => exact ⟨h w (by simp), fun x hx => h x (List.mem_cons_of_mem _ hx)⟩
theorem cs158 (ws : List ByteArray) (hws : ∀ w ∈ ws, w.size <= 1000000) (b : Bool) (k1 k2 k3 : Nat) (v : Value) (I : Mem) (hG : Globs I) (h : WsL I v ws) :
 CtS Tryz.prog (.v (fnv 158)) [.ptr 2 0, .ptr 1 0] [wsE v k1, okE b k2, nxE k3] I (fun sv H' I' => ∃ v', sv = .v (.int .i64 (numW (ws, b)).1) /\ H' = [wsE v' k1, okE (numW (ws, b)).2.2 k2, nxE k3] /\ WsL I' v' (numW (ws, b)).2.1) := by
 obtain ⟨Q, hQ⟩ : ∃ q : SV -> List Ent -> Mem -> Prop, q = fun sv H' I' => ∃ v', sv = .v (.int .i64 (numW (ws, b)).1) /\ H' = [wsE v' k1, okE (numW (ws, b)).2.2 k2, nxE k3] /\ WsL I' v' (numW (ws, b)).2.1 := ⟨_, rfl⟩;rw [<- hQ]
 refine viaR (ctS_via (A := { calls := [(7, .lend [0, 1] (.sh .str) [.cells [.sh .sl] 64, .cells [.sh .bool] 4])] }) Tryz.func158 rfl Tryz.call158 [0, 1, 2] rfl) (CtS Tryz.prog (.fn (.func 157) [] [.ptr 0 0, .ptr 1 0]) [] [⟨.cells [.v v] 64, some k1⟩, ⟨.cells [.v (.bool b)] 4, some k2⟩] I fun s H a => ∃ q c n d e, s = .v (.string q) /\ H = [⟨.cells [.v (.slice c n d)] 64, some k1⟩, ⟨.cells [.v (.bool e)] 4, some k2⟩] /\ Ct Tryz.prog (fnv 159) #[.string q, .int .i64 10, .int .i64 64] a fun f g => ∃ i x, f = .tuple #[.int .i64 i, x] /\ Br e ((x = .nilIface \/ ∃ t p, x = .iface t p) /\ Q (.v (.int .i64 i)) [⟨.cells [.v (.slice c n d)] 64, some k1⟩, ⟨.cells [.v (.bool (isNilI x))] 4, some k2⟩, ⟨.cells [.fn (.func 157) [] [.ptr 0 0, .ptr 1 0]] 122, some k3⟩] g) (Q (.v (.int .i64 i)) [⟨.cells [.v (.slice c n d)] 64, some k1⟩, ⟨.cells [.v (.bool false)] 4, some k2⟩, ⟨.cells [.fn (.func 157) [] [.ptr 0 0, .ptr 1 0]] 122, some k3⟩] g)) (by kernel_rfl) ?_
 refine (cts_cap (first := []) (args := []) (cap := [.ptr 0 0, .ptr 1 0]) (cs157 ws b k1 k2 v I h)).mono fun sv H' I1 l1 ⟨v', hs, hH, hw⟩ => ?_;obtain ⟨p, n, c, rfl, hp, hpc, hpm⟩ := hw;have hsz := next_size (b := b) hws;refine ⟨_, _, _, _, _, hs, hH, (ct159 _ hsz.1 I1 (hG.mono l1)).mono fun u I2 l2 ⟨e, hu, he⟩ => ⟨_, _, hu, ?_⟩⟩;have hb : (numW (ws, b)).2.2 = ((nextW (ws, b)).2.2 && (numP (tx (nextW (ws, b)).1)).2) := rfl;have hW : WsL I2 (.slice p n c) (numW (ws, b)).2.1 := ⟨p, n, c, rfl, hp.mono l2, hpc, hpm⟩;refine Br.mk (fun h1 => ?_) (fun h1 => ?_)
 · have hn : isNilI e = (numP (tx (nextW (ws, b)).1)).2 /\ (e = .nilIface \/ ∃ t p, e = .iface t p) := by
    unfold errV at he
    cases hc : (numP (tx (nextW (ws, b)).1)).2 with
    | true => rw [hc] at he; simp only [if_true] at he; subst he; exact ⟨rfl, .inl rfl⟩
    | false =>
     rw [hc] at he;simp only [Bool.false_eq_true, if_false] at he;obtain ⟨t, q, rfl⟩ := he;exact ⟨rfl, .inr ⟨_, _, rfl⟩⟩
   refine ⟨hn.2, ?_⟩;rw [hQ]
   exact ⟨_, rfl, by rw [hb, h1, Bool.true_and, hn.1]; rfl, hW⟩
 · rw [hQ]
   exact ⟨_, rfl, by rw [hb, h1, Bool.false_and]; rfl, hW⟩
def tickB : Tx := [116, 105, 99, 107]
def pickB : Tx := [112, 105, 99, 107]
def rawB : Tx := [114, 97, 119]
def askB : Tx := [97, 115, 107]
def lineT (e : En) : Tx :=
 if cleanE e = false then []
 else if e.kind = 2 then tickB
 else if e.kind = 3 then pickB ++ 32 :: Lib.itoa e.n
 else if (readR e.bs).2 = 0 then askB ++ 32 :: (Lib.itoa e.slot ++ 32 :: tx (wordsB (readR e.bs).1))
 else rawB ++ 32 :: (Lib.itoa e.slot ++ 32 :: wordT e.bs)
def lineE (e : En) : Int := if cleanE e then 0 else 410
theorem strT_add (a b : Tx) : strT a ++ strT b = strT (a ++ b) := by
 apply ByteArray.ext; simp [strT]
theorem clean_len {e : En} (h : cleanE e = true) : e.bs.length <= 16384 /\ (e.kind = 1 \/ e.kind = 2 \/ e.kind = 3) := by
 unfold cleanE at h
 split at h
 · rename_i hk
   simp only [Bool.and_eq_true, decide_eq_true_eq] at h;exact ⟨h.2.2, .inl hk⟩
 · split at h
   · rename_i hk
     have h := of_decide_eq_true h
     rw [h]; exact ⟨by decide, .inr (.inl rfl)⟩
   · split at h
     · rename_i hk
       simp only [Bool.and_eq_true, decide_eq_true_eq] at h
       rw [h.2]; exact ⟨by simp, .inr (.inr rfl)⟩
     · cases h
theorem sz1 (a : UInt8) : (⟨#[a]⟩ : ByteArray).size = 1 := rfl
theorem sz3 (a b c : UInt8) : (⟨#[a, b, c]⟩ : ByteArray).size = 3 := rfl
theorem str_line (k x w : Tx) : strT k ++ (strT [32] ++ strT x ++ strT [32]) ++ strT w = strT (k ++ 32 :: (x ++ 32 :: w)) := by
 rw [strT_add, strT_add, strT_add, strT_add]; simp
theorem ct22 (e : En) (hk : okEn e) (y : Value) (I : Mem) (hG : Globs I) (hy : BySl I y e.bs) :
 Ct Tryz.prog (fnv 22) #[.agg (enV e y).toArray] I (fun v _ => v = .tuple #[.string (strT (lineT e)), .int .i64 (lineE e)]) := by
 have hy' := hy;obtain ⟨p, n, c, rfl, hp, hpc, hpm⟩ := hy;obtain ⟨Q, hQ⟩ : ∃ q : Value, q = .tuple #[.string (strT (lineT e)), .int .i64 (lineE e)] := ⟨_, rfl⟩;rw [<- hQ]
 refine viaR (ct_via (A := { }) Tryz.func22 rfl Tryz.call22 rfl rfl) (Ct Tryz.prog (fnv 32) #[.agg #[.int .u8 e.kind, .int .i64 e.slot, .int .i64 e.n, .slice p n c]] I fun (v : Value) (a : Mem) => ∃ (b : Bool), v = .bool b /\ Br (!b) (Value.tuple #[.string ⟨#[]⟩, .int .i64 410] = Q) (Br (e.kind == 2) (Value.tuple #[.string ⟨#[116, 105, 99, 107]⟩, .int .i64 0] = Q) (Br (e.kind == 3) (Ct Tryz.prog (fnv 57) #[.int .i64 e.n] a (fun (d : Value) (f : Mem) => ∃ (q : ByteArray), d = .string q /\ 5 + q.size <= 4611686018427387904 /\ Value.tuple #[.string (⟨#[112, 105, 99, 107, 32]⟩ ++ q), .int .i64 0] = Q)) (Ct Tryz.prog (fnv 57) #[.int .i64 e.slot] a (fun (d : Value) (f : Mem) => ∃ (q : ByteArray), d = .string q /\ 1 + q.size <= 4611686018427387904 /\ ByteArray.size (⟨#[32]⟩ ++ q) + 1 <= 4611686018427387904 /\ Ct Tryz.prog (fnv 23) #[.slice p n c] f fun (g : Value) (h : Mem) => ∃ (i j : Int) (k : ByteArray) (l m o r s t u w : Int) (x : Option Addr) (y z : Nat) (n1 : Int), g = .tuple #[.agg #[.int .u8 i, .int .u8 j, .string k, .int .i64 l, .int .i64 m, .int .i64 o, .int .i64 r, .int .i64 s, .int .i64 t, .int .i64 u, .int .i64 w, .slice x y z], .int .i64 n1] /\ Br (n1 == 0) (Ct Tryz.prog (fnv 21) #[.agg #[.int .u8 i, .int .u8 j, .string k, .int .i64 l, .int .i64 m, .int .i64 o, .int .i64 r, .int .i64 s, .int .i64 t, .int .i64 u, .int .i64 w, .slice x y z]] h (fun (v1 : Value) (I1 : Mem) => ∃ (q1 : ByteArray) (n2 : Int), v1 = .tuple #[.string q1, .int .i64 n2] /\ 3 + ByteArray.size (⟨#[32]⟩ ++ q ++ ⟨#[32]⟩) <= 4611686018427387904 /\ ByteArray.size (⟨#[97, 115, 107]⟩ ++ (⟨#[32]⟩ ++ q ++ ⟨#[32]⟩)) + q1.size <= 4611686018427387904 /\ Value.tuple #[.string (⟨#[97, 115, 107]⟩ ++ (⟨#[32]⟩ ++ q ++ ⟨#[32]⟩) ++ q1), .int .i64 n2] = Q)) (3 + ByteArray.size (⟨#[32]⟩ ++ q ++ ⟨#[32]⟩) <= 4611686018427387904 /\ ∃ (q1 : List UInt8), q1.length = n /\ (p = none -> n = 0) /\ (∀ (j1 : Nat) (b1 : UInt8), q1[j1]? = some b1 -> atI h p j1 = some (.int .u8 (b1.toNat : Int))) /\ Ct Tryz.prog (fnv 55) #[.string ⟨q1.toArray⟩] h fun (v1 : Value) (I1 : Mem) => ∃ (q2 : ByteArray), v1 = .string q2 /\ ByteArray.size (⟨#[114, 97, 119]⟩ ++ (⟨#[32]⟩ ++ q ++ ⟨#[32]⟩)) + q2.size <= 4611686018427387904 /\ Value.tuple #[.string (⟨#[114, 97, 119]⟩ ++ (⟨#[32]⟩ ++ q ++ ⟨#[32]⟩) ++ q2), .int .i64 0] = Q)))))) (by kernel_rfl) ?_
 have hnum : ∀ {z : Int}, i64R z -> (strT (Lib.itoa z)).size <= 21 := fun h => by rw [strT_size]; exact itoa_len h
 refine (ct32 e _ I hy' hk.bs).mono fun v I1 l1 hv => ⟨_, hv, Br.mk (fun h => ?_) (fun h => Br.mk (fun h2 => ?_) (fun h2 => Br.mk (fun h3 => ?_) (fun h3 => ?_)))⟩
 · have h : cleanE e = false := by simpa using h
   rw [hQ, lineT, lineE, if_pos h, h]; rfl
 · have h : cleanE e = true := by simpa using h
   have h2 : e.kind = 2 := by simpa using h2
   rw [hQ, lineT, lineE, if_neg (by rw [h]; decide), if_pos h2, h]; rfl
 · have h : cleanE e = true := by simpa using h
   have h2 : e.kind ≠ 2 := by simpa using h2
   have h3 : e.kind = 3 := by simpa using h3
   refine (ct57 e.n hk.n I1 (hG.mono l1)).mono fun v I2 l2 hv => ⟨_, hv, by have := hnum hk.n; omega, ?_⟩
   rw [hQ, lineT, lineE, if_neg (by rw [h]; decide), if_neg h2, if_pos h3, h]
   rfl
 · have h : cleanE e = true := by simpa using h
   have h2 : e.kind ≠ 2 := by simpa using h2
   have h3 : e.kind ≠ 3 := by simpa using h3
   obtain ⟨hbl, _⟩ := clean_len h;have hn := hp.numLen;have g1 := hnum hk.slot
   refine (ct57 e.slot hk.slot I1 (hG.mono l1)).mono fun v I2 l2 hv => ⟨_, hv, by omega, by rw [ByteArray.size_append]; show 1 + _ + 1 <= _; omega, ?_⟩
   have l12 := Mem.le_trans l1 l2
   refine (ct23 e.bs hk.bs p n c I2 (hp.mono l12) (by omega) hpc hpm).mono fun v I3 l3 ⟨y2, hv, hy2, _⟩ => ?_
   obtain ⟨p2, n2, c2, rfl, hp2, hpc2, hpm2⟩ := hy2;refine ⟨_, _, _, _, _, _, _, _, _, _, _, _, _, _, _, hv, Br.mk (fun h4 => ?_) (fun h4 => ?_)⟩
   · have h4 : (readR e.bs).2 = 0 := by simpa using h4
     have hacc : accB e.bs = true := by
      cases ha : accB e.bs with
      | true => rfl
      | false => rw [read_bad ha] at h4; cases h4
     obtain ⟨ho, hr, _, _⟩ := read_back hk.bs hacc;obtain ⟨_, hn1, hf1, _⟩ := right_tag hr;have hfb : byteL (readR e.bs).1.fed := ho.fed;have hwl := (words_len ho hr).2
     refine (ct21 (readR e.bs).1 ho (by omega) _ I3 (hG.mono (Mem.le_trans l12 l3)) ⟨p2, n2, c2, rfl, hp2, hpc2, hpm2⟩ (by omega) hfb).mono fun v I4 l4 hv => ?_
     rw [hr] at hv;simp only [if_true] at hv
     refine ⟨_, _, hv, by simp only [ByteArray.size_append, sz1]; omega, by simp only [ByteArray.size_append, sz1, sz3]; omega, ?_⟩
     rw [hQ, lineT, lineE, if_neg (by rw [h]; decide), if_neg h2, if_neg h3, if_pos h4, h]
     refine congrArg (fun z => Value.tuple #[.string z, .int .i64 0]) ?_;exact str_line askB _ _
   · have h4 : (readR e.bs).2 ≠ 0 := by simpa using h4
     obtain ⟨us, hus, hnil, hat⟩ : ∃ us : List UInt8, us = u8s e.bs /\ (p = none -> n = 0) /\ ∀ (q : Nat) (b : UInt8), us[q]? = some b -> atI I3 p q = some (Value.int IntKind.u8 ↑b.toNat) := ⟨_, rfl, (u8s_at hk.bs (hp.mono (Mem.le_trans l12 l3))).2⟩
     have hsz : (⟨us.toArray⟩ : ByteArray).size = e.bs.length := by show us.toArray.size = _; rw [hus]; simp [u8s]
     refine ⟨by simp only [ByteArray.size_append, sz1]; omega, us, by rw [hus, u8s, List.length_map]; exact hn.symm, hnil, hat, (ct55 ⟨us.toArray⟩ (by omega) I3).mono fun v I4 l4 hv => ⟨_, hv, ?_, ?_⟩⟩
     · have : (⟨(wordT (strL ⟨us.toArray⟩)).toArray⟩ : ByteArray).size <= 40000 := by
        show (wordT (strL ⟨us.toArray⟩)).toArray.size <= _
        rw [List.size_toArray, word_len, strL_len]; omega
       simp only [ByteArray.size_append, sz1, sz3]; omega
     · rw [hQ, lineT, lineE, if_neg (by rw [h]; decide), if_neg h2, if_neg h3, if_neg h4, h]
       refine congrArg (fun z => Value.tuple #[.string z, .int .i64 0]) ?_
       have : wordT (strL ⟨us.toArray⟩) = wordT e.bs := by rw [hus]; exact congrArg wordT (strL_strB hk.bs)
       rw [this];exact str_line rawB _ _
def setN (r : Rq) (t n : Int) : Rq := if t = 3 then { r with p3 := n } else if t = 4 then { r with p4 := n } else if t = 5 then { r with p5 := n } else if t = 6 then { r with p6 := n } else if t = 7 then { r with p7 := n } else if t = 8 then { r with p8 := n } else { r with p9 := n }
abbrev WS := List ByteArray × Bool
def stepW (t : Int) (r : Rq) (w : WS) : Rq × WS :=
 if t = 1 then (r, w)
 else if t = 2 then (if nameB (strL (nextW w).1) then ({ r with name := (nextW w).1 }, (nextW w).2) else ({ r with name := strB ((unwordT (tx (nextW w).1)).getD []) }, ((nextW w).2.1, (nextW w).2.2 && (unwordT (tx (nextW w).1)).isSome)))
 else if t = 10 then ({ r with val := (numW w).1 }, (numW w).2)
 else if t = 11 then ({ r with fed := (unwordT (tx (nextW w).1)).getD [] }, ((nextW w).2.1, (nextW w).2.2 && (unwordT (tx (nextW w).1)).isSome))
 else (setN r t (numW w).1, (numW w).2)
def runW : List Int -> Rq -> WS -> Rq × WS
 | [], r, w => (r, w)
 | t :: ts, r, w => if w.2 = false then (r, w) else runW ts (stepW t r w).1 (stepW t r w).2
def askK (ws : List ByteArray) : Int := kindS nameS (nextW (ws, true)).1
def askQ (ws : List ByteArray) : Int := if askK ws = 7 then kindS askS (nextW (nextW (ws, true)).2).1 else 0
def askW1 (ws : List ByteArray) : WS := if askK ws = 7 then (nextW (nextW (ws, true)).2).2 else (nextW (ws, true)).2
def askW (ws : List ByteArray) : Rq × Bool :=
 let q := runW ((tagL (askK ws) (askQ ws)).getD []) { zeroRq with kind := askK ws, what := askQ ws } ((askW1 ws).1, (askW1 ws).2 && (tagL (askK ws) (askQ ws)).isSome)
 (q.1, q.2.2 && q.2.1.isEmpty)
def AskI (ws : List ByteArray) (I : Mem) (j : Int) (wv : Value) (b : Bool) (cs : List Value) : Prop :=
 ∃ (r : Rq) (y : Value) (l : List ByteArray), 0 <= j /\ cs = rqV r y /\ BySl I y r.fed /\ WsL I wv l /\ (∀ w ∈ l, w.size <= 1000000) /\
  askW ws = (let q := runW (((tagL (askK ws) (askQ ws)).getD []).drop j.toNat) r (l, b); (q.1, q.2.2 && q.2.1.isEmpty))
def FirstI (ws : List ByteArray) (I : Mem) (wv : Value) (b : Bool) (k q : Int) : Prop :=
 ∃ l : List ByteArray, k = askK ws /\ q = askQ ws /\ WsL I wv l /\ (∀ w ∈ l, w.size <= 1000000) /\ askW1 ws = (l, b)
theorem runW_off (ts : List Int) (r : Rq) (l : List ByteArray) : runW ts r (l, false) = (r, (l, false)) := by
 cases ts <;> rfl
theorem runW_on (t : Int) (ts : List Int) (r : Rq) (l : List ByteArray) : runW (t :: ts) r (l, true) = runW ts (stepW t r (l, true)).1 (stepW t r (l, true)).2 := rfl
theorem askL_rng (w : Int) : ∀ t ∈ (askL w).getD [], 1 <= t /\ t <= 11 := by
 unfold askL;intro t ht
 repeat' split at ht
 all_goals simp at ht
 all_goals omega
theorem tagL_rng (k w : Int) : ∀ t ∈ (tagL k w).getD [], 1 <= t /\ t <= 11 := by
 unfold tagL;intro t ht;have ha := askL_rng w
 repeat' split at ht
 all_goals first
  | (simp at ht; done)
  | (simp at ht; omega)
  | (cases hq : askL w with
   | none => rw [hq] at ht; simp at ht
   | some q =>
    rw [hq] at ht ha;simp at ht
    rcases ht with rfl | ht
    · omega
    · exact ha t (by simpa using ht))
theorem tagL_len (k w : Int) : ((tagL k w).getD []).length <= 100 := by
 have ha : ((askL w).getD []).length <= 99 := by
  unfold askL
  repeat' split
  all_goals simp
 unfold tagL
 repeat' split
 all_goals first
  | (simp; done)
  | (cases hq : askL w with
   | none => simp
   | some q => rw [hq] at ha; simp at ha ⊢; omega)
theorem num_size {wl : List ByteArray} {b : Bool} (h : ∀ w ∈ wl, w.size <= 1000000) : ∀ w ∈ (numW (wl, b)).2.1, w.size <= 1000000 := (next_size (b := b) h).2
theorem unw_bytes {s : Tx} {o : Option (List Int)} (h : unwordT s = o) : byteL (o.getD []) := by
 cases o with
 | none => exact byteL_nil
 | some l => exact (unword_spec h).1
theorem strB_len (l : List Int) : (strB l).size = l.length := by show (u8s l).toArray.size = _; simp [u8s]
theorem unw_size {w : ByteArray} {o : Option (List Int)} (h : unwordT (tx w) = o) (hs : w.size <= 1000000) : (strB (o.getD [])).size <= 1000000 := by
 rw [strB_len]
 cases o with
 | none => exact Nat.zero_le _
 | some l =>
  have h2 := congrArg List.length (unword_spec h).2;rw [wordT, List.length_cons, hex_len] at h2;have h3 : (tx w).length = w.size := Array.length_toList;simp only [Option.getD_some];omega
theorem bysl_str {I : Mem} {a : Option Addr} {c : Nat} {L : List Int} (hL : byteL L) (ha : a.isSome = true) (hn : (strB L).size <= 1000000) (hc : (strB L).size <= c) (hm : c <= 9223372036854775807)
 (h : ∀ (j : Nat) (b : UInt8), (strB L).data.toList[j]? = some b -> atI I a j = some (Value.int .u8 b.toNat)) : BySl I (.slice a (strB L).size c) L := by
 refine ⟨_, _, _, rfl, ⟨?_, fun hx => ?_, by simp only [maxLen]; omega, fun j v hj => ?_⟩, hc, hm⟩
 · rw [ints_len, strB_len]; omega
 · rw [hx] at ha; cases ha
 · rw [<- ints_u8s hL, List.getElem?_map] at hj
   cases hq : (u8s L)[j]? with
   | none => rw [hq] at hj; cases hj
   | some b =>
    rw [hq] at hj;cases hj;exact h j b hq
set_option maxHeartbeats 4000000 in
theorem ct116 (ws : List ByteArray) (hws : ∀ w ∈ ws, w.size <= 1000000) (v : Value) (I : Mem) (hG : Globs I) (h : WsL I v ws) :
 Ct Tryz.prog (fnv 116) #[v] I (fun u I' => ∃ y, u = .tuple #[.agg (rqV (askW ws).1 y).toArray, .bool (askW ws).2] /\ BySl I' y (askW ws).1.fed) := by
 obtain ⟨p, n, c, rfl, hp, hpc, hpm⟩ := h;obtain ⟨Q, hQ⟩ : ∃ q : Value -> Mem -> Prop, q = fun u I' => ∃ y, u = .tuple #[.agg (rqV (askW ws).1 y).toArray, .bool (askW ws).2] /\ BySl I' y (askW ws).1.fed := ⟨_, rfl⟩;obtain ⟨AI, hAI⟩ : ∃ f, f = AskI ws := ⟨_, rfl⟩;obtain ⟨FI, hFI⟩ : ∃ f, f = FirstI ws := ⟨_, rfl⟩;obtain ⟨RI, hRI⟩ : ∃ f : Bool -> Prop, f = fun b => b = ((askW1 ws).2 && (tagL (askK ws) (askQ ws)).isSome) := ⟨_, rfl⟩;rw [<- hQ]
 refine viaR (ct_via (A := { calls := [(18, .lend [0, 2] (.sh .str) [.cells [.sh .sl] 64, .cells [.sh .bool] 4]), (25, .lend [0, 2] (.sh .str) [.cells [.sh .sl] 64, .cells [.sh .bool] 4]), (68, .lend [0, 2] (.sh .str) [.cells [.sh .sl] 64, .cells [.sh .bool] 4]), (94, .lend [0, 2] (.sh .str) [.cells [.sh .sl] 64, .cells [.sh .bool] 4]), (61, .lend [0, 2, 3] (.sh (.int .i64)) [.cells [.sh .sl] 64, .cells [.sh .bool] 4, .same]), (88, .lend [0, 2, 3] (.sh (.int .i64)) [.cells [.sh .sl] 64, .cells [.sh .bool] 4, .same]), (53, .cs [1, 2, 3, 4, 5, 6, 7, 8, 9, 10, 11])], cuts := [(7, ⟨[(1, .keep), (2, .keep), (4, .keep), (5, .keep), (6, .keep), (7, .keep)], [(0, .cells [.sh .sl]), (1, .keep), (2, .cells [.sh .bool]), (3, .keep), (4, .cells [.sh (.int .u8), .sh (.int .u8), .keep, .keep, .keep, .keep, .keep, .keep, .keep, .keep, .keep, .keep])], [], fun vals _ I' _ => match vals with | [wv, .bool b, .int .u8 k, .int .u8 q] => FI I' wv b k q | _ => False, fun _ _ => 0⟩), (9, ⟨[(1, .keep), (2, .keep), (4, .keep), (5, .keep), (6, .keep), (7, .keep), (8, .keep)], [(0, .keep), (1, .keep), (2, .cells [.sh .bool]), (3, .keep), (4, .keep)], [], fun vals _ _ _ => match vals with | [.bool b] => RI b | _ => False, fun _ _ => 0⟩)], loops := [(11, ⟨[(1, .keep), (2, .keep), (4, .keep), (5, .keep), (6, .keep), (7, .keep), (10, .keep), (48, .keep), (49, .keep), (50, .sh (.int .i64))], [(0, .cells [.sh .sl]), (1, .keep), (2, .cells [.sh .bool]), (3, .cells [.keep]), (4, .cells cellsA), (5, .keep)], [], fun vals _ I' _ => match vals with | .int .i64 j :: wv :: .bool b :: cs => AI I' j wv b cs | _ => False, fun vals _ => match vals with | .int .i64 j :: _ => (100 - j).toNat | _ => 0⟩)] }) Tryz.func116 rfl Tryz.call116 rfl rfl) (let E2 := Ent.mk (.cells [.v (.pointer none), .v (.pointer none), .v (.pointer none), .ptr 4 3, .ptr 4 4, .ptr 4 5, .ptr 4 6, .ptr 4 7, .ptr 4 8, .ptr 4 9] 215) none
  let E4 := [SV.ptr 2 0]
  let E5 := SV.v (.int .i64 0)
  let E6 := SV.ptr 0 0 :: E4
  let E7 := SV.ptr 3 0 :: E4
  let E8 := fun (x : Option Addr) (a : Nat) (b : Nat) (d : Nat) (e : Bool) (f : Nat) => [⟨.cells [.v (.slice x a b)] 64, some d⟩, ⟨.cells [.v (.bool e)] 4, some f⟩]
  let E9 := [SV.ptr 2 0, .ptr 1 0]
  let E10 := [SV.ptr 0 0, .ptr 1 0]
  let E1 := Ent.mk (.cells [.v (.int .u8 0), .v (.int .u8 0), .v (.string ⟨#[]⟩), E5, E5, E5, E5, E5, E5, E5, E5, .v (.slice none 0 0)] 26) none
  let E3 := fun (x : Option Addr) (a : Nat) (b : Nat) (d : Nat) (e : Bool) (f : Nat) (g : Nat) => [⟨.cells [.v (.slice x a b)] 64, some d⟩, ⟨.cells [.v (.bool e)] 4, some f⟩, ⟨.cells [.fn (.func 157) [] E10] 122, some g⟩]
  ∀ (b a : Nat), CtS Tryz.prog (.fn (.func 157) [] E10) [] [⟨.cells [.v (.slice p n c)] 64, some b⟩, ⟨.cells [.v (.bool true)] 4, some a⟩] I fun s H d => ∃ q e f g h, s = .v (.string q) /\ H = E8 e f g b h a /\ Ct Tryz.prog (fnv 160) #[.string q, .func (.func 27) #[] #[]] d fun v i => ∃ j, v = .int .u8 j /\ Br (j == 7) (CtS Tryz.prog (.fn (.func 157) [] E10) [] (E8 e f g b h a) i (fun k l m => ∃ o r t u w, k = .v (.string o) /\ l = E8 r t u b w a /\ Ct Tryz.prog (fnv 160) #[.string o, .func (.func 53) #[] #[]] m fun x y => ∃ z, x = .int .u8 z /\ Rf E1 /\ Rf (Ent.mk (.cells [.fn (.func 157) [] E6] 122) none) /\ Rf (SV.ptr 0 0) /\ Rf (SV.ptr 1 0) /\ Rf (SV.ptr 2 0) /\ Rf (SV.ptr 3 0) /\ Rf (SV.fn (.func 158) [] E7) /\ Rf (SV.ptr 4 0) /\ Rf (some b) /\ Rf (some a) /\ Rf (none : Option Nat) /\ Rf (SV.v (.string ⟨#[]⟩)) /\ Rf E5 /\ Rf E5 /\ Rf E5 /\ Rf E5 /\ Rf E5 /\ Rf E5 /\ Rf E5 /\ Rf E5 /\ Rf (SV.v (.slice none 0 0)) /\ FI y (.slice r t u) w j z)) (Rf E1 /\ Rf (Ent.mk (.cells [.fn (.func 157) [] E6] 122) none) /\ Rf (SV.ptr 0 0) /\ Rf (SV.ptr 1 0) /\ Rf (SV.ptr 2 0) /\ Rf (SV.ptr 3 0) /\ Rf (SV.fn (.func 158) [] E7) /\ Rf (SV.ptr 4 0) /\ Rf (some b) /\ Rf (some a) /\ Rf (none : Option Nat) /\ Rf (SV.v (.string ⟨#[]⟩)) /\ Rf E5 /\ Rf E5 /\ Rf E5 /\ Rf E5 /\ Rf E5 /\ Rf E5 /\ Rf E5 /\ Rf E5 /\ Rf (SV.v (.slice none 0 0)) /\ FI i (.slice e f g) h j 0) /\ ∀ (k : Mem), Mem -> i.le k -> ∀ (l : Option Addr) (m o : Nat) (r : Bool) (t u : Int), FI k (.slice l m o) r t u -> Ct Tryz.prog (fnv 28) #[.int .u8 t, .int .u8 u] k fun w x => ∃ y z c1 b1, w = .tuple #[.slice y z c1, .bool b1] /\ Br r (Rf (Ent.mk (.cells [.v (.slice l m o)] 64) (some b)) /\ Rf E1 /\ Rf (Ent.mk (.cells [.fn (.func 157) [] E6] 122) none) /\ Rf (Ent.mk (.cells [.v (.int .u8 t), .v (.int .u8 u), .v (.string ⟨#[]⟩), E5, E5, E5, E5, E5, E5, E5, E5, .v (.slice none 0 0)] 26) none) /\ Rf (SV.ptr 0 0) /\ Rf (SV.ptr 1 0) /\ Rf (SV.ptr 2 0) /\ Rf (SV.ptr 3 0) /\ Rf (SV.fn (.func 158) [] E7) /\ Rf (SV.ptr 4 0) /\ Rf (SV.v (.slice y z c1)) /\ Rf (some a) /\ RI b1) (Rf (Ent.mk (.cells [.v (.slice l m o)] 64) (some b)) /\ Rf E1 /\ Rf (Ent.mk (.cells [.fn (.func 157) [] E6] 122) none) /\ Rf (Ent.mk (.cells [.v (.int .u8 t), .v (.int .u8 u), .v (.string ⟨#[]⟩), E5, E5, E5, E5, E5, E5, E5, E5, .v (.slice none 0 0)] 26) none) /\ Rf (SV.ptr 0 0) /\ Rf (SV.ptr 1 0) /\ Rf (SV.ptr 2 0) /\ Rf (SV.ptr 3 0) /\ Rf (SV.fn (.func 158) [] E7) /\ Rf (SV.ptr 4 0) /\ Rf (SV.v (.slice y z c1)) /\ Rf (some a) /\ RI false) /\ ∀ (I1 : Mem), Mem -> x.le I1 -> ∀ (b2 : Bool), RI b2 -> (Rf E1 /\ Rf E2 /\ Rf (SV.ptr 0 0) /\ Rf (SV.ptr 1 0) /\ Rf (SV.ptr 2 0) /\ Rf (SV.ptr 3 0) /\ Rf (SV.fn (.func 158) [] E7) /\ Rf (SV.ptr 4 0) /\ Rf (SV.ptr 5 0) /\ Rf (SV.v (.slice y z c1)) /\ Rf (SV.v (.int .i64 (z : Int))) /\ Rf (some b) /\ Rf (some a) /\ Rf (none : Option Nat) /\ Rf (SV.fn (.func 157) [] E6) /\ Rf (none : Option Nat) /\ AI I1 0 (.slice l m o) b2 [.int .u8 t, .int .u8 u, .string ⟨#[]⟩, .int .i64 0, .int .i64 0, .int .i64 0, .int .i64 0, .int .i64 0, .int .i64 0, .int .i64 0, .int .i64 0, .slice none 0 0]) /\ ∀ (I2 : Mem), Mem -> I1.le I2 -> ∀ (n1 : Int) (a1 : Option Addr) (n2 c2 : Nat) (b3 : Bool) (n3 n4 : Int) (q1 : ByteArray) (n5 n6 n7 n8 n9 n10 n11 n12 : Int) (a2 : Option Addr) (n13 c3 : Nat), AI I2 n1 (.slice a1 n2 c2) b3 [.int .u8 n3, .int .u8 n4, .string q1, .int .i64 n5, .int .i64 n6, .int .i64 n7, .int .i64 n8, .int .i64 n9, .int .i64 n10, .int .i64 n11, .int .i64 n12, .slice a2 n13 c3] -> Br (decide (n1 < (z : Int))) (0 <= n1 /\ n1 < (z : Int) /\ y.isSome = true /\ ∃ n14, atI I2 y (n1.toNat * 1 + 0) = some (.int .i64 n14) /\ (n14 = 1 \/ n14 = 2 \/ n14 = 3 \/ n14 = 4 \/ n14 = 5 \/ n14 = 6 \/ n14 = 7 \/ n14 = 8 \/ n14 = 9 \/ n14 = 10 \/ n14 = 11) /\ (n14 = 1 -> Br (!b3) (Br b3 (Q (.tuple #[.agg #[.int .u8 n3, .int .u8 n4, .string q1, .int .i64 n5, .int .i64 n6, .int .i64 n7, .int .i64 n8, .int .i64 n9, .int .i64 n10, .int .i64 n11, .int .i64 n12, .slice a2 n13 c3], .bool ((n2 : Int) == 0)]) I2) (Q (.tuple #[.agg #[.int .u8 n3, .int .u8 n4, .string q1, .int .i64 n5, .int .i64 n6, .int .i64 n7, .int .i64 n8, .int .i64 n9, .int .i64 n10, .int .i64 n11, .int .i64 n12, .slice a2 n13 c3], .bool false]) I2)) (Wr .i64 (n1 + 1) (fun c4 => Rf E1 /\ Rf E2 /\ Rf (SV.ptr 0 0) /\ Rf (SV.ptr 1 0) /\ Rf (SV.ptr 2 0) /\ Rf (SV.ptr 3 0) /\ Rf (SV.fn (.func 158) [] E7) /\ Rf (SV.ptr 4 0) /\ Rf (SV.ptr 5 0) /\ Rf (SV.v (.slice y z c1)) /\ Rf (SV.v (.int .i64 (z : Int))) /\ Rf (some b) /\ Rf (some a) /\ Rf (none : Option Nat) /\ Rf (SV.fn (.func 157) [] E6) /\ Rf (none : Option Nat) /\ AI I2 c4 (.slice a1 n2 c2) b3 [.int .u8 n3, .int .u8 n4, .string q1, .int .i64 n5, .int .i64 n6, .int .i64 n7, .int .i64 n8, .int .i64 n9, .int .i64 n10, .int .i64 n11, .int .i64 n12, .slice a2 n13 c3] /\ Int.toNat (100 - c4) < Int.toNat (100 - n1)))) /\ (n14 = 2 -> Br (!b3) (Br b3 (Q (.tuple #[.agg #[.int .u8 n3, .int .u8 n4, .string q1, .int .i64 n5, .int .i64 n6, .int .i64 n7, .int .i64 n8, .int .i64 n9, .int .i64 n10, .int .i64 n11, .int .i64 n12, .slice a2 n13 c3], .bool ((n2 : Int) == 0)]) I2) (Q (.tuple #[.agg #[.int .u8 n3, .int .u8 n4, .string q1, .int .i64 n5, .int .i64 n6, .int .i64 n7, .int .i64 n8, .int .i64 n9, .int .i64 n10, .int .i64 n11, .int .i64 n12, .slice a2 n13 c3], .bool false]) I2)) (CtS Tryz.prog (.fn (.func 157) [] E10) [] (E8 a1 n2 c2 b b3 a) I2 (fun s1 H1 I3 => ∃ q2 a3 n15 c4 b4, s1 = .v (.string q2) /\ H1 = E8 a3 n15 c4 b b4 a /\ Ct Tryz.prog (fnv 54) #[.string q2] I3 fun v1 I4 => ∃ b5, v1 = .bool b5 /\ Br (!b5) (Ct Tryz.prog (fnv 115) #[.string q2] I4 (fun v2 I5 => ∃ q3 b6, v2 = .tuple #[.string q3, .bool b6] /\ Br b4 (Wr .i64 (n1 + 1) (fun c5 => Rf E1 /\ Rf E2 /\ Rf (SV.ptr 0 0) /\ Rf (SV.ptr 1 0) /\ Rf (SV.ptr 2 0) /\ Rf (SV.ptr 3 0) /\ Rf (SV.fn (.func 158) [] E7) /\ Rf (SV.ptr 4 0) /\ Rf (SV.ptr 5 0) /\ Rf (SV.v (.slice y z c1)) /\ Rf (SV.v (.int .i64 (z : Int))) /\ Rf (some b) /\ Rf (some a) /\ Rf (none : Option Nat) /\ Rf (SV.fn (.func 157) [] E6) /\ Rf (none : Option Nat) /\ AI I5 c5 (.slice a3 n15 c4) b6 [.int .u8 n3, .int .u8 n4, .string q3, .int .i64 n5, .int .i64 n6, .int .i64 n7, .int .i64 n8, .int .i64 n9, .int .i64 n10, .int .i64 n11, .int .i64 n12, .slice a2 n13 c3] /\ Int.toNat (100 - c5) < Int.toNat (100 - n1))) (Wr .i64 (n1 + 1) (fun c5 => Rf E1 /\ Rf E2 /\ Rf (SV.ptr 0 0) /\ Rf (SV.ptr 1 0) /\ Rf (SV.ptr 2 0) /\ Rf (SV.ptr 3 0) /\ Rf (SV.fn (.func 158) [] E7) /\ Rf (SV.ptr 4 0) /\ Rf (SV.ptr 5 0) /\ Rf (SV.v (.slice y z c1)) /\ Rf (SV.v (.int .i64 (z : Int))) /\ Rf (some b) /\ Rf (some a) /\ Rf (none : Option Nat) /\ Rf (SV.fn (.func 157) [] E6) /\ Rf (none : Option Nat) /\ AI I5 c5 (.slice a3 n15 c4) false [.int .u8 n3, .int .u8 n4, .string q3, .int .i64 n5, .int .i64 n6, .int .i64 n7, .int .i64 n8, .int .i64 n9, .int .i64 n10, .int .i64 n11, .int .i64 n12, .slice a2 n13 c3] /\ Int.toNat (100 - c5) < Int.toNat (100 - n1))))) (Wr .i64 (n1 + 1) (fun c5 => Rf E1 /\ Rf E2 /\ Rf (SV.ptr 0 0) /\ Rf (SV.ptr 1 0) /\ Rf (SV.ptr 2 0) /\ Rf (SV.ptr 3 0) /\ Rf (SV.fn (.func 158) [] E7) /\ Rf (SV.ptr 4 0) /\ Rf (SV.ptr 5 0) /\ Rf (SV.v (.slice y z c1)) /\ Rf (SV.v (.int .i64 (z : Int))) /\ Rf (some b) /\ Rf (some a) /\ Rf (none : Option Nat) /\ Rf (SV.fn (.func 157) [] E6) /\ Rf (none : Option Nat) /\ AI I4 c5 (.slice a3 n15 c4) b4 [.int .u8 n3, .int .u8 n4, .string q2, .int .i64 n5, .int .i64 n6, .int .i64 n7, .int .i64 n8, .int .i64 n9, .int .i64 n10, .int .i64 n11, .int .i64 n12, .slice a2 n13 c3] /\ Int.toNat (100 - c5) < Int.toNat (100 - n1)))))) /\ (n14 = 3 -> Br (!b3) (Br b3 (Q (.tuple #[.agg #[.int .u8 n3, .int .u8 n4, .string q1, .int .i64 n5, .int .i64 n6, .int .i64 n7, .int .i64 n8, .int .i64 n9, .int .i64 n10, .int .i64 n11, .int .i64 n12, .slice a2 n13 c3], .bool ((n2 : Int) == 0)]) I2) (Q (.tuple #[.agg #[.int .u8 n3, .int .u8 n4, .string q1, .int .i64 n5, .int .i64 n6, .int .i64 n7, .int .i64 n8, .int .i64 n9, .int .i64 n10, .int .i64 n11, .int .i64 n12, .slice a2 n13 c3], .bool false]) I2)) ((0 : Int) <= 3 /\ (3 : Int) < 10 /\ ∀ (b4 : Nat), CtS Tryz.prog (.fn (.func 158) [] E9) [] (E3 a1 n2 c2 b b3 a b4) I2 fun s1 H1 I3 => ∃ n15 a3 n16 c4 b5, s1 = .v (.int .i64 n15) /\ H1 = E3 a3 n16 c4 b b5 a b4 /\ Wr .i64 (n1 + 1) fun c5 => Rf E1 /\ Rf E2 /\ Rf (SV.ptr 0 0) /\ Rf (SV.ptr 1 0) /\ Rf (SV.ptr 2 0) /\ Rf (SV.ptr 3 0) /\ Rf (SV.fn (.func 158) [] E7) /\ Rf (SV.ptr 4 0) /\ Rf (SV.ptr 5 0) /\ Rf (SV.v (.slice y z c1)) /\ Rf (SV.v (.int .i64 (z : Int))) /\ Rf (some b) /\ Rf (some a) /\ Rf (SV.fn (.func 157) [] E6) /\ Rf (none : Option Nat) /\ AI I3 c5 (.slice a3 n16 c4) b5 [.int .u8 n3, .int .u8 n4, .string q1, .int .i64 n15, .int .i64 n6, .int .i64 n7, .int .i64 n8, .int .i64 n9, .int .i64 n10, .int .i64 n11, .int .i64 n12, .slice a2 n13 c3] /\ Int.toNat (100 - c5) < Int.toNat (100 - n1))) /\ (n14 = 4 -> Br (!b3) (Br b3 (Q (.tuple #[.agg #[.int .u8 n3, .int .u8 n4, .string q1, .int .i64 n5, .int .i64 n6, .int .i64 n7, .int .i64 n8, .int .i64 n9, .int .i64 n10, .int .i64 n11, .int .i64 n12, .slice a2 n13 c3], .bool ((n2 : Int) == 0)]) I2) (Q (.tuple #[.agg #[.int .u8 n3, .int .u8 n4, .string q1, .int .i64 n5, .int .i64 n6, .int .i64 n7, .int .i64 n8, .int .i64 n9, .int .i64 n10, .int .i64 n11, .int .i64 n12, .slice a2 n13 c3], .bool false]) I2)) ((0 : Int) <= 4 /\ (4 : Int) < 10 /\ ∀ (b4 : Nat), CtS Tryz.prog (.fn (.func 158) [] E9) [] (E3 a1 n2 c2 b b3 a b4) I2 fun s1 H1 I3 => ∃ n15 a3 n16 c4 b5, s1 = .v (.int .i64 n15) /\ H1 = E3 a3 n16 c4 b b5 a b4 /\ Wr .i64 (n1 + 1) fun c5 => Rf E1 /\ Rf E2 /\ Rf (SV.ptr 0 0) /\ Rf (SV.ptr 1 0) /\ Rf (SV.ptr 2 0) /\ Rf (SV.ptr 3 0) /\ Rf (SV.fn (.func 158) [] E7) /\ Rf (SV.ptr 4 0) /\ Rf (SV.ptr 5 0) /\ Rf (SV.v (.slice y z c1)) /\ Rf (SV.v (.int .i64 (z : Int))) /\ Rf (some b) /\ Rf (some a) /\ Rf (SV.fn (.func 157) [] E6) /\ Rf (none : Option Nat) /\ AI I3 c5 (.slice a3 n16 c4) b5 [.int .u8 n3, .int .u8 n4, .string q1, .int .i64 n5, .int .i64 n15, .int .i64 n7, .int .i64 n8, .int .i64 n9, .int .i64 n10, .int .i64 n11, .int .i64 n12, .slice a2 n13 c3] /\ Int.toNat (100 - c5) < Int.toNat (100 - n1))) /\ (n14 = 5 -> Br (!b3) (Br b3 (Q (.tuple #[.agg #[.int .u8 n3, .int .u8 n4, .string q1, .int .i64 n5, .int .i64 n6, .int .i64 n7, .int .i64 n8, .int .i64 n9, .int .i64 n10, .int .i64 n11, .int .i64 n12, .slice a2 n13 c3], .bool ((n2 : Int) == 0)]) I2) (Q (.tuple #[.agg #[.int .u8 n3, .int .u8 n4, .string q1, .int .i64 n5, .int .i64 n6, .int .i64 n7, .int .i64 n8, .int .i64 n9, .int .i64 n10, .int .i64 n11, .int .i64 n12, .slice a2 n13 c3], .bool false]) I2)) ((0 : Int) <= 5 /\ (5 : Int) < 10 /\ ∀ (b4 : Nat), CtS Tryz.prog (.fn (.func 158) [] E9) [] (E3 a1 n2 c2 b b3 a b4) I2 fun s1 H1 I3 => ∃ n15 a3 n16 c4 b5, s1 = .v (.int .i64 n15) /\ H1 = E3 a3 n16 c4 b b5 a b4 /\ Wr .i64 (n1 + 1) fun c5 => Rf E1 /\ Rf E2 /\ Rf (SV.ptr 0 0) /\ Rf (SV.ptr 1 0) /\ Rf (SV.ptr 2 0) /\ Rf (SV.ptr 3 0) /\ Rf (SV.fn (.func 158) [] E7) /\ Rf (SV.ptr 4 0) /\ Rf (SV.ptr 5 0) /\ Rf (SV.v (.slice y z c1)) /\ Rf (SV.v (.int .i64 (z : Int))) /\ Rf (some b) /\ Rf (some a) /\ Rf (SV.fn (.func 157) [] E6) /\ Rf (none : Option Nat) /\ AI I3 c5 (.slice a3 n16 c4) b5 [.int .u8 n3, .int .u8 n4, .string q1, .int .i64 n5, .int .i64 n6, .int .i64 n15, .int .i64 n8, .int .i64 n9, .int .i64 n10, .int .i64 n11, .int .i64 n12, .slice a2 n13 c3] /\ Int.toNat (100 - c5) < Int.toNat (100 - n1))) /\ (n14 = 6 -> Br (!b3) (Br b3 (Q (.tuple #[.agg #[.int .u8 n3, .int .u8 n4, .string q1, .int .i64 n5, .int .i64 n6, .int .i64 n7, .int .i64 n8, .int .i64 n9, .int .i64 n10, .int .i64 n11, .int .i64 n12, .slice a2 n13 c3], .bool ((n2 : Int) == 0)]) I2) (Q (.tuple #[.agg #[.int .u8 n3, .int .u8 n4, .string q1, .int .i64 n5, .int .i64 n6, .int .i64 n7, .int .i64 n8, .int .i64 n9, .int .i64 n10, .int .i64 n11, .int .i64 n12, .slice a2 n13 c3], .bool false]) I2)) ((0 : Int) <= 6 /\ (6 : Int) < 10 /\ ∀ (b4 : Nat), CtS Tryz.prog (.fn (.func 158) [] E9) [] (E3 a1 n2 c2 b b3 a b4) I2 fun s1 H1 I3 => ∃ n15 a3 n16 c4 b5, s1 = .v (.int .i64 n15) /\ H1 = E3 a3 n16 c4 b b5 a b4 /\ Wr .i64 (n1 + 1) fun c5 => Rf E1 /\ Rf E2 /\ Rf (SV.ptr 0 0) /\ Rf (SV.ptr 1 0) /\ Rf (SV.ptr 2 0) /\ Rf (SV.ptr 3 0) /\ Rf (SV.fn (.func 158) [] E7) /\ Rf (SV.ptr 4 0) /\ Rf (SV.ptr 5 0) /\ Rf (SV.v (.slice y z c1)) /\ Rf (SV.v (.int .i64 (z : Int))) /\ Rf (some b) /\ Rf (some a) /\ Rf (SV.fn (.func 157) [] E6) /\ Rf (none : Option Nat) /\ AI I3 c5 (.slice a3 n16 c4) b5 [.int .u8 n3, .int .u8 n4, .string q1, .int .i64 n5, .int .i64 n6, .int .i64 n7, .int .i64 n15, .int .i64 n9, .int .i64 n10, .int .i64 n11, .int .i64 n12, .slice a2 n13 c3] /\ Int.toNat (100 - c5) < Int.toNat (100 - n1))) /\ (n14 = 7 -> Br (!b3) (Br b3 (Q (.tuple #[.agg #[.int .u8 n3, .int .u8 n4, .string q1, .int .i64 n5, .int .i64 n6, .int .i64 n7, .int .i64 n8, .int .i64 n9, .int .i64 n10, .int .i64 n11, .int .i64 n12, .slice a2 n13 c3], .bool ((n2 : Int) == 0)]) I2) (Q (.tuple #[.agg #[.int .u8 n3, .int .u8 n4, .string q1, .int .i64 n5, .int .i64 n6, .int .i64 n7, .int .i64 n8, .int .i64 n9, .int .i64 n10, .int .i64 n11, .int .i64 n12, .slice a2 n13 c3], .bool false]) I2)) ((0 : Int) <= 7 /\ (7 : Int) < 10 /\ ∀ (b4 : Nat), CtS Tryz.prog (.fn (.func 158) [] E9) [] (E3 a1 n2 c2 b b3 a b4) I2 fun s1 H1 I3 => ∃ n15 a3 n16 c4 b5, s1 = .v (.int .i64 n15) /\ H1 = E3 a3 n16 c4 b b5 a b4 /\ Wr .i64 (n1 + 1) fun c5 => Rf E1 /\ Rf E2 /\ Rf (SV.ptr 0 0) /\ Rf (SV.ptr 1 0) /\ Rf (SV.ptr 2 0) /\ Rf (SV.ptr 3 0) /\ Rf (SV.fn (.func 158) [] E7) /\ Rf (SV.ptr 4 0) /\ Rf (SV.ptr 5 0) /\ Rf (SV.v (.slice y z c1)) /\ Rf (SV.v (.int .i64 (z : Int))) /\ Rf (some b) /\ Rf (some a) /\ Rf (SV.fn (.func 157) [] E6) /\ Rf (none : Option Nat) /\ AI I3 c5 (.slice a3 n16 c4) b5 [.int .u8 n3, .int .u8 n4, .string q1, .int .i64 n5, .int .i64 n6, .int .i64 n7, .int .i64 n8, .int .i64 n15, .int .i64 n10, .int .i64 n11, .int .i64 n12, .slice a2 n13 c3] /\ Int.toNat (100 - c5) < Int.toNat (100 - n1))) /\ (n14 = 8 -> Br (!b3) (Br b3 (Q (.tuple #[.agg #[.int .u8 n3, .int .u8 n4, .string q1, .int .i64 n5, .int .i64 n6, .int .i64 n7, .int .i64 n8, .int .i64 n9, .int .i64 n10, .int .i64 n11, .int .i64 n12, .slice a2 n13 c3], .bool ((n2 : Int) == 0)]) I2) (Q (.tuple #[.agg #[.int .u8 n3, .int .u8 n4, .string q1, .int .i64 n5, .int .i64 n6, .int .i64 n7, .int .i64 n8, .int .i64 n9, .int .i64 n10, .int .i64 n11, .int .i64 n12, .slice a2 n13 c3], .bool false]) I2)) ((0 : Int) <= 8 /\ (8 : Int) < 10 /\ ∀ (b4 : Nat), CtS Tryz.prog (.fn (.func 158) [] E9) [] (E3 a1 n2 c2 b b3 a b4) I2 fun s1 H1 I3 => ∃ n15 a3 n16 c4 b5, s1 = .v (.int .i64 n15) /\ H1 = E3 a3 n16 c4 b b5 a b4 /\ Wr .i64 (n1 + 1) fun c5 => Rf E1 /\ Rf E2 /\ Rf (SV.ptr 0 0) /\ Rf (SV.ptr 1 0) /\ Rf (SV.ptr 2 0) /\ Rf (SV.ptr 3 0) /\ Rf (SV.fn (.func 158) [] E7) /\ Rf (SV.ptr 4 0) /\ Rf (SV.ptr 5 0) /\ Rf (SV.v (.slice y z c1)) /\ Rf (SV.v (.int .i64 (z : Int))) /\ Rf (some b) /\ Rf (some a) /\ Rf (SV.fn (.func 157) [] E6) /\ Rf (none : Option Nat) /\ AI I3 c5 (.slice a3 n16 c4) b5 [.int .u8 n3, .int .u8 n4, .string q1, .int .i64 n5, .int .i64 n6, .int .i64 n7, .int .i64 n8, .int .i64 n9, .int .i64 n15, .int .i64 n11, .int .i64 n12, .slice a2 n13 c3] /\ Int.toNat (100 - c5) < Int.toNat (100 - n1))) /\ (n14 = 9 -> Br (!b3) (Br b3 (Q (.tuple #[.agg #[.int .u8 n3, .int .u8 n4, .string q1, .int .i64 n5, .int .i64 n6, .int .i64 n7, .int .i64 n8, .int .i64 n9, .int .i64 n10, .int .i64 n11, .int .i64 n12, .slice a2 n13 c3], .bool ((n2 : Int) == 0)]) I2) (Q (.tuple #[.agg #[.int .u8 n3, .int .u8 n4, .string q1, .int .i64 n5, .int .i64 n6, .int .i64 n7, .int .i64 n8, .int .i64 n9, .int .i64 n10, .int .i64 n11, .int .i64 n12, .slice a2 n13 c3], .bool false]) I2)) ((0 : Int) <= 9 /\ (9 : Int) < 10 /\ ∀ (b4 : Nat), CtS Tryz.prog (.fn (.func 158) [] E9) [] (E3 a1 n2 c2 b b3 a b4) I2 fun s1 H1 I3 => ∃ n15 a3 n16 c4 b5, s1 = .v (.int .i64 n15) /\ H1 = E3 a3 n16 c4 b b5 a b4 /\ Wr .i64 (n1 + 1) fun c5 => Rf E1 /\ Rf E2 /\ Rf (SV.ptr 0 0) /\ Rf (SV.ptr 1 0) /\ Rf (SV.ptr 2 0) /\ Rf (SV.ptr 3 0) /\ Rf (SV.fn (.func 158) [] E7) /\ Rf (SV.ptr 4 0) /\ Rf (SV.ptr 5 0) /\ Rf (SV.v (.slice y z c1)) /\ Rf (SV.v (.int .i64 (z : Int))) /\ Rf (some b) /\ Rf (some a) /\ Rf (SV.fn (.func 157) [] E6) /\ Rf (none : Option Nat) /\ AI I3 c5 (.slice a3 n16 c4) b5 [.int .u8 n3, .int .u8 n4, .string q1, .int .i64 n5, .int .i64 n6, .int .i64 n7, .int .i64 n8, .int .i64 n9, .int .i64 n10, .int .i64 n15, .int .i64 n12, .slice a2 n13 c3] /\ Int.toNat (100 - c5) < Int.toNat (100 - n1))) /\ (n14 = 10 -> Br (!b3) (Br b3 (Q (.tuple #[.agg #[.int .u8 n3, .int .u8 n4, .string q1, .int .i64 n5, .int .i64 n6, .int .i64 n7, .int .i64 n8, .int .i64 n9, .int .i64 n10, .int .i64 n11, .int .i64 n12, .slice a2 n13 c3], .bool ((n2 : Int) == 0)]) I2) (Q (.tuple #[.agg #[.int .u8 n3, .int .u8 n4, .string q1, .int .i64 n5, .int .i64 n6, .int .i64 n7, .int .i64 n8, .int .i64 n9, .int .i64 n10, .int .i64 n11, .int .i64 n12, .slice a2 n13 c3], .bool false]) I2)) (∀ (b4 : Nat), CtS Tryz.prog (.fn (.func 158) [] E9) [] (E3 a1 n2 c2 b b3 a b4) I2 fun s1 H1 I3 => ∃ n15 a3 n16 c4 b5, s1 = .v (.int .i64 n15) /\ H1 = E3 a3 n16 c4 b b5 a b4 /\ Wr .i64 (n1 + 1) fun c5 => Rf E1 /\ Rf E2 /\ Rf (SV.ptr 0 0) /\ Rf (SV.ptr 1 0) /\ Rf (SV.ptr 2 0) /\ Rf (SV.ptr 3 0) /\ Rf (SV.fn (.func 158) [] E7) /\ Rf (SV.ptr 4 0) /\ Rf (SV.ptr 5 0) /\ Rf (SV.v (.slice y z c1)) /\ Rf (SV.v (.int .i64 (z : Int))) /\ Rf (some b) /\ Rf (some a) /\ Rf (SV.fn (.func 157) [] E6) /\ Rf (none : Option Nat) /\ AI I3 c5 (.slice a3 n16 c4) b5 [.int .u8 n3, .int .u8 n4, .string q1, .int .i64 n5, .int .i64 n6, .int .i64 n7, .int .i64 n8, .int .i64 n9, .int .i64 n10, .int .i64 n11, .int .i64 n15, .slice a2 n13 c3] /\ Int.toNat (100 - c5) < Int.toNat (100 - n1))) /\ (n14 = 11 -> Br (!b3) (Br b3 (Q (.tuple #[.agg #[.int .u8 n3, .int .u8 n4, .string q1, .int .i64 n5, .int .i64 n6, .int .i64 n7, .int .i64 n8, .int .i64 n9, .int .i64 n10, .int .i64 n11, .int .i64 n12, .slice a2 n13 c3], .bool ((n2 : Int) == 0)]) I2) (Q (.tuple #[.agg #[.int .u8 n3, .int .u8 n4, .string q1, .int .i64 n5, .int .i64 n6, .int .i64 n7, .int .i64 n8, .int .i64 n9, .int .i64 n10, .int .i64 n11, .int .i64 n12, .slice a2 n13 c3], .bool false]) I2)) (CtS Tryz.prog (.fn (.func 157) [] E10) [] (E8 a1 n2 c2 b b3 a) I2 (fun s1 H1 I3 => ∃ q2 a3 n15 c4 b4, s1 = .v (.string q2) /\ H1 = E8 a3 n15 c4 b b4 a /\ Ct Tryz.prog (fnv 115) #[.string q2] I3 fun v1 I4 => ∃ q3 b5, v1 = .tuple #[.string q3, .bool b5] /\ q3.size <= 4611686018427387904 /\ ∀ (a4 : Option Addr) (c5 : Nat) (I5 : Mem), I4.le I5 -> a4.isSome = true -> q3.size <= c5 -> c5 <= 9223372036854775807 -> (∀ (j1 : Nat) (b6 : UInt8), q3.data.toList[j1]? = some b6 -> atI I5 a4 j1 = some (.int .u8 (b6.toNat : Int))) -> Br b4 (Wr .i64 (n1 + 1) (fun c6 => Rf E1 /\ Rf E2 /\ Rf (SV.ptr 0 0) /\ Rf (SV.ptr 1 0) /\ Rf (SV.ptr 2 0) /\ Rf (SV.ptr 3 0) /\ Rf (SV.fn (.func 158) [] E7) /\ Rf (SV.ptr 4 0) /\ Rf (SV.ptr 5 0) /\ Rf (SV.v (.slice y z c1)) /\ Rf (SV.v (.int .i64 (z : Int))) /\ Rf (some b) /\ Rf (some a) /\ Rf (none : Option Nat) /\ Rf (SV.fn (.func 157) [] E6) /\ Rf (none : Option Nat) /\ AI I5 c6 (.slice a3 n15 c4) b5 [.int .u8 n3, .int .u8 n4, .string q1, .int .i64 n5, .int .i64 n6, .int .i64 n7, .int .i64 n8, .int .i64 n9, .int .i64 n10, .int .i64 n11, .int .i64 n12, .slice a4 q3.size c5] /\ Int.toNat (100 - c6) < Int.toNat (100 - n1))) (Wr .i64 (n1 + 1) (fun c6 => Rf E1 /\ Rf E2 /\ Rf (SV.ptr 0 0) /\ Rf (SV.ptr 1 0) /\ Rf (SV.ptr 2 0) /\ Rf (SV.ptr 3 0) /\ Rf (SV.fn (.func 158) [] E7) /\ Rf (SV.ptr 4 0) /\ Rf (SV.ptr 5 0) /\ Rf (SV.v (.slice y z c1)) /\ Rf (SV.v (.int .i64 (z : Int))) /\ Rf (some b) /\ Rf (some a) /\ Rf (none : Option Nat) /\ Rf (SV.fn (.func 157) [] E6) /\ Rf (none : Option Nat) /\ AI I5 c6 (.slice a3 n15 c4) false [.int .u8 n3, .int .u8 n4, .string q1, .int .i64 n5, .int .i64 n6, .int .i64 n7, .int .i64 n8, .int .i64 n9, .int .i64 n10, .int .i64 n11, .int .i64 n12, .slice a4 q3.size c5] /\ Int.toNat (100 - c6) < Int.toNat (100 - n1))))))) (Br b3 (Q (.tuple #[.agg #[.int .u8 n3, .int .u8 n4, .string q1, .int .i64 n5, .int .i64 n6, .int .i64 n7, .int .i64 n8, .int .i64 n9, .int .i64 n10, .int .i64 n11, .int .i64 n12, .slice a2 n13 c3], .bool ((n2 : Int) == 0)]) I2) (Q (.tuple #[.agg #[.int .u8 n3, .int .u8 n4, .string q1, .int .i64 n5, .int .i64 n6, .int .i64 n7, .int .i64 n8, .int .i64 n9, .int .i64 n10, .int .i64 n11, .int .i64 n12, .slice a2 n13 c3], .bool false]) I2))) (by kernel_rfl) ?_
 intro E2 E4 E5 E6 E7 E8 E9 E10 E1 E3;intro k1 k2;refine (cts_cap (first := []) (args := []) (cap := [.ptr 0 0, .ptr 1 0]) (cs157 ws true k1 k2 _ I ⟨p, n, c, rfl, hp, hpc, hpm⟩)).mono fun s H I1 l1 ⟨v', hs, hH, hw⟩ => ?_;have hz1 := next_size (b := true) hws;obtain ⟨p1, n1, c1, rfl, hp1, hpc1, hpm1⟩ := hw;refine ⟨_, _, _, _, _, hs, hH, (ct160 _ _ nameS (fun k J hk => ct27 k hk J) I1).mono fun u I2 l2 hu => ⟨_, hu, Br.mk (fun h => ?_) (fun h => ?_), fun I3 G3 l3 a3 n3 c3 b3 k q hF => ?_⟩⟩
 · have h : askK ws = 7 := by simpa [askK] using h
   refine (cts_cap (first := []) (args := []) (cap := [.ptr 0 0, .ptr 1 0]) (cs157 _ _ k1 k2 _ I2 ⟨p1, n1, c1, rfl, hp1.mono l2, hpc1, hpm1⟩)).mono fun s H I3 l3 ⟨v', hs, hH, hw⟩ => ?_;have hz2 := next_size (b := (nextW (ws, true)).2.2) hz1.2;obtain ⟨p2, n2, c2, rfl, hp2, hpc2, hpm2⟩ := hw;refine ⟨_, _, _, _, _, hs, hH, (ct160 _ _ askS (fun k J hk => ct53 k hk J) I3).mono fun u I4 l4 hu => ⟨_, hu, ?_⟩⟩
   repeat (refine And.intro rfl ?_)
   rw [hFI]
   exact ⟨_, rfl, by rw [askQ, if_pos h], ⟨p2, n2, c2, rfl, hp2.mono l4, hpc2, hpm2⟩, hz2.2, by rw [askW1, if_pos h]⟩
 · have h : askK ws ≠ 7 := by simpa [askK] using h
   repeat (refine And.intro rfl ?_)
   rw [hFI]
   exact ⟨_, rfl, by rw [askQ, if_neg h], ⟨p1, n1, c1, rfl, hp1.mono l2, hpc1, hpm1⟩, hz1.2, by rw [askW1, if_neg h]⟩
 rw [hFI] at hF;obtain ⟨l, rfl, rfl, hw3, hz3, hW1⟩ := hF;refine (ct28 _ _ I3).mono fun u I4 l4 ⟨ya, yn, yc, hu, hs, hyc, hym, _⟩ => ⟨ya, yn, yc, _, hu, Br.mk (fun h => ?_) (fun h => ?_), fun I5 G5 l5 b5 hR => ?_⟩
 · repeat (refine And.intro rfl ?_)
   rw [hRI, hW1, h];exact (Bool.true_and _).symm
 · repeat (refine And.intro rfl ?_)
   rw [hRI, hW1, h];rfl
 rw [hRI, hW1] at hR
 have hyl : (ints .i64 ((tagL (askK ws) (askQ ws)).getD [])).length = yn := by rw [hs.len, Nat.mul_one]
 have hyl : ((tagL (askK ws) (askQ ws)).getD []).length = yn := by rw [<- hyl]; simp [ints]
 have hy100 : yn <= 100 := by rw [<- hyl]; exact tagL_len _ _
 refine ⟨?_, fun I6 G6 l6 j a1 m1 d1 b1 k1' q1' nm x3 x4 x5 x6 x7 x8 x9 x10 fa fn fc hA => ?_⟩
 · repeat (refine And.intro rfl ?_)
   rw [hAI]
   refine ⟨{ zeroRq with kind := askK ws, what := askQ ws }, .slice none 0 0, l, Int.le_refl _, rfl, bysl_nil _, (hw3.mono l4).mono l5, hz3, ?_⟩
   rw [askW, hW1, hR];rfl
 have hA' := hA;rw [hAI] at hA;obtain ⟨r, y, wl, hj, hcs, hy, hwl, hwz, hrun⟩ := hA;have hcs' := hcs;simp only [rqV, List.cons.injEq, Value.int.injEq, Value.string.injEq, true_and, and_true] at hcs;obtain ⟨rfl, rfl, rfl, rfl, rfl, rfl, rfl, rfl, rfl, rfl, rfl, rfl⟩ := hcs
 have fin : ∀ bb, askW ws = (r, bb) -> Q (.tuple #[.agg (rqV r (.slice fa fn fc)).toArray, .bool bb]) I6 := fun bb e => by
  rw [hQ, e];exact ⟨_, rfl, hy⟩
 have hemp : wl.isEmpty = ((m1 : Int) == 0) := by
  obtain ⟨_, _, _, e, hwp, _⟩ := hwl;cases e;have h1 := hwp.len
  cases wl with
  | nil => simp [strs] at h1; subst h1; rfl
  | cons w t => simp [strs] at h1; rw [<- h1]; rfl
 have ret : ∀ (ts : List Int), b1 = false \/ ts = [] -> runW ts r (wl, b1) = (r, (wl, b1)) := fun ts h => by
  rcases h with rfl | rfl
  · exact runW_off _ _ _
  · rfl
 have stop : b1 = false \/ ((tagL (askK ws) (askQ ws)).getD []).drop j.toNat = [] -> askW ws = (r, b1 && wl.isEmpty) := fun h => by
  rw [hrun, ret _ h]
 refine Br.mk (fun h => ?_) (fun h => ?_)
 · have hjl : j < yn := of_decide_eq_true h
   have hlt : j.toNat < ((tagL (askK ws) (askQ ws)).getD []).length := by omega
   obtain ⟨t, ht⟩ : ∃ t, t = ((tagL (askK ws) (askQ ws)).getD [])[j.toNat] := ⟨_, rfl⟩
   have htr := tagL_rng _ _ t (by rw [ht]; exact List.getElem_mem _)
   have hdr : ((tagL (askK ws) (askQ ws)).getD []).drop j.toNat = t :: ((tagL (askK ws) (askQ ws)).getD []).drop (j.toNat + 1) := by rw [ht]; exact List.drop_eq_getElem_cons hlt
   have hs6 := (hs.mono l5).mono l6
   have adv : b1 = true -> ∀ (J : Mem) (v' y' : Value), BySl J y' (stepW t r (wl, true)).1.fed -> WsL J v' (stepW t r (wl, true)).2.1 -> (∀ w ∈ (stepW t r (wl, true)).2.1, w.size <= 1000000) -> AI J (j + 1) v' (stepW t r (wl, true)).2.2 (rqV (stepW t r (wl, true)).1 y') := by
    intro hb J v' y' h1 h2 h3;rw [hAI]
    refine ⟨_, _, _, by omega, rfl, h1, h2, h3, ?_⟩
    rw [hrun, hdr, hb, runW_on, show (j + 1).toNat = j.toNat + 1 by omega]
   have offQ : b1 = false -> Q (.tuple #[.agg (rqV r (.slice fa fn fc)).toArray, .bool false]) I6 := fun e => fin _ (by rw [stop (.inl e), e, Bool.false_and])
   have off : ∀ {X Z : Prop}, (b1 = true -> Z) -> Br (!b1) (Br b1 X (Q (.tuple #[.agg (rqV r (.slice fa fn fc)).toArray, .bool false]) I6)) Z := fun {X Z} hz =>
    Br.mk (fun h1 => Br.f (by simpa using h1) (offQ (by simpa using h1))) (fun h1 => hz (by simpa using h1))
   have hat : atI I6 ya (j.toNat * 1 + 0) = some (.int .i64 t) := by
    obtain ⟨t', ht', hc'⟩ := hs6.intAt (i := j) hj hjl
    have : t' = t := by
     rw [List.getElem?_eq_getElem hlt] at ht'
     rw [ht]; exact (Option.some.inj ht').symm
    rw [<- this]; simpa using hc'
   have hG6 : Globs I6 := hG.mono (Mem.le_trans l1 (Mem.le_trans l2 (Mem.le_trans l3 (Mem.le_trans l4 (Mem.le_trans l5 l6)))))
   refine ⟨hj, hjl, hs.isSome (by omega), t, hat, by omega, ?_⟩
   refine ⟨fun e => off fun hb => ?_, fun e => off fun hb => ?_, fun e => off fun hb => ?_, fun e => off fun hb => ?_, fun e => off fun hb => ?_, fun e => off fun hb => ?_, fun e => off fun hb => ?_, fun e => off fun hb => ?_, fun e => off fun hb => ?_, fun e => off fun hb => ?_, fun e => off fun hb => ?_⟩
   · refine wr_i64 (by omega) (by omega) ?_
     repeat (refine And.intro rfl ?_)
     have A := adv hb I6 _ (.slice fa fn fc) (by rw [e]; exact hy) (by rw [e]; exact hwl) (by rw [e]; exact hwz)
     rw [e] at A;rw [hb]
     exact ⟨A, by omega⟩
   · refine (cts_cap (first := []) (args := []) (cap := [.ptr 0 0, .ptr 1 0]) (cs157 wl b1 k1 k2 _ I6 hwl)).mono fun s H I7 l7 ⟨v', hs', hH, hw⟩ => ?_
     have hnz := next_size (b := b1) hwz;have hw' := hw;obtain ⟨p1, n1, c1, rfl, hp1, hpc1, hpm1⟩ := hw;refine ⟨_, _, _, _, _, hs', hH, (ct54 _ I7).mono fun u I8 l8 hu => ⟨_, hu, Br.mk (fun h1 => ?_) (fun h1 => ?_)⟩⟩
     · have h1 : nameB (strL (nextW (wl, b1)).1) = false := by simpa using h1
       refine (ct115 _ hnz.1 I8).mono fun u I9 l9 hu => ?_;have A := fun J v' h2 h3 h4 => adv hb J v' (.slice fa fn fc) h2 h3 h4;rw [e] at A;rw [hb] at h1 hu hw' hnz
       simp only [stepW, h1, Bool.false_eq_true, if_false, if_true, show ¬ (2 : Int) = 1 by decide] at A
       have A := A I9 _ (hy.mono (Mem.le_trans l7 (Mem.le_trans l8 l9))) (hw'.mono (Mem.le_trans l8 l9)) hnz.2;obtain ⟨o, ho⟩ : ∃ o, o = unwordT (tx (nextW (wl, true)).1) := ⟨_, rfl⟩;rw [<- ho] at hu A
       have hu : u = .tuple #[.string (strB (o.getD [])), .bool o.isSome] := by rw [hu]; cases o <;> rfl
       refine ⟨_, _, hu, Br.mk (fun h5 => ?_) (fun h5 => ?_)⟩
       · rw [hb] at h5
         rw [h5, Bool.true_and] at A
         refine wr_i64 (by omega) (by omega) ?_
         repeat (refine And.intro rfl ?_)
         exact ⟨A, by omega⟩
       · rw [hb] at h5
         rw [h5, Bool.false_and] at A
         refine wr_i64 (by omega) (by omega) ?_
         repeat (refine And.intro rfl ?_)
         exact ⟨A, by omega⟩
     · have h1 : nameB (strL (nextW (wl, b1)).1) = true := by simpa using h1
       have A := fun J v' h2 h3 h4 => adv hb J v' (.slice fa fn fc) h2 h3 h4;rw [e] at A;rw [hb] at h1 hw' hnz
       simp only [stepW, h1, eq_self, if_true, show ¬ (2 : Int) = 1 by decide, if_false] at A
       refine wr_i64 (by omega) (by omega) ?_
       repeat (refine And.intro rfl ?_)
       rw [hb]
       exact ⟨A I8 _ (hy.mono (Mem.le_trans l7 l8)) (hw'.mono l8) hnz.2, by omega⟩
   · refine ⟨by decide, by decide, fun b4 => (cts_cap (first := []) (args := []) (cap := [.ptr 2 0, .ptr 1 0]) (cs158 wl hwz b1 k1 k2 b4 _ I6 hG6 hwl)).mono fun s H I7 l7 ⟨v', hs', hH, hw⟩ => ?_⟩
     have A := adv hb I7 v' (.slice fa fn fc) (by rw [e]; exact hy.mono l7) (by rw [e, hb] at *; exact hw) (by rw [e]; exact num_size hwz)
     rw [e] at A;obtain ⟨p1, n1, c1, rfl, hp1, hpc1, hpm1⟩ := hw
     refine ⟨_, _, _, _, _, hs', hH, wr_i64 (by omega) (by omega) ?_⟩
     repeat (refine And.intro rfl ?_)
     rw [hb]
     exact ⟨A, by omega⟩
   · refine ⟨by decide, by decide, fun b4 => (cts_cap (first := []) (args := []) (cap := [.ptr 2 0, .ptr 1 0]) (cs158 wl hwz b1 k1 k2 b4 _ I6 hG6 hwl)).mono fun s H I7 l7 ⟨v', hs', hH, hw⟩ => ?_⟩
     have A := adv hb I7 v' (.slice fa fn fc) (by rw [e]; exact hy.mono l7) (by rw [e, hb] at *; exact hw) (by rw [e]; exact num_size hwz)
     rw [e] at A;obtain ⟨p1, n1, c1, rfl, hp1, hpc1, hpm1⟩ := hw
     refine ⟨_, _, _, _, _, hs', hH, wr_i64 (by omega) (by omega) ?_⟩
     repeat (refine And.intro rfl ?_)
     rw [hb]
     exact ⟨A, by omega⟩
   · refine ⟨by decide, by decide, fun b4 => (cts_cap (first := []) (args := []) (cap := [.ptr 2 0, .ptr 1 0]) (cs158 wl hwz b1 k1 k2 b4 _ I6 hG6 hwl)).mono fun s H I7 l7 ⟨v', hs', hH, hw⟩ => ?_⟩
     have A := adv hb I7 v' (.slice fa fn fc) (by rw [e]; exact hy.mono l7) (by rw [e, hb] at *; exact hw) (by rw [e]; exact num_size hwz)
     rw [e] at A;obtain ⟨p1, n1, c1, rfl, hp1, hpc1, hpm1⟩ := hw
     refine ⟨_, _, _, _, _, hs', hH, wr_i64 (by omega) (by omega) ?_⟩
     repeat (refine And.intro rfl ?_)
     rw [hb]
     exact ⟨A, by omega⟩
   · refine ⟨by decide, by decide, fun b4 => (cts_cap (first := []) (args := []) (cap := [.ptr 2 0, .ptr 1 0]) (cs158 wl hwz b1 k1 k2 b4 _ I6 hG6 hwl)).mono fun s H I7 l7 ⟨v', hs', hH, hw⟩ => ?_⟩
     have A := adv hb I7 v' (.slice fa fn fc) (by rw [e]; exact hy.mono l7) (by rw [e, hb] at *; exact hw) (by rw [e]; exact num_size hwz)
     rw [e] at A;obtain ⟨p1, n1, c1, rfl, hp1, hpc1, hpm1⟩ := hw
     refine ⟨_, _, _, _, _, hs', hH, wr_i64 (by omega) (by omega) ?_⟩
     repeat (refine And.intro rfl ?_)
     rw [hb]
     exact ⟨A, by omega⟩
   · refine ⟨by decide, by decide, fun b4 => (cts_cap (first := []) (args := []) (cap := [.ptr 2 0, .ptr 1 0]) (cs158 wl hwz b1 k1 k2 b4 _ I6 hG6 hwl)).mono fun s H I7 l7 ⟨v', hs', hH, hw⟩ => ?_⟩
     have A := adv hb I7 v' (.slice fa fn fc) (by rw [e]; exact hy.mono l7) (by rw [e, hb] at *; exact hw) (by rw [e]; exact num_size hwz)
     rw [e] at A;obtain ⟨p1, n1, c1, rfl, hp1, hpc1, hpm1⟩ := hw
     refine ⟨_, _, _, _, _, hs', hH, wr_i64 (by omega) (by omega) ?_⟩
     repeat (refine And.intro rfl ?_)
     rw [hb]
     exact ⟨A, by omega⟩
   · refine ⟨by decide, by decide, fun b4 => (cts_cap (first := []) (args := []) (cap := [.ptr 2 0, .ptr 1 0]) (cs158 wl hwz b1 k1 k2 b4 _ I6 hG6 hwl)).mono fun s H I7 l7 ⟨v', hs', hH, hw⟩ => ?_⟩
     have A := adv hb I7 v' (.slice fa fn fc) (by rw [e]; exact hy.mono l7) (by rw [e, hb] at *; exact hw) (by rw [e]; exact num_size hwz)
     rw [e] at A;obtain ⟨p1, n1, c1, rfl, hp1, hpc1, hpm1⟩ := hw
     refine ⟨_, _, _, _, _, hs', hH, wr_i64 (by omega) (by omega) ?_⟩
     repeat (refine And.intro rfl ?_)
     rw [hb]
     exact ⟨A, by omega⟩
   · refine ⟨by decide, by decide, fun b4 => (cts_cap (first := []) (args := []) (cap := [.ptr 2 0, .ptr 1 0]) (cs158 wl hwz b1 k1 k2 b4 _ I6 hG6 hwl)).mono fun s H I7 l7 ⟨v', hs', hH, hw⟩ => ?_⟩
     have A := adv hb I7 v' (.slice fa fn fc) (by rw [e]; exact hy.mono l7) (by rw [e, hb] at *; exact hw) (by rw [e]; exact num_size hwz)
     rw [e] at A;obtain ⟨p1, n1, c1, rfl, hp1, hpc1, hpm1⟩ := hw
     refine ⟨_, _, _, _, _, hs', hH, wr_i64 (by omega) (by omega) ?_⟩
     repeat (refine And.intro rfl ?_)
     rw [hb]
     exact ⟨A, by omega⟩
   · refine (fun b4 => (cts_cap (first := []) (args := []) (cap := [.ptr 2 0, .ptr 1 0]) (cs158 wl hwz b1 k1 k2 b4 _ I6 hG6 hwl)).mono fun s H I7 l7 ⟨v', hs', hH, hw⟩ => ?_)
     have A := adv hb I7 v' (.slice fa fn fc) (by rw [e]; exact hy.mono l7) (by rw [e, hb] at *; exact hw) (by rw [e]; exact num_size hwz)
     rw [e] at A;obtain ⟨p1, n1, c1, rfl, hp1, hpc1, hpm1⟩ := hw
     refine ⟨_, _, _, _, _, hs', hH, wr_i64 (by omega) (by omega) ?_⟩
     repeat (refine And.intro rfl ?_)
     rw [hb]
     exact ⟨A, by omega⟩
   · refine (cts_cap (first := []) (args := []) (cap := [.ptr 0 0, .ptr 1 0]) (cs157 wl b1 k1 k2 _ I6 hwl)).mono fun s H I7 l7 ⟨v', hs', hH, hw⟩ => ?_
     have hnz := next_size (b := b1) hwz;have hw' := hw;obtain ⟨p1, n1, c1, rfl, hp1, hpc1, hpm1⟩ := hw;refine ⟨_, _, _, _, _, hs', hH, (ct115 _ hnz.1 I7).mono fun u I8 l8 hu => ?_⟩;rw [hb] at hu hw' hnz;obtain ⟨o, ho⟩ : ∃ o, o = unwordT (tx (nextW (wl, true)).1) := ⟨_, rfl⟩;rw [<- ho] at hu
     have hu : u = .tuple #[.string (strB (o.getD [])), .bool o.isSome] := by rw [hu]; cases o <;> rfl
     have hob := unw_bytes ho.symm;have hol : (strB (o.getD [])).size <= 1000000 := unw_size ho.symm hnz.1
     refine ⟨_, _, hu, by omega, fun a4 c5 I9 l9 h1 h2 h3 h4 => ?_⟩
     have A := adv hb I9 (.slice p1 n1 c1) (.slice a4 (strB (o.getD [])).size c5) (by rw [e]; show BySl I9 _ ((unwordT (tx (nextW (wl, true)).1)).getD []); rw [<- ho]; exact bysl_str hob h1 (by omega) h2 h3 h4) (by rw [e]; exact hw'.mono (Mem.le_trans l8 l9)) (by rw [e]; exact hnz.2)
     rw [e] at A
     simp only [stepW, show ¬ (11 : Int) = 1 by decide, show ¬ (11 : Int) = 2 by decide, show ¬ (11 : Int) = 10 by decide, if_false, if_true, <- ho] at A
     refine Br.mk (fun h5 => ?_) (fun h5 => ?_)
     · rw [hb] at h5
       rw [h5, Bool.true_and] at A
       refine wr_i64 (by omega) (by omega) ?_
       repeat (refine And.intro rfl ?_)
       exact ⟨A, by omega⟩
     · rw [hb] at h5
       rw [h5, Bool.false_and] at A
       refine wr_i64 (by omega) (by omega) ?_
       repeat (refine And.intro rfl ?_)
       exact ⟨A, by omega⟩
 · have hjl : ¬ j < yn := of_decide_eq_false h
   have e := stop (.inr (List.drop_eq_nil_of_le (by omega)))
   exact Br.mk (fun h => fin _ (by rw [e, h, hemp, Bool.true_and])) (fun h => fin _ (by rw [e, h, Bool.false_and]))
theorem strT_tx (s : ByteArray) : strT (tx s) = s := rfl
theorem strL_bytes (s : ByteArray) : ∀ z ∈ strL s, 0 <= z /\ z <= 255 := fun z hz => by
 obtain ⟨c, _, rfl⟩ := List.mem_map.1 hz;have := c.toNat_lt;omega
theorem tag_shape {k w : Int} {l : List Int} (h : tagL k w = some l) : (k = 7 /\ (1 <= w /\ w <= 5) /\ ∃ q, l = 1 :: q /\ ∀ t ∈ q, 2 <= t /\ t <= 11) \/ (k ≠ 7 /\ (1 <= k /\ k <= 9) /\ ∀ t ∈ l, 2 <= t /\ t <= 11) := by
 have aw : ∀ {q}, askL w = some q -> (1 <= w /\ w <= 5) /\ ∀ t ∈ q, 2 <= t /\ t <= 11 := fun {q} hq => by
  unfold askL at hq
  repeat' split at hq
  all_goals first | (cases hq; exact ⟨by omega, by decide⟩) | cases hq
 by_cases h7 : k = 7
 · subst h7
   simp only [tagL, show ¬ (7 : Int) = 1 by decide, show ¬ (7 : Int) = 2 by decide, show ¬ (7 : Int) = 3 by decide, show ¬ (7 : Int) = 4 by decide, show ¬ (7 : Int) = 5 by decide, show ¬ (7 : Int) = 6 by decide, if_false, if_true] at h
   cases hq : askL w with
   | none => rw [hq] at h; simp at h
   | some q =>
    rw [hq] at h;simp at h;subst h;exact .inl ⟨rfl, (aw hq).1, q, rfl, (aw hq).2⟩
 · refine .inr ⟨h7, ?_⟩
   simp only [tagL, h7, if_false] at h
   repeat' split at h
   all_goals first | (cases h; exact ⟨by omega, by decide⟩) | cases h
theorem uint10_eq : ∀ (l : Tx) (acc : Nat), Lib.parseUint10 acc l = Lib.parseUintM 18446744073709551615 acc l
 | [], acc => rfl
 | c :: r, acc => by
  rw [Lib.parseUint10, Lib.parseUintM];split
  · split
    · rfl
    · split
      · rw [if_pos (by omega)]
      · rw [if_neg (by omega)]; exact uint10_eq r _
  · rfl
theorem atoi_eq (l : Tx) : Lib.atoiAll l = Lib.parseIntB 64 l := by
 cases l with
 | nil => rfl
 | cons c r =>
  have e1 : (2 : Nat) ^ 64 - 1 = 18446744073709551615 := by decide
  have e2 : (2 : Nat) ^ (64 - 1) = 9223372036854775808 := by decide
  have e3 : ∀ q, Lib.parseMag q = Lib.parseUintB 64 q := fun q => by rw [Lib.parseMag, Lib.parseUintB, e1, uint10_eq]
  rw [Lib.atoiAll, Lib.parseIntB, e2, e3];rfl
theorem intB_rng {l : Tx} {v : Int} (h : Lib.parseIntB 64 l = .ok v) : i64R v := by
 cases l with
 | nil => cases h
 | cons c r =>
  have e2 : (2 : Nat) ^ (64 - 1) = 9223372036854775808 := by decide
  rw [Lib.parseIntB, e2] at h
  split at h
  · cases h
  · cases h
  · rename_i u hu
    split at h
    · cases h
    · rename_i h1
      split at h
      · cases h
      · rename_i h2
        simp only [Lib.NumEnd.ok.injEq] at h;subst h;unfold i64R
        by_cases hn : c.toNat = 45
        · rw [if_pos hn]
          have : ¬ 9223372036854775808 < u := fun h => h2 ⟨hn, h⟩;omega
        · rw [if_neg hn]
          have : ¬ 9223372036854775808 <= u := fun h => h1 ⟨hn, h⟩;omega
theorem numP_rng (t : Tx) : i64R (numP t).1 := by
 unfold numP;split
 · rename_i h; exact intB_rng h
 · simp only [Lib.intSat]
   split
   · exact ⟨by decide, by decide⟩
   · exact ⟨by decide, by decide⟩
 · exact ⟨by decide, by decide⟩
theorem numA_rng (t : Tx) : i64R (numA t).1 := by
 unfold numA;split
 · rename_i h; rw [atoi_eq] at h; exact intB_rng h
 · simp only [Lib.atoiSat]
   split
   · exact ⟨by decide, by decide⟩
   · exact ⟨by decide, by decide⟩
 · exact ⟨by decide, by decide⟩
theorem kind_rng (f : Int -> ByteArray) (s : ByteArray) : 0 <= kindS f s /\ kindS f s <= 255 := by
 have : ∀ (k : Nat) (n : Int), 0 <= n -> n + k <= 255 -> 0 <= kindGo f s k n /\ kindGo f s k n <= 255 := by
  intro k
  induction k with
  | zero => intro n h0 h1; rw [kindGo]; omega
  | succ k ih =>
   intro n h0 h1;rw [kindGo];split
   · omega
   · split
     · omega
     · exact ih (n + 1) (by omega) (by omega)
 exact this 19 1 (by decide) (by decide)
structure smRq (r : Rq) : Prop where
 ok : okRq r
 name : r.name.size <= 1000000
 fed : r.fed.length <= 1000000
theorem unw_len {w : ByteArray} (hs : w.size <= 1000000) : ((unwordT (tx w)).getD []).length <= 1000000 := by
 have := unw_size (o := unwordT (tx w)) rfl hs
 rwa [strB_len] at this
theorem step_sm {r : Rq} (h : smRq r) (t : Int) {w : WS} (hw : ∀ x ∈ w.1, x.size <= 1000000) : smRq (stepW t r w).1 /\ ∀ x ∈ (stepW t r w).2.1, x.size <= 1000000 := by
 obtain ⟨wl, b⟩ := w;have hn := next_size (b := b) hw;have hq := numP_rng (tx (nextW (wl, b)).1);obtain ⟨⟨k1, k2, k3, k4, k5, k6, k7, k8, k9, k10, k11⟩, h2, h3⟩ := h;unfold stepW;split
 · exact ⟨⟨⟨k1, k2, k3, k4, k5, k6, k7, k8, k9, k10, k11⟩, h2, h3⟩, hw⟩
 · split
   · split
     · exact ⟨⟨⟨k1, k2, k3, k4, k5, k6, k7, k8, k9, k10, k11⟩, hn.1, h3⟩, hn.2⟩
     · exact ⟨⟨⟨k1, k2, k3, k4, k5, k6, k7, k8, k9, k10, k11⟩, unw_size rfl hn.1, h3⟩, hn.2⟩
   · split
     · exact ⟨⟨⟨k1, k2, k3, k4, k5, k6, k7, k8, k9, hq, k11⟩, h2, h3⟩, hn.2⟩
     · split
       · exact ⟨⟨⟨k1, k2, k3, k4, k5, k6, k7, k8, k9, k10, unw_bytes rfl⟩, h2, unw_len hn.1⟩, hn.2⟩
       · refine ⟨?_, hn.2⟩
         unfold setN
         repeat' split
         · exact ⟨⟨k1, k2, hq, k4, k5, k6, k7, k8, k9, k10, k11⟩, h2, h3⟩
         · exact ⟨⟨k1, k2, k3, hq, k5, k6, k7, k8, k9, k10, k11⟩, h2, h3⟩
         · exact ⟨⟨k1, k2, k3, k4, hq, k6, k7, k8, k9, k10, k11⟩, h2, h3⟩
         · exact ⟨⟨k1, k2, k3, k4, k5, hq, k7, k8, k9, k10, k11⟩, h2, h3⟩
         · exact ⟨⟨k1, k2, k3, k4, k5, k6, hq, k8, k9, k10, k11⟩, h2, h3⟩
         · exact ⟨⟨k1, k2, k3, k4, k5, k6, k7, hq, k9, k10, k11⟩, h2, h3⟩
         · exact ⟨⟨k1, k2, k3, k4, k5, k6, k7, k8, hq, k10, k11⟩, h2, h3⟩
theorem run_sm : ∀ (ts : List Int) {r : Rq} (h : smRq r) {w : WS} (hw : ∀ x ∈ w.1, x.size <= 1000000), smRq (runW ts r w).1
 | [], r, h, w, hw => h
 | t :: ts, r, h, w, hw => by
  rw [runW];split
  · exact h
  · obtain ⟨h1, h2⟩ := step_sm h t hw
    exact run_sm ts h1 h2
theorem i64R_zero : i64R 0 := ⟨by decide, by decide⟩
theorem ask_sm {ws : List ByteArray} (hws : ∀ w ∈ ws, w.size <= 1000000) : smRq (askW ws).1 := by
 have h1 := next_size (b := true) hws
 have hw1 : ∀ x ∈ (askW1 ws).1, x.size <= 1000000 := by
  unfold askW1;split
  · exact (next_size h1.2).2
  · exact h1.2
 rw [askW];refine run_sm _ ⟨⟨?_, ?_, ?_, ?_, ?_, ?_, ?_, ?_, ?_, ?_, byteL_nil⟩, Nat.zero_le _, Nat.zero_le _⟩ hw1
 · exact kind_rng nameS (nextW (ws, true)).1
 · show 0 <= askQ ws /\ askQ ws <= 255
   unfold askQ;split
   · exact kind_rng _ _
   · omega
 all_goals exact i64R_zero
def wordAt (ws : List ByteArray) (j : Nat) : ByteArray := (ws[j]?).getD ⟨#[]⟩
def entAt (ws : List ByteArray) : Int := if wordAt ws 0 = strT pickB then 0 else 1
def entN (ws : List ByteArray) : Int := if ws.length > 1 then (numA (tx (wordAt ws 1))).1 else 0
def entryW (ws : List ByteArray) : En × Bool :=
 if wordAt ws 0 = strT tickB then (⟨2, 0, 0, []⟩, true)
 else if (ws.length : Int) < 2 + entAt ws then (zeroEn, false)
 else if wordAt ws 0 = strT pickB then (⟨3, 0, entN ws, []⟩, true)
 else if wordAt ws 0 = strT rawB then (⟨1, entN ws, 0, (unwordT (tx (wordAt ws 2))).getD []⟩, (unwordT (tx (wordAt ws 2))).isSome)
 else if wordAt ws 0 = strT askB then (if (askW (ws.drop 2)).2 then ((askE (entN ws) (askW (ws.drop 2)).1).1, decide ((askE (entN ws) (askW (ws.drop 2)).1).2 = 0)) else (zeroEn, false))
 else (zeroEn, false)
set_option maxHeartbeats 1000000 in
theorem ct82 (ws : List ByteArray) (hne : ws ≠ []) (hws : ∀ w ∈ ws, w.size <= 1000000) (v : Value) (I : Mem) (hG : Globs I) (hw : WsL I v ws) :
 Ct Tryz.prog (fnv 82) #[v] I (fun u I' => ∃ y, u = .tuple #[.agg (enV (entryW ws).1 y).toArray, .bool (entryW ws).2] /\ BySl I' y (entryW ws).1.bs) := by
 obtain ⟨p, n, c, rfl, hp, hpc, hpm⟩ := hw;obtain ⟨Q, hQ⟩ : ∃ q : Value -> Mem -> Prop, q = fun u I' => ∃ y, u = .tuple #[.agg (enV (entryW ws).1 y).toArray, .bool (entryW ws).2] /\ BySl I' y (entryW ws).1.bs := ⟨_, rfl⟩;obtain ⟨AT, hAT⟩ : ∃ a, a = entAt ws := ⟨_, rfl⟩;obtain ⟨NW, hNW⟩ : ∃ a, a = entN ws := ⟨_, rfl⟩;rw [<- hQ]
 refine viaR (ct_via (A := { cuts := [(4, ⟨[(0, .keep), (2, .keep), (3, .keep), (4, .sh (.int .i64))], [(0, .keep)], [], fun vals _ _ _ => match vals with | [.int .i64 a] => a = AT | _ => False, fun _ _ => 0⟩), (7, ⟨[(0, .keep), (2, .keep), (3, .keep), (4, .keep), (5, .sh (.int .i64))], [(0, .keep)], [], fun vals _ _ _ => match vals with | [.int .i64 a] => a = NW | _ => False, fun _ _ => 0⟩)] }) Tryz.func82 rfl Tryz.call82 rfl rfl) (let E1 := Ent.mk (.cells [.v (.int .u8 0), .v (.int .i64 0), .v (.int .i64 0), .v (.slice none 0 0)] 35) none
  ((0 : Int) <= 0 /\ 0 < (n : Int) /\ p.isSome = true /\ ∃ q, atI I p 0 = some (.string q) /\ Br (q.toList == (ByteArray.mk #[112, 105, 99, 107]).toList) (Rf E1 /\ Rf (SV.v (.slice p n c)) /\ Rf (SV.ptr 0 0) /\ Rf (SV.v (.bool false)) /\ 0 = AT) (Rf E1 /\ Rf (SV.v (.slice p n c)) /\ Rf (SV.ptr 0 0) /\ Rf (SV.v (.bool false)) /\ 1 = AT)) /\ ∀ (a : Mem), Mem -> I.le a -> ∀ (b : Int), b = AT -> Br (decide (1 < (n : Int))) ((0 : Int) <= 1 /\ 1 < (n : Int) /\ p.isSome = true /\ ∃ q, atI a p 1 = some (.string q) /\ Ct Tryz.prog (fnv 114) #[.string q] a fun v d => ∃ e x, v = .tuple #[.int .i64 e, x] /\ Rf E1 /\ Rf (SV.v (.slice p n c)) /\ Rf (SV.ptr 0 0) /\ Rf (SV.v (.bool false)) /\ Rf (SV.v (.int .i64 b)) /\ e = NW) (Rf E1 /\ Rf (SV.v (.slice p n c)) /\ Rf (SV.ptr 0 0) /\ Rf (SV.v (.bool false)) /\ Rf (SV.v (.int .i64 b)) /\ 0 = NW) /\ ∀ (d : Mem), Mem -> a.le d -> ∀ (e : Int), e = NW -> (0 : Int) <= 0 /\ 0 < (n : Int) /\ p.isSome = true /\ ∃ q, atI d p 0 = some (.string q) /\ Br (q.toList == (ByteArray.mk #[116, 105, 99, 107]).toList) (Q (.tuple #[.agg #[.int .u8 2, .int .i64 0, .int .i64 0, .slice none 0 0], .bool true]) d) (Wr .i64 (2 + b) (fun f => Br (decide ((n : Int) < f)) (Q (.tuple #[.agg #[.int .u8 0, .int .i64 0, .int .i64 0, .slice none 0 0], .bool false]) d) ((0 : Int) <= 0 /\ 0 < (n : Int) /\ p.isSome = true /\ ∃ g, atI d p 0 = some (.string g) /\ Br (g.toList == (ByteArray.mk #[112, 105, 99, 107]).toList) (Q (.tuple #[.agg #[.int .u8 3, .int .i64 0, .int .i64 e, .slice none 0 0], .bool true]) d) ((0 : Int) <= 0 /\ 0 < (n : Int) /\ p.isSome = true /\ ∃ h, atI d p 0 = some (.string h) /\ Br (h.toList == (ByteArray.mk #[114, 97, 119]).toList) ((0 : Int) <= 2 /\ 2 < (n : Int) /\ p.isSome = true /\ ∃ i, atI d p 2 = some (.string i) /\ Ct Tryz.prog (fnv 115) #[.string i] d fun v j => ∃ k l, v = .tuple #[.string k, .bool l] /\ k.size <= 4611686018427387904 /\ ∀ (m : Option Addr) (o : Nat) (r : Mem), j.le r -> m.isSome = true -> k.size <= o -> o <= 9223372036854775807 -> (∀ (s : Nat) (t : UInt8), k.data.toList[s]? = some t -> atI r m s = some (.int .u8 (t.toNat : Int))) -> Q (.tuple #[.agg #[.int .u8 1, .int .i64 e, .int .i64 0, .slice m k.size o], .bool l]) r) ((0 : Int) <= 0 /\ 0 < (n : Int) /\ p.isSome = true /\ ∃ i, atI d p 0 = some (.string i) /\ Br (i.toList == (ByteArray.mk #[97, 115, 107]).toList) ((0 : Int) <= 2 /\ 2 <= (n : Int) /\ Ct Tryz.prog (fnv 116) #[.slice (sladdr p c 2 1) (n - 2) (c - 2)] d fun v j => ∃ k l m o r s t u w x y z n1 c1 b1, v = .tuple #[.agg #[.int .u8 k, .int .u8 l, .string m, .int .i64 o, .int .i64 r, .int .i64 s, .int .i64 t, .int .i64 u, .int .i64 w, .int .i64 x, .int .i64 y, .slice z n1 c1], .bool b1] /\ Br (!b1) (Q (.tuple #[.agg #[.int .u8 0, .int .i64 0, .int .i64 0, .slice none 0 0], .bool false]) j) (Ct Tryz.prog (fnv 20) #[.int .i64 e, .agg #[.int .u8 k, .int .u8 l, .string m, .int .i64 o, .int .i64 r, .int .i64 s, .int .i64 t, .int .i64 u, .int .i64 w, .int .i64 x, .int .i64 y, .slice z n1 c1]] j (fun v1 I1 => ∃ n2 n3 n4 a1 n5 c2 n6, v1 = .tuple #[.agg #[.int .u8 n2, .int .i64 n3, .int .i64 n4, .slice a1 n5 c2], .int .i64 n6] /\ Q (.tuple #[.agg #[.int .u8 n2, .int .i64 n3, .int .i64 n4, .slice a1 n5 c2], .bool (n6 == 0)]) I1))) (Q (.tuple #[.agg #[.int .u8 0, .int .i64 0, .int .i64 0, .slice none 0 0], .bool false]) d))))))) (by kernel_rfl) ?_
 intro E1
 have hl : ws.length = n := by have := hp.len; rw [Nat.mul_one] at this; rw [<- this]; simp [strs]
 have hpos : 0 < ws.length := List.length_pos_iff.2 hne
 have wat : ∀ {J : Mem} (j : Nat), I.le J -> j < ws.length -> atI J p j = some (.string (wordAt ws j)) := fun {J} j hJ hj =>
  (hp.mono hJ).at_ j _ (strs_get (by rw [wordAt, List.getElem?_eq_getElem hj]; rfl))
 have wsz : ∀ j : Nat, (wordAt ws j).size <= 1000000 := fun j => by
  rw [wordAt]
  cases hq : ws[j]? with
  | none => exact Nat.zero_le _
  | some w => exact hws w (List.mem_of_getElem? hq)
 have hnp : 0 < n := by rw [<- hl]; exact hpos
 have hsome : p.isSome = true := hp.isSome hnp
 have hn0 : (0 : Int) < n := by omega
 have h01 : entAt ws = 0 \/ entAt ws = 1 := by rw [entAt]; split <;> simp
 refine ⟨⟨Int.le_refl 0, hn0, hsome, _, wat 0 (fun _ _ h => h) hpos, ?_⟩, fun a G1 la b hb => ⟨Br.mk (fun h => ⟨by omega, of_decide_eq_true h, hsome, _, wat 1 la (by have := of_decide_eq_true h; omega), (ct114 _ (wsz 1) a (hG.mono la)).mono fun v d ld ⟨e, hv, _⟩ => ⟨_, e, hv, rfl, rfl, rfl, rfl, rfl, ?_⟩⟩) (fun h => ⟨rfl, rfl, rfl, rfl, rfl, ?_⟩), fun d G2 ld e he => ?_⟩⟩
 · rw [str_eq]
   refine Br.mk (fun h => ⟨rfl, rfl, rfl, rfl, ?_⟩) (fun h => ⟨rfl, rfl, rfl, rfl, ?_⟩)
   · have h : wordAt ws 0 = strT pickB := of_decide_eq_true h
     rw [hAT, entAt, if_pos h]
   · have h : wordAt ws 0 ≠ strT pickB := of_decide_eq_false h
     rw [hAT, entAt, if_neg h]
 · have h := of_decide_eq_true h
   rw [hNW, entN, if_pos (by omega)]
 · have h := of_decide_eq_false h
   rw [hNW, entN, if_neg (by omega)]
 have hd := Mem.le_trans la ld;obtain rfl := hb.symm;obtain rfl := he.symm;refine ⟨Int.le_refl 0, hn0, hsome, _, wat 0 hd hpos, ?_⟩;rw [str_eq]
 refine Br.mk (fun h1 => ?_) (fun h1 => wr_i64 (by omega) (by omega) (Br.mk (fun h2 => ?_) (fun h2 => ⟨Int.le_refl 0, hn0, hsome, _, wat 0 hd hpos, ?_⟩)))
 · have h1 : wordAt ws 0 = strT tickB := of_decide_eq_true h1
   rw [hQ, entryW, if_pos h1];exact ⟨_, rfl, bysl_nil _⟩
 · have h1 : wordAt ws 0 ≠ strT tickB := of_decide_eq_false h1
   have h2 := of_decide_eq_true h2
   rw [hQ, entryW, if_neg h1, if_pos (by rw [<- hAT, hl]; exact h2)]
   exact ⟨_, rfl, bysl_nil _⟩
 have h1 : wordAt ws 0 ≠ strT tickB := of_decide_eq_false h1
 have h2 : ¬ (ws.length : Int) < 2 + entAt ws := by rw [<- hAT, hl]; exact of_decide_eq_false h2
 rw [str_eq];refine Br.mk (fun h3 => ?_) (fun h3 => ⟨Int.le_refl 0, hn0, hsome, _, wat 0 hd hpos, ?_⟩)
 · have h3 : wordAt ws 0 = strT pickB := of_decide_eq_true h3
   rw [hQ, entryW, if_neg h1, if_neg h2, if_pos h3, hNW];exact ⟨_, rfl, bysl_nil _⟩
 have h3 : wordAt ws 0 ≠ strT pickB := of_decide_eq_false h3
 have h22 : 2 < ws.length := by
  have : entAt ws = 1 := by rw [entAt, if_neg h3]
  omega
 rw [str_eq]
 refine Br.mk (fun h4 => ⟨by omega, by omega, hsome, _, wat 2 hd h22, (ct115 _ (wsz 2) d).mono fun v j lj hv => ?_⟩) (fun h4 => ⟨Int.le_refl 0, hn0, hsome, _, wat 0 hd hpos, ?_⟩)
 · have h4 : wordAt ws 0 = strT rawB := of_decide_eq_true h4
   obtain ⟨o, ho⟩ : ∃ o, o = unwordT (tx (wordAt ws 2)) := ⟨_, rfl⟩;rw [<- ho] at hv
   have hv : v = .tuple #[.string (strB (o.getD [])), .bool o.isSome] := by rw [hv]; cases o <;> rfl
   have hol := unw_size ho.symm (wsz 2)
   refine ⟨_, _, hv, by omega, fun m q r lr g1 g2 g3 g4 => ?_⟩
   rw [hQ, entryW, if_neg h1, if_neg h2, if_neg h3, if_pos h4, hNW, <- ho]
   exact ⟨_, rfl, bysl_str (unw_bytes ho.symm) g1 (by omega) g2 g3 g4⟩
 have h4 : wordAt ws 0 ≠ strT rawB := of_decide_eq_false h4;rw [str_eq]
 refine Br.mk (fun h5 => ⟨by omega, by omega, ?_⟩) (fun h5 => ?_)
 · have h5 : wordAt ws 0 = strT askB := of_decide_eq_true h5
   have hsm := ask_sm (ws := ws.drop 2) fun w hw => hws w (List.mem_of_mem_drop hw)
   have hdr : WsL d (.slice (sladdr p c 2 1) (n - 2) (c - 2)) (ws.drop 2) := ⟨_, _, _, rfl, by
    have := sl_drop (k := 2) (hp.mono hd) (by omega) hpc
    rwa [show (strs ws).drop 2 = strs (ws.drop 2) by simp [strs]] at this, by omega, Nat.le_trans (Nat.sub_le _ _) hpm⟩
   refine (ct116 (ws.drop 2) (fun w hw => hws w (List.mem_of_mem_drop hw)) _ d (hG.mono hd) hdr).mono fun v j lj ⟨y, hv, hy⟩ => ?_;have hy' := hy;obtain ⟨p2, n2, c2, rfl, _, _, _⟩ := hy';refine ⟨_, _, _, _, _, _, _, _, _, _, _, _, _, _, _, hv, Br.mk (fun h6 => ?_) (fun h6 => ?_)⟩
   · have h6 : (askW (ws.drop 2)).2 = false := by simpa using h6
     rw [hQ, entryW, if_neg h1, if_neg h2, if_neg h3, if_neg h4, if_pos h5, h6];exact ⟨_, rfl, bysl_nil _⟩
   · have h6 : (askW (ws.drop 2)).2 = true := by simpa using h6
     have hnr : i64R NW := by
      rw [hNW, entN];split
      · exact numA_rng _
      · exact i64R_zero
     refine (ct20 NW hnr _ hsm.ok hsm.name _ j hy hsm.fed).mono fun v k lk ⟨z, hv, hz⟩ => ?_;have hz' := hz;obtain ⟨p3, n3, c3, rfl, _, _, _⟩ := hz';refine ⟨_, _, _, _, _, _, _, hv, ?_⟩
     have e : entryW ws = ((askE NW (askW (ws.drop 2)).1).1, decide ((askE NW (askW (ws.drop 2)).1).2 = 0)) := by
      rw [entryW, if_neg h1, if_neg h2, if_neg h3, if_neg h4, if_pos h5, if_pos h6, hNW]
     rw [hQ, e];exact ⟨_, rfl, hz⟩
 · have h5 : wordAt ws 0 ≠ strT askB := of_decide_eq_false h5
   rw [hQ, entryW, if_neg h1, if_neg h2, if_neg h3, if_neg h4, if_neg h5];exact ⟨_, rfl, bysl_nil _⟩
theorem splitC_len (c : UInt8) : ∀ (s : Tx), ∀ x ∈ splitC c s, x.length <= s.length
 | [], x, hx => by simp [splitC] at hx; subst hx; simp
 | b :: r, x, hx => by
  have ih := splitC_len c r;rw [splitC] at hx
  split at hx
  · rcases List.mem_cons.1 hx with rfl | hx
    · simp
    · have := ih x hx; simp only [List.length_cons]; omega
  · split at hx
    · rename_i y ys e
      rw [e] at ih
      rcases List.mem_cons.1 hx with rfl | hx
      · have := ih y (by simp); simp only [List.length_cons]; omega
      · have := ih x (List.mem_cons_of_mem _ hx); simp only [List.length_cons]; omega
    · rename_i e
      exact absurd e (splitC_ne c r)
def pieces (t : Tx) : List ByteArray := (splitC 32 t).map strT
theorem pieces_of {l : List ByteArray} {t : Tx} (h : l.map tx = splitC 32 t) : l = pieces t := by
 rw [pieces, <- h, List.map_map]
 have : (strT ∘ tx) = id := by funext s; exact strT_tx s
 rw [this, List.map_id]
theorem pieces_ne (t : Tx) : pieces t ≠ [] := by
 rw [pieces];intro h;exact splitC_ne 32 t (List.map_eq_nil_iff.1 h)
theorem pieces_len {t : Tx} {n : Nat} (h : t.length <= n) : ∀ w ∈ pieces t, w.size <= n := fun w hw => by
 obtain ⟨x, hx, rfl⟩ := List.mem_map.1 hw;have := splitC_len 32 t x hx
 rw [strT_size]; omega
theorem k255 {k : Int} (h : k = 0 \/ k = 1 \/ k = 2 \/ k = 3) : 0 <= k /\ k <= 255 := by omega
theorem zero_okE : okEn zeroEn := ⟨⟨by decide, by decide⟩, i64R_zero, i64R_zero, byteL_nil⟩
theorem askE_ok {n : Int} (hn : i64R n) {r : Rq} (hr : okRq r) : okEn (askE n r).1 := by
 rw [askE]
 cases hR : rightR r with
 | false => exact zero_okE
 | true =>
  simp only [if_true];split
  · exact ⟨k255 (.inr (.inl rfl)), hn, i64R_zero, write_ok hr hR⟩
  · exact zero_okE
theorem entN_rng (ws : List ByteArray) : i64R (entN ws) := by
 rw [entN];split
 · exact numA_rng _
 · exact i64R_zero
theorem entry_ok {ws : List ByteArray} (hws : ∀ w ∈ ws, w.size <= 1000000) : okEn (entryW ws).1 := by
 have hn := entN_rng ws;have hsm := ask_sm (ws := ws.drop 2) fun w hw => hws w (List.mem_of_mem_drop hw);unfold entryW
 repeat' split
 · exact ⟨k255 (.inr (.inr (.inl rfl))), i64R_zero, i64R_zero, byteL_nil⟩
 · exact zero_okE
 · exact ⟨k255 (.inr (.inr (.inr rfl))), i64R_zero, hn, byteL_nil⟩
 · exact ⟨k255 (.inr (.inl rfl)), hn, i64R_zero, unw_bytes rfl⟩
 · exact askE_ok hn hsm.ok
 · exact zero_okE
 · exact zero_okE
def readL (t : Tx) : En × Int :=
 if t.length <= 32868 /\ (entryW (pieces t)).2 = true /\ cleanE (entryW (pieces t)).1 = true /\ lineT (entryW (pieces t)).1 = t then ((entryW (pieces t)).1, 0) else (zeroEn, 411)
theorem ct38 (s : ByteArray) (hs : s.size <= 1000000000) (I : Mem) (hG : Globs I) :
 Ct Tryz.prog (fnv 38) #[.string s] I (fun u I' => ∃ y, u = .tuple #[.agg (enV (readL (tx s)).1 y).toArray, .int .i64 (readL (tx s)).2] /\ BySl I' y (readL (tx s)).1.bs) := by
 obtain ⟨Q, hQ⟩ : ∃ q : Value -> Mem -> Prop, q = fun u I' => ∃ y, u = .tuple #[.agg (enV (readL (tx s)).1 y).toArray, .int .i64 (readL (tx s)).2] /\ BySl I' y (readL (tx s)).1.bs := ⟨_, rfl⟩;rw [<- hQ]
 refine viaR (ct_via (A := { }) Tryz.func38 rfl Tryz.call38 rfl rfl) (Br (decide (32868 < (s.size : Int))) (Q (.tuple #[.agg #[.int .u8 0, .int .i64 0, .int .i64 0, .slice none 0 0], .int .i64 411]) I) (Ct Tryz.prog (fnv 83) #[.string s, .string ⟨#[32]⟩] I (fun v a => ∃ b n c, v = .slice b n c /\ Ct Tryz.prog (fnv 82) #[.slice b n c] a fun d e => ∃ f g h i j k l, d = .tuple #[.agg #[.int .u8 f, .int .i64 g, .int .i64 h, .slice i j k], .bool l] /\ Br (!l) (Q (.tuple #[.agg #[.int .u8 0, .int .i64 0, .int .i64 0, .slice none 0 0], .int .i64 411]) e) (Ct Tryz.prog (fnv 22) #[.agg #[.int .u8 f, .int .i64 g, .int .i64 h, .slice i j k]] e (fun m o => ∃ q p, m = .tuple #[.string q, .int .i64 p] /\ Br (p != 0) (Q (.tuple #[.agg #[.int .u8 0, .int .i64 0, .int .i64 0, .slice none 0 0], .int .i64 411]) o) (Br (!(q.toList == s.toList)) (Q (.tuple #[.agg #[.int .u8 0, .int .i64 0, .int .i64 0, .slice none 0 0], .int .i64 411]) o) (Q (.tuple #[.agg #[.int .u8 f, .int .i64 g, .int .i64 h, .slice i j k], .int .i64 0]) o))))))) (by kernel_rfl) ?_
 have hl : (tx s).length = s.size := Array.length_toList
 have no : ∀ J : Mem, (¬ ((tx s).length <= 32868 /\ (entryW (pieces (tx s))).2 = true /\ cleanE (entryW (pieces (tx s))).1 = true /\ lineT (entryW (pieces (tx s))).1 = tx s)) -> Q (.tuple #[.agg #[.int .u8 0, .int .i64 0, .int .i64 0, .slice none 0 0], .int .i64 411]) J := fun J h => by
  rw [hQ, readL, if_neg h];exact ⟨_, rfl, bysl_nil _⟩
 refine Br.mk (fun h => no I fun hh => ?_) (fun h => ?_)
 · have h := of_decide_eq_true h
   have := hh.1;omega
 have h := of_decide_eq_false h
 have hls : (tx s).length <= 32868 := by omega
 refine (ct83 s (by omega) I hG).mono fun v a la ⟨ws, b, n, c, hv, hm, hsl, hnc, hcm⟩ => ⟨_, _, _, hv, ?_⟩
 obtain rfl := pieces_of hm
 have hp6 : ∀ w ∈ pieces (tx s), w.size <= 1000000 := pieces_len (by omega)
 refine (ct82 (pieces (tx s)) (pieces_ne _) hp6 _ a (hG.mono la) ⟨b, n, c, rfl, hsl, hnc, hcm⟩).mono fun d e le ⟨y, hv, hy⟩ => ?_;have hy' := hy;obtain ⟨p2, n2, c2, rfl, _, _, _⟩ := hy';have hok := entry_ok hp6;refine ⟨_, _, _, _, _, _, _, hv, Br.mk (fun h1 => no e fun hh => ?_) (fun h1 => ?_)⟩
 · rw [hh.2.1] at h1; cases h1
 have h1 : (entryW (pieces (tx s))).2 = true := by simpa using h1
 refine (ct22 _ hok _ e (hG.mono (Mem.le_trans la le)) hy).mono fun m o lo hv => ⟨_, _, hv, Br.mk (fun h2 => no o fun hh => ?_) (fun h2 => ?_)⟩
 · rw [lineE, if_pos hh.2.2.1] at h2; cases h2
 have h2 : cleanE (entryW (pieces (tx s))).1 = true := by
  cases hc : cleanE (entryW (pieces (tx s))).1 with
  | true => rfl
  | false => rw [lineE, hc] at h2; cases h2
 rw [str_eq];refine Br.mk (fun h3 => no o fun hh => ?_) (fun h3 => ?_)
 · rw [hh.2.2.2, strT_tx, decide_eq_true rfl] at h3; cases h3
 have h3 : strT (lineT (entryW (pieces (tx s))).1) = s := by simpa using h3
 have h4 : lineT (entryW (pieces (tx s))).1 = tx s := by have := congrArg tx h3; rwa [tx_strT] at this
 rw [hQ, readL, if_pos ⟨hls, h1, h2, by rw [h4]⟩]
 exact ⟨_, rfl, hy.mono lo⟩
theorem readL_okE {t : Tx} (ht : t.length <= 1000000) : okEn (readL t).1 := by
 rw [readL];split
 · exact entry_ok (pieces_len ht)
 · exact zero_okE
theorem readL_spec {t : Tx} (h : (readL t).2 = 0) : cleanE (readL t).1 = true /\ lineT (readL t).1 = t /\ t.length <= 32868 := by
 rw [readL] at h ⊢;split
 · rename_i hh
   exact ⟨hh.2.2.1, hh.2.2.2, hh.1⟩
 · rename_i hh
   rw [if_neg hh] at h; cases h
def okLs : List ByteArray := [⟨#[116, 105, 99, 107]⟩, ⟨#[112, 105, 99, 107, 32, 51]⟩, ⟨#[97, 115, 107, 32, 48, 32, 115, 116, 101, 112, 32, 53]⟩, ⟨#[97, 115, 107, 32, 50, 32, 111, 112, 101, 110, 32, 97, 46, 98, 32, 49]⟩, ⟨#[97, 115, 107, 32, 50, 32, 111, 112, 101, 110, 32, 37, 52, 49, 32, 49]⟩, ⟨#[97, 115, 107, 32, 48, 32, 115, 117, 98, 109, 105, 116, 32, 51, 48, 48, 32, 55, 32, 45, 49]⟩, ⟨#[97, 115, 107, 32, 48, 32, 113, 117, 101, 114, 121, 32, 101, 118, 101, 110, 116, 115, 32, 48, 32, 48, 32, 48]⟩, ⟨#[97, 115, 107, 32, 49, 32, 99, 114, 101, 97, 116, 101, 32, 37, 48, 49, 48, 50]⟩, ⟨#[97, 115, 107, 32, 48, 32, 100, 101, 115, 116, 114, 111, 121]⟩, ⟨#[114, 97, 119, 32, 48, 32, 37, 102, 102]⟩, ⟨#[114, 97, 119, 32, 48, 32, 37]⟩]
def noLs : List ByteArray := [⟨#[114, 97, 119, 32, 48, 32, 37, 48, 49, 48, 54, 48, 55, 48, 49, 48, 53]⟩, ⟨#[112, 105, 99, 107, 32, 48, 51]⟩, ⟨#[116, 105, 99, 107, 32, 49]⟩, ⟨#[97, 115, 107, 32, 48, 32, 115, 116, 101, 112]⟩, ⟨#[97, 115, 107, 32, 48, 32, 111, 112, 101, 110, 32, 37, 54, 49, 50, 101, 54, 50, 32, 49]⟩, ⟨#[114, 97, 119, 32, 48, 32, 37, 70, 70]⟩]
theorem okLs_read : ∀ q ∈ okLs, q.size <= 100 /\ (readL (tx q)).2 = 0 := by decide +kernel
theorem noLs_read : ∀ q ∈ noLs, q.size <= 100 /\ (readL (tx q)).2 = 411 := by decide +kernel
theorem step5_read : readL (tx ⟨#[97, 115, 107, 32, 48, 32, 115, 116, 101, 112, 32, 53]⟩) = (⟨1, 0, 0, [1, 6, 7, 1, 5]⟩, 0) := by decide +kernel
theorem lit_at {I : Mem} {b : Nat} {cs : Array Value} {el : TypeId} {l : List ByteArray} (h : I b = some (.cells cs el)) (hx : cs = (strs l).toArray) {n : Int} (h0 : 0 <= n) (h1 : n < l.length) : ∃ q, q ∈ l /\ atI I (some ⟨b, 0, none⟩) (n.toNat * 1 + 0) = some (.string q) := by
 have hlt : n.toNat < l.length := by omega
 refine ⟨l[n.toNat], List.getElem_mem _, ?_⟩;simp only [atI, Option.bind_some, Addr.add_lit, cellM, h, Option.isSome_none, Bool.false_eq_true, if_false];subst hx;simp [strs, hlt]
theorem bysl_lit {I : Mem} {b n : Nat} {cs : Array Value} {el : TypeId} {bs : List Int} (h : I b = some (.cells cs el)) (hx : cs = (ints .u8 bs).toArray) (hn : n = bs.length) (hm : n <= 100) : SlM I (some ⟨b, 0, none⟩) n 1 (ints .u8 bs) := by
 subst hx
 have := sl_cells (n := n) (sz := 1) h (by simp [ints]; omega) (by simp only [maxLen]; omega)
 simpa using this
theorem ct14 (I : Mem) (hG : Globs I) : Ct Tryz.prog (fnv 14) #[] I (fun v I' => v = .bool true) := by
 refine viaR (ct_via (A := { befores := [(2, [0]), (10, [1])], loops := [(2, ⟨[(13, .keep), (14, .keep), (15, .sh (.int .i64))], [], [], fun vals _ _ _ => match vals with | [.int .i64 j] => 0 <= j /\ j <= 11 | _ => False, fun vals _ => match vals with | [.int .i64 j] => (11 - j).toNat | _ => 0⟩), (10, ⟨[(39, .keep), (40, .keep), (41, .sh (.int .i64))], [], [], fun vals _ _ _ => match vals with | [.int .i64 j] => 0 <= j /\ j <= 6 | _ => False, fun vals _ => match vals with | [.int .i64 j] => (6 - j).toNat | _ => 0⟩)] }) Tryz.func14 rfl Tryz.call14 rfl rfl) (∀ (b : Nat) (a : Mem), I.le a -> a b = some (.cells #[.string ⟨#[116, 105, 99, 107]⟩, .string ⟨#[112, 105, 99, 107, 32, 51]⟩, .string ⟨#[97, 115, 107, 32, 48, 32, 115, 116, 101, 112, 32, 53]⟩, .string ⟨#[97, 115, 107, 32, 50, 32, 111, 112, 101, 110, 32, 97, 46, 98, 32, 49]⟩, .string ⟨#[97, 115, 107, 32, 50, 32, 111, 112, 101, 110, 32, 37, 52, 49, 32, 49]⟩, .string ⟨#[97, 115, 107, 32, 48, 32, 115, 117, 98, 109, 105, 116, 32, 51, 48, 48, 32, 55, 32, 45, 49]⟩, .string ⟨#[97, 115, 107, 32, 48, 32, 113, 117, 101, 114, 121, 32, 101, 118, 101, 110, 116, 115, 32, 48, 32, 48, 32, 48]⟩, .string ⟨#[97, 115, 107, 32, 49, 32, 99, 114, 101, 97, 116, 101, 32, 37, 48, 49, 48, 50]⟩, .string ⟨#[97, 115, 107, 32, 48, 32, 100, 101, 115, 116, 114, 111, 121]⟩, .string ⟨#[114, 97, 119, 32, 48, 32, 37, 102, 102]⟩, .string ⟨#[114, 97, 119, 32, 48, 32, 37]⟩] 9 (0, 0)) -> (Rf (SV.v (.slice (some ⟨b, 0, none⟩) 11 11)) /\ Rf (SV.v (.int .i64 11)) /\ (0 : Int) <= 0 /\ (0 : Int) <= 11) /\ ∀ (c : Mem), Mem -> a.le c -> ∀ (n : Int), 0 <= n /\ n <= 11 -> Br (decide (n < 11)) (0 <= n /\ n < 11 /\ true = true /\ ∃ q, atI c (some ⟨b, 0, none⟩) (n.toNat * 1 + 0) = some (.string q) /\ Ct Tryz.prog (fnv 38) #[.string q] c fun v d => ∃ e f g h i j k, v = .tuple #[.agg #[.int .u8 e, .int .i64 f, .int .i64 g, .slice h i j], .int .i64 k] /\ Ct Tryz.prog (fnv 22) #[.agg #[.int .u8 e, .int .i64 f, .int .i64 g, .slice h i j]] d fun l m => ∃ o p, l = .tuple #[.string o, .int .i64 p] /\ Wr .i64 (k + p) fun r => Br (r != 0) (Value.bool false = .bool true) (Br (!(o.toList == q.toList)) (Value.bool false = .bool true) (Wr .i64 (n + 1) (fun s => Rf (SV.v (.slice (some ⟨b, 0, none⟩) 11 11)) /\ Rf (SV.v (.int .i64 11)) /\ (0 <= s /\ s <= 11) /\ Int.toNat (11 - s) < Int.toNat (11 - n))))) (∀ (d : Nat) (e : Mem), c.le e -> e d = some (.cells #[.string ⟨#[114, 97, 119, 32, 48, 32, 37, 48, 49, 48, 54, 48, 55, 48, 49, 48, 53]⟩, .string ⟨#[112, 105, 99, 107, 32, 48, 51]⟩, .string ⟨#[116, 105, 99, 107, 32, 49]⟩, .string ⟨#[97, 115, 107, 32, 48, 32, 115, 116, 101, 112]⟩, .string ⟨#[97, 115, 107, 32, 48, 32, 111, 112, 101, 110, 32, 37, 54, 49, 50, 101, 54, 50, 32, 49]⟩, .string ⟨#[114, 97, 119, 32, 48, 32, 37, 70, 70]⟩] 9 (0, 0)) -> (Rf (SV.v (.slice (some ⟨d, 0, none⟩) 6 6)) /\ Rf (SV.v (.int .i64 6)) /\ (0 : Int) <= 0 /\ (0 : Int) <= 6) /\ ∀ (f : Mem), Mem -> e.le f -> ∀ (g : Int), 0 <= g /\ g <= 6 -> Br (decide (g < 6)) (0 <= g /\ g < 6 /\ true = true /\ ∃ q, atI f (some ⟨d, 0, none⟩) (g.toNat * 1 + 0) = some (.string q) /\ Ct Tryz.prog (fnv 38) #[.string q] f fun v h => ∃ i j k l m o p, v = .tuple #[.agg #[.int .u8 i, .int .i64 j, .int .i64 k, .slice l m o], .int .i64 p] /\ Br (p != 411) (Value.bool false = .bool true) (Wr .i64 (g + 1) (fun r => Rf (SV.v (.slice (some ⟨d, 0, none⟩) 6 6)) /\ Rf (SV.v (.int .i64 6)) /\ (0 <= r /\ r <= 6) /\ Int.toNat (6 - r) < Int.toNat (6 - g)))) (Ct Tryz.prog (fnv 38) #[.string ⟨#[97, 115, 107, 32, 48, 32, 115, 116, 101, 112, 32, 53]⟩] f (fun v h => ∃ i j k l m o p, v = .tuple #[.agg #[.int .u8 i, .int .i64 j, .int .i64 k, .slice l m o], .int .i64 p] /\ Br (p == 0) (Br (i == 1) (Br (j == 0) (∀ (q : Nat) (r : Mem), h.le r -> r q = some (.cells #[.int .u8 1, .int .u8 6, .int .u8 7, .int .u8 1, .int .u8 5] 5 (0, 0)) -> Ct Tryz.prog (fnv 43) #[.slice l m o, .slice (some ⟨q, 0, none⟩) 5 5] r fun s t => ∃ u, s = .bool u /\ Value.bool u = .bool true) (Value.bool false = .bool true)) (Value.bool false = .bool true)) (Value.bool false = .bool true))))) (by kernel_rfl) ?_
 intro b a la hb
 refine ⟨⟨rfl, rfl, by omega, by omega⟩, fun c G1 lc n ⟨n0, n1⟩ => Br.mk (fun hlt => ?_) (fun _ d e le hd => ⟨⟨rfl, rfl, by omega, by omega⟩, fun f G2 lf g ⟨g0, g1⟩ => Br.mk (fun hlt => ?_) (fun _ => ?_)⟩)⟩
 · have hlt := of_decide_eq_true hlt
   obtain ⟨q, hq, hat⟩ := lit_at (l := okLs) (lc _ _ hb) rfl n0 (by simpa [okLs] using hlt)
   obtain ⟨hs, hr⟩ := okLs_read q hq;have hl : (tx q).length = q.size := Array.length_toList;obtain ⟨r1, r2, r3⟩ := readL_spec hr
   have hok := readL_okE (t := tx q) (by omega)
   have hGc := hG.mono (Mem.le_trans la lc)
   refine ⟨n0, hlt, rfl, q, hat, (ct38 q (by omega) c hGc).mono fun v d ld ⟨y, hv, hy⟩ => ?_⟩
   have hy' := hy;obtain ⟨p2, n2, c2, rfl, _, _, _⟩ := hy';refine ⟨_, _, _, _, _, _, _, hv, (ct22 _ hok _ d (hGc.mono ld) hy).mono fun v m lm hv => ⟨_, _, hv, ?_⟩⟩;rw [hr, lineE, r1, r2, strT_tx]
   refine wr_i64 (by decide) (by decide) (Br.f rfl (Br.f ?_ (wr_i64 (by omega) (by omega) ⟨rfl, rfl, ⟨by omega, by omega⟩, by omega⟩)))
   rw [str_eq, decide_eq_true rfl]; rfl
 · have hlt := of_decide_eq_true hlt
   obtain ⟨q, hq, hat⟩ := lit_at (l := noLs) (lf _ _ hd) rfl g0 (by simpa [noLs] using hlt)
   obtain ⟨hs, hr⟩ := noLs_read q hq;have hGf := hG.mono (Mem.le_trans la (Mem.le_trans lc (Mem.le_trans le lf)))
   refine ⟨g0, hlt, rfl, q, hat, (ct38 q (by omega) f hGf).mono fun v d ld ⟨y, hv, hy⟩ => ?_⟩
   obtain ⟨p2, n2, c2, rfl, _, _, _⟩ := hy
   refine ⟨_, _, _, _, _, _, _, hv, Br.f (by rw [hr]; rfl) (wr_i64 (by omega) (by omega) ⟨rfl, rfl, ⟨by omega, by omega⟩, by omega⟩)⟩
 · have hGf := hG.mono (Mem.le_trans la (Mem.le_trans lc (Mem.le_trans le lf)))
   refine (ct38 _ (by decide) f hGf).mono fun v h lh ⟨y, hv, hy⟩ => ?_
   rw [step5_read] at hv hy;obtain ⟨p2, n2, c2, rfl, hp2, hpc2, hpm2⟩ := hy;refine ⟨_, _, _, _, _, _, _, hv, Br.t rfl (Br.t rfl (Br.t rfl fun q r lr hq => ?_))⟩
   exact (ct43 [1, 6, 7, 1, 5] [1, 6, 7, 1, 5] (by simp [byteL]) (by simp [byteL]) _ _ _ _ _ _ r (hp2.mono lr) (bysl_lit hq rfl rfl (by decide))).mono fun v J l hv => ⟨_, hv, rfl⟩
theorem wr_u8 {x : Int} {P : Int -> Prop} (h0 : 0 <= x) (h1 : x <= 255) (h : P x) : Wr .u8 x P := by
 unfold Wr
 rw [IntKind.wrap_u8, Int.emod_eq_of_lt h0 (by omega)]; exact ⟨x, rfl, h⟩
def laidL : List (String × DataW Unit) := [("math/bits.deBruijn32tab", YthfgpdjplknleaaGreatDoor.Rows.laid_math_bits_deBruijn32tab), ("math/bits.deBruijn64tab", YthfgpdjplknleaaGreatDoor.Rows.laid_math_bits_deBruijn64tab), ("internal/strconv.uint64pow10", YthfgpdjplknleaaGreatDoor.Rows.laid_internal_strconv_uint64pow10), ("unicode/utf8.acceptRanges", YthfgpdjplknleaaGreatDoor.Rows.laid_unicode_utf8_acceptRanges), ("strconv.ErrRange", YthfgpdjplknleaaGreatDoor.Rows.laid_strconv_ErrRange), ("strconv.ErrSyntax", YthfgpdjplknleaaGreatDoor.Rows.laid_strconv_ErrSyntax), ("unicode/utf8.first", YthfgpdjplknleaaGreatDoor.Rows.laid_unicode_utf8_first)]
theorem gPow : Tryz.prog.globalNamed "internal/strconv.uint64pow10" = some 1 := by kernel_rfl
theorem gSyn : Tryz.prog.globalNamed "strconv.ErrSyntax" = some 2 := by kernel_rfl
theorem gRng : Tryz.prog.globalNamed "strconv.ErrRange" = some 3 := by kernel_rfl
theorem cell_to {W w : World} (hw : (memW W).inW w) {a : Addr} {v : Value} (h : W.cell? a = some v) (hs : a.spot = none) : w.cell? a = some v := by
 refine cellM_world hw ?_;unfold World.cell? at h;unfold cellM memW;rw [hs] at h ⊢
 cases hb : W.heap[a.block]? with
 | none => rw [hb] at h; simp at h
 | some o =>
  rw [hb] at h
  cases o <;> simp_all
theorem var_to {W w : World} (hw : (memW W).inW w) {n : String} {cs : Array Value} (h : W.var? Tryz.prog n = some cs) : w.var? Tryz.prog n = some cs := by
 unfold World.var? at h ⊢
 cases hg : Tryz.prog.globalNamed n with
 | none => rw [hg] at h; cases h
 | some g =>
  rw [hg] at h;simp only [Option.bind_some] at h ⊢
  cases hb : W.heap[g]? with
  | none => rw [hb] at h; cases h
  | some o =>
   have := hw g o hb;rw [hb] at h
   rw [this]; exact h
theorem starS : "*errors.errorString" = "*" ++ "errors.errorString" := by decide +kernel
theorem rowS : ∀ u, Tryz.prog.typeName? 3 u = some "*errors.errorString" -> u = 244 := fun u h =>
 typeName_ptr_named (nm := "errors.errorString") (by rw [<- starS]; kernel_rfl) (by kernel_rfl) (by decide) u (by rw [<- starS]; exact h)
theorem sent {W : World} {n : String} {text : List UInt8} {r : List (String × DataW Unit)} {g : Nat} (hg : Tryz.prog.globalNamed n = some g) (ht : (Tryz.prog.globals[g]?).map (·.type) = some 119)
 (h : laidMet Tryz.prog ((n, .iface "*errors.errorString" (.ptr (.agg [.lit (.string text)]))) :: r) W) : ∃ tp p, W.cell? ⟨g, 0, none⟩ = some (.iface tp p) := by
 obtain ⟨a, s, hv, _⟩ := laid_sentinel h hg ht Tryz.underlying119 rowS Tryz.underlying244 Tryz.underlying246 rfl rfl Tryz.underlying9 (by kernel_rfl) (by kernel_rfl)
 have := World.var?_cell hg hv 0;exact ⟨_, _, this⟩
theorem globs_of {W : World} (hsh : W.ShapedOpen Tryz.prog) (hL : laidMetH Tryz.prog laidL W) : Globs (memW W) := by
 rw [MakeChecks.laidMetH_plain _ _ _ (by kernel_rfl)] at hL
 obtain ⟨m, hm⟩ := cell_of_shapedOpen_int (P := Tryz.prog) (g := 0) (t := 3) (zero := #[.int .i64 0]) (k := .i64) hsh (of_decide_eq_true (by kernel_rfl)) (by kernel_rfl) rfl (by kernel_rfl) (by kernel_rfl) Tryz.underlying3
 have h1 : laidMet Tryz.prog (laidL.drop 2) W := hL.tail.tail
 have hT : Lib.TabIs Tryz.prog W "internal/strconv.uint64pow10" .u64 Lib.pow10Tab := Lib.tabIs_of_head (t := 224) (e := 100) (n := 20) gPow (by kernel_rfl) (by kernel_rfl) (by kernel_rfl) (by kernel_rfl) (by kernel_rfl) h1
 have h2 : laidMet Tryz.prog (laidL.drop 4) W := hL.tail.tail.tail.tail
 obtain ⟨t1, p1, hr⟩ := sent gRng (by kernel_rfl) h2
 obtain ⟨t2, p2, hs⟩ := sent gSyn (by kernel_rfl) h2.tail
 intro w hw;exact ⟨⟨m, cell_to hw hm rfl⟩, var_to hw hT, ⟨t2, p2, cell_to hw hs rfl⟩, ⟨t1, p1, cell_to hw hr rfl⟩⟩
theorem cells5 : Tryz.prog.cellsOf 5 = 1 := by kernel_rfl
theorem cells9 : Tryz.prog.cellsOf 9 = 1 := by kernel_rfl
theorem cells2 : Tryz.prog.cellsOf 2 = 1 := by kernel_rfl
theorem cells3 : Tryz.prog.cellsOf 3 = 1 := by kernel_rfl
def Q3 (I : Mem) (v : Value) : Prop := ∃ n, v = .int .i64 n /\ i64R n
section
variable {H : Type} {enc : TypeId × Value -> H} {W : World} {r : Reach} {b0 : Nat} {v : Value} {d : DataW H} {ps : List MemPlace}
theorem op3 (hval : Value.okWide Tryz.prog W r b0 3 v) (hd : DataW.Trod enc Tryz.prog W 0 (fun _ => true) true 3 v d ps) (hw : ∀ n ∈ d.weights Tryz.prog 3, n <= reachBytes) : Q3 (memW W) v := by
 obtain ⟨n, rfl, h1, h2⟩ := opI Tryz.underlying3 hval;exact ⟨n, rfl, h1, h2⟩
end
def EnC (I : Mem) (c : List Value) (e : En) : Prop := okEn e /\ ∃ y, c = enV e y /\ BySl I y e.bs
theorem enC_mono (I J : Mem) (c : List Value) (e : En) (hle : I.le J) (h : EnC I c e) : EnC J c e := by
 obtain ⟨h1, y, h2, h3⟩ := h;exact ⟨h1, y, h2, h3.mono hle⟩
abbrev EnM (I : Mem) (a : Option Addr) (n : Nat) (l : List En) : Prop := SlR 4 EnC I a n l
theorem EnM.mono {I J : Mem} {a : Option Addr} {n : Nat} {l : List En} (h : EnM I a n l) (hle : I.le J) : EnM J a n l := SlR.mono enC_mono h hle
theorem EnM.ok {I : Mem} {a : Option Addr} {n : Nat} {l : List En} (h : EnM I a n l) : ∀ e ∈ l, okEn e := by
 obtain ⟨xs, _, hr⟩ := h;exact hr.all fun h => h.1
theorem EnM.get {I : Mem} {a : Option Addr} {n : Nat} {l : List En} (h : EnM I a n l) {j : Int} (h0 : 0 <= j) (h1 : j < n) :
 ∃ e b m c, l[j.toNat]? = some e /\ okEn e /\ BySl I (.slice b m c) e.bs /\ atI I a (j.toNat * 4 + 0) = some (.int .u8 e.kind) /\ atI I a (j.toNat * 4 + 1) = some (.int .i64 e.slot) /\ atI I a (j.toNat * 4 + 2) = some (.int .i64 e.n) /\ atI I a (j.toNat * 4 + 3) = some (.slice b m c) := by
 obtain ⟨e, c, g1, g2, ⟨g3, y, rfl, g4⟩, g5⟩ := SlR.at_ (by decide) h h0 h1
 have hb := g4;obtain ⟨b, m, cp, rfl, _⟩ := hb;exact ⟨e, b, m, cp, g1, g3, g4, g5 0 _ rfl, g5 1 _ rfl, g5 2 _ rfl, g5 3 _ rfl⟩
theorem clean_iff (e : En) : cleanE e = true ↔ (0 <= e.slot /\ e.slot <= 4294967295) /\ (0 <= e.n /\ e.n <= 4294967295) /\ ((e.kind = 1 /\ e.n = 0 /\ e.bs.length <= 16384) \/ (e.kind = 2 /\ e.n = 0 /\ e.slot = 0 /\ e.bs.length = 0) \/ (e.kind = 3 /\ e.slot = 0 /\ e.bs.length = 0)) := by
 obtain ⟨k, s, n, bs⟩ := e;simp only [cleanE, withinB]
 by_cases h1 : k = 1
 · subst h1
   rw [if_pos rfl]
   simp only [Bool.and_eq_true, decide_eq_true_eq, true_and, show ¬ ((1 : Int) = 2) by decide, show ¬ ((1 : Int) = 3) by decide, false_and, or_false]
   omega
 · rw [if_neg h1]
   by_cases h2 : k = 2
   · subst h2
     simp only [if_pos, decide_eq_true_eq, En.mk.injEq, true_and, <- List.length_eq_zero_iff];omega
   · rw [if_neg h2]
     by_cases h3 : k = 3
     · subst h3
       simp only [if_pos, Bool.and_eq_true, decide_eq_true_eq, En.mk.injEq, true_and, <- List.length_eq_zero_iff];omega
     · rw [if_neg h3]
       simp only [Bool.false_eq_true, false_iff];omega
theorem ct75 (e : En) (y : Value) (I : Mem) (hy : BySl I y e.bs) : Ct Tryz.prog (fnv 75) #[.agg (enV e y).toArray] I (fun v _ => v = .bool (cleanE e)) := by
 obtain ⟨p, n, c, rfl, hp, hpc, hpm⟩ := hy;obtain ⟨D, hD⟩ : ∃ D, D = cleanE e := ⟨_, rfl⟩;rw [<- hD]
 refine viaR (ct_via (A := { }) Tryz.func75 rfl Tryz.call75 rfl rfl) (Br (decide (e.slot < 0)) (Value.bool false = .bool D) (Br (decide (4294967295 < e.slot)) (Value.bool false = .bool D) (Br (decide (e.n < 0)) (Value.bool false = .bool D) (Br (decide (4294967295 < e.n)) (Value.bool false = .bool D) (Br (e.kind == 1) (Br (e.n == 0) (Value.bool (decide ((n : Int) <= 16384)) = .bool D) (Value.bool false = .bool D)) (Br (e.kind == 2) (Br (e.n == 0) (Br (e.slot == 0) (Value.bool ((n : Int) == 0) = .bool D) (Value.bool false = .bool D)) (Value.bool false = .bool D)) (Br (e.kind == 3) (Br (e.slot == 0) (Value.bool ((n : Int) == 0) = .bool D) (Value.bool false = .bool D)) (Value.bool false = .bool D)))))))) (by kernel_rfl) ?_
 have hn := hp.numLen;have hc := clean_iff e;rw [<- hD] at hc;have go : ∀ {b : Bool}, (b = true ↔ D = true) -> Value.bool b = Value.bool D := fun h => congrArg Value.bool (Bool.eq_iff_iff.2 h);refine Br.mk (fun h => go ?_) (fun h => Br.mk (fun h2 => go ?_) (fun h2 => Br.mk (fun h3 => go ?_) (fun h3 => Br.mk (fun h4 => go ?_) (fun h4 => Br.mk (fun h5 => Br.mk (fun h6 => go ?_) (fun h6 => go ?_)) (fun h5 => Br.mk (fun h6 => Br.mk (fun h7 => Br.mk (fun h8 => go ?_) (fun h8 => go ?_)) (fun h7 => go ?_)) (fun h6 => Br.mk (fun h7 => Br.mk (fun h8 => go ?_) (fun h8 => go ?_)) (fun h7 => go ?_)))))))
 all_goals
  rw [hc];simp only [decide_eq_true_eq, decide_eq_false_iff_not, beq_iff_eq, beq_eq_false_iff_ne, ne_eq, Bool.false_eq_true, false_iff, Bool.not_eq_true] at *;omega
theorem ct128 (x : Int) (I : Mem) (h : 0 <= x /\ x <= 15) : Ct Tryz.prog (fnv 128) #[.int .u8 x] I (fun v _ => v = .int .u8 (hexC x.toNat).toNat) := by
 obtain ⟨D, hD⟩ : ∃ D : Int, D = (hexC x.toNat).toNat := ⟨_, rfl⟩;rw [<- hD]
 refine viaR (ct_via (A := { }) Tryz.func128 rfl Tryz.call128 rfl rfl) (Br (decide (x < 10)) (Wr .u8 (48 + x) (fun c => Value.int .u8 c = .int .u8 D)) (Wr .u8 (97 + x) (fun c => Wr .u8 (c - 10) fun a => Value.int .u8 a = .int .u8 D))) (by kernel_rfl) ?_
 have hx : D = if x < 10 then 48 + x else 87 + x := by
  rw [hD]
  rcases (by omega : x = 0 \/ x = 1 \/ x = 2 \/ x = 3 \/ x = 4 \/ x = 5 \/ x = 6 \/ x = 7 \/ x = 8 \/ x = 9 \/ x = 10 \/ x = 11 \/ x = 12 \/ x = 13 \/ x = 14 \/ x = 15) with h | h | h | h | h | h | h | h | h | h | h | h | h | h | h | h <;> subst h <;> decide
 refine Br.mk (fun h1 => ?_) (fun h1 => ?_)
 · have h1 := of_decide_eq_true h1
   rw [if_pos h1] at hx
   exact wr_u8 (by omega) (by omega) (by rw [hx])
 · have h1 := of_decide_eq_false h1
   rw [if_neg h1] at hx
   refine wr_u8 (by omega) (by omega) (wr_u8 (by omega) (by omega) ?_)
   rw [hx]; congr 1; omega
theorem wordT_snoc (bs : List Int) (z : Int) : intT (wordT (bs ++ [z])) = intT (wordT bs) ++ intT (hex2 z) := by
 simp [wordT, intT]
set_option maxHeartbeats 1000000 in
theorem ct96 (bs : List Int) (hb : byteL bs) (a : Option Addr) (n c : Nat) (I : Mem) (h : SlM I a n 1 (ints .u8 bs)) (hn : n <= 1000000) :
 Ct Tryz.prog (fnv 96) #[.slice a n c] I (fun v I' => BySl I' v (intT (wordT bs))) := by
 obtain ⟨WI, hWI⟩ : ∃ f : Int -> List Value -> Prop, f = fun (j : Int) xs => 0 <= j /\ j <= n /\ xs.length = 1 + 2 * j.toNat /\ xs = ints .u8 (intT (wordT (bs.take j.toNat))) := ⟨_, rfl⟩;obtain ⟨W, hW⟩ : ∃ W, W = intT (wordT bs) := ⟨_, rfl⟩;rw [<- hW]
 refine viaR (ct_via (A := { loops := [(3, ⟨[(0, .keep), (3, .row 0), (4, .sh (.int .i64))], [(0, .row)], [(3, 1, 5)], fun vals xss _ _ => match vals, xss with | [.int .i64 j], [xs] => WI j xs | _, _ => False, fun vals _ => match vals with | [.int .i64 j] => (n - j).toNat | _ => 0⟩)] }) Tryz.func96 rfl Tryz.call96 rfl rfl) ((Rf (SV.v (.slice a n c)) /\ (1 : Nat) = 1 /\ WI 0 [.int .u8 37]) /\ ∀ (b : Mem), Mem -> I.le b -> ∀ (x : List Value) (d : Int), WI d x -> Br (decide (d < (n : Int))) (0 <= d /\ d < (n : Int) /\ a.isSome = true /\ ∃ e, atI b a (d.toNat * 1 + 0) = some (.int .u8 e) /\ (16 : Int) ≠ 0 /\ Wr .u8 (e.tdiv 16) fun f => 0 <= d /\ d < (n : Int) /\ a.isSome = true /\ ∃ g, atI b a (d.toNat * 1 + 0) = some (.int .u8 g) /\ (16 : Int) ≠ 0 /\ Ct Tryz.prog (fnv 128) #[.int .u8 f] b fun v i => ∃ j, v = .int .u8 j /\ Ct Tryz.prog (fnv 128) #[.int .u8 (g.tmod 16)] i fun k l => ∃ m, k = .int .u8 m /\ x.length = x.length * 1 /\ x.length + 2 <= 9223372036854775807 /\ (x.length + 2) * 1 <= 140737488355328 /\ Wr .i64 (d + 1) fun o => Rf (SV.v (.slice a n c)) /\ x.length + 2 = List.length (x ++ [.int .u8 j, .int .u8 m]) /\ WI o (x ++ [.int .u8 j, .int .u8 m]) /\ Int.toNat ((n : Int) - o) < Int.toNat ((n : Int) - d)) (∀ (e : Option Addr) (f : Nat) (g : Mem), b.le g -> RowM g e f 1 x -> ∃ i m j, Value.slice e x.length f = .slice i m j /\ SlM g i m 1 (List.map (Value.int .u8) W) /\ m <= j /\ j <= 9223372036854775807)) (by kernel_rfl) ?_
 simp only [Rf, eq_self, true_and];have hnl := h.numLen
 refine ⟨by rw [hWI]; exact ⟨by omega, by omega, rfl, rfl⟩, fun I1 _ l1 xs j hx => Br.mk (fun hlt => ?_) (fun hge a2 cp I2 l2 hr => ?_)⟩
 · have hlt := of_decide_eq_true hlt
   rw [hWI] at hx;obtain ⟨h0, h1, hx0, hx1⟩ := hx;have hs := h.mono l1;obtain ⟨z, hz, hat⟩ := hs.intAt h0 hlt;have hzr := hb z (List.mem_of_getElem? hz);have q1 : z.tdiv 16 = z / 16 := Int.tdiv_eq_ediv_of_nonneg hzr.1;have q2 : z.tmod 16 = z % 16 := Int.tmod_eq_emod_of_nonneg hzr.1;rw [hWI]
   refine ⟨h0, hlt, hs.isSome (by omega), z, hat, by decide, wr_u8 (by rw [q1]; omega) (by rw [q1]; omega) ⟨h0, hlt, hs.isSome (by omega), z, hat, by decide, (ct128 _ _ (by rw [q1]; omega)).mono fun v I2 l2 hv => ⟨_, hv, (ct128 _ _ (by rw [q2]; omega)).mono fun v I3 l3 hv => ⟨_, hv, by omega, by omega, by omega, wr_i64 (by omega) (by omega) ⟨by simp, ⟨by omega, by omega, by simp; omega, ?_⟩, by omega⟩⟩⟩⟩⟩
   rw [show (j + 1).toNat = j.toNat + 1 by omega, List.take_add_one, hz, Option.toList_some, wordT_snoc, hx1, q1, q2]
   have e1 : (z / 16).toNat = z.toNat / 16 := by omega
   have e2 : (z % 16).toNat = z.toNat % 16 := by omega
   rw [e1, e2];simp [ints, intT, hex2]
 · have hge := of_decide_eq_false hge
   rw [hWI] at hx;obtain ⟨h0, h1, hx0, hx1⟩ := hx
   have hj : j.toNat = n := by omega
   rw [hj, hnl, List.take_length, <- hW] at hx1;have hr' := hr;rw [hx1] at hr'
   obtain ⟨a', n', c', e, g1, g2, g3⟩ := row_bysl (n := xs.length) hr' (by rw [hx1]; simp [ints])
   exact ⟨_, _, _, e, g1, g2, g3⟩
def idxL (l : List ByteArray) (s : ByteArray) : Int := match (l.drop 1).findIdx? fun x => decide (x = s) with
 | some i => (i : Int) + 1
 | none => 0
def kindsN : List ByteArray := [⟨#[]⟩, ⟨#[99, 114, 101, 97, 116, 101]⟩, ⟨#[111, 112, 101, 110]⟩, ⟨#[103, 114, 97, 110, 116]⟩, ⟨#[114, 101, 118, 111, 107, 101]⟩, ⟨#[115, 117, 98, 109, 105, 116]⟩, ⟨#[115, 116, 101, 112]⟩, ⟨#[113, 117, 101, 114, 121]⟩, ⟨#[99, 97, 110, 99, 101, 108]⟩, ⟨#[100, 101, 115, 116, 114, 111, 121]⟩]
def asksN : List ByteArray := [⟨#[]⟩, ⟨#[115, 116, 97, 116, 117, 115]⟩, ⟨#[99, 101, 108, 108, 115]⟩, ⟨#[101, 118, 101, 110, 116, 115]⟩, ⟨#[112, 111, 114, 116, 115]⟩, ⟨#[104, 97, 110, 100, 108, 101, 115]⟩]
theorem strs_lit {I : Mem} {b n : Nat} {cs : Array Value} {el : TypeId} {l : List ByteArray} (h : I b = some (.cells cs el)) (hx : cs = (strs l).toArray) (hn : n = l.length) (hm : n <= 100) : WsL I (.slice (some ⟨b, 0, none⟩) n n) l := by
 subst hx
 have := sl_cells (n := n) (sz := 1) h (by simp [strs]; omega) (by simp only [maxLen]; omega)
 exact ⟨_, _, _, rfl, by simpa using this, Nat.le_refl _, by simp only [maxLen]; omega⟩
theorem ct92 (I : Mem) : Ct Tryz.prog (fnv 92) #[] I (fun v I' => WsL I' v kindsN) := by
 have go : ∀ (b : Nat) (J : Mem), J b = some (.cells (strs kindsN).toArray 9) -> WsL J (.slice (some ⟨b, 0, none⟩) 10 10) kindsN := fun b J h => strs_lit h rfl rfl (by decide)
 refine viaR (ct_via (A := { }) Tryz.func92 rfl Tryz.call92 rfl rfl) (∀ (b : Nat) (a : Mem), I.le a -> a b = some (.cells #[.string ⟨#[]⟩, .string ⟨#[99, 114, 101, 97, 116, 101]⟩, .string ⟨#[111, 112, 101, 110]⟩, .string ⟨#[103, 114, 97, 110, 116]⟩, .string ⟨#[114, 101, 118, 111, 107, 101]⟩, .string ⟨#[115, 117, 98, 109, 105, 116]⟩, .string ⟨#[115, 116, 101, 112]⟩, .string ⟨#[113, 117, 101, 114, 121]⟩, .string ⟨#[99, 97, 110, 99, 101, 108]⟩, .string ⟨#[100, 101, 115, 116, 114, 111, 121]⟩] 9 (0, 0)) -> WsL a (.slice (some ⟨b, 0, none⟩) 10 10) [⟨#[]⟩, ⟨#[99, 114, 101, 97, 116, 101]⟩, ⟨#[111, 112, 101, 110]⟩, ⟨#[103, 114, 97, 110, 116]⟩, ⟨#[114, 101, 118, 111, 107, 101]⟩, ⟨#[115, 117, 98, 109, 105, 116]⟩, ⟨#[115, 116, 101, 112]⟩, ⟨#[113, 117, 101, 114, 121]⟩, ⟨#[99, 97, 110, 99, 101, 108]⟩, ⟨#[100, 101, 115, 116, 114, 111, 121]⟩]) (by kernel_rfl) ?_
 exact fun b J _ hb => go b J hb
theorem ct94 (I : Mem) : Ct Tryz.prog (fnv 94) #[] I (fun v I' => WsL I' v asksN) := by
 have go : ∀ (b : Nat) (J : Mem), J b = some (.cells (strs asksN).toArray 9) -> WsL J (.slice (some ⟨b, 0, none⟩) 6 6) asksN := fun b J h => strs_lit h rfl rfl (by decide)
 refine viaR (ct_via (A := { }) Tryz.func94 rfl Tryz.call94 rfl rfl) (∀ (b : Nat) (a : Mem), I.le a -> a b = some (.cells #[.string ⟨#[]⟩, .string ⟨#[115, 116, 97, 116, 117, 115]⟩, .string ⟨#[99, 101, 108, 108, 115]⟩, .string ⟨#[101, 118, 101, 110, 116, 115]⟩, .string ⟨#[112, 111, 114, 116, 115]⟩, .string ⟨#[104, 97, 110, 100, 108, 101, 115]⟩] 9 (0, 0)) -> WsL a (.slice (some ⟨b, 0, none⟩) 6 6) [⟨#[]⟩, ⟨#[115, 116, 97, 116, 117, 115]⟩, ⟨#[99, 101, 108, 108, 115]⟩, ⟨#[101, 118, 101, 110, 116, 115]⟩, ⟨#[112, 111, 114, 116, 115]⟩, ⟨#[104, 97, 110, 100, 108, 101, 115]⟩]) (by kernel_rfl) ?_
 exact fun b J _ hb => go b J hb
set_option maxHeartbeats 1000000 in
theorem ct76 (a b : En) (y z : Value) (I : Mem) (hy : BySl I y a.bs) (hz : BySl I z b.bs) :
 Ct Tryz.prog (fnv 76) #[.agg (enV a y).toArray, .agg (enV b z).toArray] I (fun v _ => v = .bool (decide (a = b))) := by
 obtain ⟨p, n, c, rfl, hp, _⟩ := hy;obtain ⟨q, m, d, rfl, hq, _⟩ := hz;obtain ⟨D, hD⟩ : ∃ D, D = decide (a = b) := ⟨_, rfl⟩;rw [<- hD];obtain ⟨WI, hWI⟩ : ∃ f : Int -> Prop, f = fun (j : Int) => 0 <= j /\ j <= n /\ n = m /\ a.kind = b.kind /\ a.slot = b.slot /\ a.n = b.n /\ a.bs.take j.toNat = b.bs.take j.toNat := ⟨_, rfl⟩
 refine viaR (ct_via (A := { loops := [(4, ⟨[(2, .keep), (3, .keep), (5, .sh (.int .i64))], [(0, .keep), (1, .keep)], [], fun vals _ _ _ => match vals with | [.int .i64 j] => WI j | _ => False, fun vals _ => match vals with | [.int .i64 j] => (n - j).toNat | _ => 0⟩)] }) Tryz.func76 rfl Tryz.call76 rfl rfl) (Br (a.kind != b.kind) (Value.bool false = .bool D) (Br (a.slot != b.slot) (Value.bool false = .bool D) (Br (a.n != b.n) (Value.bool false = .bool D) (Br ((n : Int) != (m : Int)) (Value.bool false = .bool D) ((Rf (Ent.mk (.cells [.v (.int .u8 a.kind), .v (.int .i64 a.slot), .v (.int .i64 a.n), .v (.slice p n c)] 72) none) /\ Rf (Ent.mk (.cells [.v (.int .u8 b.kind), .v (.int .i64 b.slot), .v (.int .i64 b.n), .v (.slice q m d)] 72) none) /\ Rf (SV.ptr 0 0) /\ Rf (SV.ptr 1 0) /\ WI 0) /\ ∀ (e : Mem), Mem -> I.le e -> ∀ (f : Int), WI f -> Br (decide (f < (n : Int))) (0 <= f /\ f < (n : Int) /\ p.isSome = true /\ ∃ g, atI e p (f.toNat * 1 + 0) = some (.int .u8 g) /\ 0 <= f /\ f < (m : Int) /\ q.isSome = true /\ ∃ h, atI e q (f.toNat * 1 + 0) = some (.int .u8 h) /\ Br (g != h) (Value.bool false = .bool D) (Wr .i64 (f + 1) (fun i => Rf (Ent.mk (.cells [.v (.int .u8 a.kind), .v (.int .i64 a.slot), .v (.int .i64 a.n), .v (.slice p n c)] 72) none) /\ Rf (Ent.mk (.cells [.v (.int .u8 b.kind), .v (.int .i64 b.slot), .v (.int .i64 b.n), .v (.slice q m d)] 72) none) /\ Rf (SV.ptr 0 0) /\ Rf (SV.ptr 1 0) /\ WI i /\ Int.toNat ((n : Int) - i) < Int.toNat ((n : Int) - f)))) (Value.bool true = .bool D)))))) (by kernel_rfl) ?_
 simp only [Rf, eq_self, true_and];have hpn := hp.numLen;have hmx := hp.max;simp only [maxLen] at hmx;have hqn := hq.numLen
 have no : a ≠ b -> Value.bool false = Value.bool D := fun hh => by rw [hD, decide_eq_false hh]
 refine Br.mk (fun h => no fun e => by rw [e] at h; simp at h) (fun h1 => Br.mk (fun h => no fun e => by rw [e] at h; simp at h) (fun h2 => Br.mk (fun h => no fun e => by rw [e] at h; simp at h) (fun h3 => Br.mk (fun h => no fun e => ?_) (fun h4 => ?_))))
 · have h : (n : Int) ≠ m := by simpa using h
   rw [e] at hpn;omega
 · have h1 : a.kind = b.kind := by simpa using h1
   have h2 : a.slot = b.slot := by simpa using h2
   have h3 : a.n = b.n := by simpa using h3
   have h4 : n = m := by
    have : (n : Int) = m := by simpa using h4
    omega
   refine ⟨by rw [hWI]; exact ⟨by omega, by omega, h4, h1, h2, h3, rfl⟩, fun J _ lJ j hj => ?_⟩
   rw [hWI] at hj;obtain ⟨g0, g1, _, _, _, _, g2⟩ := hj;refine Br.mk (fun hlt => ?_) (fun hge => ?_)
   · have hlt := of_decide_eq_true hlt
     obtain ⟨x, hx, hx1⟩ := (hp.mono lJ).intAt g0 hlt
     obtain ⟨y, hy, hy1⟩ := (hq.mono lJ).intAt g0 (by omega)
     refine ⟨g0, hlt, hp.isSome (by omega), x, hx1, g0, by omega, hq.isSome (by omega), y, hy1, Br.mk (fun h5 => no fun e => ?_) (fun h5 => ?_)⟩
     · have h5 : x ≠ y := by simpa using h5
       rw [e, hy] at hx;cases hx;exact h5 rfl
     · have h5 : x = y := by simpa using h5
       refine wr_i64 (by omega) (by omega) ⟨?_, by omega⟩
       rw [hWI]
       refine ⟨by omega, by omega, h4, h1, h2, h3, ?_⟩
       rw [show (j + 1).toNat = j.toNat + 1 by omega, List.take_add_one, List.take_add_one, g2, hx, hy, h5]
   · have hge := of_decide_eq_false hge
     rw [hD, decide_eq_true]
     have e1 : a.bs = b.bs := by
      have ha : a.bs.take j.toNat = a.bs := List.take_of_length_le (by omega)
      have hb : b.bs.take j.toNat = b.bs := List.take_of_length_le (by omega)
      rw [<- ha, <- hb]; exact g2
     obtain ⟨k1, s1, n1, b1⟩ := a;obtain ⟨k2, s2, n2, b2⟩ := b
     simp only at h1 h2 h3 e1
     rw [h1, h2, h3, e1]
theorem splitC_hit (c : UInt8) : ∀ (p r : Tx), c ∉ p -> splitC c (p ++ c :: r) = p :: splitC c r
 | [], r, _ => by simp [splitC]
 | b :: p, r, h => by
  have hb : b ≠ c := fun e => h (by simp [e])
  rw [List.cons_append, splitC, if_neg hb, splitC_hit c p r fun hp => h (List.mem_cons_of_mem _ hp)]
theorem splitC_one (c : UInt8) : ∀ (p : Tx), c ∉ p -> splitC c p = [p]
 | [], _ => rfl
 | b :: p, h => by
  have hb : b ≠ c := fun e => h (by simp [e])
  rw [splitC, if_neg hb, splitC_one c p fun hp => h (List.mem_cons_of_mem _ hp)]
theorem tx_extract (s : ByteArray) (i j : Nat) : tx (s.extract i j) = ((tx s).take j).drop i := by
 simp [tx, ByteArray.data_extract, List.extract_eq_take_drop, List.drop_take]
theorem nDigits_lt : ∀ (k u : Nat), 1 <= k -> u < 10 ^ k -> Lib.nDigits u <= k
 | 0, _, h, _ => absurd h (by decide)
 | k + 1, u, _, h => by
  by_cases hu : u < 10
  · rw [Lib.nDigits_small hu]; omega
  · rw [Lib.nDigits_big hu]
    have hk : 1 <= k := by
     rcases Nat.eq_zero_or_pos k with rfl | hk
     · exact absurd (by simpa using h) hu
     · exact hk
    rw [Nat.pow_succ] at h
    have := nDigits_lt k (u / 10) hk (by omega)
    omega
theorem nDigits_le {u : Nat} (h : u <= 9223372036854775808) : Lib.nDigits u <= 19 := nDigits_lt 19 u (by decide) (by
 have : (10 : Nat) ^ 19 = 10000000000000000000 := by decide
 omega)
def firstI (s : ByteArray) : Option Int := (strL s).head?
def qKind (ws : List ByteArray) : Int := idxL kindsN (ws.headD ⟨#[]⟩)
def qWhat (ws : List ByteArray) : Int := if qKind ws = 7 /\ 1 < ws.length then idxL asksN ((ws[1]?).getD ⟨#[]⟩) else 0
def q0 (ws : List ByteArray) : Rq := { zeroRq with kind := qKind ws, what := qWhat ws }
theorem wr_i32 {n : Int} {K : Int -> Prop} (h0 : -2147483648 <= n) (h1 : n <= 2147483647) (h : K n) : Wr .i32 n K := ⟨n, IntWalk.i32_in _ ⟨h0, h1⟩, h⟩
theorem dec_step {k : Int} (h0 : k <= 0) (t : Tx) : (0 < (-k.tdiv 10) /\ Lib.decDigits (-k).toNat ++ t = Lib.decDigits (-k.tdiv 10).toNat ++ (UInt8.ofNat (48 - k.tmod 10).toNat :: t)) \/ (k.tdiv 10 = 0 /\ Lib.decDigits (-k).toNat ++ t = UInt8.ofNat (48 - k.tmod 10).toNat :: t) := by
 obtain ⟨u, rfl⟩ : ∃ u : Nat, k = -(u : Int) := ⟨(-k).toNat, by omega⟩
 have e1 : (-(u : Int)).tdiv 10 = -((u / 10 : Nat) : Int) := by
  rw [Int.neg_tdiv, Int.tdiv_eq_ediv_of_nonneg (by omega)]; omega
 have e2 : (-(u : Int)).tmod 10 = -((u % 10 : Nat) : Int) := by
  rw [Int.neg_tmod, Int.tmod_eq_emod_of_nonneg (by omega)]; omega
 rw [e1, e2, Lib.decDigits]
 have e3 : (-(-(u : Int))).toNat = u := by omega
 have e4 : (48 - -((u % 10 : Nat) : Int)).toNat = 48 + u % 10 := by omega
 have e5 : (-(-((u / 10 : Nat) : Int))).toNat = u / 10 := by omega
 rw [e4, e5]
 by_cases h : u < 10
 · refine .inr ⟨by omega, ?_⟩
   rw [dif_pos (by omega), e3, Nat.mod_eq_of_lt h]; rfl
 · refine .inl ⟨by omega, ?_⟩
   rw [dif_neg (by omega), e3, List.append_assoc]; rfl
theorem tx_one (b : UInt8) (s : ByteArray) : tx ((⟨#[b]⟩ : ByteArray) ++ s) = b :: tx s := by simp [tx]
theorem tx_nil_iff (s : ByteArray) : tx s = [] ↔ s = ⟨#[]⟩ := by
 constructor
 · intro h
   have : strT (tx s) = strT [] := by rw [h]
   rw [strT_tx] at this;exact this
 · rintro rfl; rfl
set_option maxHeartbeats 1000000 in
theorem ct97 (n : Int) (hn : i64R n) (I : Mem) : Ct Tryz.prog (fnv 97) #[.int .i64 n] I (fun v _ => v = .string (strT (Lib.itoa n))) := by
 obtain ⟨D, hD⟩ : ∃ D : ByteArray, D = strT (Lib.itoa n) := ⟨_, rfl⟩;rw [<- hD];obtain ⟨WI, hWI⟩ : ∃ f : Int -> ByteArray -> Prop, f = fun k s => -9223372036854775808 <= k /\ k <= 0 /\ ((k = 0 /\ tx s = Lib.decDigits n.natAbs) \/ ((tx s = [] \/ k < 0) /\ Lib.decDigits n.natAbs = Lib.decDigits (-k).toNat ++ tx s)) := ⟨_, rfl⟩
 obtain ⟨M, hM⟩ : ∃ f : Int -> ByteArray -> Nat, f = fun k s => 2 * (-k).toNat + (if tx s = [] then 1 else 0) := ⟨_, rfl⟩
 refine viaR (ct_via (A := { loops := [(4, ⟨[(0, .sh (.int .i64)), (3, .sh .str)], [], [], fun vals _ _ _ => match vals with | [.int .i64 k, .string s] => WI k s | _ => False, fun vals _ => match vals with | [.int .i64 k, .string s] => M k s | _ => 0⟩), (9, ⟨[(0, .sh (.int .i64)), (4, .sh .str)], [], [], fun vals _ _ _ => match vals with | [.int .i64 k, .string s] => WI k s | _ => False, fun vals _ => match vals with | [.int .i64 k, .string s] => M k s | _ => 0⟩)] }) Tryz.func97 rfl Tryz.call97 rfl rfl) (Br (decide (0 <= n)) (Wr .i64 (0 - n) (fun c => WI c ⟨#[]⟩ /\ ∀ (a : Mem), Mem -> I.le a -> ∀ (b : Int) (q : ByteArray), WI b q -> Br (q.toList == (ByteArray.mk #[]).toList) ((10 : Int) ≠ 0 /\ Wr .i64 (48 - b.tmod 10) fun d => Wr .i32 d fun e => ∃ f, (f.toNat : Int) = e /\ e < 128 /\ 1 + q.size <= 4611686018427387904 /\ (10 : Int) ≠ 0 /\ Wr .i64 (b.tdiv 10) fun g => WI g (⟨#[f]⟩ ++ q) /\ M g (⟨#[f]⟩ ++ q) < M b q) (Br (decide (b < 0)) ((10 : Int) ≠ 0 /\ Wr .i64 (48 - b.tmod 10) fun d => Wr .i32 d fun e => ∃ f, (f.toNat : Int) = e /\ e < 128 /\ 1 + q.size <= 4611686018427387904 /\ (10 : Int) ≠ 0 /\ Wr .i64 (b.tdiv 10) fun g => WI g (⟨#[f]⟩ ++ q) /\ M g (⟨#[f]⟩ ++ q) < M b q) (Value.string q = .string D)))) (WI n ⟨#[]⟩ /\ ∀ (a : Mem), Mem -> I.le a -> ∀ (b : Int) (q : ByteArray), WI b q -> Br (decide (b < 0)) ((10 : Int) ≠ 0 /\ Wr .i64 (48 - b.tmod 10) fun c => Wr .i32 c fun d => ∃ e, (e.toNat : Int) = d /\ d < 128 /\ 1 + q.size <= 4611686018427387904 /\ (10 : Int) ≠ 0 /\ Wr .i64 (b.tdiv 10) fun f => WI f (⟨#[e]⟩ ++ q) /\ M f (⟨#[e]⟩ ++ q) < M b q) (1 + q.size <= 4611686018427387904 /\ Value.string (⟨#[45]⟩ ++ q) = .string D))) (by kernel_rfl) ?_
 have hrem : ∀ {k : Int}, -9223372036854775808 <= k -> k <= 0 -> k.tmod 10 <= 0 /\ -9 <= k.tmod 10 /\ k <= k.tdiv 10 /\ k.tdiv 10 <= 0 /\ (k < 0 -> k < k.tdiv 10) := fun {k} h0 h1 => by
  obtain ⟨u, rfl⟩ : ∃ u : Nat, k = -(u : Int) := ⟨(-k).toNat, by omega⟩
  rw [Int.neg_tdiv, Int.tdiv_eq_ediv_of_nonneg (by omega), Int.neg_tmod, Int.tmod_eq_emod_of_nonneg (by omega)]
  omega
 have hdl : (Lib.decDigits n.natAbs).length <= 19 := by
  rw [Lib.decDigits_length]
  exact nDigits_le (by have := hn.1; have := hn.2; omega)
 have hts : ∀ s : ByteArray, (tx s).length = s.size := fun s => Array.length_toList
 have go : ∀ (k : Int) (s : ByteArray), WI k s -> (tx s = [] \/ k < 0) -> (10 : Int) ≠ 0 /\ Wr IntKind.i64 (48 - k.tmod 10) fun d => Wr IntKind.i32 d fun e => ∃ f : UInt8, ↑f.toNat = e /\ e < 128 /\ 1 + s.size <= 4611686018427387904 /\ (10 : Int) ≠ 0 /\ Wr IntKind.i64 (k.tdiv 10) fun g => WI g ({ data := #[f] } ++ s) /\ M g ({ data := #[f] } ++ s) < M k s := by
  intro k s h hc;rw [hWI] at h;obtain ⟨h0, h1, h2⟩ := h;obtain ⟨r1, r2, r3, r4, r5⟩ := hrem h0 h1
  rcases h2 with ⟨hk, he⟩ | ⟨_, he⟩
  · rcases hc with hc | hc
    · rw [hc] at he
      exact absurd he.symm (dec_digits _).1
    · omega
  · have hsz : s.size <= 19 := by
     have := congrArg List.length he;rw [List.length_append, hts] at this;omega
    refine ⟨by decide, wr_i64 (by omega) (by omega) (wr_i32 (by omega) (by omega) ⟨UInt8.ofNat (48 - k.tmod 10).toNat, by rw [UInt8.toNat_ofNat']; omega, by omega, by omega, by decide, wr_i64 (by omega) (by omega) ⟨?_, ?_⟩⟩)⟩
    · rw [hWI]
      refine ⟨by omega, r4, ?_⟩
      rw [tx_one, he]
      rcases dec_step h1 (tx s) with ⟨d1, d2⟩ | ⟨d1, d2⟩
      · exact .inr ⟨.inr (by omega), d2⟩
      · exact .inl ⟨d1, d2.symm⟩
    · rw [hM]
      simp only [tx_one]
      rw [if_neg (by simp)]
      split
      · omega
      · rename_i hne
        have := r5 (hc.resolve_left hne);omega
 refine Br.mk (fun h => ?_) (fun h => ?_)
 · have h := of_decide_eq_true h
   refine wr_i64 (by have := hn.2; omega) (by omega) ⟨?_, fun _ _ _ k s hs => Br.mk (fun h1 => ?_) (fun h1 => Br.mk (fun h2 => ?_) (fun h2 => ?_))⟩
   · rw [hWI]
     refine ⟨by have := hn.2; omega, by omega, .inr ⟨.inl rfl, ?_⟩⟩
     rw [show (-(0 - n)).toNat = n.natAbs by omega]
     exact (List.append_nil _).symm
   · rw [str_eq] at h1
     exact go k s hs (.inl ((tx_nil_iff s).2 (of_decide_eq_true h1)))
   · exact go k s hs (.inr (of_decide_eq_true h2))
   · rw [str_eq] at h1
     have h1 := of_decide_eq_false h1;have h2 := of_decide_eq_false h2;rw [hWI] at hs
     obtain ⟨_, _, ⟨_, he⟩ | ⟨hc | hc, _⟩⟩ := hs
     · rw [hD, Lib.itoa, if_neg (by omega), show n.toNat = n.natAbs by omega, <- he, strT_tx]
     · exact absurd ((tx_nil_iff s).1 hc) h1
     · exact absurd hc h2
 · have h := of_decide_eq_false h
   refine ⟨?_, fun _ _ _ k s hs => Br.mk (fun h2 => ?_) (fun h2 => ?_)⟩
   · rw [hWI]
     refine ⟨hn.1, by omega, .inr ⟨.inl rfl, ?_⟩⟩
     rw [show (-n).toNat = n.natAbs by omega]
     exact (List.append_nil _).symm
   · exact go k s hs (.inr (of_decide_eq_true h2))
   · have h2 := of_decide_eq_false h2
     rw [hWI] at hs;obtain ⟨_, hk0, hs⟩ := hs
     have he : tx s = Lib.decDigits n.natAbs := by
      rcases hs with ⟨_, he⟩ | ⟨hc | hc, he⟩
      · exact he
      · rw [hc, List.append_nil, show k = 0 by omega] at he
        exfalso
        have h9 : (Lib.decDigits n.natAbs) = [48] := by rw [he, show ((-(0 : Int)).toNat) = 0 by decide, Lib.decDigits, dif_pos (by decide)]; rfl
        have h8 := parse_dec n.natAbs (by have := hn.1; omega)
        rw [h9, show ((48 : UInt8) :: []) = Lib.decDigits 0 from by rw [Lib.decDigits, dif_pos (by decide)]; rfl, parse_dec 0 (by decide)] at h8
        simp only [Lib.NumEnd.ok.injEq] at h8;omega
      · omega
     have hsz : s.size <= 19 := by rw [<- hts, he]; exact hdl
     refine ⟨by omega, ?_⟩
     rw [hD, Lib.itoa, if_pos (by omega), <- he]
     refine congrArg Value.string ?_;apply ByteArray.ext;simp [strT, tx]
theorem ct98 (r : Rq) (y : Value) (t : Int) (ht : 3 <= t /\ t <= 9) (I : Mem) :
 Ct Tryz.prog (fnv 98) #[.agg (rqV r y).toArray, .int .i64 t] I (fun v _ => v = .int .i64 (numR r t)) := by
 refine viaR (ct_via (A := { calls := [(23, .sym)] }) Tryz.func98 rfl Tryz.call98 rfl rfl) (Wr .i64 (t - 3) fun c => 0 <= c /\ c < 7 /\ ∃ n, [Value.int .i64 r.p3, .int .i64 r.p4, .int .i64 r.p5, .int .i64 r.p6, .int .i64 r.p7, .int .i64 r.p8, .int .i64 r.p9][0 + c.toNat * 1 + 0]? = some (.int .i64 n) /\ Value.int .i64 n = .int .i64 (numR r t)) (by kernel_rfl) ?_
 rcases (by omega : t = 3 \/ t = 4 \/ t = 5 \/ t = 6 \/ t = 7 \/ t = 8 \/ t = 9) with rfl | rfl | rfl | rfl | rfl | rfl | rfl
 all_goals exact wr_i64 (by omega) (by omega) ⟨by omega, by omega, _, rfl, rfl⟩
theorem str_first {s : ByteArray} {c : UInt8} (h : s.data.toList[0]? = some c) : firstI s = some (c.toNat : Int) := by
 rw [firstI, strL, <- List.head?_eq_getElem?] at *
 rw [List.head?_map, h]; rfl
def nameF (t : Tx) (b : Int) : Bool := nameEnd (nameGo (intT t) b)
theorem nameF_cons (c : UInt8) (t : Tx) (b : Int) : nameF (c :: t) b = (nameStep b c.toNat && nameF t c.toNat) := by
 show nameEnd (if nameStep b (c.toNat : Int) then nameGo (intT t) (c.toNat : Int) else none) = _
 cases nameStep b (c.toNat : Int) <;> rfl
theorem name_split : ∀ (t : Tx) (b : Int), nameF t b = match splitC 46 t with | x :: xs => nameF x b && xs.all (fun y => nameF y 46) | [] => false
 | [], b => by simp [splitC]
 | c :: r, b => by
  have ih := name_split r;rw [nameF_cons, splitC]
  by_cases hc : c = 46
  · subst hc
    rw [if_pos rfl]
    have h1 : nameStep b ((46 : UInt8).toNat : Int) = nameF [] b := by
     show (if (97 <= (46 : Int) /\ (46 : Int) <= 122) \/ (48 <= (46 : Int) /\ (46 : Int) <= 57) then true else if (46 : Int) = 45 then decide (b ≠ 46) else if (46 : Int) = 46 then decide (b ≠ 46) && decide (b ≠ 45) else false) = (decide (b ≠ 46) && decide (b ≠ 45))
     simp
    have h2 := ih 46;rw [h1]
    show (nameF [] b && nameF r 46) = (nameF [] b && (splitC 46 r).all fun y => nameF y 46)
    rw [h2]
    cases hs : splitC 46 r with
    | nil => exact absurd hs (splitC_ne 46 r)
    | cons x xs => rfl
  · rw [if_neg hc, ih]
    cases hs : splitC 46 r with
    | nil => exact absurd hs (splitC_ne 46 r)
    | cons x xs =>
     simp only
     rw [nameF_cons, Bool.and_assoc]
def okC (c : Int) : Prop := (97 <= c /\ c <= 122) \/ (48 <= c /\ c <= 57) \/ c = 45
theorem part_iff : ∀ (t : Tx) (b : Int), (46 : UInt8) ∉ t -> (nameF t b = true ↔ (t = [] -> b ≠ 46 /\ b ≠ 45) /\ (∀ c ∈ t, okC c.toNat) /\ (t.head? = some 45 -> b ≠ 46) /\ t.getLast? ≠ some 45)
 | [], b, _ => by
  show ((decide (b ≠ 46) && decide (b ≠ 45)) = true) ↔ _
  simp
 | c :: r, b, h => by
  have hc : c ≠ 46 := fun e => h (by simp [e])
  have hc' : (c.toNat : Int) ≠ 46 := fun e => hc (UInt8.toNat_inj.1 (by show c.toNat = 46; omega))
  have ih := part_iff r (c.toNat : Int) fun hr => h (List.mem_cons_of_mem _ hr);rw [nameF_cons, Bool.and_eq_true, ih]
  have h45 : c = 45 ↔ (c.toNat : Int) = 45 := ⟨fun e => by subst e; rfl, fun e => UInt8.toNat_inj.1 (by show c.toNat = 45; omega)⟩
  have hst : nameStep b c.toNat = true ↔ okC c.toNat /\ ((c.toNat : Int) = 45 -> b ≠ 46) := by
   unfold nameStep okC
   by_cases h1 : (97 <= (c.toNat : Int) /\ (c.toNat : Int) <= 122) \/ (48 <= (c.toNat : Int) /\ (c.toNat : Int) <= 57)
   · rw [if_pos h1]
     simp only [true_iff]
     exact ⟨by omega, by omega⟩
   · rw [if_neg h1]
     by_cases h2 : (c.toNat : Int) = 45
     · rw [if_pos h2, decide_eq_true_eq]; simp only [h2]; simp
     · rw [if_neg h2, if_neg hc']
       simp only [Bool.false_eq_true, false_iff];omega
  rw [hst]
  cases r with
  | nil =>
   simp only [List.mem_cons, List.not_mem_nil, or_false, forall_eq, List.head?_cons, List.head?_nil, List.getLast?_singleton, List.getLast?_nil, Option.some.injEq, false_implies, implies_true, true_and, forall_const, reduceCtorEq, not_false_eq_true, ne_eq, and_true, h45];constructor
   · rintro ⟨⟨h1, h2⟩, h3⟩; exact ⟨h1, h2, h3.2⟩
   · rintro ⟨h1, h2, h3⟩; exact ⟨⟨h1, h2⟩, hc', h3⟩
  | cons d r =>
   simp only [List.mem_cons, List.head?_cons, Option.some.injEq, List.getLast?_cons_cons, h45, reduceCtorEq, false_implies, true_and, ne_eq];constructor
   · rintro ⟨⟨h1, h2⟩, h3, h4, h5⟩
     refine ⟨fun x hx => ?_, h2, h5⟩
     rcases hx with rfl | hx
     · exact h1
     · exact h3 x hx
   · rintro ⟨h1, h2, h3⟩
     exact ⟨⟨h1 c (.inl rfl), h2⟩, fun x hx => h1 x (.inr hx), fun _ => hc', h3⟩
set_option maxHeartbeats 1000000 in
theorem ct126 (s : ByteArray) (hs : s.size <= 1000000) (I : Mem) :
 Ct Tryz.prog (fnv 126) #[.string s] I (fun v I' => ∃ l, WsL I' v l /\ l.map tx = splitC 46 (tx s)) := by
 obtain ⟨Q, hQ⟩ : ∃ f : Mem -> Value -> Prop, f = fun I' v => ∃ l, WsL I' v l /\ l.map tx = splitC 46 (tx s) := ⟨_, rfl⟩
 suffices h : Ct Tryz.prog (fnv 126) #[.string s] I (fun v I' => Q I' v) from h.mono fun v I' l hv => by rw [hQ] at hv; exact hv
 obtain ⟨WI, hWI⟩ : ∃ f : Int -> Int -> List Value -> Prop, f = fun (k j : Int) xs => 0 <= k /\ k <= j /\ j <= s.size + 1 /\ (xs.length : Int) <= j /\ ∃ L, xs = strs L /\ ((j <= s.size /\ (46 : UInt8) ∉ ((tx s).take j.toNat).drop k.toNat /\ splitC 46 (tx s) = L.map tx ++ splitC 46 ((tx s).drop k.toNat)) \/ (j = s.size + 1 /\ splitC 46 (tx s) = L.map tx)) := ⟨_, rfl⟩
 refine viaR (ct_via (A := { loops := [(4, ⟨[(0, .keep), (3, .row 0), (4, .sh (.int .i64)), (5, .sh (.int .i64))], [(0, .row)], [(3, 1, 9)], fun vals xss _ _ => match vals, xss with | [.int .i64 k, .int .i64 j], [xs] => WI k j xs | _, _ => False, fun vals _ => match vals with | [_, .int .i64 j] => (s.size + 2 - j).toNat | _ => 0⟩)] }) Tryz.func126 rfl Tryz.call126 rfl rfl) ((Rf (SV.v (.string s)) /\ (0 : Nat) = 0 /\ WI 0 0 []) /\ ∀ (a : Mem), Mem -> I.le a -> ∀ (x : List Value) (n b : Int), WI n b x -> Br (decide (b <= (s.size : Int))) (Br (b == (s.size : Int)) (0 <= n /\ n <= b /\ b <= (s.size : Int) /\ x.length = x.length * 1 /\ x.length + 1 <= 9223372036854775807 /\ (x.length + 1) * 16 <= 140737488355328 /\ Wr .i64 (b + 1) fun c => Wr .i64 (b + 1) fun d => Rf (SV.v (.string s)) /\ x.length + 1 = List.length (x ++ [.string (s.extract n.toNat b.toNat)]) /\ WI c d (x ++ [.string (s.extract n.toNat b.toNat)]) /\ Int.toNat ((s.size : Int) + 2 - d) < Int.toNat ((s.size : Int) + 2 - b)) (∃ c, s.data.toList[b.toNat]? = some c /\ 0 <= b /\ Br ((c.toNat : Int) == 46) (0 <= n /\ n <= b /\ b <= (s.size : Int) /\ x.length = x.length * 1 /\ x.length + 1 <= 9223372036854775807 /\ (x.length + 1) * 16 <= 140737488355328 /\ Wr .i64 (b + 1) fun d => Wr .i64 (b + 1) fun e => Rf (SV.v (.string s)) /\ x.length + 1 = List.length (x ++ [.string (s.extract n.toNat b.toNat)]) /\ WI d e (x ++ [.string (s.extract n.toNat b.toNat)]) /\ Int.toNat ((s.size : Int) + 2 - e) < Int.toNat ((s.size : Int) + 2 - b)) (Wr .i64 (b + 1) (fun d => Rf (SV.v (.string s)) /\ Rf x.length /\ WI n d x /\ Int.toNat ((s.size : Int) + 2 - d) < Int.toNat ((s.size : Int) + 2 - b))))) (∀ (c : Option Addr) (d : Nat) (e : Mem), a.le e -> RowM e c d 1 x -> Q e (.slice c x.length d))) (by kernel_rfl) ?_
 simp only [Rf, eq_self, true_and];have hsl : (tx s).length = s.size := Array.length_toList
 refine ⟨by rw [hWI]; exact ⟨by omega, by omega, by omega, by simp, [], rfl, .inl ⟨by omega, by simp, rfl⟩⟩, fun J _ lJ xs k j hj => Br.mk (fun hlt => ?_) (fun hge c d e le hr => ?_)⟩
 · have hlt := of_decide_eq_true hlt
   rw [hWI] at hj;obtain ⟨h0, h1, h2, h3, L, rfl, hc⟩ := hj
   rcases hc with ⟨_, hno, hsp⟩ | ⟨h4, _⟩
   · have hdt : ((tx s).take j.toNat).drop k.toNat ++ (tx s).drop j.toNat = (tx s).drop k.toNat := by
      rw [<- List.drop_append_of_le_length (by rw [List.length_take]; omega), List.take_append_drop]
     refine Br.mk (fun h4 => ?_) (fun h4 => ?_)
     · have h4 : j = (s.size : Int) := by simpa using h4
       refine ⟨by omega, by omega, by omega, by omega, by omega, by omega, wr_i64 (by omega) (by omega) (wr_i64 (by omega) (by omega) ⟨by simp, ?_, by omega⟩)⟩
       rw [hWI]
       refine ⟨by omega, by omega, by omega, by simp only [List.length_append, List.length_cons, List.length_nil]; omega, L ++ [s.extract k.toNat j.toNat], by simp [strs], .inr ⟨by omega, ?_⟩⟩
       have hd : (tx s).drop j.toNat = [] := List.drop_eq_nil_of_le (by omega)
       rw [hd, List.append_nil] at hdt;rw [hsp, <- hdt, splitC_one _ _ hno, List.map_append, List.map_cons, List.map_nil, tx_extract]
     · have h4 : j ≠ (s.size : Int) := by simpa using h4
       obtain ⟨x, hx⟩ : ∃ x, (tx s)[j.toNat]? = some x := ⟨_, List.getElem?_eq_getElem (by omega)⟩
       have hcons : (tx s).drop j.toNat = x :: (tx s).drop (j + 1).toNat := by
        rw [List.drop_eq_getElem_cons (by omega), show j.toNat + 1 = (j + 1).toNat by omega]
        rw [List.getElem?_eq_getElem (by omega)] at hx
        rw [Option.some.inj hx]
       refine ⟨x, hx, by omega, Br.mk (fun h5 => ?_) (fun h5 => ?_)⟩
       · have h5 : x = 46 := by
          have : (x.toNat : Int) = 46 := by simpa using h5
          exact UInt8.toNat_inj.1 (by show x.toNat = 46; omega)
         subst h5
         refine ⟨by omega, by omega, by omega, by omega, by omega, by omega, wr_i64 (by omega) (by omega) (wr_i64 (by omega) (by omega) ⟨by simp, ?_, by omega⟩)⟩
         rw [hWI]
         refine ⟨by omega, by omega, by omega, by simp only [List.length_append, List.length_cons, List.length_nil]; omega, L ++ [s.extract k.toNat j.toNat], by simp [strs], .inl ⟨by omega, by rw [List.drop_take]; simp, ?_⟩⟩
         rw [hsp, <- hdt, hcons, splitC_hit _ _ _ hno, List.map_append, List.map_cons, List.map_nil, tx_extract, List.append_assoc]; rfl
       · have h5 : x ≠ 46 := fun e => by subst e; simp at h5
         refine wr_i64 (by omega) (by omega) ⟨?_, by omega⟩
         rw [hWI]
         refine ⟨h0, by omega, by omega, by omega, L, rfl, .inl ⟨by omega, ?_, hsp⟩⟩
         rw [show (j + 1).toNat = j.toNat + 1 by omega, List.take_add_one, hx, List.drop_append_of_le_length (by rw [List.length_take]; omega)]
         intro hm
         rcases List.mem_append.1 hm with hm | hm
         · exact hno hm
         · simp at hm; exact h5 hm.symm
   · omega
 · have hge := of_decide_eq_false hge
   rw [hWI] at hj;obtain ⟨h0, h1, h2, h3, L, rfl, hc⟩ := hj
   rcases hc with ⟨h4, _⟩ | ⟨_, hsp⟩
   · omega
   · rw [hQ]
     have h1 := hr.1
     exact ⟨L, ⟨c, _, d, rfl, hr.sl (by omega) (by simp), by omega, hr.2.1⟩, hsp.symm⟩
theorem name_all (t : Tx) : nameF t 46 = (splitC 46 t).all fun y => nameF y 46 := by
 rw [name_split]
 cases hs : splitC 46 t with
 | nil => exact absurd hs (splitC_ne 46 t)
 | cons x xs => rfl
theorem part_of {t : Tx} (h : (46 : UInt8) ∉ t) : nameF t 46 = true ↔ t ≠ [] /\ ∀ (i : Nat) (c : UInt8), t[i]? = some c -> okC c.toNat /\ (c = 45 -> i ≠ 0 /\ i + 1 ≠ t.length) := by
 rw [part_iff t 46 h, List.head?_eq_getElem?, List.getLast?_eq_getElem?];constructor
 · rintro ⟨h1, h2, h3, h4⟩
   refine ⟨fun e => (h1 e).1 rfl, fun i c hc => ⟨h2 c (List.mem_of_getElem? hc), fun e => ⟨fun h0 => ?_, fun h0 => ?_⟩⟩⟩
   · subst h0; subst e; exact absurd rfl (h3 hc)
   · subst e
     rw [show i = t.length - 1 by omega] at hc
     exact h4 hc
 · rintro ⟨h1, h2⟩
   refine ⟨fun e => absurd e h1, fun c hc => ?_, fun h0 => ?_, fun h0 => ?_⟩
   · obtain ⟨i, hi, rfl⟩ := List.mem_iff_getElem.1 hc
     exact (h2 i _ (List.getElem?_eq_getElem hi)).1
   · exact absurd rfl ((h2 0 45 h0).2 rfl).1
   · have hl := (List.getElem?_eq_some_iff.1 h0).1
     have := ((h2 _ 45 h0).2 rfl).2;omega
set_option maxHeartbeats 1000000 in
theorem ct127 (s : ByteArray) (hs : s.size <= 1000000) (h46 : (46 : UInt8) ∉ tx s) (I : Mem) : Ct Tryz.prog (fnv 127) #[.string s] I (fun v _ => v = .bool (nameF (tx s) 46)) := by
 obtain ⟨D, hD⟩ : ∃ D : Bool, D = nameF (tx s) 46 := ⟨_, rfl⟩;rw [<- hD];obtain ⟨WI, hWI⟩ : ∃ f : Int -> Prop, f = fun (j : Int) => 0 <= j /\ j <= s.size /\ ∀ (i : Nat) (c : UInt8), (i : Int) < j -> (tx s)[i]? = some c -> okC c.toNat /\ (c = 45 -> i ≠ 0 /\ i + 1 ≠ (tx s).length) := ⟨_, rfl⟩;obtain ⟨XI, hXI⟩ : ∃ f : Int -> Prop, f = fun (j : Int) => ∀ c : UInt8, (tx s)[j.toNat]? = some c -> c = 45 -> j ≠ 0 /\ j + 1 ≠ s.size := ⟨_, rfl⟩
 refine viaR (ct_via (A := { loops := [(2, ⟨[(0, .keep), (3, .sh (.int .i64))], [], [], fun vals _ _ _ => match vals with | [.int .i64 j] => WI j | _ => False, fun vals _ => match vals with | [.int .i64 j] => (s.size - j).toNat | _ => 0⟩)], cuts := [(6, ⟨[(0, .keep), (3, .kv)], [], [], fun vals _ _ _ => match vals with | [.int .i64 j] => XI j | _ => False, fun _ _ => 0⟩)] }) Tryz.func127 rfl Tryz.call127 rfl rfl) ((Rf (SV.v (.string s)) /\ WI 0) /\ ∀ (a : Mem), Mem -> I.le a -> ∀ (n : Int), WI n -> Br (decide (n < (s.size : Int))) ((∃ c, s.data.toList[n.toNat]? = some c /\ 0 <= n /\ Br ((c.toNat : Int) == 45) (Br (n == 0) (Value.bool false = .bool D) (Wr .i64 ((s.size : Int) - 1) (fun b => Br (n == b) (Value.bool false = .bool D) (Rf (SV.v (.string s)) /\ Rf (SV.v (.int .i64 n)) /\ XI n)))) (Rf (SV.v (.string s)) /\ Rf (SV.v (.int .i64 n)) /\ XI n)) /\ ∀ (b : Mem), Mem -> a.le b -> XI n -> ∃ c, s.data.toList[n.toNat]? = some c /\ 0 <= n /\ Br ((c.toNat : Int) != 45) (∃ d, s.data.toList[n.toNat]? = some d /\ 0 <= n /\ Br (decide ((d.toNat : Int) < 48)) (∃ e, s.data.toList[n.toNat]? = some e /\ 0 <= n /\ Br (decide ((e.toNat : Int) < 97)) (Value.bool false = .bool D) (∃ f, s.data.toList[n.toNat]? = some f /\ 0 <= n /\ Br (decide (122 < (f.toNat : Int))) (Value.bool false = .bool D) (Wr .i64 (n + 1) (fun g => Rf (SV.v (.string s)) /\ WI g /\ Int.toNat ((s.size : Int) - g) < Int.toNat ((s.size : Int) - n))))) (∃ e, s.data.toList[n.toNat]? = some e /\ 0 <= n /\ Br (decide (57 < (e.toNat : Int))) (∃ f, s.data.toList[n.toNat]? = some f /\ 0 <= n /\ Br (decide ((f.toNat : Int) < 97)) (Value.bool false = .bool D) (∃ g, s.data.toList[n.toNat]? = some g /\ 0 <= n /\ Br (decide (122 < (g.toNat : Int))) (Value.bool false = .bool D) (Wr .i64 (n + 1) (fun h => Rf (SV.v (.string s)) /\ WI h /\ Int.toNat ((s.size : Int) - h) < Int.toNat ((s.size : Int) - n))))) (Wr .i64 (n + 1) (fun f => Rf (SV.v (.string s)) /\ WI f /\ Int.toNat ((s.size : Int) - f) < Int.toNat ((s.size : Int) - n))))) (Wr .i64 (n + 1) (fun d => Rf (SV.v (.string s)) /\ WI d /\ Int.toNat ((s.size : Int) - d) < Int.toNat ((s.size : Int) - n)))) (Value.bool (decide (0 < (s.size : Int))) = .bool D)) (by kernel_rfl) ?_
 simp only [Rf, true_and];have hts : (tx s).length = s.size := Array.length_toList
 have bad : ∀ {j : Nat} {c : UInt8}, (tx s)[j]? = some c -> ¬ (okC c.toNat /\ (c = 45 -> j ≠ 0 /\ j + 1 ≠ (tx s).length)) -> Value.bool false = Value.bool D := fun {j c} hc hn => by
  rw [hD];refine congrArg Value.bool (Eq.symm (Bool.eq_false_iff.2 fun ht => hn ?_));exact ((part_of h46).1 ht).2 j c hc
 refine ⟨by rw [hWI]; exact ⟨by omega, by omega, fun i c h => by omega⟩, fun J _ lJ j hj => Br.mk (fun hlt => ?_) (fun hge => ?_)⟩
 · have hlt := of_decide_eq_true hlt
   rw [hWI] at hj;obtain ⟨h0, h1, h2⟩ := hj
   obtain ⟨c, hc⟩ : ∃ c, (tx s)[j.toNat]? = some c := ⟨_, List.getElem?_eq_getElem (by omega)⟩
   have hc' : s.data.toList[j.toNat]? = some c := hc
   have c45 : (c.toNat : Int) = 45 -> c = 45 := fun e => UInt8.toNat_inj.1 (by show c.toNat = 45; omega)
   refine ⟨⟨c, hc', h0, Br.mk (fun h3 => ?_) (fun h3 => ?_)⟩, fun J2 _ l2 hx => ?_⟩
   · have h3 : (c.toNat : Int) = 45 := by simpa using h3
     refine Br.mk (fun h4 => ?_) (fun h4 => wr_i64 (by omega) (by omega) (Br.mk (fun h5 => ?_) (fun h5 => ?_)))
     · have h4 : j = 0 := by simpa using h4
       exact bad hc fun hh => (hh.2 (c45 h3)).1 (by omega)
     · have h5 : j = (s.size : Int) - 1 := by simpa using h5
       exact bad hc fun hh => (hh.2 (c45 h3)).2 (by omega)
     · have h4 : j ≠ 0 := by simpa using h4
       have h5 : j ≠ (s.size : Int) - 1 := by simpa using h5
       rw [hXI]
       exact fun c _ _ => ⟨h4, by omega⟩
   · have h3 : (c.toNat : Int) ≠ 45 := by simpa using h3
     rw [hXI];intro d hd e;rw [hc] at hd;cases hd;subst e;exact absurd rfl h3
   · rw [hXI] at hx
     have hx := hx c hc
     have next : okC c.toNat -> Wr IntKind.i64 (j + 1) fun g => WI g /\ (↑s.size - g).toNat < (↑s.size - j).toNat := fun ho => by
      refine wr_i64 (by omega) (by omega) ⟨?_, by omega⟩
      rw [hWI]
      refine ⟨by omega, by omega, fun i d hi hd => ?_⟩
      by_cases e : i = j.toNat
      · subst e
        rw [hc] at hd;cases hd
        exact ⟨ho, fun e => by have := hx e; omega⟩
      · exact h2 i d (by omega) hd
     have nok : ¬ okC c.toNat -> Value.bool false = Value.bool D := fun hn => bad hc fun hh => hn hh.1
     have low : (c.toNat : Int) ≠ 45 -> ((c.toNat : Int) < 48 \/ 57 < (c.toNat : Int)) -> ∃ e, s.data.toList[j.toNat]? = some e /\ 0 <= j /\ Br (decide ((e.toNat : Int) < 97)) (Value.bool false = Value.bool D) (∃ f, s.data.toList[j.toNat]? = some f /\ 0 <= j /\ Br (decide (122 < (f.toNat : Int))) (Value.bool false = Value.bool D) (Wr IntKind.i64 (j + 1) fun g => WI g /\ (↑s.size - g).toNat < (↑s.size - j).toNat)) := fun hn hl => by
      refine ⟨c, hc', h0, Br.mk (fun h3 => ?_) (fun h3 => ⟨c, hc', h0, Br.mk (fun h4 => ?_) (fun h4 => ?_)⟩)⟩
      · have h3 := of_decide_eq_true h3
        exact nok fun hh => by unfold okC at hh; omega
      · have h4 := of_decide_eq_true h4
        exact nok fun hh => by unfold okC at hh; omega
      · have h3 := of_decide_eq_false h3
        have h4 := of_decide_eq_false h4
        exact next (by unfold okC; omega)
     refine ⟨c, hc', h0, Br.mk (fun h3 => ?_) (fun h3 => ?_)⟩
     · have h3 : (c.toNat : Int) ≠ 45 := by simpa using h3
       refine ⟨c, hc', h0, Br.mk (fun h4 => low h3 (.inl (of_decide_eq_true h4))) (fun h4 => ⟨c, hc', h0, Br.mk (fun h5 => low h3 (.inr (of_decide_eq_true h5))) (fun h5 => ?_)⟩)⟩;have h4 := of_decide_eq_false h4;have h5 := of_decide_eq_false h5
       exact next (by unfold okC; omega)
     · have h3 : (c.toNat : Int) = 45 := by simpa using h3
       exact next (by unfold okC; omega)
 · have hge := of_decide_eq_false hge
   rw [hWI] at hj;obtain ⟨h0, h1, h2⟩ := hj;refine congrArg Value.bool ?_;rw [hD];apply Bool.eq_iff_iff.2;rw [part_of h46, decide_eq_true_eq];constructor
   · intro hp
     exact ⟨fun e => by rw [e] at hts; simp at hts; omega, fun i c hc => h2 i c (by have := (List.getElem?_eq_some_iff.1 hc).1; omega) hc⟩
   · rintro ⟨hp, _⟩
     have : (tx s).length ≠ 0 := fun e => hp (List.length_eq_zero_iff.1 e);omega
set_option maxHeartbeats 1000000 in
theorem ct95 (s : ByteArray) (hs : s.size <= 1000000) (I : Mem) : Ct Tryz.prog (fnv 95) #[.string s] I (fun v _ => v = .bool (nameB (strL s))) := by
 obtain ⟨D, hD⟩ : ∃ D : Bool, D = nameB (strL s) := ⟨_, rfl⟩;rw [<- hD];obtain ⟨M, hM⟩ : ∃ n : Nat, n = (splitC 46 (tx s)).length := ⟨_, rfl⟩;obtain ⟨WI, hWI⟩ : ∃ f : Int -> Prop, f = fun (j : Int) => 0 <= j /\ j <= M /\ ∀ x ∈ (splitC 46 (tx s)).take j.toNat, nameF x 46 = true := ⟨_, rfl⟩
 refine viaR (ct_via (A := { loops := [(5, ⟨[(3, .keep), (4, .sh (.int .i64))], [], [], fun vals _ I' _ => match vals with | [.int .i64 j] => WI j | _ => False, fun vals _ => match vals with | [.int .i64 j] => (M - j).toNat | _ => 0⟩)] }) Tryz.func95 rfl Tryz.call95 rfl rfl) (Br ((s.size : Int) == 0) (Value.bool false = .bool D) (Br (decide (32 < (s.size : Int))) (Value.bool false = .bool D) (∃ c, s.data.toList[0]? = some c /\ (0 : Int) <= 0 /\ Br (decide ((c.toNat : Int) < 97)) (Value.bool false = .bool D) (∃ a, s.data.toList[0]? = some a /\ (0 : Int) <= 0 /\ Br (decide (122 < (a.toNat : Int))) (Value.bool false = .bool D) (Ct Tryz.prog (fnv 126) #[.string s] I (fun v b => ∃ d n e, v = .slice d n e /\ (Rf (SV.v (.slice d n e)) /\ WI 0) /\ ∀ (f : Mem), Mem -> b.le f -> ∀ (g : Int), WI g -> Br (decide (g < (n : Int))) (0 <= g /\ g < (n : Int) /\ d.isSome = true /\ ∃ q, atI f d (g.toNat * 1 + 0) = some (.string q) /\ Ct Tryz.prog (fnv 127) #[.string q] f fun h i => ∃ j, h = .bool j /\ Br (!j) (Value.bool false = .bool D) (Wr .i64 (g + 1) (fun k => Rf (SV.v (.slice d n e)) /\ WI k /\ Int.toNat ((M : Int) - k) < Int.toNat ((M : Int) - g)))) (Value.bool true = .bool D))))))) (by kernel_rfl) ?_
 simp only [Rf, true_and];have hsl := strL_len s;have hts : (tx s).length = s.size := Array.length_toList
 have no : nameB (strL s) = false -> Value.bool false = Value.bool D := fun h => by rw [hD, h]
 refine Br.mk (fun h => no ?_) (fun h => Br.mk (fun h1 => no ?_) (fun h1 => ?_))
 · have h : (s.size : Int) = 0 := by simpa using h
   rw [nameB, decide_eq_false (by omega)]; rfl
 · have h1 := of_decide_eq_true h1
   rw [nameB, decide_eq_false (p := (strL s).length <= 32) (by omega)]; simp
 have h : (s.size : Int) ≠ 0 := by simpa using h
 have h1 := of_decide_eq_false h1
 obtain ⟨c, hc⟩ : ∃ c, s.data.toList[0]? = some c := ⟨_, List.getElem?_eq_getElem (by show 0 < (tx s).length; omega)⟩
 have hhd : (strL s).headD 0 = (c.toNat : Int) := by
  have := str_first hc;rw [firstI] at this
  cases hq : strL s with
  | nil => rw [hq] at this; cases this
  | cons x r => rw [hq] at this; simpa using this
 refine ⟨c, hc, by decide, Br.mk (fun h2 => no ?_) (fun h2 => ⟨c, hc, by decide, Br.mk (fun h3 => no ?_) (fun h3 => ?_)⟩)⟩
 · have h2 := of_decide_eq_true h2
   rw [nameB, hhd, decide_eq_false (p := 97 <= (c.toNat : Int) /\ _) (by omega)]; simp
 · have h3 := of_decide_eq_true h3
   rw [nameB, hhd, decide_eq_false (p := 97 <= (c.toNat : Int) /\ _) (by omega)]; simp
 have h2 := of_decide_eq_false h2;have h3 := of_decide_eq_false h3
 have hB : nameB (strL s) = (splitC 46 (tx s)).all fun y => nameF y 46 := by
  rw [nameB, hhd, decide_eq_true (p := 97 <= (c.toNat : Int) /\ _) (by omega), decide_eq_true (by omega), decide_eq_true (by omega), Bool.true_and, Bool.true_and, Bool.true_and, <- name_all]; rfl
 refine (ct126 s hs I).mono fun v J lJ ⟨l, ⟨d, n, e, hv, hl, hne, _⟩, hls⟩ => ⟨d, n, e, hv, by rw [hWI]; exact ⟨by omega, by omega, fun x hx => by simp at hx⟩, fun J2 _ l2 g hg => ?_⟩
 have hln : l.length = n := by have := hl.len; simp [strs] at this; omega
 have hMn : M = n := by rw [hM, <- hls, List.length_map, hln]
 have hMs : M <= s.size + 1 := by rw [hM, <- count_splitC]; have := List.count_le_length (a := (46 : UInt8)) (l := tx s); omega
 rw [hWI] at hg;obtain ⟨g0, g1, g2⟩ := hg;refine Br.mk (fun hlt => ?_) (fun hge => ?_)
 · have hlt := of_decide_eq_true hlt
   obtain ⟨x, hx⟩ : ∃ x, l[g.toNat]? = some x := ⟨_, List.getElem?_eq_getElem (by omega)⟩
   have hat := (hl.mono l2).at_ _ _ (strs_get hx)
   have hx2 : (splitC 46 (tx s))[g.toNat]? = some (tx x) := by rw [<- hls, List.getElem?_map, hx]; rfl
   have hmem := List.mem_of_getElem? hx2;have hfree := splitC_free 46 (tx s) _ hmem;have hxl := splitC_len 46 (tx s) _ hmem
   have hxs : x.size <= 1000000 := by
    have : (tx x).length = x.size := Array.length_toList;omega
   refine ⟨g0, hlt, hl.isSome (by omega), x, by rw [Nat.mul_one, Nat.add_zero]; exact hat, (ct127 x hxs hfree J2).mono fun v J3 l3 hv => ⟨_, hv, Br.mk (fun h4 => no ?_) (fun h4 => wr_i64 (by omega) (by omega) ⟨?_, by omega⟩)⟩⟩
   · have h4 : nameF (tx x) 46 = false := by simpa using h4
     rw [hB, List.all_eq_false]
     exact ⟨_, hmem, by rw [h4]; decide⟩
   · have h4 : nameF (tx x) 46 = true := by simpa using h4
     rw [hWI]
     refine ⟨by omega, by omega, fun y hy => ?_⟩
     rw [show (g + 1).toNat = g.toNat + 1 by omega, List.take_add_one, hx2, Option.toList_some] at hy
     rcases List.mem_append.1 hy with hy | hy
     · exact g2 y hy
     · rw [List.mem_singleton.1 hy]; exact h4
 · have hge := of_decide_eq_false hge
   refine congrArg Value.bool ?_;rw [hD, hB, eq_comm, List.all_eq_true];intro y hy
   exact g2 y (by rw [List.take_of_length_le (by omega)]; exact hy)
theorem ct129 (k i : Int) (I : Mem) (hk : 0 <= k /\ k <= 100) (hi : 0 <= i /\ i <= 1000000000000000) :
 Ct Tryz.prog (fnv 129) #[.int .i64 k, .int .i64 i] I (fun v _ => v = .int .i64 (1000003 * (k + 7) + i)) := by
 refine viaR (ct_via (A := { }) Tryz.func129 rfl Tryz.call129 rfl rfl) (Wr .i64 (k + 7) fun c => Wr .i64 (1000003 * c) fun a => Wr .i64 (a + i) fun b => Value.int .i64 b = .int .i64 (1000003 * (k + 7) + i)) (by kernel_rfl) ?_
 exact wr_i64 (by omega) (by omega) (wr_i64 (by omega) (by omega) (wr_i64 (by omega) (by omega) rfl))
def markB (k i : Int) : Int := IntKind.u8.wrap ((IntKind.u64.wrap (IntKind.u64.wrap (1000003 * (k + 7) + i) * 11400714819323198485)).fdiv 72057594037927936)
theorem wrap_u8 (x : Int) : 0 <= IntKind.u8.wrap x /\ IntKind.u8.wrap x <= 255 := by
 have h : IntKind.u8.wrap x = x % 256 := rfl;omega
theorem ct99 (k i : Int) (I : Mem) (hk : 0 <= k /\ k <= 100) (hi : 0 <= i /\ i <= 1000000000000000) :
 Ct Tryz.prog (fnv 99) #[.int .i64 k, .int .i64 i] I (fun v _ => v = .int .u8 (markB k i)) := by
 refine viaR (ct_via (A := { }) Tryz.func99 rfl Tryz.call99 rfl rfl) (Ct Tryz.prog (fnv 129) #[.int .i64 k, .int .i64 i] I fun v a => ∃ n, v = .int .i64 n /\ Wr .u64 n fun c => Wr .u64 (c * 11400714819323198485) fun b => (0 : Int) <= 56 /\ Wr .u8 (b.fdiv 72057594037927936) fun d => Value.int .u8 d = .int .u8 (markB k i)) (by kernel_rfl) ?_
 exact (ct129 k i I hk hi).mono fun v I1 l1 hv => ⟨_, hv, _, rfl, _, rfl, by decide, _, rfl, rfl⟩
def OverB (G : Mem) (a : Option Addr) (c : Nat) (G' : Mem) : Prop :=
 (c = 0 /\ G' = G) \/ 0 < c /\ ∃ (b off : Nat) (cur cur' : Array Value) (el : TypeId) (fz : Nat × Nat), a = some ⟨b, off, none⟩ /\ G b = some (.cells cur el fz) /\ G' b = some (.cells cur' el fz) /\ cur'.size = cur.size /\ ∀ k, k ≠ b -> G' k = G k
theorem ct47 (a : Option Addr) (n c : Nat) (I G : Mem) (hn : n <= c) (hc : n <= 1000000) (h : OwnS 1 G a c) :
 CtH Tryz.prog (fnv 47) #[.slice a n c] I G (fun v I' G' => v = .tuple #[] /\ OverB G a c G') := by
 refine viaR (ctG_via (A := { calls := [(22, .st)], loops := [(2, ⟨[(2, .keep), (3, .sh (.int .i64))], [], [], fun vals _ _ G' => match vals with | [.int .i64 j] => 0 <= j /\ j <= n + 12 /\ OverB G a c G' | _ => False, fun vals _ => match vals with | [.int .i64 j] => (n + 12 - j).toNat | _ => 0⟩)] }) Tryz.func47 rfl Tryz.call47 rfl rfl) (Wr .i64 ((n : Int) + 12) fun b => 0 <= (bif false then imax (c : Int) b else imin (c : Int) b) /\ (bif false then imax (c : Int) b else imin (c : Int) b) <= (c : Int) /\ (Rf (SV.v (.slice a (bif false then imax (c : Int) b else imin (c : Int) b).toNat c)) /\ (0 : Int) <= 0 /\ 0 <= (n : Int) + 12 /\ OverB G a c G) /\ ∀ (d e : Mem), I.le d -> ∀ (f : Int), 0 <= f /\ f <= (n : Int) + 12 /\ OverB G a c e -> Br (decide (f < ((bif false then imax (c : Int) b else imin (c : Int) b).toNat : Int))) (Ct Tryz.prog (fnv 99) #[.int .i64 2, .int .i64 f] d (fun v g => ∃ i, v = .int .u8 i /\ 0 <= f /\ f < ((bif false then imax (c : Int) b else imin (c : Int) b).toNat : Int) /\ a.isSome = true /\ ∃ j, PutG e a (f.toNat * 1) [.int .u8 i] j /\ Wr .i64 (f + 1) fun k => Rf (SV.v (.slice a (bif false then imax (c : Int) b else imin (c : Int) b).toNat c)) /\ (0 <= k /\ k <= (n : Int) + 12 /\ OverB G a c j) /\ Int.toNat ((n : Int) + 12 - k) < Int.toNat ((n : Int) + 12 - f))) (Rf (Value.tuple #[]) /\ OverB G a c e)) (by kernel_rfl) ?_
 have hs : 0 <= (bif false then imax (c : Int) (n + 12) else imin (c : Int) (n + 12)) /\ (bif false then imax (c : Int) (n + 12) else imin (c : Int) (n + 12)) <= c /\ (bif false then imax (c : Int) (n + 12) else imin (c : Int) (n + 12)) <= n + 12 := by
  simp only [cond_false, imin]
  split <;> omega
 have o0 : OverB G a c G := by
  by_cases h0 : c = 0
  · exact .inl ⟨h0, rfl⟩
  · obtain ⟨b, off, cur, el, fz, h1, h2, h3⟩ := h (by omega)
    exact .inr ⟨by omega, b, off, cur, cur, el, fz, h1, h2, h2, rfl, fun _ _ => rfl⟩
 refine wr_i64 (by omega) (by omega) ?_
 obtain ⟨m0, m1, m2⟩ := hs;generalize (bif false then imax (c : Int) (n + 12) else imin (c : Int) (n + 12)) = m at m0 m1 m2 ⊢
 refine ⟨m0, m1, ⟨rfl, by omega, by omega, o0⟩, fun I1 G1 l1 j ⟨j0, j1, j2⟩ => Br.mk (fun hlt => ?_) (fun hge => ⟨rfl, j2⟩)⟩
 have hlt := of_decide_eq_true hlt
 refine (ct99 2 j I1 (by omega) ⟨j0, by omega⟩).mono fun v I2 l2 hv => ⟨_, hv, j0, hlt, ?_⟩
 rcases j2 with ⟨c0, _⟩ | ⟨cp, b, off, cur, cur', el, fz, h1, h2, h3, h4, h5⟩
 · omega
 obtain ⟨b', off', cur2, el2, fz2, g1, g2, hfz, g3⟩ := h (by omega)
 rw [h1] at g1; cases g1
 rw [h2] at g2; cases g2
 refine ⟨by rw [h1]; rfl, _, ⟨b, off, cur', el, fz, h1, h3, h4 ▸ hfz, by simp only [List.length_singleton]; omega, rfl⟩, wr_i64 (by omega) (by omega) ⟨rfl, ⟨by omega, by omega, .inr ⟨by omega, b, off, cur, _, el, fz, h1, h2, if_pos rfl, ?_, fun k hk => by simp only; rw [if_neg hk]; exact h5 k hk⟩⟩, by omega⟩⟩
 simp only [List.size_toArray, List.length_append, List.length_take, List.length_drop, Array.length_toList, List.length_singleton];omega
theorem CtS.rowed {P : Program} {fv : SV} {args : List SV} {H : List Ent} {I : Mem} {el : TypeId} {Q : List Value -> Prop} (h : CtS P fv args H I (fun sv H' _ => ∃ zs, zs.length <= maxLen /\ Q zs /\
 ((sv = .xsl 0 0 zs.length zs.length /\ H' = [⟨.cells (zs.map .v) el, none⟩]) \/ (sv = .rsl 0 zs.length /\ H' = [⟨.row zs 1 el, none⟩])))) :
 CtS P fv args H I (fun sv H' _ => ∃ zs, Q zs /\ sv = .rsl 0 zs.length /\ H' = [⟨.row zs 1 el, none⟩]) := fun e hp hO => by
 refine (h e hp hO).mono ?_
 rintro v I' hp' hle ⟨e', sv, H', h1, h2, zs, hm, hq, ⟨rfl, rfl⟩ | ⟨rfl, rfl⟩⟩
 · obtain ⟨g1, cur, g2, g3, g4⟩ := h2.hold 0 _ rfl rfl
   refine ⟨{ e' with cap := fun _ => zs.length }, .rsl 0 zs.length, [⟨.row zs 1 el, none⟩], ?_, ⟨fun id x hx hal => ?_, fun i j x y hx hy _ _ _ _ hij => ?_, fun b hb => ?_, fun id x b hx hb => ?_⟩, zs, hq, rfl, rfl⟩
   · rw [h1]; simp [den, g1]
   · cases id with
     | zero =>
      simp only [List.getElem?_cons_zero, Option.some.injEq] at hx;subst hx
      refine ⟨by omega, ⟨zs.length, by omega⟩, .inr ⟨g1, cur, (0, 0), g2, thaw_zero _, by simpa using g3, hm, by simp at g3; omega, ?_⟩⟩
      apply List.ext_getElem?;intro k;rw [List.getElem?_take];split
      · rename_i hk
        have := g4 k (.v zs[k]) (by simp [hk]) rfl
        simp only [den] at this;rw [Array.getElem?_toList, this, List.getElem?_eq_getElem hk]
      · rw [List.getElem?_eq_none (by omega)]
     | succ id => simp at hx
   · have hi := (List.getElem?_eq_some_iff.1 hx).1
     have hj := (List.getElem?_eq_some_iff.1 hy).1;simp at hi hj;omega
   · obtain ⟨id, x, hx, hal, hn, hbe⟩ := h2.dom b hb
     have hi := (List.getElem?_eq_some_iff.1 hx).1;simp at hi;subst hi;exact ⟨0, _, rfl, rfl, hn, hbe⟩
   · have hi := (List.getElem?_eq_some_iff.1 hx).1
     simp at hi;subst hi;simp at hx;subst hx;cases hb
 · exact ⟨e', _, _, h1, h2, zs, hq, rfl, rfl⟩
theorem pow8 : ∀ l : Nat, l < 8 -> (256 : Int) ^ (l + 1) <= 18446744073709551616 := by decide
theorem cs164 : ∀ (k : Nat) (x : Int), 0 <= x -> x < 256 ^ (k + 1) -> (k = 0 \/ 256 ^ k <= x) -> k <= 7 -> ∀ (I : Mem),
 CtS Tryz.prog (.v (fnv 164)) [.v (.int .u64 x)] [] I (fun sv H' _ => ∃ zs, zs = ints .u8 (be (k + 1) x.toNat) /\ sv = .rsl 0 zs.length /\ H' = [⟨.row zs 1 5, none⟩]) := by
 intro k
 induction k with
 | zero =>
  intro x h0 h1 h2 hk I;refine CtS.rowed ?_
  refine viaR (ctS_via (A := { calls := [(10, .lend [] (.row 0) [.row 1 5])] }) Tryz.func164 rfl Tryz.call164 [0] rfl) (Br (decide (x < 256)) (Wr .u8 x (fun c => ∃ z, z.length <= 9223372036854775807 /\ z = [.int .u8 ((x.toNat % 256 : Nat) : Int)] /\ (SV.xsl 0 0 1 1 = .xsl 0 0 z.length z.length /\ [Ent.mk (.cells [.v (.int .u8 c)] 5) none] = [⟨.cells (List.map SV.v z) 5, none⟩] \/ SV.xsl 0 0 1 1 = .rsl 0 z.length /\ [Ent.mk (.cells [.v (.int .u8 c)] 5) none] = [⟨.row z 1 5, none⟩]))) ((256 : Int) ≠ 0 /\ Wr .u64 (x.tdiv 256) fun c => CtS Tryz.prog (.v (fnv 164)) [.v (.int .u64 c)] [] I fun s H a => ∃ n b, s = .rsl 0 n /\ H = [⟨.row b 1 5, none⟩] /\ (256 : Int) ≠ 0 /\ Wr .u8 (x.tmod 256) fun d => b.length = n * 1 /\ n + 1 <= 9223372036854775807 /\ (n + 1) * 1 <= 140737488355328 /\ ∃ z, z.length <= 9223372036854775807 /\ z = [.int .u8 ((x.toNat % 256 : Nat) : Int)] /\ (SV.rsl 0 (n + 1) = .xsl 0 0 z.length z.length /\ [Ent.mk (.row (b ++ [.int .u8 d]) 1 5) none] = [⟨.cells (List.map SV.v z) 5, none⟩] \/ SV.rsl 0 (n + 1) = .rsl 0 z.length /\ [Ent.mk (.row (b ++ [.int .u8 d]) 1 5) none] = [⟨.row z 1 5, none⟩]))) (by kernel_rfl) ?_
  have h1 : x < 256 := by simpa using h1
  refine Br.t (by simpa using h1) ⟨_, IntWalk.u8_in x ⟨h0, by omega⟩, [.int .u8 x], by simp, ?_, .inl ⟨rfl, rfl⟩⟩
  rw [show ((x.toNat % 256 : Nat) : Int) = x by omega]
 | succ k ih =>
  intro x h0 h1 h2 hk I;refine CtS.rowed ?_
  refine viaR (ctS_via (A := { calls := [(10, .lend [] (.row 0) [.row 1 5])] }) Tryz.func164 rfl Tryz.call164 [0] rfl) (Br (decide (x < 256)) (Wr .u8 x (fun c => ∃ z, z.length <= 9223372036854775807 /\ z = List.map (Value.int .u8) (be (k + 1 + 1) x.toNat) /\ (SV.xsl 0 0 1 1 = .xsl 0 0 z.length z.length /\ [Ent.mk (.cells [.v (.int .u8 c)] 5) none] = [⟨.cells (List.map SV.v z) 5, none⟩] \/ SV.xsl 0 0 1 1 = .rsl 0 z.length /\ [Ent.mk (.cells [.v (.int .u8 c)] 5) none] = [⟨.row z 1 5, none⟩]))) ((256 : Int) ≠ 0 /\ Wr .u64 (x.tdiv 256) fun c => CtS Tryz.prog (.v (fnv 164)) [.v (.int .u64 c)] [] I fun s H a => ∃ n b, s = .rsl 0 n /\ H = [⟨.row b 1 5, none⟩] /\ (256 : Int) ≠ 0 /\ Wr .u8 (x.tmod 256) fun d => b.length = n * 1 /\ n + 1 <= 9223372036854775807 /\ (n + 1) * 1 <= 140737488355328 /\ ∃ z, z.length <= 9223372036854775807 /\ z = List.map (Value.int .u8) (be (k + 1 + 1) x.toNat) /\ (SV.rsl 0 (n + 1) = .xsl 0 0 z.length z.length /\ [Ent.mk (.row (b ++ [.int .u8 d]) 1 5) none] = [⟨.cells (List.map SV.v z) 5, none⟩] \/ SV.rsl 0 (n + 1) = .rsl 0 z.length /\ [Ent.mk (.row (b ++ [.int .u8 d]) 1 5) none] = [⟨.row z 1 5, none⟩]))) (by kernel_rfl) ?_
  have hge : 256 ^ (k + 1) <= x := h2.elim (fun h => by omega) id
  have hp : (1 : Int) <= 256 ^ k := Int.pow_pos (by omega)
  have hx : 256 <= x := by rw [Int.pow_succ] at hge; omega
  have hx8 : x < 18446744073709551616 := Int.lt_of_lt_of_le h1 (pow8 (k + 1) (by omega))
  have hd : x.tdiv 256 = x / 256 := Int.tdiv_eq_ediv_of_nonneg h0;have hm : x.tmod 256 = x % 256 := Int.tmod_eq_emod_of_nonneg h0;rw [hd, hm]
  refine Br.f (by simpa using hx) ⟨by omega, _, IntWalk.u64_in _ ⟨by omega, by omega⟩, (ih (x / 256) (by omega) (by rw [Int.pow_succ] at h1; omega) (.inr (by rw [Int.pow_succ] at hge; omega)) (by omega) I).mono ?_⟩
  rintro sv H' I' _ ⟨zs, rfl, rfl, rfl⟩
  refine ⟨_, _, rfl, rfl, by omega, _, IntWalk.u8_in _ ⟨by omega, by omega⟩, by omega, by rw [ints_len, be_len]; omega, by rw [ints_len, be_len]; omega, _, ?_, rfl, .inr ⟨?_, ?_⟩⟩
  · simp [be_len]; have : maxLen = 9223372036854775807 := by decide
    omega
  · simp [be_len, ints]
  · have e : x.toNat / 256 = (x / 256).toNat := by omega
    have e2 : ((x.toNat % 256 : Nat) : Int) = x % 256 := by omega
    rw [show be (k + 1 + 1) x.toNat = be (k + 1) (x.toNat / 256) ++ [((x.toNat % 256 : Nat) : Int)] from rfl, e, e2]
    simp [ints]
theorem ct121 (x : Int) (h : 0 <= x /\ x <= 18446744073709551615) (I : Mem) : Ct Tryz.prog (fnv 121) #[.int .u64 x] I (fun v I' => BySl I' v (formN x.toNat)) := by
 refine viaR (ct_via (A := { calls := [(10, .lend [] (.row 0) [.row 1 5])] }) Tryz.func121 rfl Tryz.call121 rfl rfl) (Br (decide (x < 247)) (Wr .u8 x (fun c => ∀ (b : Nat) (a : Mem), I.le a -> a b = some (.cells #[.int .u8 c] 5 (0, 0)) -> ∃ d m e, Value.slice (some ⟨b, 0, none⟩) 1 1 = .slice d m e /\ SlM a d m 1 (List.map (Value.int .u8) (formN x.toNat)) /\ m <= e /\ e <= 9223372036854775807)) (CtS Tryz.prog (.v (fnv 164)) [.v (.int .u64 x)] [] I (fun s H a => ∃ n b, s = .rsl 0 n /\ H = [⟨.row b 1 5, none⟩] /\ Wr .i64 (246 + (n : Int)) fun c => Wr .u8 c fun d => n * 1 <= b.length /\ (∀ (v : Value), Membership.mem (List.take (n * 1) b) v -> v.oneCell' = true) /\ (1 : Nat) = 1 /\ 1 + n <= 9223372036854775807 /\ (1 + n) * 1 <= 140737488355328 /\ ∀ (e : Option Addr) (f : Nat) (g : Mem), a.le g -> RowM g e f 1 (.int .u8 d :: List.append ([] : List Value) (List.take (n * 1) b)) -> ∃ i m j, Value.slice e (1 + n) f = .slice i m j /\ SlM g i m 1 (List.map (Value.int .u8) (formN x.toNat)) /\ m <= j /\ j <= 9223372036854775807))) (by kernel_rfl) ?_
 refine Br.mk (fun h1 => ?_) (fun h1 => ?_)
 · have h1 := of_decide_eq_true h1
   have hf : formN x.toNat = [x] := by rw [formN, if_pos (by omega)]; congr 1; omega
   refine ⟨_, IntWalk.u8_in x ⟨h.1, by omega⟩, fun b I1 l1 hb => ⟨_, _, _, rfl, ?_, by omega, by decide⟩⟩
   rw [hf]
   exact sl_cells (n := 1) (sz := 1) hb rfl (by decide)
 · have h1 := of_decide_eq_false h1
   have hd8 : digN x.toNat <= 8 := digN_le (k := 8) (by omega)
   have hbd := digN_bd (x := x.toNat) (by omega)
   obtain ⟨k, hk⟩ : ∃ k, digN x.toNat = k + 1 := ⟨digN x.toNat - 1, by rw [digN_pos (by omega)]; omega⟩
   have hf : formN x.toNat = ((246 + (k + 1) : Nat) : Int) :: be (k + 1) x.toNat := by rw [formN, if_neg (by omega), hk]
   rw [hk] at hbd
   have c1 : ((256 ^ (k + 1) : Nat) : Int) = (256 : Int) ^ (k + 1) := by simp
   have c2 : ((256 ^ k : Nat) : Int) = (256 : Int) ^ k := by simp
   refine (cs164 k x h.1 (by omega) (.inr (by simp only [Nat.add_sub_cancel] at hbd; omega)) (by omega) I).mono ?_
   rintro sv H' I' _ ⟨zs, rfl, rfl, rfl⟩;refine ⟨_, _, rfl, rfl, ?_⟩
   have hl : (ints IntKind.u8 (be (k + 1) x.toNat)).length = k + 1 := by rw [ints_len, be_len]
   rw [hl, Nat.mul_one, List.take_of_length_le (by omega)]
   refine wr_i64 (by omega) (by omega) ⟨_, IntWalk.u8_in _ ⟨by omega, by omega⟩, by omega, fun v hv => one_ints v hv, rfl, by omega, by omega, fun a' cp I2 l2 hrow => ?_⟩
   rw [hf]
   exact row_bysl (xs := ((246 + (k + 1) : Nat) : Int) :: be (k + 1) x.toNat) hrow (by simp [be_len]; omega)
theorem sumL_app : ∀ k l, sumL (k ++ l) = sumL k + sumL l
 | [], l => by simp [sumL]
 | f :: r, l => by rw [List.cons_append, sumL, sumL, sumL_app r l]; omega
theorem sumL_take {l : List (Int × List Int)} {B : Int} (h : ∀ f ∈ l, (f.2.length : Int) <= B) : ∀ j, 0 <= B -> sumL (l.take j) <= B * j := by
 intro j hB
 induction j generalizing l with
 | zero => simp [sumL]
 | succ j ih =>
  cases l with
  | nil => simp only [List.take_nil, sumL]; exact Int.mul_nonneg hB (by omega)
  | cons f r =>
   have h1 := h f (by simp)
   have h2 := ih (l := r) fun g hg => h g (by simp [hg])
   rw [List.take_succ_cons, sumL]
   have : B * ((j + 1 : Nat) : Int) = B * j + B := by rw [Int.natCast_add, Int.mul_add]; simp
   omega
theorem ct165 (l : List (Int × List Int)) (a : Option Addr) (n c : Nat) (I : Mem) (h : FldM I a n l) (hb : ∀ f ∈ l, f.2.length <= 1000000) :
 Ct Tryz.prog (fnv 165) #[.slice a n c] I (fun v _ => v = .bool (rightF l)) := by
 refine viaR (ct_via (A := { loops := [(5, ⟨[(0, .keep), (3, .sh (.int .i64)), (4, .sh (.int .i64))], [], [], fun vals _ _ _ => match vals with | [.int .i64 sum, .int .i64 j] => 0 <= j /\ j <= n /\ sum = sumL (l.take j.toNat) /\ ∃ last, (j = 0 -> last = 0) /\ (0 < j -> ∃ bs, l[j.toNat - 1]? = some (last, bs)) /\ 0 <= last /\ chainT 0 l = chainT last (l.drop j.toNat) | _ => False, fun vals _ => match vals with | [_, .int .i64 j] => (n - j).toNat | _ => 0⟩)] }) Tryz.func165 rfl Tryz.call165 rfl rfl) (Br (decide (64 < (n : Int))) (Value.bool false = .bool (rightF l)) ((Rf (SV.v (.slice a n c)) /\ (0 : Int) <= 0 /\ 0 <= (n : Int) /\ (0 : Int) = 0 /\ ∃ b, ((0 : Int) = 0 -> b = 0) /\ ((0 : Int) < 0 -> ∃ d, l[0]? = some (b, d)) /\ 0 <= b /\ chainT 0 l = chainT b l) /\ ∀ (b : Mem), Mem -> I.le b -> ∀ (d e : Int), 0 <= e /\ e <= (n : Int) /\ d = sumL (List.take e.toNat l) /\ (∃ f, (e = 0 -> f = 0) /\ (0 < e -> ∃ g, l[e.toNat - 1]? = some (f, g)) /\ 0 <= f /\ chainT 0 l = chainT f (List.drop e.toNat l)) -> Br (decide (e < (n : Int))) (0 <= e /\ e < (n : Int) /\ a.isSome = true /\ a.isSome = true /\ ∃ f g i, atI b a (e.toNat * 2 + 1 + 0) = some (.slice f g i) /\ Wr .i64 (d + (g : Int)) fun j => 0 <= e /\ e < (n : Int) /\ a.isSome = true /\ a.isSome = true /\ ∃ k, atI b a (e.toNat * 2 + 0 + 0) = some (.int .i64 k) /\ Br (decide (k < 1)) (Value.bool false = .bool (rightF l)) (0 <= e /\ e < (n : Int) /\ a.isSome = true /\ a.isSome = true /\ ∃ m, atI b a (e.toNat * 2 + 0 + 0) = some (.int .i64 m) /\ Br (decide (200 < m)) (Value.bool false = .bool (rightF l)) (Br (decide (0 < e)) (0 <= e /\ e < (n : Int) /\ a.isSome = true /\ a.isSome = true /\ ∃ o, atI b a (e.toNat * 2 + 0 + 0) = some (.int .i64 o) /\ Wr .i64 (e - 1) fun p => 0 <= p /\ p < (n : Int) /\ a.isSome = true /\ a.isSome = true /\ ∃ q, atI b a (p.toNat * 2 + 0 + 0) = some (.int .i64 q) /\ Br (decide (o <= q)) (Value.bool false = .bool (rightF l)) (Wr .i64 (e + 1) (fun r => Rf (SV.v (.slice a n c)) /\ (0 <= r /\ r <= (n : Int) /\ j = sumL (List.take r.toNat l) /\ ∃ s, (r = 0 -> s = 0) /\ (0 < r -> ∃ t, l[r.toNat - 1]? = some (s, t)) /\ 0 <= s /\ chainT 0 l = chainT s (List.drop r.toNat l)) /\ Int.toNat ((n : Int) - r) < Int.toNat ((n : Int) - e)))) (Wr .i64 (e + 1) (fun o => Rf (SV.v (.slice a n c)) /\ (0 <= o /\ o <= (n : Int) /\ j = sumL (List.take o.toNat l) /\ ∃ p, (o = 0 -> p = 0) /\ (0 < o -> ∃ q, l[o.toNat - 1]? = some (p, q)) /\ 0 <= p /\ chainT 0 l = chainT p (List.drop o.toNat l)) /\ Int.toNat ((n : Int) - o) < Int.toNat ((n : Int) - e)))))) (Value.bool (decide (d <= 16384)) = .bool (rightF l)))) (by kernel_rfl) ?_
 have hl := h.len;have hmx := h.max;refine Br.mk (fun h64 => ?_) (fun h64 => ?_)
 · have h64 := of_decide_eq_true h64
   rw [right_split, decide_eq_false (by omega)]; rfl
 have h64 := of_decide_eq_false h64
 refine ⟨⟨rfl, by omega, by omega, rfl, 0, fun _ => rfl, fun h => by omega, by omega, rfl⟩, fun I1 _ l1 sum j ⟨j0, j1, js, last, q1, q2, q3, q4⟩ => ?_⟩
 have hsb := sumL_take (l := l) (B := 1000000) (fun f hf => by have := hb f hf; omega) j.toNat (by omega)
 have hs0 := sumL_nonneg (l.take j.toNat);refine Br.mk (fun hlt => ?_) (fun hge => ?_)
 · have hlt := of_decide_eq_true hlt
   have hsome := h.isSome (by omega)
   obtain ⟨f, b', m', c', hf, hok, e1, e2, hfs, hm1, hm2⟩ := (h.mono l1).at_ j0 hlt;have hfl := hfs.numLen;have hfb := hb f (List.mem_of_getElem? hf);rw [drop_cons hf, chainT] at q4
   have hj1 : (j + 1).toNat = j.toNat + 1 := by omega
   have hsum : sum + m' = sumL (l.take (j + 1).toNat) := by
    rw [hj1, take_succ' hf, sumL_app, js]
    simp only [sumL]; omega
   have bad : chainT 0 l = false -> Value.bool false = Value.bool (rightF l) := fun hc => by rw [right_split, hc]; simp
   have next : last < f.1 -> f.1 <= 200 -> Wr IntKind.i64 (j + 1) fun c_4 => SV.v (Value.slice a n c) = SV.v (Value.slice a n c) /\ (0 <= c_4 /\ c_4 <= ↑n /\ sum + m' = sumL (List.take c_4.toNat l) /\ ∃ last, (c_4 = 0 -> last = 0) /\ (0 < c_4 -> ∃ bs, l[c_4.toNat - 1]? = some (last, bs)) /\ 0 <= last /\ chainT 0 l = chainT last (List.drop c_4.toNat l)) /\ (↑n - c_4).toNat < (↑n - j).toNat := fun g1 g2 => by
    refine wr_i64 (by omega) (by omega) ⟨rfl, ⟨by omega, by omega, hsum, f.1, fun h => by omega, fun _ => ⟨f.2, ?_⟩, by omega, ?_⟩, by omega⟩
    · rw [hj1, Nat.add_sub_cancel]; exact hf
    · rw [q4, hj1]; simp [g1, g2]
   refine ⟨j0, hlt, hsome, hsome, b', m', c', e2, wr_i64 (by omega) (by omega) ⟨j0, hlt, hsome, hsome, f.1, e1, Br.mk (fun g1 => bad ?_) (fun g1 => ⟨j0, hlt, hsome, hsome, f.1, e1, Br.mk (fun g2 => bad ?_) (fun g2 => Br.mk (fun g3 => ?_) (fun g3 => ?_))⟩)⟩⟩
   · have g1 := of_decide_eq_true g1
     rw [q4, decide_eq_false (by omega)]; rfl
   · have g2 := of_decide_eq_true g2
     rw [q4, decide_eq_false (p := f.1 <= 200) (by omega)]; simp
   · have g1 := of_decide_eq_false g1
     have g2 := of_decide_eq_false g2;have g3 := of_decide_eq_true g3
     obtain ⟨p, b2, m2, c2, hp, _, e3, _⟩ := (h.mono l1).at_ (i := j - 1) (by omega) (by omega)
     obtain ⟨bs, hq⟩ := q2 g3
     rw [show (j - 1).toNat = j.toNat - 1 by omega, hq] at hp
     cases hp
     refine ⟨j0, hlt, hsome, hsome, f.1, e1, wr_i64 (by omega) (by omega) ⟨by omega, by omega, hsome, hsome, last, e3, Br.mk (fun g4 => bad ?_) (fun g4 => next ?_ (by omega))⟩⟩
     · have g4 := of_decide_eq_true g4
       rw [q4, decide_eq_false (by omega)]; rfl
     · have g4 := of_decide_eq_false g4; omega
   · have g1 := of_decide_eq_false g1
     have g2 := of_decide_eq_false g2;have g3 := of_decide_eq_false g3
     have := q1 (by omega)
     exact next (by omega) (by omega)
 · have hge := of_decide_eq_false hge
   have hj : j.toNat = l.length := by omega
   rw [hj, List.drop_length, chainT] at q4;rw [hj, List.take_length] at js
   rw [right_split, q4, decide_eq_true (p := l.length <= 64) (by omega), js]
   rfl
theorem ct124 (l : List (Int × List Int)) (hb : ∀ f ∈ l, f.2.length <= 1000000) (a : Option Addr) (n c : Nat) (I : Mem) (h : FldM I a n l) (hn : n <= 1000000) :
 Ct Tryz.prog (fnv 124) #[.slice a n c] I (fun v I' => ∃ a' n' c', v = .tuple #[.slice a' n' c', .int .i64 (if rightF l then 0 else 20)] /\ SlM I' a' n' 1 (ints .u8 (if rightF l then writeF l else [])) /\ n' <= c' /\ c' <= maxLen) := by
 refine viaR (ct_via (A := { loops := [(5, ⟨[(0, .keep), (4, .row 0), (5, .sh (.int .i64))], [(0, .row)], [(4, 1, 5)], fun vals xss I' _ => match vals, xss with | [.int .i64 j], [xs] => 0 <= j /\ j <= n /\ xs = ints .u8 (writeF (l.take j.toNat)) /\ rightF l = true | _, _ => False, fun vals _ => match vals with | [.int .i64 j] => (n - j).toNat | _ => 0⟩)] }) Tryz.func124 rfl Tryz.call124 rfl rfl) (Ct Tryz.prog (fnv 165) #[.slice a n c] I fun v b => ∃ d, v = .bool d /\ Br (!d) (∃ e f g, Value.tuple #[.slice none 0 0, .int .i64 20] = .tuple #[.slice e f g, .int .i64 (if rightF l = true then 0 else 20)] /\ SlM b e f 1 (List.map (Value.int .u8) (if rightF l = true then writeF l else ([] : List Int))) /\ f <= g /\ g <= 9223372036854775807) ((Rf (SV.v (.slice a n c)) /\ (0 : Nat) = 0 /\ (0 : Int) <= 0 /\ 0 <= (n : Int) /\ Rf ([] : List Value) /\ rightF l = true) /\ ∀ (e : Mem), Mem -> b.le e -> ∀ (x : List Value) (f : Int), 0 <= f /\ f <= (n : Int) /\ x = List.map (Value.int .u8) (writeF (List.take f.toNat l)) /\ rightF l = true -> Br (decide (f < (n : Int))) (0 <= f /\ f < (n : Int) /\ a.isSome = true /\ a.isSome = true /\ ∃ g, atI e a (f.toNat * 2 + 0 + 0) = some (.int .i64 g) /\ Wr .u8 g fun i => x.length = x.length * 1 /\ x.length + 1 <= 9223372036854775807 /\ (x.length + 1) * 1 <= 140737488355328 /\ 0 <= f /\ f < (n : Int) /\ a.isSome = true /\ a.isSome = true /\ ∃ j k m, atI e a (f.toNat * 2 + 1 + 0) = some (.slice j k m) /\ Wr .u64 (k : Int) fun o => Ct Tryz.prog (fnv 121) #[.int .u64 o] e fun p q => ∃ r s t, p = .slice r s t /\ ∃ y, y.length = s * 1 /\ (r = none -> s = 0) /\ (∀ (u : Nat) (w : Value), y[u]? = some w -> atI q r u = some w) /\ (∀ (u : Value), Membership.mem y u -> u.oneCell' = true) /\ List.length (x ++ [.int .u8 i]) = (x.length + 1) * 1 /\ x.length + 1 + s <= 9223372036854775807 /\ (x.length + 1 + s) * 1 <= 140737488355328 /\ 0 <= f /\ f < (n : Int) /\ a.isSome = true /\ a.isSome = true /\ ∃ u w z, atI q a (f.toNat * 2 + 1 + 0) = some (.slice u w z) /\ ∃ y1, y1.length = w * 1 /\ (u = none -> w = 0) /\ (∀ (j1 : Nat) (v1 : Value), y1[j1]? = some v1 -> atI q u j1 = some v1) /\ (∀ (v1 : Value), Membership.mem y1 v1 -> v1.oneCell' = true) /\ List.length (x ++ [.int .u8 i] ++ y) = (x.length + 1 + s) * 1 /\ x.length + 1 + s + w <= 9223372036854775807 /\ (x.length + 1 + s + w) * 1 <= 140737488355328 /\ Wr .i64 (f + 1) fun c1 => Rf (SV.v (.slice a n c)) /\ x.length + 1 + s + w = List.length (x ++ [.int .u8 i] ++ y ++ y1) /\ (0 <= c1 /\ c1 <= (n : Int) /\ x ++ [.int .u8 i] ++ y ++ y1 = List.map (Value.int .u8) (writeF (List.take c1.toNat l)) /\ rightF l = true) /\ Int.toNat ((n : Int) - c1) < Int.toNat ((n : Int) - f)) (∀ (g : Option Addr) (i : Nat) (j : Mem), e.le j -> RowM j g i 1 x -> ∃ k m o, Value.tuple #[.slice g x.length i, .int .i64 0] = .tuple #[.slice k m o, .int .i64 (if rightF l = true then 0 else 20)] /\ SlM j k m 1 (List.map (Value.int .u8) (if rightF l = true then writeF l else ([] : List Int))) /\ m <= o /\ o <= 9223372036854775807))) (by kernel_rfl) ?_
 have hl := h.len;refine (ct165 l a n c I h hb).mono fun v I0 l0 hv => ⟨_, hv, Br.mk (fun hr => ?_) (fun hr => ?_)⟩
 · have hr : rightF l = false := by simpa using hr
   rw [hr]
   exact ⟨none, 0, 0, rfl, sl_nil _ _, by omega, by omega⟩
 have hr : rightF l = true := by simpa using hr
 obtain ⟨hs, hl64⟩ := rightF_iff.1 hr
 refine ⟨⟨rfl, rfl, by omega, by omega, rfl, hr⟩, fun I1 _ l1 xs j ⟨h0, h1, h2, _⟩ => Br.mk (fun hlt => ?_) (fun hge => ?_)⟩
 · have hlt := of_decide_eq_true hlt
   obtain ⟨f, b, m, c', hf, hok, e1, e2, hfs, hm1, hm2⟩ := (h.mono (Mem.le_trans l0 l1)).at_ h0 hlt;have hm := hfs.numLen;have hfr := right_at hs f (List.mem_of_getElem? hf)
   have hsome := h.isSome (by omega)
   have hwl := right_len (by omega) hs j.toNat
   have hxl : xs.length = (writeF (l.take j.toNat)).length := by rw [h2]; exact ints_len
   refine ⟨h0, hlt, hsome, hsome, f.1, e1, _, IntWalk.u8_in f.1 ⟨by omega, by omega⟩, by omega, by omega, by omega, h0, hlt, hsome, hsome, b, m, c', e2, _, IntWalk.u64_in _ ⟨by omega, by omega⟩, ?_⟩
   refine (ct121 (m : Int) ⟨by omega, by omega⟩ I1).mono fun v I2 l2 ⟨b2, m2, c2, hv, hs2, hm3, hm4⟩ => ⟨b2, m2, c2, hv, ?_⟩
   rw [Int.toNat_natCast] at hs2;have hm2 := hs2.numLen
   have hf9 := formN_le m (by omega)
   obtain ⟨f2, b', m', c2', hf', _, _, e2', hfs', _⟩ := (h.mono (Mem.le_trans l0 (Mem.le_trans l1 l2))).at_ h0 hlt;rw [hf] at hf'
   cases hf'
   refine ⟨_, hs2.len, hs2.nil, hs2.at_, one_ints, by simp, by omega, by omega, h0, hlt, hsome, hsome, b', m', c2', e2', _, hfs'.len, hfs'.nil, hfs'.at_, one_ints, ?_, ?_, ?_, wr_i64 (by omega) (by omega) ⟨rfl, ?_, ⟨by omega, by omega, ?_, hr⟩, by omega⟩⟩
   · simp [ints_len]; omega
   · have := hfs'.numLen; omega
   · have := hfs'.numLen; omega
   · have := hfs'.numLen
     simp [ints_len]; omega
   · rw [h2, show (j + 1).toNat = j.toNat + 1 by omega, take_succ' hf, writeF_app, show writeF [f] = f.1 :: (formN f.2.length ++ f.2) by simp [writeF], <- hm]
     simp [ints]
 · have hge := of_decide_eq_false hge
   intro a4 cp I4 l4 hrow
   rw [List.take_of_length_le (by omega)] at h2
   have hxl : xs.length = (writeF l).length := by rw [h2]; exact ints_len
   refine ⟨a4, xs.length, cp, ?_, ?_, ?_, hrow.2.1⟩
   · rw [hr]; rfl
   · rw [if_pos hr, <- h2]; exact hrow.sl (by omega) (by omega)
   · have := hrow.1; omega
