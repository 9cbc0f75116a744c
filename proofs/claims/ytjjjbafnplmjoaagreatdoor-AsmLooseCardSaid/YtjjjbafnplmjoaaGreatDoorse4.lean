/- Part of a proof by the rules of the symbolic walk (see the law's own text): contracts of functions of the program. -/
import Derived.Lib.SplitLaws
import Derived.Lib.IndexBytes
import Derived.Lib.ItoaNum
import Derived.Lib.ParseIntB
import Derived.Lib.Join
import Derived.Test.YtjjjbafnplmjoaaGreatDoorProg
import Derived.Test.YtjjjbafnplmjoaaGreatDoorse3
import Derived.Lib.FieldsP
import Derived.Test.YtjjjbafnplmjoaaGreatDoorseShelf
import Derived.Lib.SmallJoins
import Derived.Lib.Builder
import Derived.Shelf.RegionOpenPlain
import Derived.Shelf.Strings.BuilderX
import Derived.Lib.UnsafeStr
import Derived.Lib.Strings
import Derived.Lib.Walk
import Derived.WalkKit
import Derived.Laws.Externs
set_option linter.unusedVariables false
set_option linter.unusedSimpArgs false
open Go Go.Proofs Go.SE Go.RowKit
set_option linter.unusedVariables false
set_option maxRecDepth 100000
abbrev Tx := List UInt8
def splitC (c : UInt8) : Tx -> List Tx
 | [] => [[]]
 | b :: r => if b = c then [] :: splitC c r else match splitC c r with
   | x :: xs => (b :: x) :: xs
   | [] => [[b]]
theorem splitC_ne (c : UInt8) (s : Tx) : splitC c s ≠ [] := by
 cases s with
 | nil => simp [splitC]
 | cons b r =>
   rw [splitC];split
   · simp
   · split <;> simp
theorem splitC_free (c : UInt8) : ∀ (s : Tx), ∀ x ∈ splitC c s, c ∉ x
 | [], x, hx => by simp [splitC] at hx; subst hx; simp
 | b :: r, x, hx => by
   have ih := splitC_free c r;rw [splitC] at hx
   split at hx
   · rcases List.mem_cons.1 hx with rfl | hx
     · simp
     · exact ih x hx
   · rename_i hb
     split at hx
     · rename_i y ys e
       rw [e] at ih
       rcases List.mem_cons.1 hx with rfl | hx
       · have := ih y (by simp)
         simp only [List.mem_cons, not_or];exact ⟨fun h => hb h.symm, this⟩
       · exact ih x (List.mem_cons_of_mem _ hx)
     · rename_i e
       exact absurd e (splitC_ne c r)
def joinC (c : UInt8) : List Tx -> Tx
 | [] => []
 | [x] => x
 | x :: y :: r => x ++ c :: joinC c (y :: r)
theorem join_split (c : UInt8) : ∀ (s : Tx), joinC c (splitC c s) = s
 | [] => rfl
 | b :: r => by
   have ih := join_split c r;rw [splitC];split
   · rename_i hb
     subst hb
     cases e : splitC b r with
     | nil => exact absurd e (splitC_ne b r)
     | cons x xs => rw [e] at ih; rw [joinC, ih]; rfl
   · cases e : splitC c r with
     | nil => exact absurd e (splitC_ne c r)
     | cons x xs =>
       rw [e] at ih
       simp only
       cases xs with
       | nil => rw [joinC] at ih ⊢; rw [ih]
       | cons y ys => rw [joinC] at ih ⊢; rw [List.cons_append, ih]
theorem split_app {c : UInt8} {x : Tx} (hx : c ∉ x) (s : Tx) : splitC c (x ++ c :: s) = x :: splitC c s := by
 induction x with
 | nil => rw [List.nil_append, splitC, if_pos rfl]
 | cons b r ih =>
   simp only [List.mem_cons, not_or] at hx;rw [List.cons_append, splitC, if_neg (fun h => hx.1 h.symm), ih hx.2]
theorem split_free {c : UInt8} {x : Tx} (hx : c ∉ x) : splitC c x = [x] := by
 induction x with
 | nil => rfl
 | cons b r ih =>
   simp only [List.mem_cons, not_or] at hx;rw [splitC, if_neg (fun h => hx.1 h.symm), ih hx.2]
theorem split_join {c : UInt8} : ∀ {ws : List Tx}, ws ≠ [] -> (∀ x ∈ ws, c ∉ x) -> splitC c (joinC c ws) = ws
 | [], h, _ => absurd rfl h
 | [x], _, h => by rw [joinC]; exact split_free (h x (by simp))
 | x :: y :: r, _, h => by
   rw [joinC, split_app (h x (by simp)), split_join (by simp) fun z hz => h z (List.mem_cons_of_mem _ hz)]
theorem joinC_eq (c : UInt8) : ∀ ws : List Tx, Lib.join ws [c] = joinC c ws
 | [] => rfl
 | [x] => by rw [Lib.join_one, joinC]
 | x :: y :: r => by
   have ih := joinC_eq c (y :: r);rw [joinC, <- ih, Lib.join_cons, Lib.join_cons, Lib.joinTail, List.map_cons, List.flatten_cons, Lib.joinTail]
   simp
theorem count_splitC (c : UInt8) : ∀ s : Tx, s.count c + 1 = (splitC c s).length
 | [] => rfl
 | b :: r => by
   have ih := count_splitC c r;rw [splitC];split
   · rename_i h; subst h; rw [List.count_cons_self, List.length_cons, ih]
   · rename_i h
     rw [List.count_cons_of_ne (fun e => h e), ih]
     cases e : splitC c r with
     | nil => exact absurd e (splitC_ne c r)
     | cons x xs => rfl
theorem splitK_one (c : UInt8) : ∀ (s : Tx), Lib.splitK [c] 0 (s.count c) s = splitC c s := by
 have key : ∀ (x : Tx) (r : Tx), c ∉ x -> Lib.index (x ++ c :: r) [c] = x.length := by
  intro x r hx;rw [Lib.index_one]
  induction x with
  | nil => simp [Lib.indexByte]
  | cons b t ih =>
    simp only [List.mem_cons, not_or] at hx
    rw [List.cons_append, Lib.indexByte, ih hx.2, if_neg (by simpa using fun h => hx.1 h.symm), if_neg (by simp)]
    simp
 have miss : ∀ (x : Tx), c ∉ x -> Lib.index x [c] = -1 := by
  intro x hx;rw [Lib.index_one]
  induction x with
  | nil => rfl
  | cons b t ih =>
    simp only [List.mem_cons, not_or] at hx
    rw [Lib.indexByte, ih hx.2, if_neg (by simpa using fun h => hx.1 h.symm)]
    simp
 have main : ∀ (n : Nat) (s : Tx), s.length <= n -> Lib.splitK [c] 0 (s.count c) s = splitC c s := by
  intro n
  induction n with
  | zero =>
    intro s hs
    have : s = [] := List.eq_nil_of_length_eq_zero (by omega)
    subst this; rfl
  | succ n ih =>
    intro s hs
    by_cases hc : c ∈ s
    · obtain ⟨x, r, rfl, hx⟩ := List.eq_append_cons_of_mem hc
      have hcnt : (x ++ c :: r).count c = r.count c + 1 := by
       rw [List.count_append, List.count_cons_self, List.count_eq_zero.2 hx]; omega
      rw [hcnt, Lib.splitK, key x r hx, split_app hx]
      have h1 : ((x.length : Int) == -1) = false := by simp
      rw [h1];simp only [Bool.false_eq_true, if_false, Int.toNat_natCast, Nat.add_zero, List.length_singleton]
      rw [List.take_left', List.drop_append, List.drop_of_length_le (by omega), show x.length + 1 - x.length = 1 by omega, List.nil_append, List.drop_succ_cons, List.drop_zero]
      · rw [ih r (by simp at hs; omega)]
      · rfl
    · rw [List.count_eq_zero.2 hc, Lib.splitK, split_free hc]
 exact fun s => main s.length s (Nat.le_refl _)
theorem dec_digits : ∀ u : Nat, Lib.decDigits u ≠ [] /\ (∀ c ∈ Lib.decDigits u, 48 <= c.toNat /\ c.toNat <= 57) := by
 intro u
 induction u using Nat.strongRecOn with
 | _ u ih =>
   rw [Lib.decDigits];split
   · rename_i h
     refine ⟨by simp, fun c hc => ?_⟩
     simp only [List.mem_cons, List.not_mem_nil, or_false] at hc;subst hc
     rw [UInt8.toNat_ofNat']; omega
   · rename_i h
     refine ⟨by simp, fun c hc => ?_⟩
     rcases List.mem_append.1 hc with hc | hc
     · exact (ih (u / 10) (by omega)).2 c hc
     · simp only [List.mem_cons, List.not_mem_nil, or_false] at hc
       subst hc
       rw [UInt8.toNat_ofNat']; omega
theorem parseM_app (M acc : Nat) : ∀ (x : Tx) (r : Tx) (v : Nat), Lib.parseUintM M acc x = .ok v -> Lib.parseUintM M acc (x ++ r) = Lib.parseUintM M v r := by
 intro x
 induction x generalizing acc with
 | nil => intro r v h; simp only [Lib.parseUintM, Lib.NumEnd.ok.injEq] at h; subst h; rfl
 | cons c t ih =>
   intro r v h;rw [Lib.parseUintM] at h;rw [List.cons_append, Lib.parseUintM]
   split at h
   · rename_i h1
     rw [if_pos h1]
     split at h
     · cases h
     · rename_i h2
       rw [if_neg h2]
       split at h
       · cases h
       · rename_i h3
         rw [if_neg h3];exact ih _ r v h
   · cases h
theorem parse_dec : ∀ u : Nat, u < 18446744073709551616 -> Lib.parseUintM 18446744073709551615 0 (Lib.decDigits u) = .ok u := by
 intro u
 induction u using Nat.strongRecOn with
 | _ u ih =>
   intro hu;rw [Lib.decDigits];split
   · rename_i h
     have e : (UInt8.ofNat (48 + u)).toNat = 48 + u := by rw [UInt8.toNat_ofNat']; omega
     rw [Lib.parseUintM, e, if_pos (by omega), if_neg (by omega), if_neg (by omega), Lib.parseUintM]
     congr 1; omega
   · rename_i h
     have e : (UInt8.ofNat (48 + u % 10)).toNat = 48 + u % 10 := by rw [UInt8.toNat_ofNat']; omega
     rw [parseM_app _ _ _ _ _ (ih (u / 10) (by omega) (by omega)), Lib.parseUintM, e, if_pos (by omega), if_neg (by omega), if_neg (by omega), Lib.parseUintM]
     congr 1; omega
theorem itoa_parse {n : Int} (h : -9223372036854775808 <= n /\ n <= 9223372036854775807) : Lib.parseIntB 64 (Lib.itoa n) = .ok n := by
 have e1 : (2 : Nat) ^ 64 - 1 = 18446744073709551615 := by decide
 have e2 : (2 : Nat) ^ (64 - 1) = 9223372036854775808 := by decide
 unfold Lib.itoa;split
 · rename_i hn
   have hp : Lib.parseUintB 64 (Lib.decDigits n.natAbs) = .ok n.natAbs := by
    rw [Lib.parseUintB, if_neg (dec_digits _).1, e1, parse_dec _ (by omega)]
   have h45 : (45 : UInt8).toNat = 45 := by decide
   simp only [Lib.parseIntB, h45, or_true, if_true, hp, e2, not_true, false_and, if_false, true_and]
   rw [if_neg (by omega)]
   congr 1; omega
 · rename_i hn
   obtain ⟨h1, h2⟩ := dec_digits n.toNat
   have hp : Lib.parseUintB 64 (Lib.decDigits n.toNat) = .ok n.toNat := by
    rw [Lib.parseUintB, if_neg (dec_digits _).1, e1, parse_dec _ (by omega)]
   cases hd : Lib.decDigits n.toNat with
   | nil => exact absurd hd h1
   | cons c r =>
     rw [hd] at hp
     have hc := h2 c (by rw [hd]; simp)
     have n1 : ¬ c.toNat = 43 := by omega
     have n2 : ¬ c.toNat = 45 := by omega
     simp only [Lib.parseIntB, n1, n2, or_self, if_false, hp, e2, not_false_eq_true, true_and, false_and]
     rw [if_neg (by omega)]
     congr 1; omega
theorem itoa_inj {a b : Int} (ha : -9223372036854775808 <= a /\ a <= 9223372036854775807) (hb : -9223372036854775808 <= b /\ b <= 9223372036854775807) (h : Lib.itoa a = Lib.itoa b) : a = b := by
 have h1 := itoa_parse ha;rw [h, itoa_parse hb] at h1;simpa using h1.symm
structure Ins where
 op : Int
 a : Int
 b : Int
 c : Int
 n : Int
 deriving DecidableEq
structure okI (i : Ins) : Prop where
 op : 0 <= i.op /\ i.op <= 255
 a : 0 <= i.a /\ i.a <= 255
 b : 0 <= i.b /\ i.b <= 255
 c : 0 <= i.c /\ i.c <= 255
 n : -9223372036854775808 <= i.n /\ i.n <= 9223372036854775807
def formT (op : Int) : Option Tx :=
 if 33 <= op /\ op <= 49 then some [114, 114, 114]
 else if op = 1 then some [] else if op = 2 then some [] else if op = 3 then some [114, 110]
 else if op = 4 then some [114, 114] else if op = 5 then some [114, 114] else if op = 6 then some [114, 114] else if op = 7 then some [114, 114]
 else if op = 8 then some [114, 114, 112] else if op = 9 then some [116] else if op = 10 then some [114, 116] else if op = 11 then some [114, 116] else none
def formL (op : Int) : Tx := (formT op).getD []
def regAt (a b c : Int) (u : Nat) : Int := match u with
 | 0 => a
 | 1 => b
 | _ => c
def oneGo : Tx -> Int -> Int -> Int -> Int -> Nat -> Int
 | [], a, b, c, n, _ => if a = 0 /\ b = 0 /\ c = 0 /\ n = 0 then 0 else 141
 | l :: r, a, b, c, n, u =>
   if l = 114 /\ regAt a b c u < 8 then oneGo r (if u = 0 then 0 else a) (if u = 1 then 0 else b) (if u < 2 then c else 0) n (u + 1)
   else if l = 110 \/ (l = 112 /\ 0 <= n /\ n < 16) \/ (l = 116 /\ 0 <= n /\ n < 256) then oneGo r a b c 0 u
   else oneGo r a b c n u
def oneE (i : Ins) : Int := match formT i.op with
 | none => 140
 | some l => oneGo l i.a i.b i.c i.n 0
def goesB (i : Ins) : Bool := decide (oneE i = 0) && (decide (i.op ≠ 1) && (decide (i.op ≠ 2) && decide (i.op ≠ 9)))
def targetE (i : Ins) : Int × Bool := if oneE i = 0 /\ (i.op = 9 \/ i.op = 10 \/ i.op = 11) then (i.n, true) else (0, false)
def checkGo (n : Nat) : List Ins -> Int -> Int × Int
 | [], _ => (-1, 0)
 | i :: r, k => if oneE i ≠ 0 then (k, oneE i) else if (targetE i).2 = true /\ (n : Int) <= (targetE i).1 then (k, 142) else checkGo n r (k + 1)
def lastGoes (p : List Ins) : Bool := match p.getLast? with
 | some i => goesB i
 | none => false
def checkL (p : List Ins) : Int × Int :=
 if p.length = 0 then (-1, 6) else if 256 < p.length then (-1, 5)
 else if (checkGo p.length p 0).2 ≠ 0 then checkGo p.length p 0
 else if lastGoes p then ((p.length : Int) - 1, 143) else (-1, 0)
def opNames : List Tx := [[97, 100, 100], [115, 117, 98], [109, 117, 108], [100, 105, 118], [114, 101, 109], [109, 111, 100], [97, 110, 100], [111, 114], [120, 111, 114], [115, 104, 108], [115, 104, 114], [115, 97, 114], [108, 101, 115, 115], [98, 101, 108, 111, 119], [101, 113, 117, 97, 108], [109, 105, 110], [109, 97, 120]]
def baseNames : List Tx := [[104, 97, 108, 116], [102, 97, 105, 108], [115, 101, 116], [109, 111, 118, 101], [108, 111, 97, 100], [115, 116, 111, 114, 101], [100, 114, 97, 119], [115, 101, 110, 100], [106, 117, 109, 112], [106, 122], [106, 110]]
def opName (k : Int) : Tx := if k < 1 then [] else (opNames[(k - 1).toNat]?).getD []
def wordT (op : Int) : Tx := if 32 < op then opName (op - 32) else if op < 1 then [] else (baseNames[(op - 1).toNat]?).getD []
def opFind (s : Tx) : Int × Bool := match opNames.findIdx? (· = s) with
 | some k => ((k : Int) + 1, true)
 | none => (0, false)
def baseFind (s : Tx) : Int × Bool := match baseNames.findIdx? (· = s) with
 | some k => ((k : Int) + 1, true)
 | none => (0, false)
def findT (s : Tx) : Int × Bool := if (opFind s).2 then (32 + (opFind s).1, true) else baseFind s
def lowB (c : UInt8) : Bool := decide (97 <= c.toNat /\ c.toNat <= 122)
def chrB (first : Bool) (c : UInt8) : Bool := lowB c || (!first && (decide (c = 95) || decide (48 <= c.toNat /\ c.toNat <= 57)))
def nameGo : Bool -> Tx -> Bool
 | _, [] => true
 | f, c :: r => chrB f c && nameGo false r
def nameB (s : Tx) : Bool := nameGo true s && decide (1 <= s.length /\ s.length <= 32)
def blankB (c : UInt8) : Bool := decide (c = 32) || decide (c = 9)
def fieldsGo (acc : Tx) : Tx -> List Tx
 | [] => if acc = [] then [] else [acc]
 | c :: r => if blankB c then (if acc = [] then fieldsGo [] r else acc :: fieldsGo [] r) else fieldsGo (acc ++ [c]) r
def piecesT (s : Tx) : List Tx := fieldsGo [] (s.takeWhile (· ≠ 59))
structure Mk where
 name : Tx
 at_ : Int
 line : Int
 deriving DecidableEq
structure Src where
 ins : Ins
 line : Int
 target : Tx
 deriving DecidableEq
def numT (s : Tx) : Option Int := match Lib.parseIntB 64 s with
 | .ok v => if Lib.itoa v = s then some v else none
 | _ => none
def regT (s : Tx) : Option Int := match s with
 | [a, b] => if a = 114 /\ 48 <= b.toNat /\ b.toNat <= 55 then some ((b.toNat : Int) - 48) else none
 | _ => none
def putR (i : Ins) (u : Nat) (r : Int) : Ins := match u with
 | 0 => { i with a := r }
 | 1 => { i with b := r }
 | _ => { i with c := r }
def putGo : Tx -> List Tx -> Src -> Nat -> Int × Src
 | f :: fs, s :: ss, x, u =>
   if f = 114 then (match regT s with
    | some r => putGo fs ss { x with ins := putR x.ins u r } (u + 1)
    | none => (152, x))
   else if f = 116 then (if nameB s then putGo fs ss { x with target := s } u else (153, x))
   else (match numT s with
    | none => (152, x)
    | some n => if f = 112 /\ ¬ (0 <= n /\ n < 16) then (152, x) else putGo fs ss { x with ins := { x.ins with n := n } } u)
 | _, _, x, _ => (0, x)
def instrA (l : List Tx) (line : Int) : Int × Src := match l with
 | [] => (150, ⟨⟨0, 0, 0, 0, 0⟩, line, []⟩)
 | w :: r => if (findT w).2 = false then (150, ⟨⟨0, 0, 0, 0, 0⟩, line, []⟩)
   else if r.length ≠ (formL (findT w).1).length then (151, ⟨⟨0, 0, 0, 0, 0⟩, line, []⟩)
   else putGo (formL (findT w).1) r ⟨⟨(findT w).1, 0, 0, 0, 0⟩, line, []⟩ 0
structure Rd where
 ms : List Mk
 ss : List Src
 deriving DecidableEq
def hasMk (ms : List Mk) (name : Tx) : Bool := ms.any fun m => decide (m.name = name)
def labelA (r : Rd) (name : Tx) (line : Int) : Int × Rd :=
 if nameB name = false then (153, r) else if hasMk r.ms name then (154, r) else (0, ⟨r.ms ++ [⟨name, (r.ss.length : Int), line⟩], r.ss⟩)
def putI (r : Rd) (l : List Tx) (line : Int) : Int × Rd := match l with
 | [] => (0, r)
 | l => if (instrA l line).1 = 0 then (0, ⟨r.ms, r.ss ++ [(instrA l line).2]⟩) else ((instrA l line).1, r)
def labT (w : Tx) : Option Tx := if w.getLast? = some 58 then some w.dropLast else none
def lineA (r : Rd) (s : Tx) (line : Int) : Int × Rd := match piecesT s with
 | [] => (0, r)
 | w :: l => match labT w with
   | some name => if (labelA r name line).1 ≠ 0 then labelA r name line else putI (labelA r name line).2 l line
   | none => putI r (w :: l) line
def linesA : List Tx -> Int -> Rd -> Int × Int × Rd
 | [], _, r => (0, 0, r)
 | s :: l, n, r => if (lineA r s n).1 ≠ 0 then ((lineA r s n).1, n, (lineA r s n).2) else linesA l (n + 1) (lineA r s n).2
def atMk (ms : List Mk) (name : Tx) : Int := match ms.find? fun m => decide (m.name = name) with
 | some m => m.at_
 | none => 0
def setTo (ms : List Mk) (x : Src) : Src := if x.target = [] then x else { x with ins := { x.ins with n := atMk ms x.target } }
def lostB (ms : List Mk) (x : Src) : Bool := decide (x.target ≠ []) && !hasMk ms x.target
def endA (r : Rd) : Int × Int :=
 if 256 < r.ss.length then (0, 5)
 else match r.ss.find? (lostB r.ms) with
  | some x => (x.line, 155)
  | none => match r.ms.find? fun m => decide (m.at_ = (r.ss.length : Int)) with
    | some m => (m.line, 156)
    | none => match (r.ss.map (setTo r.ms)).getLast? with
      | none => (0, 6)
      | some x => if goesB x.ins then (x.line, 143) else (0, 0)
def readA (t : Tx) : Int × Int × Rd :=
 if 65536 < t.length then (0, 3, ⟨[], []⟩)
 else if (linesA (splitC 10 t) 1 ⟨[], []⟩).1 ≠ 0 then ((linesA (splitC 10 t) 1 ⟨[], []⟩).2.1, (linesA (splitC 10 t) 1 ⟨[], []⟩).1, ⟨[], []⟩)
 else if (endA (linesA (splitC 10 t) 1 ⟨[], []⟩).2.2).2 ≠ 0 then ((endA (linesA (splitC 10 t) 1 ⟨[], []⟩).2.2).1, (endA (linesA (splitC 10 t) 1 ⟨[], []⟩).2.2).2, ⟨[], []⟩)
 else (0, 0, ⟨(linesA (splitC 10 t) 1 ⟨[], []⟩).2.2.ms, (linesA (splitC 10 t) 1 ⟨[], []⟩).2.2.ss.map (setTo (linesA (splitC 10 t) 1 ⟨[], []⟩).2.2.ms)⟩)
def lab (n : Int) : Tx := 108 :: Lib.itoa n
def operA : Tx -> Ins -> Nat -> List Tx
 | [], _, _ => []
 | f :: fs, i, u => if f = 114 then (114 :: Lib.itoa (regAt i.a i.b i.c u)) :: operA fs i (u + 1) else if f = 116 then lab i.n :: operA fs i u else Lib.itoa i.n :: operA fs i u
def operands (i : Ins) : List Tx := operA (formL i.op) i 0
def insT (i : Ins) : Tx := [32, 32] ++ joinC 32 (wordT i.op :: operands i) ++ [10]
def isTo (p : List Ins) (k : Nat) : Bool := p.any fun i => (targetE i).2 && decide ((targetE i).1 = (k : Int))
def outGo (p : List Ins) : List Ins -> Nat -> Tx
 | [], _ => []
 | i :: r, k => (if isTo p k then lab k ++ [58, 10] else []) ++ insT i ++ outGo p r (k + 1)
def writeA (p : List Ins) : Tx × Int := if (checkL p).2 ≠ 0 then ([], (checkL p).2) else (outGo p p 0, 0)
def tx (s : ByteArray) : Tx := s.data.toList
def strT (t : Tx) : ByteArray := ⟨t.toArray⟩
theorem strT_size (t : Tx) : (strT t).size = t.length := by show t.toArray.size = _; simp
theorem tx_strT (t : Tx) : tx (strT t) = t := rfl
theorem strT_tx (s : ByteArray) : strT (tx s) = s := rfl
def insV (i : Ins) : List Value := [.int .u8 i.op, .int .u8 i.a, .int .u8 i.b, .int .u8 i.c, .int .i64 i.n]
theorem wr_u8 {n : Int} {K : Int -> Prop} (h0 : 0 <= n) (h1 : n <= 255) (h : K n) : Wr .u8 n K := ⟨n, by rw [IntKind.wrap_u8]; omega, h⟩
theorem ct74 (op : Int) (h : 0 <= op /\ op <= 255) (I : Mem) : Ct Tryz.prog (fnv 74) #[.int .u8 op] I (fun v _ => v = .tuple #[.string (strT (formL op)), .bool (formT op).isSome]) := by
 obtain ⟨Q, hQ⟩ : ∃ q : Value, q = .tuple #[.string (strT (formL op)), .bool (formT op).isSome] := ⟨_, rfl⟩;obtain ⟨N, hN⟩ : ∃ f : Int -> Prop, f = fun j => 0 <= j /\ j <= 11 /\ (∀ k : Int, 1 <= k -> k <= j -> op ≠ k) := ⟨_, rfl⟩;rw [<- hQ]
 refine viaR (ct_via (A := { loops := [(4, ⟨[(0, .keep), (23, .keep), (24, .sh (.int .i64))], [], [], fun vals _ _ _ => match vals with | [.int .i64 j] => N j | _ => False, fun vals _ => match vals with | [.int .i64 j] => (11 - j).toNat | _ => 0⟩)] }) Tryz.func74 rfl Tryz.call74 rfl rfl) (let E1 := [SV.v (.int .u8 1), .v (.string ⟨#[]⟩), .v (.int .u8 2), .v (.string ⟨#[]⟩), .v (.int .u8 3), .v (.string ⟨#[114, 110]⟩), .v (.int .u8 4), .v (.string ⟨#[114, 114]⟩), .v (.int .u8 5), .v (.string ⟨#[114, 114]⟩), .v (.int .u8 6), .v (.string ⟨#[114, 114]⟩), .v (.int .u8 7), .v (.string ⟨#[114, 114]⟩), .v (.int .u8 8), .v (.string ⟨#[114, 114, 112]⟩), .v (.int .u8 9), .v (.string ⟨#[116]⟩), .v (.int .u8 10), .v (.string ⟨#[114, 116]⟩), .v (.int .u8 11), .v (.string ⟨#[114, 116]⟩)]
  Br (decide (32 < op)) (Br (decide (op <= 49)) (Value.tuple #[.string ⟨#[114, 114, 114]⟩, .bool true] = Q) ((Rf (SV.v (.int .u8 op)) /\ Rf (SV.agg E1) /\ N 0) /\ ∀ (a : Mem), Mem -> I.le a -> ∀ (n : Int), N n -> Br (decide (n < 11)) (0 <= n /\ n < 11 /\ (2 : Nat) = 2 /\ ∃ b, E1[n.toNat * 2 + 0]?.bind (fun (x : SV) => (match x with
  | SV.v x => some x
  | x => none)) = some (.int .u8 b) /\ ∃ q, E1[n.toNat * 2 + 1]?.bind (fun (x : SV) => (match x with
  | SV.v x => some x
  | x => none)) = some (.string q) /\ Br (b == op) (Value.tuple #[.string q, .bool true] = Q) (Wr .i64 (n + 1) (fun c => Rf (SV.v (.int .u8 op)) /\ Rf (SV.agg E1) /\ N c /\ Int.toNat (11 - c) < Int.toNat (11 - n)))) (Value.tuple #[.string ⟨#[]⟩, .bool false] = Q))) ((Rf (SV.v (.int .u8 op)) /\ Rf (SV.agg E1) /\ N 0) /\ ∀ (a : Mem), Mem -> I.le a -> ∀ (n : Int), N n -> Br (decide (n < 11)) (0 <= n /\ n < 11 /\ (2 : Nat) = 2 /\ ∃ b, E1[n.toNat * 2 + 0]?.bind (fun (x : SV) => (match x with
  | SV.v x => some x
  | x => none)) = some (.int .u8 b) /\ ∃ q, E1[n.toNat * 2 + 1]?.bind (fun (x : SV) => (match x with
  | SV.v x => some x
  | x => none)) = some (.string q) /\ Br (b == op) (Value.tuple #[.string q, .bool true] = Q) (Wr .i64 (n + 1) (fun c => Rf (SV.v (.int .u8 op)) /\ Rf (SV.agg E1) /\ N c /\ Int.toNat (11 - c) < Int.toNat (11 - n)))) (Value.tuple #[.string ⟨#[]⟩, .bool false] = Q))) (by kernel_rfl) ?_
 intro E1;have H0 : ∀ {P : Prop}, (¬ (33 <= op /\ op <= 49) -> P) -> ¬ (33 <= op /\ op <= 49) -> P := fun f => f
 refine Br.mk (fun h1 => Br.mk (fun h2 => ?_) (fun h2 => H0 (fun hno => ?_) (fun hh => of_decide_eq_false h2 hh.2))) (fun h1 => H0 (fun hno => ?_) (fun hh => of_decide_eq_false h1 (by omega)))
 · have h1 := of_decide_eq_true h1
   have h2 := of_decide_eq_true h2
   rw [hQ, formL, formT, if_pos ⟨by omega, h2⟩]; rfl
 all_goals refine ⟨⟨rfl, rfl, by rw [hN]; exact ⟨by omega, by omega, fun k h3 h4 => by omega⟩⟩, fun a b la n hn => ?_⟩
 all_goals rw [hN] at hn ⊢
 all_goals obtain ⟨h3, h4, h5⟩ := hn
 all_goals refine Br.mk (fun h6 => H0 (fun _ => ?_) hno) (fun h6 => H0 (fun _ => ?_) hno)
 · refine ⟨h3, of_decide_eq_true h6, rfl, ?_⟩
   have h6 := of_decide_eq_true h6
   have hcs : n = 0 \/ n = 1 \/ n = 2 \/ n = 3 \/ n = 4 \/ n = 5 \/ n = 6 \/ n = 7 \/ n = 8 \/ n = 9 \/ n = 10 := by omega
   have last : ∀ m : Int, ¬ m = op -> m = n + 1 -> ∀ k : Int, 1 <= k -> k <= n + 1 -> op = k -> False := fun m hm hmn k h8 h9 h10 => by
    by_cases h11 : k <= n
    · exact h5 k h8 h11 h10
    · omega
   rcases hcs with rfl | rfl | rfl | rfl | rfl | rfl | rfl | rfl | rfl | rfl | rfl <;>
   · refine ⟨_, rfl, _, rfl, Br.mk (fun h7 => ?_) (fun h7 => wr_i64 (by omega) (by omega) ⟨rfl, rfl, ⟨by omega, by omega, last _ (by simpa using h7) rfl⟩, by omega⟩)⟩
     have h7 := eq_of_beq h7
     rw [hQ, <- h7]; rfl
 · have h6 := of_decide_eq_false h6
   have e : ∀ k : Int, 1 <= k -> k <= 11 -> op ≠ k := fun k h8 h9 => h5 k h8 (by omega)
   rw [hQ, formL, formT, if_neg hno, if_neg (e 1 (by omega) (by omega)), if_neg (e 2 (by omega) (by omega)), if_neg (e 3 (by omega) (by omega)), if_neg (e 4 (by omega) (by omega)), if_neg (e 5 (by omega) (by omega)), if_neg (e 6 (by omega) (by omega)), if_neg (e 7 (by omega) (by omega)), if_neg (e 8 (by omega) (by omega)), if_neg (e 9 (by omega) (by omega)), if_neg (e 10 (by omega) (by omega)), if_neg (e 11 (by omega) (by omega))]; rfl
 · refine ⟨h3, of_decide_eq_true h6, rfl, ?_⟩
   have h6 := of_decide_eq_true h6
   have hcs : n = 0 \/ n = 1 \/ n = 2 \/ n = 3 \/ n = 4 \/ n = 5 \/ n = 6 \/ n = 7 \/ n = 8 \/ n = 9 \/ n = 10 := by omega
   have last : ∀ m : Int, ¬ m = op -> m = n + 1 -> ∀ k : Int, 1 <= k -> k <= n + 1 -> op = k -> False := fun m hm hmn k h8 h9 h10 => by
    by_cases h11 : k <= n
    · exact h5 k h8 h11 h10
    · omega
   rcases hcs with rfl | rfl | rfl | rfl | rfl | rfl | rfl | rfl | rfl | rfl | rfl <;>
   · refine ⟨_, rfl, _, rfl, Br.mk (fun h7 => ?_) (fun h7 => wr_i64 (by omega) (by omega) ⟨rfl, rfl, ⟨by omega, by omega, last _ (by simpa using h7) rfl⟩, by omega⟩)⟩
     have h7 := eq_of_beq h7
     rw [hQ, <- h7]; rfl
 · have h6 := of_decide_eq_false h6
   have e : ∀ k : Int, 1 <= k -> k <= 11 -> op ≠ k := fun k h8 h9 => h5 k h8 (by omega)
   rw [hQ, formL, formT, if_neg hno, if_neg (e 1 (by omega) (by omega)), if_neg (e 2 (by omega) (by omega)), if_neg (e 3 (by omega) (by omega)), if_neg (e 4 (by omega) (by omega)), if_neg (e 5 (by omega) (by omega)), if_neg (e 6 (by omega) (by omega)), if_neg (e 7 (by omega) (by omega)), if_neg (e 8 (by omega) (by omega)), if_neg (e 9 (by omega) (by omega)), if_neg (e 10 (by omega) (by omega)), if_neg (e 11 (by omega) (by omega))]; rfl
theorem ct37 (s : ByteArray) (hs : s.size <= 10000000) (I : Mem) : Ct Tryz.prog (fnv 37) #[.string s] I (fun v _ => v = .bool (nameB (tx s))) := by
 obtain ⟨N, hN⟩ : ∃ f : Int -> Prop, f = fun j : Int => 0 <= j /\ j <= s.size /\ nameGo true (tx s) = nameGo (decide (j = 0)) ((tx s).drop j.toNat) := ⟨_, rfl⟩;obtain ⟨Q, hQ⟩ : ∃ q : Bool, q = nameB (tx s) := ⟨_, rfl⟩;rw [<- hQ]
 refine viaR (ct_via (A := { loops := [(2, ⟨[(0, .keep), (6, .keep), (7, .sh (.int .i64))], [], [], fun vals _ _ _ => match vals with | [.int .i64 j] => N j | _ => False, fun vals _ => match vals with | [.int .i64 j] => (s.size - j).toNat | _ => 0⟩)] }) Tryz.func37 rfl Tryz.call37 rfl rfl) ((Rf (SV.v (.string s)) /\ Rf (SV.v (.int .i64 (s.size : Int))) /\ N 0) /\ ∀ (a : Mem), Mem -> I.le a -> ∀ (n : Int), N n -> Br (decide (n < (s.size : Int))) (∃ c, s.data.toList[n.toNat]? = some c /\ 0 <= n /\ Br (decide (97 <= (c.toNat : Int))) (∃ b, s.data.toList[n.toNat]? = some b /\ 0 <= n /\ Br (!(decide ((b.toNat : Int) <= 122))) (Br (n == 0) (Value.bool false = .bool Q) (∃ d, s.data.toList[n.toNat]? = some d /\ 0 <= n /\ Br ((d.toNat : Int) != 95) (∃ e, s.data.toList[n.toNat]? = some e /\ 0 <= n /\ Br (decide ((e.toNat : Int) < 48)) (Value.bool false = .bool Q) (∃ f, s.data.toList[n.toNat]? = some f /\ 0 <= n /\ Br (decide (57 < (f.toNat : Int))) (Value.bool false = .bool Q) (Wr .i64 (n + 1) (fun g => Rf (SV.v (.string s)) /\ Rf (SV.v (.int .i64 (s.size : Int))) /\ N g /\ Int.toNat ((s.size : Int) - g) < Int.toNat ((s.size : Int) - n))))) (Wr .i64 (n + 1) (fun e => Rf (SV.v (.string s)) /\ Rf (SV.v (.int .i64 (s.size : Int))) /\ N e /\ Int.toNat ((s.size : Int) - e) < Int.toNat ((s.size : Int) - n))))) (Wr .i64 (n + 1) (fun d => Rf (SV.v (.string s)) /\ Rf (SV.v (.int .i64 (s.size : Int))) /\ N d /\ Int.toNat ((s.size : Int) - d) < Int.toNat ((s.size : Int) - n)))) (Br (n == 0) (Value.bool false = .bool Q) (∃ b, s.data.toList[n.toNat]? = some b /\ 0 <= n /\ Br ((b.toNat : Int) != 95) (∃ d, s.data.toList[n.toNat]? = some d /\ 0 <= n /\ Br (decide ((d.toNat : Int) < 48)) (Value.bool false = .bool Q) (∃ e, s.data.toList[n.toNat]? = some e /\ 0 <= n /\ Br (decide (57 < (e.toNat : Int))) (Value.bool false = .bool Q) (Wr .i64 (n + 1) (fun f => Rf (SV.v (.string s)) /\ Rf (SV.v (.int .i64 (s.size : Int))) /\ N f /\ Int.toNat ((s.size : Int) - f) < Int.toNat ((s.size : Int) - n))))) (Wr .i64 (n + 1) (fun d => Rf (SV.v (.string s)) /\ Rf (SV.v (.int .i64 (s.size : Int))) /\ N d /\ Int.toNat ((s.size : Int) - d) < Int.toNat ((s.size : Int) - n)))))) (Br (decide (1 <= (s.size : Int))) (Value.bool (decide ((s.size : Int) <= 32)) = .bool Q) (Value.bool false = .bool Q))) (by kernel_rfl) ?_
 have hl : (tx s).length = s.size := Array.length_toList
 refine ⟨⟨rfl, rfl, by rw [hN]; exact ⟨by omega, by omega, rfl⟩⟩, fun a b la n hn => ?_⟩
 rw [hN] at hn ⊢;obtain ⟨h1, h2, h3⟩ := hn;refine Br.mk (fun h4 => ?_) (fun h4 => ?_)
 · have h4 := of_decide_eq_true h4
   have hlt : n.toNat < (tx s).length := by omega
   obtain ⟨c, hc⟩ : ∃ c, (tx s)[n.toNat]? = some c := ⟨_, List.getElem?_eq_getElem hlt⟩
   have hd : (tx s).drop n.toNat = c :: (tx s).drop (n + 1).toNat := by
    rw [show (n + 1).toNat = n.toNat + 1 by omega, List.drop_eq_getElem_cons hlt]
    congr 1
    rw [List.getElem?_eq_getElem hlt] at hc;exact Option.some.inj hc
   rw [hd, nameGo] at h3
   have hz : decide (n + 1 = 0) = false := decide_eq_false (by omega)
   have NO : chrB (decide (n = 0)) c = false -> Value.bool false = Value.bool Q := fun h => by
    rw [hQ, nameB, h3, h]; rfl
   have NEXT : chrB (decide (n = 0)) c = true -> Wr .i64 (n + 1) (fun d => Rf (SV.v (.string s)) /\ Rf (SV.v (.int .i64 (s.size : Int))) /\ (0 <= d /\ d <= s.size /\ nameGo true (tx s) = nameGo (decide (d = 0)) ((tx s).drop d.toNat)) /\ ((s.size : Int) - d).toNat < ((s.size : Int) - n).toNat) := fun h =>
    wr_i64 (by omega) (by omega) ⟨rfl, rfl, ⟨by omega, by omega, by rw [h3, h, hz, Bool.true_and]⟩, by omega⟩
   refine ⟨c, hc, h1, Br.mk (fun h5 => ⟨c, hc, h1, Br.mk (fun h6 => ?_) (fun h6 => ?_)⟩) (fun h5 => ?_)⟩
   · have hlow : lowB c = false := by
      have h6 : ¬ ((c.toNat : Int) <= 122) := by simpa using h6
      rw [lowB]; exact decide_eq_false (by omega)
     refine Br.mk (fun h7 => NO ?_) (fun h7 => ⟨c, hc, h1, Br.mk (fun h8 => ⟨c, hc, h1, Br.mk (fun h9 => NO ?_) (fun h9 => ⟨c, hc, h1, Br.mk (fun h10 => NO ?_) (fun h10 => NEXT ?_)⟩)⟩) (fun h8 => NEXT ?_)⟩)
     · have h7 : n = 0 := by simpa using h7
       rw [chrB, hlow, h7]; rfl
     all_goals have h7 : n ≠ 0 := by simpa using h7
     all_goals rw [chrB, hlow, decide_eq_false h7]
     · have h8 : c ≠ 95 := fun e => by subst e; simp at h8
       have h9 := of_decide_eq_true h9
       rw [decide_eq_false h8, decide_eq_false (by omega)]; rfl
     · have h8 : c ≠ 95 := fun e => by subst e; simp at h8
       have h10 := of_decide_eq_true h10
       rw [decide_eq_false h8, decide_eq_false (by omega)]; rfl
     · have h9 := of_decide_eq_false h9
       have h10 := of_decide_eq_false h10
       rw [decide_eq_true (p := 48 <= c.toNat /\ c.toNat <= 57) (by omega)]; simp
     · have h8 : (c.toNat : Int) = 95 := by simpa using h8
       have h8 : c = 95 := UInt8.toNat_inj.1 (by rw [show (95 : UInt8).toNat = 95 by decide]; omega)
       rw [decide_eq_true h8]; rfl
   · have h5 := of_decide_eq_true h5
     have h6 : (c.toNat : Int) <= 122 := by simpa using h6
     exact NEXT (by rw [chrB, lowB, decide_eq_true (by omega)]; rfl)
   · have h5 := of_decide_eq_false h5
     have hlow : lowB c = false := by rw [lowB]; exact decide_eq_false (by omega)
     refine Br.mk (fun h7 => NO ?_) (fun h7 => ⟨c, hc, h1, Br.mk (fun h8 => ⟨c, hc, h1, Br.mk (fun h9 => NO ?_) (fun h9 => ⟨c, hc, h1, Br.mk (fun h10 => NO ?_) (fun h10 => NEXT ?_)⟩)⟩) (fun h8 => NEXT ?_)⟩)
     · have h7 : n = 0 := by simpa using h7
       rw [chrB, hlow, h7]; rfl
     all_goals have h7 : n ≠ 0 := by simpa using h7
     all_goals rw [chrB, hlow, decide_eq_false h7]
     · have h8 : c ≠ 95 := fun e => by subst e; simp at h8
       have h9 := of_decide_eq_true h9
       rw [decide_eq_false h8, decide_eq_false (by omega)]; rfl
     · have h8 : c ≠ 95 := fun e => by subst e; simp at h8
       have h10 := of_decide_eq_true h10
       rw [decide_eq_false h8, decide_eq_false (by omega)]; rfl
     · have h9 := of_decide_eq_false h9
       have h10 := of_decide_eq_false h10
       rw [decide_eq_true (p := 48 <= c.toNat /\ c.toNat <= 57) (by omega)]; simp
     · have h8 : (c.toNat : Int) = 95 := by simpa using h8
       have h8 : c = 95 := UInt8.toNat_inj.1 (by rw [show (95 : UInt8).toNat = 95 by decide]; omega)
       rw [decide_eq_true h8]; rfl
 · have h4 := of_decide_eq_false h4
   rw [List.drop_eq_nil_of_le (by omega), nameGo] at h3
   refine Br.mk (fun h5 => ?_) (fun h5 => ?_)
   · have h5 := of_decide_eq_true h5
     rw [hQ, nameB, h3, Bool.true_and]
     congr 1
     exact decide_eq_decide.2 ⟨fun h => by omega, fun h => by omega⟩
   · have h5 := of_decide_eq_false h5
     rw [hQ, nameB, decide_eq_false (by omega), Bool.and_false]
theorem ct93 (i : Ins) (h : okI i) (I : Mem) : Ct Tryz.prog (fnv 93) #[.agg (insV i).toArray] I (fun v _ => v = .agg #[.int .u8 i.a, .int .u8 i.b, .int .u8 i.c]) := by
 refine viaR (ct_via (A := { }) Tryz.func93 rfl Tryz.call93 rfl rfl) (Rf (Value.agg #[.int .u8 i.a, .int .u8 i.b, .int .u8 i.c])) (by kernel_rfl) ?_
 rfl
def allT : List Value := (([] : Tx) :: opNames).flatMap fun t => [.string (strT t), .bool (decide (t = [100, 105, 118] \/ t = [114, 101, 109] \/ t = [109, 111, 100]))]
theorem allT_eq : allT = [.string ⟨#[]⟩, .bool false, .string ⟨#[97, 100, 100]⟩, .bool false, .string ⟨#[115, 117, 98]⟩, .bool false, .string ⟨#[109, 117, 108]⟩, .bool false, .string ⟨#[100, 105, 118]⟩, .bool true, .string ⟨#[114, 101, 109]⟩, .bool true, .string ⟨#[109, 111, 100]⟩, .bool true, .string ⟨#[97, 110, 100]⟩, .bool false, .string ⟨#[111, 114]⟩, .bool false, .string ⟨#[120, 111, 114]⟩, .bool false, .string ⟨#[115, 104, 108]⟩, .bool false, .string ⟨#[115, 104, 114]⟩, .bool false, .string ⟨#[115, 97, 114]⟩, .bool false, .string ⟨#[108, 101, 115, 115]⟩, .bool false, .string ⟨#[98, 101, 108, 111, 119]⟩, .bool false, .string ⟨#[101, 113, 117, 97, 108]⟩, .bool false, .string ⟨#[109, 105, 110]⟩, .bool false, .string ⟨#[109, 97, 120]⟩, .bool false] := rfl
theorem ct89 (I : Mem) : Ct Tryz.prog (fnv 89) #[] I (fun v _ => v = .agg allT.toArray) := by
 obtain ⟨Q, hQ⟩ : ∃ q : Value, q = .agg allT.toArray := ⟨_, rfl⟩;rw [<- hQ]
 refine viaR (ct_via (A := { }) Tryz.func89 rfl Tryz.call89 rfl rfl) (Value.agg #[.string ⟨#[]⟩, .bool false, .string ⟨#[97, 100, 100]⟩, .bool false, .string ⟨#[115, 117, 98]⟩, .bool false, .string ⟨#[109, 117, 108]⟩, .bool false, .string ⟨#[100, 105, 118]⟩, .bool true, .string ⟨#[114, 101, 109]⟩, .bool true, .string ⟨#[109, 111, 100]⟩, .bool true, .string ⟨#[97, 110, 100]⟩, .bool false, .string ⟨#[111, 114]⟩, .bool false, .string ⟨#[120, 111, 114]⟩, .bool false, .string ⟨#[115, 104, 108]⟩, .bool false, .string ⟨#[115, 104, 114]⟩, .bool false, .string ⟨#[115, 97, 114]⟩, .bool false, .string ⟨#[108, 101, 115, 115]⟩, .bool false, .string ⟨#[98, 101, 108, 111, 119]⟩, .bool false, .string ⟨#[101, 113, 117, 97, 108]⟩, .bool false, .string ⟨#[109, 105, 110]⟩, .bool false, .string ⟨#[109, 97, 120]⟩, .bool false] = Q) (by kernel_rfl) ?_
 rw [hQ]; rfl
theorem ct67 (k : Int) (h : 0 <= k /\ k <= 255) (I : Mem) : Ct Tryz.prog (fnv 67) #[.int .u8 k] I (fun v _ => v = .string (strT (opName k))) := by
 obtain ⟨Q, hQ⟩ : ∃ q : Value, q = .string (strT (opName k)) := ⟨_, rfl⟩;rw [<- hQ]
 refine viaR (ct_via (A := { }) Tryz.func67 rfl Tryz.call67 rfl rfl) (Br (decide (17 < k)) (Value.string ⟨#[]⟩ = Q) (Ct Tryz.prog (fnv 89) #[] I (fun v a => ∃ q b c d e f g i j l m n o p r s t u w x y z q1 b1 q2 b2 q3 b3 q4 b4 q5 b5 q6 b6 q7 b7, v = .agg #[.string q, .bool b, .string c, .bool d, .string e, .bool f, .string g, .bool i, .string j, .bool l, .string m, .bool n, .string o, .bool p, .string r, .bool s, .string t, .bool u, .string w, .bool x, .string y, .bool z, .string q1, .bool b1, .string q2, .bool b2, .string q3, .bool b3, .string q4, .bool b4, .string q5, .bool b5, .string q6, .bool b6, .string q7, .bool b7] /\ 0 <= k /\ k < 18 /\ (2 : Nat) = 2 /\ ∃ q8, [SV.v (.string q), .v (.bool b), .v (.string c), .v (.bool d), .v (.string e), .v (.bool f), .v (.string g), .v (.bool i), .v (.string j), .v (.bool l), .v (.string m), .v (.bool n), .v (.string o), .v (.bool p), .v (.string r), .v (.bool s), .v (.string t), .v (.bool u), .v (.string w), .v (.bool x), .v (.string y), .v (.bool z), .v (.string q1), .v (.bool b1), .v (.string q2), .v (.bool b2), .v (.string q3), .v (.bool b3), .v (.string q4), .v (.bool b4), .v (.string q5), .v (.bool b5), .v (.string q6), .v (.bool b6), .v (.string q7), .v (.bool b7)][k.toNat * 2 + 0]?.bind (fun (x1 : SV) => (match x1 with
  | SV.v x => some x
  | x => none)) = some (.string q8) /\ ∃ b8, [SV.v (.string q), .v (.bool b), .v (.string c), .v (.bool d), .v (.string e), .v (.bool f), .v (.string g), .v (.bool i), .v (.string j), .v (.bool l), .v (.string m), .v (.bool n), .v (.string o), .v (.bool p), .v (.string r), .v (.bool s), .v (.string t), .v (.bool u), .v (.string w), .v (.bool x), .v (.string y), .v (.bool z), .v (.string q1), .v (.bool b1), .v (.string q2), .v (.bool b2), .v (.string q3), .v (.bool b3), .v (.string q4), .v (.bool b4), .v (.string q5), .v (.bool b5), .v (.string q6), .v (.bool b6), .v (.string q7), .v (.bool b7)][k.toNat * 2 + 1]?.bind (fun (x1 : SV) => (match x1 with
  | SV.v x => some x
  | x => none)) = some (.bool b8) /\ Value.string q8 = Q))) (by kernel_rfl) ?_
 refine Br.mk (fun h1 => ?_) (fun h1 => (ct89 I).mono fun v J l hv => ⟨_, _, _, _, _, _, _, _, _, _, _, _, _, _, _, _, _, _, _, _, _, _, _, _, _, _, _, _, _, _, _, _, _, _, _, _, hv.trans (by rw [allT_eq]), h.1, ?_, rfl, ?_⟩)
 · have h1 := of_decide_eq_true h1
   rw [hQ, opName, if_neg (by omega), List.getElem?_eq_none (by show 17 <= _; omega)]; rfl
 · have h1 := of_decide_eq_false h1
   omega
 · have h1 := of_decide_eq_false h1
   have hcs : k = 0 \/ k = 1 \/ k = 2 \/ k = 3 \/ k = 4 \/ k = 5 \/ k = 6 \/ k = 7 \/ k = 8 \/ k = 9 \/ k = 10 \/ k = 11 \/ k = 12 \/ k = 13 \/ k = 14 \/ k = 15 \/ k = 16 \/ k = 17 := by omega
   rcases hcs with rfl | rfl | rfl | rfl | rfl | rfl | rfl | rfl | rfl | rfl | rfl | rfl | rfl | rfl | rfl | rfl | rfl | rfl <;> exact ⟨_, rfl, _, rfl, by rw [hQ]; rfl⟩
theorem ct62 (s : ByteArray) (I : Mem) : Ct Tryz.prog (fnv 62) #[.string s] I (fun v _ => v = .tuple #[.int .u8 (opFind (tx s)).1, .bool (opFind (tx s)).2]) := by
 obtain ⟨N, hN⟩ : ∃ f : Int -> Prop, f = fun j => 0 <= j /\ j <= 18 /\ (∀ k : Nat, (k : Int) + 1 < j -> opNames[k]? ≠ some (tx s)) := ⟨_, rfl⟩;obtain ⟨A0, hA⟩ : ∃ q : List Value, q = allT := ⟨_, rfl⟩;obtain ⟨Q, hQ⟩ : ∃ q : Value, q = .tuple #[.int .u8 (opFind (tx s)).1, .bool (opFind (tx s)).2] := ⟨_, rfl⟩;rw [<- hQ]
 refine viaR (ct_via (A := { loops := [(2, ⟨[(0, .keep), (6, .kv), (7, .sh (.int .i64))], [], [], fun vals _ _ _ => match vals with | [v, .int .i64 j] => v = .agg A0.toArray /\ N j | _ => False, fun vals _ => match vals with | [_, .int .i64 j] => (18 - j).toNat | _ => 0⟩)] }) Tryz.func62 rfl Tryz.call62 rfl rfl) (let E1 := fun (x : ByteArray) (a : Bool) (b : ByteArray) (c : Bool) (d : ByteArray) (e : Bool) (f : ByteArray) (g : Bool) (h : ByteArray) (i : Bool) (j : ByteArray) (k : Bool) => [.v (.string x), .v (.bool a), .v (.string b), .v (.bool c), .v (.string d), .v (.bool e), .v (.string f), .v (.bool g), .v (.string h), .v (.bool i), .v (.string j), .v (.bool k)]
  Ct Tryz.prog (fnv 89) #[] I fun v a => ∃ q b c d e f g h i j k l m n o p r t u w x y z b1 q1 b2 q2 b3 q3 b4 q4 b5 q5 b6 q6 b7, v = .agg #[.string q, .bool b, .string c, .bool d, .string e, .bool f, .string g, .bool h, .string i, .bool j, .string k, .bool l, .string m, .bool n, .string o, .bool p, .string r, .bool t, .string u, .bool w, .string x, .bool y, .string z, .bool b1, .string q1, .bool b2, .string q2, .bool b3, .string q3, .bool b4, .string q4, .bool b5, .string q5, .bool b6, .string q6, .bool b7] /\ (Rf (SV.v (.string s)) /\ Rf (SV.agg (.v (.string q) :: .v (.bool b) :: .v (.string c) :: .v (.bool d) :: .v (.string e) :: .v (.bool f) :: .v (.string g) :: .v (.bool h) :: .v (.string i) :: .v (.bool j) :: .v (.string k) :: .v (.bool l) :: .v (.string m) :: .v (.bool n) :: .v (.string o) :: .v (.bool p) :: .v (.string r) :: .v (.bool t) :: .v (.string u) :: .v (.bool w) :: .v (.string x) :: .v (.bool y) :: .v (.string z) :: .v (.bool b1) :: E1 q1 b2 q2 b3 q3 b4 q4 b5 q5 b6 q6 b7)) /\ Value.agg #[.string q, .bool b, .string c, .bool d, .string e, .bool f, .string g, .bool h, .string i, .bool j, .string k, .bool l, .string m, .bool n, .string o, .bool p, .string r, .bool t, .string u, .bool w, .string x, .bool y, .string z, .bool b1, .string q1, .bool b2, .string q2, .bool b3, .string q3, .bool b4, .string q4, .bool b5, .string q5, .bool b6, .string q6, .bool b7] = .agg A0.toArray /\ N 0) /\ ∀ (I1 : Mem), Mem -> a.le I1 -> ∀ (n1 : Int), Value.agg #[.string q, .bool b, .string c, .bool d, .string e, .bool f, .string g, .bool h, .string i, .bool j, .string k, .bool l, .string m, .bool n, .string o, .bool p, .string r, .bool t, .string u, .bool w, .string x, .bool y, .string z, .bool b1, .string q1, .bool b2, .string q2, .bool b3, .string q3, .bool b4, .string q4, .bool b5, .string q5, .bool b6, .string q6, .bool b7] = .agg A0.toArray /\ N n1 -> Br (decide (n1 < 18)) (0 <= n1 /\ n1 < 18 /\ (2 : Nat) = 2 /\ ∃ q7, (SV.v (.string q) :: .v (.bool b) :: .v (.string c) :: .v (.bool d) :: .v (.string e) :: .v (.bool f) :: .v (.string g) :: .v (.bool h) :: .v (.string i) :: .v (.bool j) :: .v (.string k) :: .v (.bool l) :: .v (.string m) :: .v (.bool n) :: .v (.string o) :: .v (.bool p) :: .v (.string r) :: .v (.bool t) :: .v (.string u) :: .v (.bool w) :: .v (.string x) :: .v (.bool y) :: .v (.string z) :: .v (.bool b1) :: E1 q1 b2 q2 b3 q3 b4 q4 b5 q5 b6 q6 b7)[n1.toNat * 2 + 0]?.bind (fun (x1 : SV) => (match x1 with
  | SV.v x => some x
  | x => none)) = some (.string q7) /\ ∃ b8, (SV.v (.string q) :: .v (.bool b) :: .v (.string c) :: .v (.bool d) :: .v (.string e) :: .v (.bool f) :: .v (.string g) :: .v (.bool h) :: .v (.string i) :: .v (.bool j) :: .v (.string k) :: .v (.bool l) :: .v (.string m) :: .v (.bool n) :: .v (.string o) :: .v (.bool p) :: .v (.string r) :: .v (.bool t) :: .v (.string u) :: .v (.bool w) :: .v (.string x) :: .v (.bool y) :: .v (.string z) :: .v (.bool b1) :: E1 q1 b2 q2 b3 q3 b4 q4 b5 q5 b6 q6 b7)[n1.toNat * 2 + 1]?.bind (fun (x1 : SV) => (match x1 with
  | SV.v x => some x
  | x => none)) = some (.bool b8) /\ Br (decide (0 < n1)) (Br (q7.toList == s.toList) (Wr .u8 n1 (fun c1 => Value.tuple #[.int .u8 c1, .bool true] = Q)) (Wr .i64 (n1 + 1) (fun c1 => Rf (SV.v (.string s)) /\ Rf (SV.agg (.v (.string q) :: .v (.bool b) :: .v (.string c) :: .v (.bool d) :: .v (.string e) :: .v (.bool f) :: .v (.string g) :: .v (.bool h) :: .v (.string i) :: .v (.bool j) :: .v (.string k) :: .v (.bool l) :: .v (.string m) :: .v (.bool n) :: .v (.string o) :: .v (.bool p) :: .v (.string r) :: .v (.bool t) :: .v (.string u) :: .v (.bool w) :: .v (.string x) :: .v (.bool y) :: .v (.string z) :: .v (.bool b1) :: E1 q1 b2 q2 b3 q3 b4 q4 b5 q5 b6 q6 b7)) /\ (Value.agg #[.string q, .bool b, .string c, .bool d, .string e, .bool f, .string g, .bool h, .string i, .bool j, .string k, .bool l, .string m, .bool n, .string o, .bool p, .string r, .bool t, .string u, .bool w, .string x, .bool y, .string z, .bool b1, .string q1, .bool b2, .string q2, .bool b3, .string q3, .bool b4, .string q4, .bool b5, .string q5, .bool b6, .string q6, .bool b7] = .agg A0.toArray /\ N c1) /\ Int.toNat (18 - c1) < Int.toNat (18 - n1)))) (Wr .i64 (n1 + 1) (fun c1 => Rf (SV.v (.string s)) /\ Rf (SV.agg (.v (.string q) :: .v (.bool b) :: .v (.string c) :: .v (.bool d) :: .v (.string e) :: .v (.bool f) :: .v (.string g) :: .v (.bool h) :: .v (.string i) :: .v (.bool j) :: .v (.string k) :: .v (.bool l) :: .v (.string m) :: .v (.bool n) :: .v (.string o) :: .v (.bool p) :: .v (.string r) :: .v (.bool t) :: .v (.string u) :: .v (.bool w) :: .v (.string x) :: .v (.bool y) :: .v (.string z) :: .v (.bool b1) :: E1 q1 b2 q2 b3 q3 b4 q4 b5 q5 b6 q6 b7)) /\ (Value.agg #[.string q, .bool b, .string c, .bool d, .string e, .bool f, .string g, .bool h, .string i, .bool j, .string k, .bool l, .string m, .bool n, .string o, .bool p, .string r, .bool t, .string u, .bool w, .string x, .bool y, .string z, .bool b1, .string q1, .bool b2, .string q2, .bool b3, .string q3, .bool b4, .string q4, .bool b5, .string q5, .bool b6, .string q6, .bool b7] = .agg A0.toArray /\ N c1) /\ Int.toNat (18 - c1) < Int.toNat (18 - n1)))) (Value.tuple #[.int .u8 0, .bool false] = Q)) (by kernel_rfl) ?_
 intro E1
 refine (ct89 I).mono fun v J l hv => ⟨_, _, _, _, _, _, _, _, _, _, _, _, _, _, _, _, _, _, _, _, _, _, _, _, _, _, _, _, _, _, _, _, _, _, _, _, hv.trans (by rw [allT_eq]), ⟨⟨rfl, rfl, ?_, ?_⟩, fun a b la n hn => ?_⟩⟩
 · rw [hA, allT_eq]
 · rw [hN]; exact ⟨by omega, by omega, fun k hk => by omega⟩
 obtain ⟨hv2, hn⟩ := hn;rw [hN] at hn ⊢;obtain ⟨h1, h2, h3⟩ := hn;refine Br.mk (fun h4 => ?_) (fun h4 => ?_)
 · have h4 := of_decide_eq_true h4
   refine ⟨h1, h4, rfl, ?_⟩
   have fnd : ∀ (t : Tx) (k : Nat), n = (k : Int) + 1 -> opNames[k]? = some t -> tx s = t -> Value.tuple #[.int .u8 n, .bool true] = Q := fun t k hk hg he => by
    have : opNames.findIdx? (· = tx s) = some k := by
     rw [List.findIdx?_eq_some_iff_getElem];obtain ⟨hlt, hge⟩ := List.getElem?_eq_some_iff.1 hg
     refine ⟨hlt, by rw [hge, he]; simp, fun j hj hj2 => ?_⟩
     have hj2 := of_decide_eq_true hj2
     exact h3 j (by omega) (by rw [List.getElem?_eq_getElem (by omega), hj2])
    rw [hQ, opFind, this, hk]
   have nxt : ∀ (t : Tx) (k : Nat), n = (k : Int) + 1 -> opNames[k]? = some t -> tx s ≠ t -> ∀ j : Nat, (j : Int) + 1 < n + 1 -> opNames[j]? ≠ some (tx s) := fun t k hk hg he j hj hj2 => by
    by_cases h5 : (j : Int) + 1 < n
    · exact h3 j h5 hj2
    · have : j = k := by omega
      rw [this, hg] at hj2;exact he (Option.some.inj hj2).symm
   have hcs : n = 0 \/ n = 1 \/ n = 2 \/ n = 3 \/ n = 4 \/ n = 5 \/ n = 6 \/ n = 7 \/ n = 8 \/ n = 9 \/ n = 10 \/ n = 11 \/ n = 12 \/ n = 13 \/ n = 14 \/ n = 15 \/ n = 16 \/ n = 17 := by omega
   rcases hcs with rfl | rfl | rfl | rfl | rfl | rfl | rfl | rfl | rfl | rfl | rfl | rfl | rfl | rfl | rfl | rfl | rfl | rfl
   · exact ⟨_, rfl, _, rfl, Br.mk (fun h5 => by cases h5) (fun h5 => wr_i64 (by omega) (by omega) ⟨rfl, rfl, ⟨hv2, by omega, by omega, fun k hk => by omega⟩, by omega⟩)⟩
   · refine ⟨_, rfl, _, rfl, Br.mk (fun h5 => ?_) (fun h5 => by cases h5)⟩
     rw [str_eq]
     refine Br.mk (fun h6 => wr_u8 (by omega) (by omega) (fnd _ 0 rfl rfl (congrArg tx (of_decide_eq_true h6)).symm)) (fun h6 => wr_i64 (by omega) (by omega) ⟨rfl, rfl, ⟨hv2, by omega, by omega, nxt _ 0 rfl rfl (fun e => of_decide_eq_false h6 (congrArg strT e).symm)⟩, by omega⟩)
   · refine ⟨_, rfl, _, rfl, Br.mk (fun h5 => ?_) (fun h5 => by cases h5)⟩
     rw [str_eq]
     refine Br.mk (fun h6 => wr_u8 (by omega) (by omega) (fnd _ 1 rfl rfl (congrArg tx (of_decide_eq_true h6)).symm)) (fun h6 => wr_i64 (by omega) (by omega) ⟨rfl, rfl, ⟨hv2, by omega, by omega, nxt _ 1 rfl rfl (fun e => of_decide_eq_false h6 (congrArg strT e).symm)⟩, by omega⟩)
   · refine ⟨_, rfl, _, rfl, Br.mk (fun h5 => ?_) (fun h5 => by cases h5)⟩
     rw [str_eq]
     refine Br.mk (fun h6 => wr_u8 (by omega) (by omega) (fnd _ 2 rfl rfl (congrArg tx (of_decide_eq_true h6)).symm)) (fun h6 => wr_i64 (by omega) (by omega) ⟨rfl, rfl, ⟨hv2, by omega, by omega, nxt _ 2 rfl rfl (fun e => of_decide_eq_false h6 (congrArg strT e).symm)⟩, by omega⟩)
   · refine ⟨_, rfl, _, rfl, Br.mk (fun h5 => ?_) (fun h5 => by cases h5)⟩
     rw [str_eq]
     refine Br.mk (fun h6 => wr_u8 (by omega) (by omega) (fnd _ 3 rfl rfl (congrArg tx (of_decide_eq_true h6)).symm)) (fun h6 => wr_i64 (by omega) (by omega) ⟨rfl, rfl, ⟨hv2, by omega, by omega, nxt _ 3 rfl rfl (fun e => of_decide_eq_false h6 (congrArg strT e).symm)⟩, by omega⟩)
   · refine ⟨_, rfl, _, rfl, Br.mk (fun h5 => ?_) (fun h5 => by cases h5)⟩
     rw [str_eq]
     refine Br.mk (fun h6 => wr_u8 (by omega) (by omega) (fnd _ 4 rfl rfl (congrArg tx (of_decide_eq_true h6)).symm)) (fun h6 => wr_i64 (by omega) (by omega) ⟨rfl, rfl, ⟨hv2, by omega, by omega, nxt _ 4 rfl rfl (fun e => of_decide_eq_false h6 (congrArg strT e).symm)⟩, by omega⟩)
   · refine ⟨_, rfl, _, rfl, Br.mk (fun h5 => ?_) (fun h5 => by cases h5)⟩
     rw [str_eq]
     refine Br.mk (fun h6 => wr_u8 (by omega) (by omega) (fnd _ 5 rfl rfl (congrArg tx (of_decide_eq_true h6)).symm)) (fun h6 => wr_i64 (by omega) (by omega) ⟨rfl, rfl, ⟨hv2, by omega, by omega, nxt _ 5 rfl rfl (fun e => of_decide_eq_false h6 (congrArg strT e).symm)⟩, by omega⟩)
   · refine ⟨_, rfl, _, rfl, Br.mk (fun h5 => ?_) (fun h5 => by cases h5)⟩
     rw [str_eq]
     refine Br.mk (fun h6 => wr_u8 (by omega) (by omega) (fnd _ 6 rfl rfl (congrArg tx (of_decide_eq_true h6)).symm)) (fun h6 => wr_i64 (by omega) (by omega) ⟨rfl, rfl, ⟨hv2, by omega, by omega, nxt _ 6 rfl rfl (fun e => of_decide_eq_false h6 (congrArg strT e).symm)⟩, by omega⟩)
   · refine ⟨_, rfl, _, rfl, Br.mk (fun h5 => ?_) (fun h5 => by cases h5)⟩
     rw [str_eq]
     refine Br.mk (fun h6 => wr_u8 (by omega) (by omega) (fnd _ 7 rfl rfl (congrArg tx (of_decide_eq_true h6)).symm)) (fun h6 => wr_i64 (by omega) (by omega) ⟨rfl, rfl, ⟨hv2, by omega, by omega, nxt _ 7 rfl rfl (fun e => of_decide_eq_false h6 (congrArg strT e).symm)⟩, by omega⟩)
   · refine ⟨_, rfl, _, rfl, Br.mk (fun h5 => ?_) (fun h5 => by cases h5)⟩
     rw [str_eq]
     refine Br.mk (fun h6 => wr_u8 (by omega) (by omega) (fnd _ 8 rfl rfl (congrArg tx (of_decide_eq_true h6)).symm)) (fun h6 => wr_i64 (by omega) (by omega) ⟨rfl, rfl, ⟨hv2, by omega, by omega, nxt _ 8 rfl rfl (fun e => of_decide_eq_false h6 (congrArg strT e).symm)⟩, by omega⟩)
   · refine ⟨_, rfl, _, rfl, Br.mk (fun h5 => ?_) (fun h5 => by cases h5)⟩
     rw [str_eq]
     refine Br.mk (fun h6 => wr_u8 (by omega) (by omega) (fnd _ 9 rfl rfl (congrArg tx (of_decide_eq_true h6)).symm)) (fun h6 => wr_i64 (by omega) (by omega) ⟨rfl, rfl, ⟨hv2, by omega, by omega, nxt _ 9 rfl rfl (fun e => of_decide_eq_false h6 (congrArg strT e).symm)⟩, by omega⟩)
   · refine ⟨_, rfl, _, rfl, Br.mk (fun h5 => ?_) (fun h5 => by cases h5)⟩
     rw [str_eq]
     refine Br.mk (fun h6 => wr_u8 (by omega) (by omega) (fnd _ 10 rfl rfl (congrArg tx (of_decide_eq_true h6)).symm)) (fun h6 => wr_i64 (by omega) (by omega) ⟨rfl, rfl, ⟨hv2, by omega, by omega, nxt _ 10 rfl rfl (fun e => of_decide_eq_false h6 (congrArg strT e).symm)⟩, by omega⟩)
   · refine ⟨_, rfl, _, rfl, Br.mk (fun h5 => ?_) (fun h5 => by cases h5)⟩
     rw [str_eq]
     refine Br.mk (fun h6 => wr_u8 (by omega) (by omega) (fnd _ 11 rfl rfl (congrArg tx (of_decide_eq_true h6)).symm)) (fun h6 => wr_i64 (by omega) (by omega) ⟨rfl, rfl, ⟨hv2, by omega, by omega, nxt _ 11 rfl rfl (fun e => of_decide_eq_false h6 (congrArg strT e).symm)⟩, by omega⟩)
   · refine ⟨_, rfl, _, rfl, Br.mk (fun h5 => ?_) (fun h5 => by cases h5)⟩
     rw [str_eq]
     refine Br.mk (fun h6 => wr_u8 (by omega) (by omega) (fnd _ 12 rfl rfl (congrArg tx (of_decide_eq_true h6)).symm)) (fun h6 => wr_i64 (by omega) (by omega) ⟨rfl, rfl, ⟨hv2, by omega, by omega, nxt _ 12 rfl rfl (fun e => of_decide_eq_false h6 (congrArg strT e).symm)⟩, by omega⟩)
   · refine ⟨_, rfl, _, rfl, Br.mk (fun h5 => ?_) (fun h5 => by cases h5)⟩
     rw [str_eq]
     refine Br.mk (fun h6 => wr_u8 (by omega) (by omega) (fnd _ 13 rfl rfl (congrArg tx (of_decide_eq_true h6)).symm)) (fun h6 => wr_i64 (by omega) (by omega) ⟨rfl, rfl, ⟨hv2, by omega, by omega, nxt _ 13 rfl rfl (fun e => of_decide_eq_false h6 (congrArg strT e).symm)⟩, by omega⟩)
   · refine ⟨_, rfl, _, rfl, Br.mk (fun h5 => ?_) (fun h5 => by cases h5)⟩
     rw [str_eq]
     refine Br.mk (fun h6 => wr_u8 (by omega) (by omega) (fnd _ 14 rfl rfl (congrArg tx (of_decide_eq_true h6)).symm)) (fun h6 => wr_i64 (by omega) (by omega) ⟨rfl, rfl, ⟨hv2, by omega, by omega, nxt _ 14 rfl rfl (fun e => of_decide_eq_false h6 (congrArg strT e).symm)⟩, by omega⟩)
   · refine ⟨_, rfl, _, rfl, Br.mk (fun h5 => ?_) (fun h5 => by cases h5)⟩
     rw [str_eq]
     refine Br.mk (fun h6 => wr_u8 (by omega) (by omega) (fnd _ 15 rfl rfl (congrArg tx (of_decide_eq_true h6)).symm)) (fun h6 => wr_i64 (by omega) (by omega) ⟨rfl, rfl, ⟨hv2, by omega, by omega, nxt _ 15 rfl rfl (fun e => of_decide_eq_false h6 (congrArg strT e).symm)⟩, by omega⟩)
   · refine ⟨_, rfl, _, rfl, Br.mk (fun h5 => ?_) (fun h5 => by cases h5)⟩
     rw [str_eq]
     refine Br.mk (fun h6 => wr_u8 (by omega) (by omega) (fnd _ 16 rfl rfl (congrArg tx (of_decide_eq_true h6)).symm)) (fun h6 => wr_i64 (by omega) (by omega) ⟨rfl, rfl, ⟨hv2, by omega, by omega, nxt _ 16 rfl rfl (fun e => of_decide_eq_false h6 (congrArg strT e).symm)⟩, by omega⟩)
 · have h4 := of_decide_eq_false h4
   have : opNames.findIdx? (· = tx s) = none := by
    rw [List.findIdx?_eq_none_iff];intro x hx;obtain ⟨k, hk, hx⟩ := List.mem_iff_getElem.1 hx
    refine decide_eq_false fun e => h3 k (by have : opNames.length = 17 := rfl; omega) ?_
    rw [List.getElem?_eq_getElem hk, hx, e]
   rw [hQ, opFind, this]
theorem ct36 (op : Int) (h : 0 <= op /\ op <= 255) (I : Mem) : Ct Tryz.prog (fnv 36) #[.int .u8 op] I (fun v _ => v = .string (strT (wordT op))) := by
 obtain ⟨Q, hQ⟩ : ∃ q : Value, q = .string (strT (wordT op)) := ⟨_, rfl⟩;rw [<- hQ]
 refine viaR (ct_via (A := { calls := [(15, .sym)] }) Tryz.func36 rfl Tryz.call36 rfl rfl) (Br (decide (32 < op)) (Wr .u8 (op - 32) (fun c => Ct Tryz.prog (fnv 67) #[.int .u8 c] I fun v a => ∃ q, v = .string q /\ Value.string q = Q)) (Wr .i64 op (fun c => Br (decide (c < 12)) (0 <= op /\ op < 12 /\ ∃ q, [Value.string ⟨#[]⟩, .string ⟨#[104, 97, 108, 116]⟩, .string ⟨#[102, 97, 105, 108]⟩, .string ⟨#[115, 101, 116]⟩, .string ⟨#[109, 111, 118, 101]⟩, .string ⟨#[108, 111, 97, 100]⟩, .string ⟨#[115, 116, 111, 114, 101]⟩, .string ⟨#[100, 114, 97, 119]⟩, .string ⟨#[115, 101, 110, 100]⟩, .string ⟨#[106, 117, 109, 112]⟩, .string ⟨#[106, 122]⟩, .string ⟨#[106, 110]⟩][0 + op.toNat * 1 + 0]? = some (.string q) /\ Value.string q = Q) (Value.string ⟨#[]⟩ = Q)))) (by kernel_rfl) ?_
 refine Br.mk (fun h1 => ?_) (fun h1 => ?_)
 · have h1 := of_decide_eq_true h1
   refine wr_u8 (by omega) (by omega) ((ct67 (op - 32) (by omega) I).mono fun v J l hv => ⟨_, hv, ?_⟩)
   rw [hQ, wordT, if_pos h1]
 · have h1 := of_decide_eq_false h1
   refine wr_i64 (by omega) (by omega) (Br.mk (fun h2 => ⟨h.1, ?_⟩) (fun h2 => ?_))
   · have h2 := of_decide_eq_true h2
     refine ⟨h2, ?_⟩
     have hcs : op = 0 \/ op = 1 \/ op = 2 \/ op = 3 \/ op = 4 \/ op = 5 \/ op = 6 \/ op = 7 \/ op = 8 \/ op = 9 \/ op = 10 \/ op = 11 := by omega
     rcases hcs with rfl | rfl | rfl | rfl | rfl | rfl | rfl | rfl | rfl | rfl | rfl | rfl <;> exact ⟨_, rfl, by rw [hQ]; rfl⟩
   · have h2 := of_decide_eq_false h2
     rw [hQ, wordT, if_neg h1, if_neg (by omega), List.getElem?_eq_none (by show 11 <= _; omega)]; rfl
theorem opFind_rng (t : Tx) : 0 <= (opFind t).1 /\ (opFind t).1 <= 17 := by
 unfold opFind;split
 · rename_i k h
   have := (List.findIdx?_eq_some_iff_getElem.1 h).1;have hl : opNames.length = 17 := rfl
   simp only; omega
 · simp
theorem ct32 (s : ByteArray) (I : Mem) : Ct Tryz.prog (fnv 32) #[.string s] I (fun v _ => v = .tuple #[.int .u8 (findT (tx s)).1, .bool (findT (tx s)).2]) := by
 obtain ⟨N, hN⟩ : ∃ f : Int -> Prop, f = fun j => 1 <= j /\ j <= 12 /\ (∀ k : Nat, (k : Int) + 1 < j -> baseNames[k]? ≠ some (tx s)) := ⟨_, rfl⟩;obtain ⟨Q, hQ⟩ : ∃ q : Value, q = .tuple #[.int .u8 (findT (tx s)).1, .bool (findT (tx s)).2] := ⟨_, rfl⟩;rw [<- hQ]
 refine viaR (ct_via (A := { loops := [(5, ⟨[(0, .keep), (6, .sh (.int .u8))], [], [], fun vals _ _ _ => match vals with | [.int .u8 j] => N j | _ => False, fun vals _ => match vals with | [.int .u8 j] => (12 - j).toNat | _ => 0⟩)] }) Tryz.func32 rfl Tryz.call32 rfl rfl) (Ct Tryz.prog (fnv 62) #[.string s] I fun v a => ∃ n b, v = .tuple #[.int .u8 n, .bool b] /\ Br b (Wr .u8 (32 + n) (fun c => Value.tuple #[.int .u8 c, .bool true] = Q)) ((Rf (SV.v (.string s)) /\ N 1) /\ ∀ (c : Mem), Mem -> a.le c -> ∀ (d : Int), N d -> Br (decide (d <= 11)) (Ct Tryz.prog (fnv 36) #[.int .u8 d] c (fun e f => ∃ q, e = .string q /\ Br (q.toList == s.toList) (Value.tuple #[.int .u8 d, .bool true] = Q) (Wr .u8 (d + 1) (fun g => Rf (SV.v (.string s)) /\ N g /\ Int.toNat (12 - g) < Int.toNat (12 - d))))) (Value.tuple #[.int .u8 0, .bool false] = Q))) (by kernel_rfl) ?_
 have hop := opFind_rng (tx s)
 refine (ct62 s I).mono fun v J l hv => ⟨_, _, hv, Br.mk (fun h1 => ?_) (fun h1 => ⟨⟨rfl, by rw [hN]; exact ⟨by omega, by omega, fun k hk => by omega⟩⟩, fun c G lc d hd => ?_⟩)⟩
 · refine wr_u8 (by omega) (by omega) ?_
   rw [hQ, findT, if_pos h1]
 rw [hN] at hd ⊢;obtain ⟨h2, h3, h4⟩ := hd;refine Br.mk (fun h5 => ?_) (fun h5 => ?_)
 · have h5 := of_decide_eq_true h5
   refine (ct36 d (by omega) c).mono fun v K lk hv => ⟨_, hv, ?_⟩
   rw [str_eq]
   have hwd : baseNames[(d - 1).toNat]? = some (wordT d) := by
    have hl : (d - 1).toNat < baseNames.length := by show _ < 11; omega
    rw [wordT, if_neg (by omega), if_neg (by omega), List.getElem?_eq_getElem hl]; rfl
   refine Br.mk (fun h6 => ?_) (fun h6 => ?_)
   · have he : wordT d = tx s := by have := congrArg tx (of_decide_eq_true h6); rwa [tx_strT] at this
     have : baseNames.findIdx? (· = tx s) = some (d - 1).toNat := by
      rw [List.findIdx?_eq_some_iff_getElem];obtain ⟨hlt, hge⟩ := List.getElem?_eq_some_iff.1 hwd
      refine ⟨hlt, by rw [hge, he]; simp, fun j hj hj2 => ?_⟩
      have hj2 := of_decide_eq_true hj2
      exact h4 j (by omega) (by rw [List.getElem?_eq_getElem (by omega), hj2])
     rw [hQ, findT, if_neg (by rw [h1]; decide), baseFind, this]
     simp only
     rw [show (((d - 1).toNat : Nat) : Int) + 1 = d by omega]
   · refine wr_u8 (by omega) (by omega) ⟨rfl, ⟨by omega, by omega, fun k hk hk2 => ?_⟩, by omega⟩
     by_cases h7 : (k : Int) + 1 < d
     · exact h4 k h7 hk2
     · have : k = (d - 1).toNat := by omega
       rw [this, hwd] at hk2;exact of_decide_eq_false h6 (congrArg strT (Option.some.inj hk2))
 · have h5 := of_decide_eq_false h5
   have : baseNames.findIdx? (· = tx s) = none := by
    rw [List.findIdx?_eq_none_iff];intro x hx;obtain ⟨k, hk, hx⟩ := List.mem_iff_getElem.1 hx
    refine decide_eq_false fun e => h4 k (by have : baseNames.length = 11 := rfl; omega) ?_
    rw [List.getElem?_eq_getElem hk, hx, e]
   rw [hQ, findT, if_neg (by rw [h1]; decide), baseFind, this]
theorem dec_ascii {s : ByteArray} {p : Nat} {c : UInt8} (h : (tx s)[p]? = some c) (hc : c.toNat < 128) : Utf8.decode s p = (c.toNat, 1) := by
 obtain ⟨⟨l⟩⟩ := s;have h : l[p]? = some c := h
 have e : (ByteArray.mk ⟨l⟩).get! p = c := by
  show (l.toArray)[p]! = c
  simp [h]
 simp only [Utf8.decode, Nat.add_zero, e];rw [if_pos hc]
theorem formT_cases (op : Int) : formT op = none \/ formT op = some [] \/ formT op = some [114, 110] \/ formT op = some [114, 114] \/ formT op = some [114, 114, 112] \/ formT op = some [116] \/ formT op = some [114, 116] \/ formT op = some [114, 114, 114] := by
 unfold formT
 repeat' split
 all_goals simp
theorem formL_mem (op : Int) : (∀ c ∈ formL op, c = 110 \/ c = 112 \/ c = 114 \/ c = 116) /\ (formL op).length <= 3 /\ (formL op).count 114 <= 3 := by
 rcases formT_cases op with h | h | h | h | h | h | h | h <;> (rw [formL, h]; decide)
def OneN (i : Ins) (p : Nat) (n u : Int) (rs : List Value) : Prop := ∃ a b c : Int, rs = [.int .u8 a, .int .u8 b, .int .u8 c] /\
 oneE i = oneGo ((formL i.op).drop p) a b c n u.toNat /\ 0 <= u /\ u + ((formL i.op).drop p).count 114 <= 3 /\ (0 <= a /\ a <= 255) /\ (0 <= b /\ b <= 255) /\ (0 <= c /\ c <= 255) /\ p <= (formL i.op).length
theorem ct72 (i : Ins) (h : okI i) (I : Mem) : Ct Tryz.prog (fnv 72) #[.agg (insV i).toArray] I (fun v _ => v = .int .i64 (oneE i)) := by
 obtain ⟨N, hN⟩ : ∃ f, f = OneN i := ⟨_, rfl⟩;obtain ⟨Q, hQ⟩ : ∃ q : Value, q = .int .i64 (oneE i) := ⟨_, rfl⟩;obtain ⟨C, hC⟩ : ∃ f : Int -> Int -> Int -> Prop, f = fun a b c => a = i.a /\ b = i.b /\ c = i.c := ⟨_, rfl⟩;obtain ⟨F, hF⟩ : ∃ q : Nat, q = (formL i.op).length := ⟨_, rfl⟩;rw [<- hQ]
 refine viaR (ct_via (A := { loops := [(7, ⟨[(5, .keep), (6, .sh (.int .i64)), (7, .sh (.int .i64)), (23, .keep)], [(0, .keep), (1, .vec), (2, .iter)], [], fun vals xss _ _ => match vals, xss with | [.int .i64 n, .int .i64 u], [rs, xs] => N (posL xs) n u rs | _, _ => False, fun _ xss => match xss with | [_, xs] => F - posL xs | _ => 0⟩)] }) Tryz.func72 rfl Tryz.call72 rfl rfl) (let E5 := Ent.mk (.cells [.v (.int .u8 i.op), .v (.int .u8 i.a), .v (.int .u8 i.b), .v (.int .u8 i.c), .v (.int .i64 i.n)] 27) none
  let E2 := fun (x : ByteArray) (a : List Value) (b : Int) (c : Int) (d : List Value) => Rf E5 /\ Rf (none : Option Nat) /\ (x = x /\ Rf (none : Option Nat)) /\ Rf (SV.ptr 1 0) /\ Rf (SV.ptr 2 0) /\ N (posL [.int .i64 ((posL a + (Utf8.decode x (posL a)).2 : Nat) : Int)]) b c d /\ F - posL [.int .i64 ((posL a + (Utf8.decode x (posL a)).2 : Nat) : Int)] < F - posL a
  let E4 := fun (x : ByteArray) (a : List Value) (b : Int) (c : List Value) => Rf E5 /\ Rf (none : Option Nat) /\ (x = x /\ Rf (none : Option Nat)) /\ Rf (SV.ptr 1 0) /\ Rf (SV.ptr 2 0) /\ N (posL [.int .i64 ((posL a + (Utf8.decode x (posL a)).2 : Nat) : Int)]) 0 b c /\ F - posL [.int .i64 ((posL a + (Utf8.decode x (posL a)).2 : Nat) : Int)] < F - posL a
  let E6 := fun (x : ByteArray) (a : List Value) (b : Int) (c : Int) (d : List Value) => Br (((Utf8.decode x (posL a)).1 : Int) == 116) (Br (decide (0 <= b)) (Br (decide (b < 256)) (E4 x a c d) (E2 x a b c d)) (E2 x a b c d)) (E2 x a b c d)
  let E1 := fun (x : ByteArray) (a : List Value) (b : Int) (c : List Value) (d : Int) => Br (((Utf8.decode x (posL a)).1 : Int) == 110) (Br (((Utf8.decode x (posL a)).1 : Int) == 110) (E4 x a b c) (E2 x a d b c)) (Br (((Utf8.decode x (posL a)).1 : Int) == 112) (Br (decide (0 <= d)) (Br (decide (d < 16)) (Br (decide (d < 16)) (E4 x a b c) (E2 x a d b c)) (E6 x a d b c)) (E6 x a d b c)) (E6 x a d b c))
  let E3 := fun (x : Mem) (a : ByteArray) => Ct Tryz.prog (fnv 93) #[.agg #[.int .u8 i.op, .int .u8 i.a, .int .u8 i.b, .int .u8 i.c, .int .i64 i.n]] x fun v b => ∃ n c d, v = .agg #[.int .u8 n, .int .u8 c, .int .u8 d] /\ (Rf E5 /\ Rf (none : Option Nat) /\ (a = a /\ Rf (none : Option Nat)) /\ Rf (SV.ptr 1 0) /\ Rf (SV.ptr 2 0) /\ N 0 i.n 0 [.int .u8 n, .int .u8 c, .int .u8 d]) /\ ∀ (e : Mem), Mem -> b.le e -> ∀ (f g : List Value) (j k : Int), N (posL g) j k f -> Br ((posL g).blt a.size) (Br (((Utf8.decode a (posL g)).1 : Int) == 114) (0 <= k /\ k < 3 /\ ∃ l, f[0 + k.toNat * 1 + 0]? = some (.int .u8 l) /\ Br (decide (l < 8)) (0 <= k /\ k < 3 /\ 0 + k.toNat * 1 + 1 <= f.length /\ Wr .i64 (k + 1) fun m => Rf E5 /\ Rf (none : Option Nat) /\ (a = a /\ Rf (none : Option Nat)) /\ Rf (SV.ptr 1 0) /\ Rf (SV.ptr 2 0) /\ N (posL [.int .i64 ((posL g + (Utf8.decode a (posL g)).2 : Nat) : Int)]) j m (splice f (0 + k.toNat * 1) [.int .u8 0]) /\ F - posL [.int .i64 ((posL g + (Utf8.decode a (posL g)).2 : Nat) : Int)] < F - posL g) (E1 a g k f j)) (E1 a g k f j)) ((3 : Nat) = 3 /\ ∃ l, f[0]? = some (.int .u8 l) /\ ∃ m, f[1]? = some (.int .u8 m) /\ ∃ o, f[2]? = some (.int .u8 o) /\ Br (!(l == 0 && (m == 0 && (o == 0 && true)))) (Value.int .i64 141 = Q) (Br (j != 0) (Value.int .i64 141 = Q) (Value.int .i64 0 = Q)))
  Ct Tryz.prog (fnv 74) #[.int .u8 i.op] I fun v a => ∃ q b, v = .tuple #[.string q, .bool b] /\ Br (!b) (Value.int .i64 140 = Q) (E3 a q /\ E3 a q)) (by kernel_rfl) ?_
 intro E5 E2 E4 E6 E1 E3;refine (ct74 i.op h.op I).mono fun v J l hv => ⟨_, _, hv, Br.mk (fun h1 => ?_) (fun h1 => ?_)⟩
 · have h1 : formT i.op = none := by simpa using h1
   rw [hQ, oneE, h1]
 have h1 : ∃ q, formT i.op = some q := by
  cases hq : formT i.op with
  | none => rw [hq] at h1; cases h1
  | some q => exact ⟨q, rfl⟩
 obtain ⟨q, hq⟩ := h1
 have hone : oneE i = oneGo (formL i.op) i.a i.b i.c i.n 0 := by rw [oneE, hq, formL, hq]; rfl
 obtain ⟨hmem, hlen, hcnt⟩ := formL_mem i.op
 have main : E3 J (strT (formL i.op)) := by
  refine (ct93 i h J).mono fun v b lb hv => ⟨_, _, _, hv, ⟨rfl, rfl, ⟨rfl, rfl⟩, rfl, rfl, ?_⟩, fun e G le f g j k hn => ?_⟩
  · rw [hN]
    exact ⟨_, _, _, rfl, hone, by omega, by simp only [List.drop_zero]; omega, h.a, h.b, h.c, Nat.zero_le _⟩
  rw [hN] at hn;obtain ⟨a, b, c, rfl, h2, h3, h4, h5, h6, h7, h8⟩ := hn;refine Br.mk (fun h9 => ?_) (fun h9 => ?_)
  · have hlt : posL g < (formL i.op).length := by
     have : posL g < (strT (formL i.op)).size := by simpa using h9
     rwa [strT_size] at this
    obtain ⟨L, hL⟩ : ∃ L, (formL i.op)[posL g]? = some L := ⟨_, List.getElem?_eq_getElem hlt⟩;have hLm := hmem L (List.mem_of_getElem? hL)
    have hd : (formL i.op).drop (posL g) = L :: (formL i.op).drop (posL g + 1) := by
     rw [List.drop_eq_getElem_cons hlt]
     congr 1
     rw [List.getElem?_eq_getElem hlt] at hL;exact Option.some.inj hL
    have hdec : Utf8.decode (strT (formL i.op)) (posL g) = (L.toNat, 1) := dec_ascii hL (by rcases hLm with rfl | rfl | rfl | rfl <;> decide)
    have hpos : posL [Value.int .i64 ((posL g + 1 : Nat) : Int)] = posL g + 1 := by simp [posL, natV]
    rw [hd] at h2 h4
    have hF2 : F - (posL g + 1) < F - posL g := by omega
    simp only [E1, E2, E4, E6, hdec, hpos, Rf, eq_self, true_and, and_true, hF2];rw [hN]
    have keepL : ¬ (L = 114 /\ regAt a b c k.toNat < 8) -> ¬ (L = 110 \/ (L = 112 /\ 0 <= j /\ j < 16) \/ (L = 116 /\ 0 <= j /\ j < 256)) -> OneN i (posL g + 1) j k [.int .u8 a, .int .u8 b, .int .u8 c] := fun n1 n2 => by
     rw [oneGo, if_neg n1, if_neg n2] at h2
     exact ⟨_, _, _, rfl, h2, h3, by rw [List.count_cons] at h4; split at h4 <;> omega, h5, h6, h7, by omega⟩
    have zeroL : ¬ (L = 114 /\ regAt a b c k.toNat < 8) -> (L = 110 \/ (L = 112 /\ 0 <= j /\ j < 16) \/ (L = 116 /\ 0 <= j /\ j < 256)) -> OneN i (posL g + 1) 0 k [.int .u8 a, .int .u8 b, .int .u8 c] := fun n1 n2 => by
     rw [oneGo, if_neg n1, if_pos n2] at h2
     exact ⟨_, _, _, rfl, h2, h3, by rw [List.count_cons] at h4; split at h4 <;> omega, h5, h6, h7, by omega⟩
    rcases hLm with rfl | rfl | rfl | rfl
    · exact Br.f rfl (Br.t rfl (Br.t rfl (zeroL (by simp) (.inl rfl))))
    · refine Br.f rfl (Br.f rfl (Br.t rfl (Br.mk (fun h10 => Br.mk (fun h11 => Br.mk (fun h12 => zeroL (by simp) (.inr (.inl ⟨rfl, of_decide_eq_true h10, of_decide_eq_true h12⟩))) (fun h12 => absurd (of_decide_eq_true h11) (of_decide_eq_false h12))) (fun h11 => Br.f rfl (keepL (by simp) ?_))) (fun h10 => Br.f rfl (keepL (by simp) ?_)))))
      · have h11 := of_decide_eq_false h11
        rintro (h | h | h)
        · cases h
        · exact h11 h.2.2
        · cases h.1
      · have h10 := of_decide_eq_false h10
        rintro (h | h | h)
        · cases h
        · exact h10 h.2.1
        · cases h.1
    · have hk : k < 3 := by rw [List.count_cons_self] at h4; omega
      refine Br.t rfl ⟨h3, hk, ?_⟩
      have hcs : k = 0 \/ k = 1 \/ k = 2 := by omega
      rcases hcs with rfl | rfl | rfl
      all_goals refine ⟨_, rfl, Br.mk (fun h10 => ⟨h3, hk, by simp, wr_i64 (by omega) (by omega) ?_⟩) (fun h10 => Br.f rfl (Br.f rfl (Br.f rfl (keepL (fun hh => of_decide_eq_false h10 hh.2) (by simp)))))⟩
      all_goals have h10 := of_decide_eq_true h10
      all_goals rw [oneGo, if_pos ⟨rfl, h10⟩] at h2
      all_goals rw [List.count_cons_self] at h4
      · exact ⟨_, _, _, rfl, h2, by omega, by omega, by omega, h6, h7, by omega⟩
      · exact ⟨_, _, _, rfl, h2, by omega, by omega, h5, by omega, h7, by omega⟩
      · exact ⟨_, _, _, rfl, h2, by omega, by omega, h5, h6, by omega, by omega⟩
    · refine Br.f rfl (Br.f rfl (Br.f rfl (Br.t rfl (Br.mk (fun h10 => Br.mk (fun h11 => zeroL (by simp) (.inr (.inr ⟨rfl, of_decide_eq_true h10, of_decide_eq_true h11⟩))) (fun h11 => keepL (by simp) ?_)) (fun h10 => keepL (by simp) ?_)))))
      · have h11 := of_decide_eq_false h11
        rintro (h | h | h)
        · cases h
        · cases h.1
        · exact h11 h.2.2
      · have h10 := of_decide_eq_false h10
        rintro (h | h | h)
        · cases h
        · cases h.1
        · exact h10 h.2.1
  · have hge : (formL i.op).length <= posL g := by
     have h9 : ¬ posL g < (strT (formL i.op)).size := fun hh => by
      have : (posL g).blt (strT (formL i.op)).size = true := by simpa using hh
      rw [this] at h9; cases h9
     rw [strT_size] at h9; omega
    rw [List.drop_eq_nil_of_le hge, oneGo] at h2;refine ⟨rfl, _, rfl, _, rfl, _, rfl, Br.mk (fun h10 => ?_) (fun h10 => Br.mk (fun h11 => ?_) (fun h11 => ?_))⟩
    · have h10 : ¬ (a = 0 /\ b = 0 /\ c = 0) := fun hh => by obtain ⟨rfl, rfl, rfl⟩ := hh; cases h10
      rw [hQ, h2, if_neg (fun hh => h10 ⟨hh.1, hh.2.1, hh.2.2.1⟩)]
    · have h11 : j ≠ 0 := by simpa using h11
      rw [hQ, h2, if_neg (fun hh => h11 hh.2.2.2)]
    · have h10 : a = 0 /\ b = 0 /\ c = 0 := by simpa using h10
      have h11 : j = 0 := by simpa using h11
      rw [hQ, h2, if_pos ⟨h10.1, h10.2.1, h10.2.2, h11⟩]
 exact ⟨main, main⟩
theorem ct73 (i : Ins) (h : okI i) (I : Mem) : Ct Tryz.prog (fnv 73) #[.agg (insV i).toArray] I (fun v _ => v = .bool (goesB i)) := by
 obtain ⟨Q, hQ⟩ : ∃ q : Value, q = .bool (goesB i) := ⟨_, rfl⟩;rw [<- hQ]
 refine viaR (ct_via (A := { }) Tryz.func73 rfl Tryz.call73 rfl rfl) (Ct Tryz.prog (fnv 72) #[.agg #[.int .u8 i.op, .int .u8 i.a, .int .u8 i.b, .int .u8 i.c, .int .i64 i.n]] I fun v a => ∃ n, v = .int .i64 n /\ Br (n == 0) (Br (i.op != 1) (Br (i.op != 2) (Value.bool (i.op != 9) = Q) (Value.bool false = Q)) (Value.bool false = Q)) (Value.bool false = Q)) (by kernel_rfl) ?_
 refine (ct72 i h I).mono fun v J l hv => ⟨_, hv, ?_⟩;rw [hQ, goesB];refine Br.mk (fun h1 => Br.mk (fun h2 => Br.mk (fun h3 => ?_) (fun h3 => ?_)) (fun h2 => ?_)) (fun h1 => ?_)
 · have h1 : oneE i = 0 := by simpa using h1
   have h2 : i.op ≠ 1 := by simpa using h2
   have h3 : i.op ≠ 2 := by simpa using h3
   rw [decide_eq_true h1, decide_eq_true h2, decide_eq_true h3];simp only [bne, Bool.true_and, decide_not];rfl
 · have h3 : i.op = 2 := by simpa using h3
   rw [h3]; simp
 · have h2 : i.op = 1 := by simpa using h2
   rw [h2]; simp
 · have h1 : oneE i ≠ 0 := by simpa using h1
   rw [decide_eq_false h1]; rfl
theorem ct44 (i : Ins) (h : okI i) (I : Mem) : Ct Tryz.prog (fnv 44) #[.agg (insV i).toArray] I (fun v _ => v = .tuple #[.int .i64 (targetE i).1, .bool (targetE i).2]) := by
 obtain ⟨Q, hQ⟩ : ∃ q : Value, q = .tuple #[.int .i64 (targetE i).1, .bool (targetE i).2] := ⟨_, rfl⟩;rw [<- hQ]
 refine viaR (ct_via (A := { }) Tryz.func44 rfl Tryz.call44 rfl rfl) (Ct Tryz.prog (fnv 72) #[.agg #[.int .u8 i.op, .int .u8 i.a, .int .u8 i.b, .int .u8 i.c, .int .i64 i.n]] I fun v a => ∃ n, v = .int .i64 n /\ Br (n != 0) (Value.tuple #[.int .i64 0, .bool false] = Q) (Br (i.op != 9) (Br (i.op != 10) (Br (i.op != 11) (Value.tuple #[.int .i64 0, .bool false] = Q) (Value.tuple #[.int .i64 i.n, .bool true] = Q)) (Value.tuple #[.int .i64 i.n, .bool true] = Q)) (Value.tuple #[.int .i64 i.n, .bool true] = Q))) (by kernel_rfl) ?_
 refine (ct72 i h I).mono fun v J l hv => ⟨_, hv, ?_⟩;rw [hQ, targetE];refine Br.mk (fun h1 => ?_) (fun h1 => Br.mk (fun h2 => Br.mk (fun h3 => Br.mk (fun h4 => ?_) (fun h4 => ?_)) (fun h3 => ?_)) (fun h2 => ?_))
 · have h1 : oneE i ≠ 0 := by simpa using h1
   rw [if_neg (fun hh => h1 hh.1)]
 all_goals have h1 : oneE i = 0 := by simpa using h1
 · have h2 : i.op ≠ 9 := by simpa using h2
   have h3 : i.op ≠ 10 := by simpa using h3
   have h4 : i.op ≠ 11 := by simpa using h4
   rw [if_neg (fun hh => by omega)]
 · have h4 : i.op = 11 := by simpa using h4
   rw [if_pos ⟨h1, by omega⟩]
 · have h3 : i.op = 10 := by simpa using h3
   rw [if_pos ⟨h1, by omega⟩]
 · have h2 : i.op = 9 := by simpa using h2
   rw [if_pos ⟨h1, by omega⟩]
def insVs (p : List Ins) : List Value := p.flatMap insV
def InsC (I : Mem) (c : List Value) (i : Ins) : Prop := c = insV i /\ okI i
theorem insC_mono (I J : Mem) (c : List Value) (e : Ins) (_ : I.le J) (h : InsC I c e) : InsC J c e := h
def InsM (I : Mem) (a : Option Addr) (n : Nat) (p : List Ins) : Prop := SlR 5 InsC I a n p
theorem InsM.mono {I J : Mem} {a : Option Addr} {n : Nat} {p : List Ins} (h : InsM I a n p) (hle : I.le J) : InsM J a n p := SlR.mono insC_mono h hle
theorem InsM.len {I : Mem} {a : Option Addr} {n : Nat} {p : List Ins} (h : InsM I a n p) : p.length = n := SlR.len (by decide) h
theorem InsM.get {I : Mem} {a : Option Addr} {n : Nat} {p : List Ins} (h : InsM I a n p) {j : Int} (h0 : 0 <= j) (h1 : j < n) :
 ∃ i, p[j.toNat]? = some i /\ okI i /\ atI I a (j.toNat * 5 + 0) = some (.int .u8 i.op) /\ atI I a (j.toNat * 5 + 1) = some (.int .u8 i.a) /\ atI I a (j.toNat * 5 + 2) = some (.int .u8 i.b) /\ atI I a (j.toNat * 5 + 3) = some (.int .u8 i.c) /\ atI I a (j.toNat * 5 + 4) = some (.int .i64 i.n) := by
 obtain ⟨e, c, h2, h3, ⟨rfl, h4⟩, h5⟩ := SlR.at_ (by decide) h h0 h1
 exact ⟨e, h2, h4, h5 0 _ rfl, h5 1 _ rfl, h5 2 _ rfl, h5 3 _ rfl, h5 4 _ rfl⟩
theorem ct43 (p : List Ins) (a : Option Addr) (n c : Nat) (I : Mem) (h : InsM I a n p) : Ct Tryz.prog (fnv 43) #[.slice a n c] I (fun v _ => v = .tuple #[.int .i64 (checkL p).1, .int .i64 (checkL p).2]) := by
 obtain ⟨Q, hQ⟩ : ∃ q : Value, q = .tuple #[.int .i64 (checkL p).1, .int .i64 (checkL p).2] := ⟨_, rfl⟩;obtain ⟨N, hN⟩ : ∃ f : Int -> Prop, f = fun j : Int => 0 <= j /\ j <= n /\ checkGo p.length p 0 = checkGo p.length (p.drop j.toNat) j := ⟨_, rfl⟩;rw [<- hQ]
 refine viaR (ct_via (A := { loops := [(6, ⟨[(0, .keep), (18, .keep), (19, .keep), (20, .sh (.int .i64))], [], [], fun vals _ _ _ => match vals with | [.int .i64 j] => N j | _ => False, fun vals _ => match vals with | [.int .i64 j] => (n - j).toNat | _ => 0⟩)] }) Tryz.func43 rfl Tryz.call43 rfl rfl) (Br ((n : Int) == 0) (Value.tuple #[.int .i64 (-1), .int .i64 6] = Q) (Br (decide (256 < (n : Int))) (Value.tuple #[.int .i64 (-1), .int .i64 5] = Q) ((Rf (SV.v (.slice a n c)) /\ Rf (SV.v (.slice a n c)) /\ Rf (SV.v (.int .i64 (n : Int))) /\ N 0) /\ ∀ (b : Mem), Mem -> I.le b -> ∀ (d : Int), N d -> Br (decide (d < (n : Int))) (0 <= d /\ d < (n : Int) /\ a.isSome = true /\ (5 : Nat) = 5 /\ ∃ e, atI b a (d.toNat * 5 + 0) = some (.int .u8 e) /\ ∃ f, atI b a (d.toNat * 5 + 1) = some (.int .u8 f) /\ ∃ g, atI b a (d.toNat * 5 + 2) = some (.int .u8 g) /\ ∃ i, atI b a (d.toNat * 5 + 3) = some (.int .u8 i) /\ ∃ j, atI b a (d.toNat * 5 + 4) = some (.int .i64 j) /\ Ct Tryz.prog (fnv 72) #[.agg #[.int .u8 e, .int .u8 f, .int .u8 g, .int .u8 i, .int .i64 j]] b fun v k => ∃ l, v = .int .i64 l /\ Br (l != 0) (Value.tuple #[.int .i64 d, .int .i64 l] = Q) (Ct Tryz.prog (fnv 44) #[.agg #[.int .u8 e, .int .u8 f, .int .u8 g, .int .u8 i, .int .i64 j]] k (fun m o => ∃ q r, m = .tuple #[.int .i64 q, .bool r] /\ Br r (Br (decide ((n : Int) <= q)) (Value.tuple #[.int .i64 d, .int .i64 142] = Q) (Wr .i64 (d + 1) (fun s => Rf (SV.v (.slice a n c)) /\ Rf (SV.v (.slice a n c)) /\ Rf (SV.v (.int .i64 (n : Int))) /\ N s /\ Int.toNat ((n : Int) - s) < Int.toNat ((n : Int) - d)))) (Wr .i64 (d + 1) (fun s => Rf (SV.v (.slice a n c)) /\ Rf (SV.v (.slice a n c)) /\ Rf (SV.v (.int .i64 (n : Int))) /\ N s /\ Int.toNat ((n : Int) - s) < Int.toNat ((n : Int) - d)))))) (Wr .i64 ((n : Int) - 1) (fun e => 0 <= e /\ e < (n : Int) /\ a.isSome = true /\ (5 : Nat) = 5 /\ ∃ f, atI b a (e.toNat * 5 + 0) = some (.int .u8 f) /\ ∃ g, atI b a (e.toNat * 5 + 1) = some (.int .u8 g) /\ ∃ i, atI b a (e.toNat * 5 + 2) = some (.int .u8 i) /\ ∃ j, atI b a (e.toNat * 5 + 3) = some (.int .u8 j) /\ ∃ k, atI b a (e.toNat * 5 + 4) = some (.int .i64 k) /\ Ct Tryz.prog (fnv 73) #[.agg #[.int .u8 f, .int .u8 g, .int .u8 i, .int .u8 j, .int .i64 k]] b fun v l => ∃ m, v = .bool m /\ Br m (Value.tuple #[.int .i64 e, .int .i64 143] = Q) (Value.tuple #[.int .i64 (-1), .int .i64 0] = Q)))))) (by kernel_rfl) ?_
 have hl := h.len;have hmx : n <= maxLen := SlR.max h
 have hmx2 : maxLen <= 9223372036854775807 := by decide
 refine Br.mk (fun h1 => ?_) (fun h1 => Br.mk (fun h2 => ?_) (fun h2 => ⟨⟨rfl, rfl, rfl, by rw [hN]; exact ⟨by omega, by omega, rfl⟩⟩, fun b G lb d hd => ?_⟩))
 · have h1 : n = 0 := by have := eq_of_beq h1; omega
   rw [hQ, checkL, if_pos (by omega)]
 · have h1 : n ≠ 0 := fun e => by subst e; simp at h1
   have h2 := of_decide_eq_true h2
   rw [hQ, checkL, if_neg (by omega), if_pos (by omega)]
 have h1 : n ≠ 0 := fun e => by subst e; simp at h1
 have h2 := of_decide_eq_false h2
 have hck : checkL p = if (checkGo p.length p 0).2 ≠ 0 then checkGo p.length p 0 else if lastGoes p then ((p.length : Int) - 1, 143) else (-1, 0) := by
  rw [checkL, if_neg (by omega), if_neg (by omega)]
 rw [hN] at hd ⊢;obtain ⟨h3, h4, h5⟩ := hd;have hb := h.mono lb;refine Br.mk (fun h6 => ?_) (fun h6 => ?_)
 · have h6 := of_decide_eq_true h6
   obtain ⟨i, g1, g2, e0, e1, e2, e3, e4⟩ := hb.get h3 h6
   have hdr : p.drop d.toNat = i :: p.drop (d + 1).toNat := by
    have hlt : d.toNat < p.length := by omega
    rw [show (d + 1).toNat = d.toNat + 1 by omega, List.drop_eq_getElem_cons hlt]
    congr 1
    rw [List.getElem?_eq_getElem hlt] at g1;exact Option.some.inj g1
   rw [hdr, checkGo] at h5
   refine ⟨h3, h6, SlR.isSome hb (by omega), rfl, _, e0, _, e1, _, e2, _, e3, _, e4, (ct72 i g2 b).mono fun v k lk hv => ⟨_, hv, Br.mk (fun h7 => ?_) (fun h7 => ?_)⟩⟩
   · have h7 : oneE i ≠ 0 := by simpa using h7
     rw [if_pos h7] at h5;rw [hQ, hck, h5, if_pos h7]
   · have h7 : ¬ (oneE i ≠ 0) := by simpa using h7
     rw [if_neg h7] at h5
     have next : (¬ ((targetE i).2 = true /\ (p.length : Int) <= (targetE i).1)) -> (0 <= d + 1 /\ d + 1 <= n /\ checkGo p.length p 0 = checkGo p.length (p.drop (d + 1).toNat) (d + 1)) := fun hh => by
      rw [if_neg hh] at h5
      exact ⟨by omega, by omega, h5⟩
     refine (ct44 i g2 k).mono fun v m lm hv => ⟨_, _, hv, Br.mk (fun h8 => Br.mk (fun h9 => ?_) (fun h9 => ?_)) (fun h8 => ?_)⟩
     · have h9 := of_decide_eq_true h9
       rw [if_pos ⟨h8, by omega⟩] at h5
       rw [hQ, hck, h5, if_pos (by show (142 : Int) ≠ 0; decide)]
     · have h9 := of_decide_eq_false h9
       exact wr_i64 (by omega) (by omega) ⟨rfl, rfl, rfl, next (fun hh => by omega), by omega⟩
     · exact wr_i64 (by omega) (by omega) ⟨rfl, rfl, rfl, next (fun hh => by rw [h8] at hh; cases hh.1), by omega⟩
 · have h6 := of_decide_eq_false h6
   rw [List.drop_eq_nil_of_le (by omega), checkGo] at h5
   obtain ⟨i, g1, g2, e0, e1, e2, e3, e4⟩ := hb.get (j := (n : Int) - 1) (by omega) (by omega)
   refine wr_i64 (by omega) (by omega) ⟨by omega, by omega, SlR.isSome hb (by omega), rfl, _, e0, _, e1, _, e2, _, e3, _, e4, (ct73 i g2 b).mono fun v k lk hv => ⟨_, hv, ?_⟩⟩
   have hlast : lastGoes p = goesB i := by
    rw [lastGoes, List.getLast?_eq_getElem?, show p.length - 1 = ((n : Int) - 1).toNat by omega, g1]
   rw [hQ, hck, h5, if_neg (by simp), hlast]
   refine Br.mk (fun h7 => ?_) (fun h7 => ?_)
   · rw [h7, if_pos rfl, hl]
   · rw [h7, if_neg (by simp)]
def blankN (x : Nat) : Bool := x == 32 || x == 9
theorem tx_extract (s : ByteArray) (a b : Nat) : tx (s.extract a b) = ((tx s).drop a).take (b - a) := by
 show (s.extract a b).data.toList = (s.data.toList.drop a).take (b - a)
 rw [ByteArray.data_extract, Array.toList_extract, List.extract_eq_take_drop]
theorem fields_skip : ∀ (x : Tx) (acc r : Tx), (∀ c ∈ x, blankB c = false) -> fieldsGo acc (x ++ r) = fieldsGo (acc ++ x) r
 | [], acc, r, _ => by simp
 | c :: x, acc, r, h => by
   rw [List.cons_append, fieldsGo, if_neg (by rw [h c (by simp)]; decide), fields_skip x _ r fun d hd => h d (List.mem_cons_of_mem _ hd)]
   simp
theorem blank_hi {c : UInt8} (h : 128 <= c.toNat) : blankB c = false := by
 unfold blankB
 rw [decide_eq_false (fun e => by subst e; revert h; decide), decide_eq_false (fun e => by subst e; revert h; decide)]; rfl
theorem get_tx {s : ByteArray} {p : Nat} {c : UInt8} (h : (tx s)[p]? = some c) : s.get! p = c := by
 obtain ⟨⟨l⟩⟩ := s;have h : l[p]? = some c := h
 show (l.toArray)[p]! = c
 simp [h]
theorem dec_high {s : ByteArray} {p : Nat} (hp : p < s.size) (hc : 128 <= (s.get! p).toNat) :
 blankN (Utf8.decode s p).1 = false /\ 1 <= (Utf8.decode s p).2 /\ p + (Utf8.decode s p).2 <= s.size /\ ∀ k, k < (Utf8.decode s p).2 -> 128 <= (s.get! (p + k)).toNat := by
 have e : blankN 65533 = false := rfl
 have big : ∀ x : Nat, 128 <= x -> blankN x = false := fun x hx => by
  unfold blankN
  rw [beq_eq_false_iff_ne.2 (by omega), beq_eq_false_iff_ne.2 (by omega)]; rfl
 have one : blankN 65533 = false /\ 1 <= 1 /\ p + 1 <= s.size /\ ∀ k, k < 1 -> 128 <= (s.get! (p + k)).toNat := ⟨e, Nat.le_refl _, hp, fun k hk => by
  have : k = 0 := by omega
  subst this; exact hc⟩
 simp only [Utf8.decode, Nat.add_zero, Utf8.runeError]
 rw [if_neg (by omega)]
 split
 · rename_i h
   simp only [Bool.and_eq_true, decide_eq_true_eq, beq_iff_eq] at h;split
   · rename_i h2
     exact ⟨big _ h2, (by show (1 : Nat) <= 2; omega), by omega, fun k hk => by
      have : k = 0 \/ k = 1 := by omega
      rcases this with rfl | rfl
      · exact hc
      · omega⟩
   · exact one
 · split
   · rename_i h
     simp only [Bool.and_eq_true, decide_eq_true_eq, beq_iff_eq] at h;split
     · rename_i h2
       simp only [Bool.and_eq_true, decide_eq_true_eq] at h2
       exact ⟨big _ (by omega), (by show (1 : Nat) <= 3; omega), by omega, fun k hk => by
        have : k = 0 \/ k = 1 \/ k = 2 := by omega
        rcases this with rfl | rfl | rfl
        · exact hc
        · omega
        · omega⟩
     · exact one
   · split
     · rename_i h
       simp only [Bool.and_eq_true, decide_eq_true_eq, beq_iff_eq] at h;split
       · rename_i h2
         simp only [Bool.and_eq_true, decide_eq_true_eq] at h2
         exact ⟨big _ (by omega), (by show (1 : Nat) <= 4; omega), by omega, fun k hk => by
          have : k = 0 \/ k = 1 \/ k = 2 \/ k = 3 := by omega
          rcases this with rfl | rfl | rfl | rfl
          · exact hc
          · omega
          · omega
          · omega⟩
       · exact one
     · exact one
def curT (s : ByteArray) (pos : Nat) : Option Nat -> Tx
 | some a => ((tx s).drop a).take (pos - a)
 | none => []
theorem take_more {l x r : Tx} {a pos : Nat} (ha : a <= pos) (h : l.drop pos = x ++ r) : (l.drop a).take (pos + x.length - a) = (l.drop a).take (pos - a) ++ x := by
 have : l.drop a = (l.drop a).take (pos - a) ++ (x ++ r) := by
  rw [<- h];have := (List.take_append_drop (pos - a) (l.drop a)).symm
  rwa [List.drop_drop, show a + (pos - a) = pos by omega] at this
 by_cases hle : pos <= l.length
 · have hl : ((l.drop a).take (pos - a)).length = pos - a := by rw [List.length_take, List.length_drop]; omega
   conv => lhs; rw [this]
   rw [List.take_append, hl, List.take_of_length_le (by omega), show pos + x.length - a - (pos - a) = x.length by omega, List.take_left']
   rfl
 · rw [List.drop_eq_nil_of_le (by omega)] at h
   have hx := (List.append_eq_nil_iff.1 h.symm).1;subst hx
   simp
theorem spans_blank (s : ByteArray) : ∀ (f pos : Nat) (st : Option Nat) (acc : List (Nat × Nat)), s.size <= pos + f -> pos <= s.size -> (∀ a, st = some a -> a < pos) ->
 (Lib.closeSpans s (Lib.spansFromP blankN s f pos st acc)).map (fun x => tx (s.extract x.1 x.2)) = acc.map (fun x => tx (s.extract x.1 x.2)) ++ fieldsGo (curT s pos st) ((tx s).drop pos) := by
 have hl : (tx s).length = s.size := Array.length_toList
 have fin : ∀ (st : Option Nat) (acc : List (Nat × Nat)), (∀ a, st = some a -> a < s.size) -> (Lib.closeSpans s (acc, st)).map (fun x => tx (s.extract x.1 x.2)) = acc.map (fun x => tx (s.extract x.1 x.2)) ++ fieldsGo (curT s s.size st) [] := by
  intro st acc h
  cases st with
  | none => simp [Lib.closeSpans, curT, fieldsGo]
  | some a =>
    have ha := h a rfl
    have hne : ((tx s).drop a).take (s.size - a) ≠ [] := fun e => by
     have := congrArg List.length e;rw [List.length_take, List.length_drop] at this
     simp at this; omega
    simp only [Lib.closeSpans, List.map_append, List.map_cons, List.map_nil, tx_extract, curT];rw [fieldsGo, if_neg hne]
 intro f
 induction f with
 | zero =>
   intro pos st acc h1 h2 h3
   have : pos = s.size := by omega
   subst this
   rw [List.drop_eq_nil_of_le (by omega), Lib.spansFromP]
   exact fin st acc h3
 | succ f ih =>
   intro pos st acc h1 h2 h3
   by_cases hp : ¬ pos < s.size
   · have : pos = s.size := by omega
     subst this
     rw [List.drop_eq_nil_of_le (by omega), Lib.spansFromP_end _ _ _ _ _ _ hp]
     exact fin st acc h3
   have hp : pos < s.size := Decidable.not_not.1 hp
   obtain ⟨c, hc⟩ : ∃ c, (tx s)[pos]? = some c := ⟨_, List.getElem?_eq_getElem (by omega)⟩
   have hg := get_tx hc
   have hd : (tx s).drop pos = c :: (tx s).drop (pos + 1) := by
    rw [List.drop_eq_getElem_cons (by omega)]
    congr 1
    rw [List.getElem?_eq_getElem (by omega)] at hc
    exact Option.some.inj hc
   have word : ∀ (w : Nat) (st' : Option Nat), 1 <= w -> pos + w <= s.size -> (∀ k, k < w -> blankB (s.get! (pos + k)) = false) -> (st' = some (match st with | some a => a | none => pos)) ->
    fieldsGo (curT s pos st) ((tx s).drop pos) = fieldsGo (curT s (pos + w) st') ((tx s).drop (pos + w)) := by
    intro w st' hw hws hb he
    have hx : (tx s).drop pos = ((tx s).drop pos).take w ++ (tx s).drop (pos + w) := by
     rw [<- List.drop_drop, List.take_append_drop]
    have hxl : (((tx s).drop pos).take w).length = w := by rw [List.length_take, List.length_drop]; omega
    have hxb : ∀ d ∈ ((tx s).drop pos).take w, blankB d = false := fun d hd => by
     obtain ⟨k, hk, hdk⟩ := List.mem_iff_getElem.1 hd;rw [hxl] at hk;have := hb k hk;rw [List.getElem_take, List.getElem_drop] at hdk
     rwa [get_tx (c := d) (by rw [List.getElem?_eq_getElem (by omega), hdk])] at this
    rw [hx, fields_skip _ _ _ hxb]
    congr 1
    rw [he]
    cases st with
    | none =>
      simp only [curT, List.nil_append]
      rw [show pos + w - pos = w by omega]
    | some a =>
      have := take_more (a := a) (by have := h3 a rfl; omega) hx
      rw [hxl] at this;exact this.symm
   rw [Lib.spansFromP.eq_def]
   simp only
   rw [if_pos hp]
   by_cases hlow : c.toNat < 128
   · have hdec := dec_ascii hc hlow
     rw [hdec]
     simp only
     cases hb : blankN c.toNat with
     | true =>
       have hbB : blankB c = true := by
        unfold blankN at hb;unfold blankB;simp only [Bool.or_eq_true, beq_iff_eq, decide_eq_true_eq] at hb ⊢
        rcases hb with hb | hb
        · exact .inl (UInt8.toNat_inj.1 hb)
        · exact .inr (UInt8.toNat_inj.1 hb)
       rw [if_pos rfl, hd, fieldsGo, if_pos hbB]
       cases st with
       | none =>
         simp only
         rw [ih (pos + 1) none acc (by omega) (by omega) (fun a ha => by cases ha)]
         simp [curT]
       | some a =>
         simp only
         have ha := h3 a rfl
         have hne : curT s pos (some a) ≠ [] := fun e => by
          have := congrArg List.length e;simp only [curT] at this;rw [List.length_take, List.length_drop] at this
          simp at this; omega
         rw [ih (pos + 1) none (acc ++ [(a, pos)]) (by omega) (by omega) (fun a ha => by cases ha), if_neg hne]
         simp only [List.map_append, List.map_cons, List.map_nil, tx_extract, curT, List.append_assoc, List.cons_append, List.nil_append]
     | false =>
       have hbB : blankB c = false := by
        unfold blankN at hb;unfold blankB;simp only [Bool.or_eq_false_iff, beq_eq_false_iff_ne, decide_eq_false_iff_not] at hb ⊢
        exact ⟨fun e => hb.1 (by rw [e]; rfl), fun e => hb.2 (by rw [e]; rfl)⟩
       have hk : ∀ k, k < 1 -> blankB (s.get! (pos + k)) = false := fun k hk => by
        have : k = 0 := by omega
        subst this
        rw [Nat.add_zero, hg]; exact hbB
       rw [if_neg (by simp)]
       cases st with
       | none =>
         simp only
         rw [ih (pos + 1) (some pos) acc (by omega) (by omega) (fun a ha => by cases ha; omega), word 1 (some pos) (by omega) (by omega) hk rfl]
       | some a =>
         simp only
         rw [ih (pos + 1) (some a) acc (by omega) (by omega) (fun b hb => by cases hb; have := h3 a rfl; omega), word 1 (some a) (by omega) (by omega) hk rfl]
   · obtain ⟨g1, g2, g3, g4⟩ := dec_high hp (by rw [hg]; omega)
     rw [g1, if_neg (by simp)]
     have hk : ∀ k, k < (Utf8.decode s pos).2 -> blankB (s.get! (pos + k)) = false := fun k hk => blank_hi (g4 k hk)
     cases st with
     | none =>
       simp only
       rw [ih (pos + (Utf8.decode s pos).2) (some pos) acc (by omega) g3 (fun a ha => by cases ha; omega), word _ (some pos) g2 g3 hk rfl]
     | some a =>
       simp only
       rw [ih (pos + (Utf8.decode s pos).2) (some a) acc (by omega) g3 (fun b hb => by cases hb; have := h3 a rfl; omega), word _ (some a) g2 g3 hk rfl]
theorem goFields_blank (s : ByteArray) : (Lib.goFieldsP blankN s).map tx = fieldsGo [] (tx s) := by
 have := spans_blank s s.size 0 none [] (by omega) (Nat.zero_le _) (fun a h => by cases h)
 rw [Lib.goFieldsP, Lib.spansOfP, List.map_map];simp only [List.map_nil, List.nil_append, List.drop_zero, curT] at this;exact this
theorem tw_take (p : UInt8 -> Bool) : ∀ t : Tx, t.take (t.takeWhile p).length = t.takeWhile p /\ t.drop (t.takeWhile p).length = t.dropWhile p
 | [] => ⟨rfl, rfl⟩
 | b :: r => by
   have ih := tw_take p r;rw [List.takeWhile_cons, List.dropWhile_cons]
   cases p b
   · exact ⟨rfl, rfl⟩
   · exact ⟨by simp [ih.1], by simpa using ih.2⟩
theorem tw_all (p : UInt8 -> Bool) : ∀ t : Tx, (∀ x ∈ t, p x = true) -> t.takeWhile p = t /\ t.dropWhile p = []
 | [], _ => ⟨rfl, rfl⟩
 | b :: r, h => by
   have ih := tw_all p r fun x hx => h x (List.mem_cons_of_mem _ hx)
   rw [List.takeWhile_cons, List.dropWhile_cons, h b (by simp)]
   exact ⟨by simp [ih.1], by simpa using ih.2⟩
theorem cut_one (t : Tx) (c : UInt8) : Lib.cut t [c] = (t.takeWhile (· ≠ c), (t.dropWhile (· ≠ c)).drop 1, t.contains c) := by
 have hi : ∀ t : Tx, (c ∈ t -> Lib.indexByte t c = (t.takeWhile (· ≠ c)).length) /\ (c ∉ t -> Lib.indexByte t c = -1) := by
  intro t
  induction t with
  | nil => exact ⟨fun h => (by cases h), fun _ => rfl⟩
  | cons b r ih =>
    refine ⟨fun h => ?_, fun h => ?_⟩
    · rw [Lib.indexByte]
      by_cases hb : b = c
      · subst hb; simp
      · have hr : c ∈ r := by
         rcases List.mem_cons.1 h with rfl | h
         · exact absurd rfl hb
         · exact h
        rw [if_neg (by simpa using hb), ih.1 hr, if_neg (by simp)]
        simp [hb]
    · simp only [List.mem_cons, not_or] at h
      rw [Lib.indexByte, if_neg (by simpa using fun e => h.1 e.symm), ih.2 h.2]; rfl
 rw [Lib.cut, Lib.index_one]
 by_cases h : c ∈ t
 · have e := (hi t).1 h
   rw [e, if_pos (by omega)]
   have hcon : t.contains c = true := by simpa using h
   obtain ⟨g1, g2⟩ := tw_take (· ≠ c) t;refine Prod.ext ?_ (Prod.ext ?_ hcon.symm)
   · exact g1
   · show t.drop _ = _
     rw [<- List.drop_drop];exact congrArg (List.drop 1) g2
 · rw [(hi t).2 h, if_neg (by decide)]
   have hall : ∀ x ∈ t, decide (x ≠ c) = true := fun x hx => by
    simp only [ne_eq, decide_not, Bool.not_eq_true', decide_eq_false_iff_not]
    rintro rfl; exact h hx
   refine Prod.ext ?_ (Prod.ext ?_ ?_)
   · show t = _
     exact (tw_all _ t hall).1.symm
   · show [] = _
     exact (congrArg (List.drop 1) (tw_all _ t hall).2).symm
   · show false = _
     have : ¬ t.contains c = true := by simpa using h
     simpa using this
def Globs (I : Mem) : Prop := ∀ w : World, I.inW w -> (∃ m, w.cell? ⟨2, 0, none⟩ = some (.int .i64 m)) /\ Lib.TabIs Tryz.prog w "internal/strconv.uint64pow10" .u64 Lib.pow10Tab /\
 (∃ tp p, w.cell? ⟨8, 0, none⟩ = some (.iface tp p)) /\ ∃ tp p, w.cell? ⟨9, 0, none⟩ = some (.iface tp p)
theorem Globs.mono {I J : Mem} (h : Globs I) (hle : I.le J) : Globs J := fun w hw => h w (Mem.inW_of_le hle hw)
theorem below_gr (w : World) (n : Nat) (os : Array Obj) : Below w.heap.size w (Go.Sort.grow (w.drewN n) os) :=
 ⟨rfl, rfl, rfl, by simp [Go.Sort.grow, World.drewN], fun k hk => by simp [Go.Sort.grow, World.drewN, Array.getElem?_append_left hk]⟩
def i64N (n : Int) : Prop := -9223372036854775808 <= n /\ n <= 9223372036854775807
theorem ct25 (n : Int) (hn : i64N n) (I : Mem) (hG : Globs I) : Ct Tryz.prog (fnv 25) #[.int .i64 n] I (fun v _ => v = .string (strT (Lib.itoa n))) := by
 refine ct_of_calls Tryz.call25 fun w hw => ?_;refine (Tryz.strconv_Itoa n hn.1 hn.2 w (hG w hw).2.1).mono fun e w' h => ?_;obtain ⟨rfl, k, os, rfl⟩ := h;exact ⟨⟨_, rfl, rfl⟩, below_gr _ _ _⟩
theorem ct75 (n : Int) (hn : i64N n) (I : Mem) (hG : Globs I) : Ct Tryz.prog (fnv 75) #[.int .i64 n, .int .i64 10] I (fun v _ => v = .string (strT (Lib.itoa n))) := by
 refine ct_of_calls Tryz.call75 fun w hw => ?_;refine (Tryz.strconv_FormatInt_10 n hn.1 hn.2 w (hG w hw).2.1).mono fun e w' h => ?_;obtain ⟨rfl, k, os, rfl⟩ := h;exact ⟨⟨_, rfl, rfl⟩, below_gr _ _ _⟩
def errV (ok : Bool) (e : Value) : Prop := if ok then e = .nilIface else ∃ t p, e = .iface t p
def numP (t : Tx) : Int × Bool := match Lib.parseIntB 64 t with
 | .ok v => (v, true)
 | .range => (Lib.intSat 64 t, false)
 | _ => (0, false)
def NumR (p : Int × Bool) (v : Value) : Prop := ∃ e, v = .tuple #[.int .i64 p.1, e] /\ errV p.2 e
theorem ct122 (s : ByteArray) (hs : s.size <= 1000000) (I : Mem) (hG : Globs I) : Ct Tryz.prog (fnv 122) #[.string s, .int .i64 10, .int .i64 64] I (fun v _ => NumR (numP (tx s)) v) := by
 refine ct_of_calls Tryz.call122 fun w hw => ?_;obtain ⟨_, _, ⟨tp, p, h1⟩, ⟨tq, q, h2⟩⟩ := hG w hw
 cases h : Lib.parseIntB 64 s.data.toList
 · rename_i v
   refine (Tryz.strconv_ParseInt_10_at64_ok s (by omega) v h w).mono fun e w' hh => ?_
   obtain ⟨rfl, hw'⟩ := hh
   refine ⟨⟨_, rfl, .nilIface, by rw [numP, tx, h], by rw [numP, tx, h]; rfl⟩, ?_⟩
   rcases hw' with rfl | ⟨t, rfl⟩
   · exact Below.refl _ _
   · exact Go.Joins.below_bytesWorld _ _ _ _ (Nat.le_refl _)
 · refine (Tryz.strconv_ParseInt_10_at64_syntax s (by omega) h _ w h1 (.inr ⟨_, _, rfl⟩)).mono fun e w' hh => ?_
   obtain ⟨N, rfl, _, _, hb⟩ := hh
   exact ⟨⟨_, rfl, _, by rw [numP, tx, h], by rw [numP, tx, h]; exact ⟨_, _, rfl⟩⟩, hb⟩
 · refine (Tryz.strconv_ParseInt_10_at64_range s (by omega) h _ w h2 (.inr ⟨_, _, rfl⟩)).mono fun e w' hh => ?_
   obtain ⟨N, rfl, _, _, hb⟩ := hh
   exact ⟨⟨_, rfl, _, by rw [numP, tx, h], by rw [numP, tx, h]; exact ⟨_, _, rfl⟩⟩, hb⟩
def strs (l : List ByteArray) : List Value := l.map .string
theorem strs_get {l : List ByteArray} {j : Nat} {y : ByteArray} (h : l[j]? = some y) : (strs l)[j]? = some (.string y) := by simp [strs, h]
def joinB (l : List ByteArray) : ByteArray := strT (joinC 32 (l.map tx))
theorem ct17 (l : List ByteArray) (a : Option Addr) (cp : Nat) (I : Mem) (h : RowM I a cp 1 (strs l)) (hlen : (joinB l).size <= 1000000000) (hN : l.length <= 1000000) :
 Ct Tryz.prog (fnv 17) #[.slice a l.length cp, .string ⟨#[UInt8.ofNat 32]⟩] I (fun v _ => v = .string (joinB l)) := by
 have e0 : joinB l = ⟨(Lib.join (l.map (·.data.toList)) [UInt8.ofNat 32]).toArray⟩ := by rw [joinB, strT, <- joinC_eq]; rfl
 obtain ⟨h1, h2, h3, h4⟩ := h
 have hl : l.length <= cp := by simpa [strs] using h1
 refine ct_of_calls Tryz.call17 fun w hI => ?_
 cases a with
 | none =>
   have hnil : l = [] := by
    have := (h3 rfl).1;simpa [strs] using this
   subst hnil
   refine (Tryz.strings_Join_none _ _ _ w).mono fun e w' ⟨he, hw⟩ => ⟨⟨_, he, by rfl⟩, hw ▸ Below.refl _ _⟩
 | some ad =>
   cases l with
   | nil => exact (Tryz.strings_Join_none _ _ _ w).mono fun e w' ⟨he, hw⟩ => ⟨⟨_, he, by rfl⟩, hw ▸ Below.refl _ _⟩
   | cons x r =>
     have hc : ∀ (j : Nat) (y : ByteArray), (x :: r)[j]? = some y -> w.cell? (ad.add j) = some (.string y) := fun j y hj =>
      cellM_world hI (h4 j _ (strs_get hj))
     have h0 := hc 0 x rfl;obtain ⟨b, o, sp⟩ := ad
     obtain rfl : sp = none := by
      cases sp with
      | none => rfl
      | some s => have := h4 0 (.string x) rfl; simp only [atI, Option.bind_some, cellM, Addr.add, if_true] at this; split at this <;> simp at this
     have hlt : b < w.heap.size := by
      have := h4 0 (.string x) rfl;simp only [atI, Option.bind_some, cellM, Addr.add, if_true] at this
      split at this
      · rename_i hb; exact Mem.inW_lt hI hb
      · cases this
     have hln : (Lib.join ((x :: r).map (·.data.toList)) [UInt8.ofNat 32]).length <= 140737488355328 := by
      have : (joinB (x :: r)).size = (Lib.join ((x :: r).map (·.data.toList)) [UInt8.ofNat 32]).length := by rw [e0]; rfl
      omega
     refine (Tryz.strings_Join b o cp (x :: r) ⟨#[UInt8.ofNat 32]⟩ w (fun j y hj => ?_) hlt (by omega) hl hln).mono fun e w' ⟨he, hw⟩ => ⟨⟨_, he, by rw [e0]⟩, hw⟩
     have := hc j y hj
     by_cases hj0 : j = 0
     · subst hj0; exact this
     · simpa [Addr.add, hj0] using this
theorem ct_of_callsN {P : Program} {f : FuncId} {args : Array Value} {I : Mem} {post : Value -> Mem -> Prop}
 (hcall : ∀ (args : Array Value) (w : World), (callFunc f args).run P w = .ok (.enter f args) w)
 (h : ∀ w : World, I.inW w -> Calls P f args w fun e w' => ∃ v M, e = .returned v /\ M.inW w' /\ I.le M /\ (∀ b, b < w.heap.size -> I b = none -> M b = none) /\ post v M /\ Below w.heap.size w w') : Ct P (fnv f) args I post := by
 intro W hI _ _
 refine callV_func hcall (args := args.toList) (by simp) (callsIn_wide.2 ?_)
 refine (h W hI).mono ?_;rintro e w' ⟨v, M, he, hM, hle, hn, hp, hb⟩;exact ⟨v, M, Mem.emp, he, hle, hM, Mem.emp_inW _, fun b => .inr rfl, hb.size, ⟨hb.os, hb.tape, hb.output⟩, fun b hlt _ => hb.block b hlt, fun b hb _ => ⟨rfl, hn b hb⟩, hp⟩
def cutT (c : UInt8) (t : Tx) : Tx × Tx × Bool := Lib.cut t [c]
theorem ct99 (c : UInt8) (s : ByteArray) (hs : s.size <= 10000000) (I : Mem) (hG : Globs I) :
 Ct Tryz.prog (fnv 99) #[.string s, .string ⟨#[c]⟩] I (fun v _ => v = .tuple #[.string (strT (cutT c (tx s)).1), .string (strT (cutT c (tx s)).2.1), .bool (cutT c (tx s)).2.2]) := by
 refine ct_of_calls Tryz.call99 fun w hI => ?_;obtain ⟨⟨m, hm⟩, _⟩ := hG w hI
 refine (Tryz.strings_Cut s ⟨#[c]⟩ m w (by omega) hm).mono fun e w' ⟨he, n, hw⟩ => ⟨⟨_, he, rfl⟩, hw ▸ Go.Joins.below_draws _ _ _⟩
theorem ct101 (s : ByteArray) (hs : s.size <= 10000000) (I : Mem) : Ct Tryz.prog (fnv 101) #[.string s, .string ⟨#[58]⟩] I (fun v _ => v = .tuple #[.string (strT (Lib.trimSuffix (tx s) [58])), .bool (Lib.hasSuffix (tx s) [58])]) := by
 refine ct_of_calls Tryz.call101 fun w hI => ?_
 refine (Tryz.strings_CutSuffix s ⟨#[58]⟩ w (by omega)).mono fun e w' ⟨he, hw⟩ => ⟨⟨_, he, rfl⟩, hw ▸ Below.refl _ _⟩
theorem ct119 (x : Nat) (I : Mem) : Ct Tryz.prog (fnv 119) #[.int .i32 x] I (fun v _ => v = .bool (blankN x)) := by
 obtain ⟨Q, hQ⟩ : ∃ q : Bool, q = blankN x := ⟨_, rfl⟩;rw [<- hQ]
 refine viaR (ct_via (A := { }) Tryz.func119 rfl Tryz.call119 rfl rfl) (Br ((x : Int) == 32) (Value.bool true = .bool Q) (Value.bool ((x : Int) == 9) = .bool Q)) (by kernel_rfl) ?_
 rw [hQ, blankN];refine Br.mk (fun h => ?_) (fun h => ?_)
 · have h : x = 32 := by have := eq_of_beq h; omega
   subst h; rfl
 · have h : x ≠ 32 := fun e => by subst e; simp at h
   rw [beq_eq_false_iff_ne.2 h, Bool.false_or]
   congr 1
   by_cases h9 : x = 9
   · subst h9; rfl
   · rw [beq_eq_false_iff_ne.2 h9, beq_eq_false_iff_ne.2 (by omega)]
theorem ct53 (s : ByteArray) (hs : s.size <= 10000000) (I : Mem) :
 Ct Tryz.prog (fnv 53) #[.string s, fnv 119] I (fun v I' => ∃ (l : List ByteArray) (a : Option Addr) (n : Nat), v = .slice a n n /\ l.map tx = fieldsGo [] (tx s) /\ SlM I' a n 1 (strs l) /\ n <= maxLen) := by
 refine ct_of_callsN Tryz.call53 fun w hI => ?_
 refine (Tryz.strings_FieldsFunc_grows 119 #[] Tryz.call119 blankN s w (by omega) (fun W x hx hb => ?_)).mono fun e w' ⟨A, he, hA, hown, hbl⟩ => ?_
 · have hIW : I.inW W := fun b o hbo => by rw [hb.block b (Mem.inW_lt hI hbo)]; exact hI b o hbo
   refine (calls_of_ct Tryz.call119 (ct119 x I) hIW).mono ?_;rintro e w' ⟨⟨v, I', rfl, rfl⟩, h2⟩;exact ⟨rfl, h2⟩
 · have hnew : I A = none := by
    cases hb : I A with
    | none => rfl
    | some o => exact absurd (Mem.inW_lt hI hb) (by omega)
   obtain ⟨_, hown⟩ := hown
   rcases hown with ⟨hv, _⟩ | ⟨g, cap, cur, hv, hg0, hg, hncap, hcm, hcs, htk⟩
   · cases hv
   · simp only [Value.slice.injEq, Option.some.injEq, Addr.mk.injEq, and_true, true_and] at hv
     obtain ⟨rfl, rfl⟩ := hv
     refine ⟨_, fun b => if b = A then some (.cells cur 9 (0, 0)) else I b, he, fun b o hb => ?_, fun b o hb => ?_, fun b hb hn => ?_, ⟨Lib.goFieldsP blankN s, some ⟨A, 0, none⟩, _, rfl, goFields_blank s, ?_, hcm⟩, hbl⟩
     · simp only at hb
       split at hb
       · rename_i h; subst h; cases hb; exact hg
       · rw [hbl.block b (Mem.inW_lt hI hb)]; exact hI b o hb
     · simp only
       rw [if_neg (fun h => by subst h; rw [hnew] at hb; cases hb)]; exact hb
     · simp only
       rw [if_neg (by omega)]; exact hn
     · have h1 : cur.toList = strs (Lib.goFieldsP blankN s) := by
        rw [List.take_of_length_le (by rw [Array.length_toList, hcs]; omega)] at htk
        exact htk
       rw [<- h1];exact sl_cells (if_pos rfl) hcs hcm
theorem ct100 (s : ByteArray) (hs : s.size <= 10000000) (I : Mem) (hG : Globs I) :
 Ct Tryz.prog (fnv 100) #[.string s] I (fun v I' => ∃ (l : List ByteArray) (a : Option Addr) (n : Nat), v = .slice a n n /\ l.map tx = piecesT (tx s) /\ SlM I' a n 1 (strs l) /\ n <= maxLen) := by
 obtain ⟨Q, hQ⟩ : ∃ q : Value -> Mem -> Prop, q = fun v I' => ∃ (l : List ByteArray) (a : Option Addr) (n : Nat), v = .slice a n n /\ l.map tx = piecesT (tx s) /\ SlM I' a n 1 (strs l) /\ n <= maxLen := ⟨_, rfl⟩;rw [<- hQ]
 refine viaR (ct_via (A := { }) Tryz.func100 rfl Tryz.call100 rfl rfl) (Ct Tryz.prog (fnv 99) #[.string s, .string ⟨#[59]⟩] I fun v a => ∃ q b c, v = .tuple #[.string q, .string b, .bool c] /\ Ct Tryz.prog (fnv 53) #[.string q, .func (.func 119) #[] #[]] a fun d e => ∃ f n g, d = .slice f n g /\ Q (.slice f n g) e) (by kernel_rfl) ?_
 have hc : (cutT 59 (tx s)).1 = (tx s).takeWhile (· ≠ 59) := by rw [cutT, cut_one]
 have hl : (tx s).length = s.size := Array.length_toList;refine (ct99 59 s hs I hG).mono fun v J lJ hv => ⟨_, _, _, hv, ?_⟩;refine (ct53 (strT (cutT 59 (tx s)).1) ?_ J).mono fun d e le ⟨l, a, n, hd, h1, h2, h3⟩ => ⟨_, _, _, hd, ?_⟩
 · rw [strT_size, hc]
   have := (List.takeWhile_prefix (p := (· ≠ 59)) (l := tx s)).length_le;omega
 · rw [hQ]
   refine ⟨l, a, n, rfl, ?_, h2, h3⟩;rw [h1, tx_strT, hc, piecesT]
def mkV (m : Mk) : List Value := [.string (strT m.name), .int .i64 m.at_, .int .i64 m.line]
def srcV (x : Src) : List Value := insV x.ins ++ [.int .i64 x.line, .string (strT x.target)]
def mksV (ms : List Mk) : List Value := ms.flatMap mkV
def srcsV (ss : List Src) : List Value := ss.flatMap srcV
def MapI (es : Array MapEntry) (ms : List Mk) : Prop := es.toList.map (fun e => (e.key, e.val)) = ms.map fun m => (.string (strT m.name), .int .i64 m.at_)
theorem strT_beq (t : Tx) : (strT t == strT t) = true := by
 show (strT t).data == (strT t).data
 exact beq_self_eq_true _
theorem strT_bne {a b : Tx} (h : a ≠ b) : (strT a == strT b) = false := by
 show (a.toArray == b.toArray) = false
 exact beq_eq_false_iff_ne.2 fun e => h (by simpa using e)
theorem find_none {name : Tx} : ∀ {l : List MapEntry} {ms : List Mk} (i : Nat), l.map (fun e => (e.key, e.val)) = ms.map (fun m => (Value.string (strT m.name), Value.int .i64 m.at_)) -> hasMk ms name = false ->
 Instr.findNow .string (.string (strT name)) l i = some none
 | [], _, _, _, _ => rfl
 | e :: l, [], i, h, _ => by simp at h
 | e :: l, m :: ms, i, h, hm => by
   simp only [List.map_cons, List.cons.injEq, Prod.mk.injEq] at h;obtain ⟨⟨h1, h2⟩, h3⟩ := h;simp only [hasMk, List.any_cons, Bool.or_eq_false_iff, decide_eq_false_iff_not] at hm;have hne : (strT name == strT m.name) = false := strT_bne fun e => hm.1 e.symm;rw [Instr.findNow, h1];simp only [Instr.sameNow, hne];exact find_none (i + 1) h3 hm.2
theorem find_some {name : Tx} : ∀ {l : List MapEntry} {ms : List Mk} (i : Nat), l.map (fun e => (e.key, e.val)) = ms.map (fun m => (Value.string (strT m.name), Value.int .i64 m.at_)) -> hasMk ms name = true ->
 ∃ k, Instr.findNow .string (.string (strT name)) l i = some (some (k, .int .i64 (atMk ms name)))
 | [], [], _, _, h => by cases h
 | [], m :: ms, i, h, _ => by simp at h
 | e :: l, [], i, h, _ => by simp at h
 | e :: l, m :: ms, i, h, hm => by
   simp only [List.map_cons, List.cons.injEq, Prod.mk.injEq] at h;obtain ⟨⟨h1, h2⟩, h3⟩ := h;rw [Instr.findNow, h1]
   by_cases he : m.name = name
   · refine ⟨i, ?_⟩
     simp only [Instr.sameNow, he, strT_beq, h2, atMk, List.find?_cons, decide_true]
   · have hne : (strT name == strT m.name) = false := strT_bne fun e => he e.symm
     simp only [Instr.sameNow, hne]
     have hm2 : hasMk ms name = true := by
      simp only [hasMk, List.any_cons, Bool.or_eq_true, decide_eq_true_eq] at hm;exact hm.resolve_left he
     have := find_some (i + 1) h3 hm2
     rwa [atMk, List.find?_cons, decide_eq_false he]
theorem findM_none {name : Tx} {es : Array MapEntry} {ms : List Mk} (h : MapI es ms) (hm : hasMk ms name = false) : findM .string (.string (strT name)) es = some none := find_none 0 h hm
theorem findM_some {name : Tx} {es : Array MapEntry} {ms : List Mk} (h : MapI es ms) (hm : hasMk ms name = true) : ∃ k, findM .string (.string (strT name)) es = some (some (k, .int .i64 (atMk ms name))) := find_some 0 h hm
theorem MapI.push {es : Array MapEntry} {ms : List Mk} (h : MapI es ms) (m : Mk) (clk : Nat) : MapI (es.push ⟨.string (strT m.name), .int .i64 m.at_, clk⟩) (ms ++ [m]) := by
 unfold MapI at h ⊢;rw [Array.toList_push, List.map_append, h]
 simp
def rdH (r : Rd) (b : Nat) (es : Array MapEntry) (clk : Nat) (nm : Option Nat) : List Ent :=
 [⟨.cells [.rsl 1 r.ms.length, .rsl 2 r.ss.length, .v (.map (some b))] 102, nm⟩, ⟨.row (mksV r.ms) 3 112, none⟩, ⟨.row (srcsV r.ss) 7 104, none⟩, ⟨.raw (.map es clk), some b⟩]
structure okRd (r : Rd) : Prop where
 ms : r.ms.length <= 1000000
 ss : r.ss.length <= 1000000
theorem mksV_len (ms : List Mk) : (mksV ms).length = ms.length * 3 := by
 induction ms with
 | nil => rfl
 | cons m r ih => simp only [mksV, List.flatMap_cons, List.length_append, mkV, List.length_cons, List.length_nil] at ih ⊢; omega
theorem srcsV_len (ss : List Src) : (srcsV ss).length = ss.length * 7 := by
 induction ss with
 | nil => rfl
 | cons m r ih => simp only [srcsV, List.flatMap_cons, List.length_append, srcV, insV, List.length_cons, List.length_nil] at ih ⊢; omega
theorem cs102 (r : Rd) (hr : okRd r) (b clk : Nat) (es : Array MapEntry) (hm : MapI es r.ms) (nm : Option Nat) (name : ByteArray) (hn : name.size <= 10000000) (line : Int) (hl : i64N line) (I : Mem) :
 CtS Tryz.prog (.v (fnv 102)) [.ptr 0 0, .v (.string name), .v (.int .i64 line)] (rdH r b es clk nm) I (fun sv H' _ => sv = .v (.int .i64 (labelA r (tx name) line).1) /\ ∃ es' clk', MapI es' (labelA r (tx name) line).2.ms /\ H' = rdH (labelA r (tx name) line).2 b es' clk' nm) := by
 obtain ⟨Q, hQ⟩ : ∃ q : SV -> List Ent -> Prop, q = fun sv H' => sv = .v (.int .i64 (labelA r (tx name) line).1) /\ ∃ es' clk', MapI es' (labelA r (tx name) line).2.ms /\ H' = rdH (labelA r (tx name) line).2 b es' clk' nm := ⟨_, rfl⟩
 rw [show (fun (sv : SV) (H' : List Ent) (_ : Mem) => sv = .v (.int .i64 (labelA r (tx name) line).1) /\ ∃ es' clk', MapI es' (labelA r (tx name) line).2.ms /\ H' = rdH (labelA r (tx name) line).2 b es' clk' nm) = fun sv H' _ => Q sv H' from by rw [hQ]]
 obtain ⟨xm, hxm⟩ : ∃ x, x = mksV r.ms := ⟨_, rfl⟩;obtain ⟨xs, hxs⟩ : ∃ x, x = srcsV r.ss := ⟨_, rfl⟩;rw [rdH, <- hxm, <- hxs]
 refine viaR (ctS_via (A := { }) Tryz.func102 rfl Tryz.call102 [0, 1, 2, 3] rfl) (Ct Tryz.prog (fnv 37) #[.string name] I fun v a => ∃ c, v = .bool c /\ Br (!c) (Q (.v (.int .i64 153)) [⟨.cells [.rsl 1 r.ms.length, .rsl 2 r.ss.length, .v (.map (some b))] 102, nm⟩, ⟨.row xm 3 112, none⟩, ⟨.row xs 7 104, none⟩, ⟨.raw (.map es clk), some b⟩]) (b = b /\ true = true /\ (∃ d, findM .string (.string name) es = some d) /\ (∀ (i : Nat) (d : Value), findM .string (.string name) es = some (some (i, d)) -> ∃ n, d = .int .i64 n /\ Q (.v (.int .i64 154)) [⟨.cells [.rsl 1 r.ms.length, .rsl 2 r.ss.length, .v (.map (some b))] 102, nm⟩, ⟨.row xm 3 112, none⟩, ⟨.row xs 7 104, none⟩, ⟨.raw (.map es clk), some b⟩]) /\ (findM .string (.string name) es = some none -> b = b /\ true = true /\ findM .string (.string name) es = some none /\ xm.length = r.ms.length * 3 /\ r.ms.length + 1 <= 9223372036854775807 /\ (r.ms.length + 1) * 32 <= 140737488355328 /\ Q (.v (.int .i64 0)) [⟨.cells [.rsl 1 (r.ms.length + 1), .rsl 2 r.ss.length, .v (.map (some b))] 102, nm⟩, ⟨.row (xm ++ [.string name, .int .i64 (r.ss.length : Int), .int .i64 line]) 3 112, none⟩, ⟨.row xs 7 104, none⟩, ⟨.raw (.map (es.push (MapEntry.mk (.string name) (.int .i64 (r.ss.length : Int)) clk)) (clk + 1)), some b⟩]))) (by kernel_rfl) ?_
 have hsz : (tx name).length = name.size := Array.length_toList;have hxl := mksV_len r.ms;refine (ct37 name hn I).mono fun v J lJ hv => ⟨_, hv, Br.mk (fun h1 => ?_) (fun h1 => ⟨rfl, rfl, ?_, ?_, ?_⟩)⟩
 · have h1 : nameB (tx name) = false := by simpa using h1
   rw [hQ, labelA, if_pos h1]
   exact ⟨rfl, es, clk, hm, by rw [rdH, hxm, hxs]⟩
 all_goals have h1 : ¬ nameB (tx name) = false := by simpa using h1
 all_goals cases hh : hasMk r.ms (tx name)
 · exact ⟨_, findM_none hm hh⟩
 · obtain ⟨k, hk⟩ := findM_some hm hh
   exact ⟨_, hk⟩
 · intro i d hf
   have := findM_none hm hh
   rw [strT_tx, hf] at this; cases this
 · intro i d hf
   obtain ⟨k, hk⟩ := findM_some hm hh;rw [strT_tx, hf] at hk;simp only [Option.some.injEq, Prod.mk.injEq] at hk;refine ⟨_, hk.2, ?_⟩;rw [hQ, labelA, if_neg h1, if_pos hh]
   exact ⟨rfl, es, clk, hm, by rw [rdH, hxm, hxs]⟩
 · intro hf
   have := hr.ms
   refine ⟨rfl, rfl, hf, by rw [hxm, hxl], by omega, by omega, ?_⟩
   rw [hQ, labelA, if_neg h1, if_neg (by rw [hh]; decide)]
   refine ⟨rfl, _, clk + 1, hm.push ⟨tx name, (r.ss.length : Int), line⟩ clk, ?_⟩;rw [rdH, hxm, hxs];simp [mksV, mkV, strT_tx]
 · intro hf
   obtain ⟨k, hk⟩ := findM_some hm hh
   rw [strT_tx, hf] at hk; cases hk
theorem intB_rng {l : Tx} {v : Int} (h : Lib.parseIntB 64 l = .ok v) : i64N v := by
 cases l with
 | nil => cases h
 | cons c r =>
   have e2 : (2 : Nat) ^ (64 - 1) = 9223372036854775808 := by decide
   rw [Lib.parseIntB, e2] at h
   split at h
   · cases h
   · cases h
   · rename_i u hu
     split at h
     · cases h
     · rename_i h1
       split at h
       · cases h
       · rename_i h2
         simp only [Lib.NumEnd.ok.injEq] at h;subst h;unfold i64N
         by_cases hn : c.toNat = 45
         · rw [if_pos hn]
           have : ¬ 9223372036854775808 < u := fun h => h2 ⟨hn, h⟩;omega
         · rw [if_neg hn]
           have : ¬ 9223372036854775808 <= u := fun h => h1 ⟨hn, h⟩;omega
theorem numP_rng (t : Tx) : i64N (numP t).1 := by
 unfold numP;split
 · rename_i h; exact intB_rng h
 · simp only [Lib.intSat]
   split
   · exact ⟨by decide, by decide⟩
   · exact ⟨by decide, by decide⟩
 · exact ⟨by decide, by decide⟩
theorem numT_eq (t : Tx) : numT t = if (numP t).2 = true /\ Lib.itoa (numP t).1 = t then some (numP t).1 else none := by
 unfold numT numP;split
 · split <;> simp_all
 · rename_i h
   split
   · rename_i v h2; exact absurd h2 (h v)
   · simp
   · simp
def srcE (x : Src) (nm : Option Nat) : Ent := ⟨.cells ((srcV x).map .v) 104, nm⟩
def putN (x : Src) (n : Int) : Src := { x with ins := { x.ins with n := n } }
theorem cs121 (x : Src) (nm : Option Nat) (s : ByteArray) (hs : s.size <= 1000000) (I : Mem) (hG : Globs I) :
 CtS Tryz.prog (.v (fnv 121)) [.v (.string s), .ptr 0 0] [srcE x nm] I (fun sv H' _ => sv = .v (.bool (numT (tx s)).isSome) /\ H' = [srcE (putN x (numP (tx s)).1) nm]) := by
 obtain ⟨Q, hQ⟩ : ∃ q : SV -> List Ent -> Prop, q = fun sv H' => sv = .v (.bool (numT (tx s)).isSome) /\ H' = [srcE (putN x (numP (tx s)).1) nm] := ⟨_, rfl⟩
 rw [show (fun (sv : SV) (H' : List Ent) (_ : Mem) => sv = .v (.bool (numT (tx s)).isSome) /\ H' = [srcE (putN x (numP (tx s)).1) nm]) = fun sv H' _ => Q sv H' from by rw [hQ]]
 refine viaR (ctS_via (A := { }) Tryz.func121 rfl Tryz.call121 [0] rfl) (Ct Tryz.prog (fnv 122) #[.string s, .int .i64 10, .int .i64 64] I fun v a => ∃ n b, v = .tuple #[.int .i64 n, b] /\ (b = .nilIface \/ ∃ t p, b = .iface t p) /\ Br (isNilI b) (Ct Tryz.prog (fnv 75) #[.int .i64 n, .int .i64 10] a (fun c d => ∃ q, c = .string q /\ Q (.v (.bool (q.toList == s.toList))) [⟨.cells [.v (.int .u8 x.ins.op), .v (.int .u8 x.ins.a), .v (.int .u8 x.ins.b), .v (.int .u8 x.ins.c), .v (.int .i64 n), .v (.int .i64 x.line), .v (.string (strT x.target))] 104, nm⟩])) (Q (.v (.bool false)) [⟨.cells [.v (.int .u8 x.ins.op), .v (.int .u8 x.ins.a), .v (.int .u8 x.ins.b), .v (.int .u8 x.ins.c), .v (.int .i64 n), .v (.int .i64 x.line), .v (.string (strT x.target))] 104, nm⟩])) (by kernel_rfl) ?_
 refine (ct122 s hs I hG).mono fun v J lJ ⟨e, hv, he⟩ => ⟨_, e, hv, ?_, ?_⟩
 · unfold errV at he
   split at he
   · exact .inl he
   · exact .inr he
 · have hT := numT_eq (tx s)
   unfold errV at he
   split at he
   · rename_i h2
     subst he;refine Br.t rfl ((ct75 _ (numP_rng (tx s)) J (hG.mono lJ)).mono fun c d ld hc => ⟨_, hc, ?_⟩);rw [hQ];refine ⟨?_, rfl⟩;rw [str_eq]
     congr 2
     rw [hT]
     by_cases h3 : Lib.itoa (numP (tx s)).1 = tx s
     · rw [if_pos ⟨h2, h3⟩, decide_eq_true (by rw [h3, strT_tx])]; rfl
     · rw [if_neg (fun h => h3 h.2), decide_eq_false (fun h => h3 (by have := congrArg tx h; rwa [tx_strT] at this))]; rfl
   · rename_i h2
     obtain ⟨t, p, rfl⟩ := he;refine Br.f rfl ?_;rw [hQ];refine ⟨?_, rfl⟩
     rw [hT, if_neg (fun h => h2 h.1)]; rfl
def InsN (ws : List Tx) (line : Int) (j : Int) (u : Int) (x : Src) : Prop :=
 0 <= j /\ j <= (formL (findT (ws.headD [])).1).length /\ 0 <= u /\ u <= j /\ putGo (formL (findT (ws.headD [])).1) ws.tail ⟨⟨(findT (ws.headD [])).1, 0, 0, 0, 0⟩, line, []⟩ 0 = putGo ((formL (findT (ws.headD [])).1).drop j.toNat) (ws.tail.drop j.toNat) x u.toNat
def cellsI : List TA := [.sh (.int .u8), .sh (.int .u8), .sh (.int .u8), .sh (.int .u8), .sh (.int .i64), .sh (.int .i64), .sh .str]
def cellsJ : List RSh := [.sh (.int .u8), .sh (.int .u8), .sh (.int .u8), .sh (.int .u8), .sh (.int .i64), .sh (.int .i64), .sh .str]
theorem sl_drop {I : Mem} {a : Option Addr} {n c k : Nat} {xs : List Value} (h : SlM I a n 1 xs) (hk : k <= n) (hc : n <= c) : SlM I (sladdr a c k 1) (n - k) 1 (xs.drop k) := by
 have hl := h.len
 refine ⟨by rw [List.length_drop]; omega, fun hs => ?_, Nat.le_trans (by omega) h.max, fun j v hj => ?_⟩
 · unfold sladdr at hs
   split at hs
   · omega
   · cases a with
     | none => have := h.nil rfl; omega
     | some ad => cases hs
 · rw [List.getElem?_drop] at hj
   have hlt := (List.getElem?_eq_some_iff.1 hj).1;have hat := h.at_ _ _ hj;unfold sladdr
   rw [if_neg (by omega)]
   cases a with
   | none => have := h.nil rfl; omega
   | some ad =>
     simp only [Option.map_some, Nat.mul_one];simp only [atI, Option.bind_some] at hat ⊢;rw [add_add];exact hat
theorem cts_cap {P : Program} {f : FuncId} {first args cap : List SV} {H : List Ent} {I : Mem} {post : SV -> List Ent -> Mem -> Prop} (h : CtS P (.v (fnv f)) (first ++ args ++ cap) H I post) : CtS P (.fn (.func f) first cap) args H I post := by
 intro e hp hO W h1 h2 h3;have h := h e hp hO W h1 h2 h3;simp only [den, denL_eq] at h ⊢;unfold CallV fnv at *;rw [run_semV_func] at *;simpa using h
theorem putGo_nil (l : List Tx) (x : Src) (u : Nat) : putGo [] l x u = (0, x) := by cases l <;> rfl
theorem findT_rng (t : Tx) : 0 <= (findT t).1 /\ (findT t).1 <= 49 := by
 unfold findT;split
 · have := opFind_rng t; simp only; omega
 · unfold baseFind
   split
   · rename_i k h
     have := (List.findIdx?_eq_some_iff_getElem.1 h).1;have hl : baseNames.length = 11 := rfl
     simp only; omega
   · simp
theorem cs103 (r : Rd) (hr : okRd r) (b clk : Nat) (es : Array MapEntry) (nm : Option Nat) (l : List ByteArray) (a : Option Addr) (n c : Nat) (hne : 0 < n) (hnc : n <= c) (hls : ∀ s ∈ l, s.size <= 1000000) (line : Int) (hl : i64N line) (I : Mem) (hG : Globs I) (h : SlM I a n 1 (strs l)) :
 CtS Tryz.prog (.v (fnv 103)) [.ptr 0 0, .v (.slice a n c), .v (.int .i64 line)] (rdH r b es clk nm) I (fun sv H' _ => sv = .v (.int .i64 (instrA (l.map tx) line).1) /\ H' = rdH (if (instrA (l.map tx) line).1 = 0 then ⟨r.ms, r.ss ++ [(instrA (l.map tx) line).2]⟩ else r) b es clk nm) := by
 obtain ⟨Q, hQ⟩ : ∃ q : SV -> List Ent -> Prop, q = fun sv H' => sv = .v (.int .i64 (instrA (l.map tx) line).1) /\ H' = rdH (if (instrA (l.map tx) line).1 = 0 then ⟨r.ms, r.ss ++ [(instrA (l.map tx) line).2]⟩ else r) b es clk nm := ⟨_, rfl⟩
 rw [show (fun (sv : SV) (H' : List Ent) (_ : Mem) => sv = .v (.int .i64 (instrA (l.map tx) line).1) /\ H' = rdH (if (instrA (l.map tx) line).1 = 0 then ⟨r.ms, r.ss ++ [(instrA (l.map tx) line).2]⟩ else r) b es clk nm) = fun sv H' _ => Q sv H' from by rw [hQ]]
 obtain ⟨xm, hxm⟩ : ∃ x, x = mksV r.ms := ⟨_, rfl⟩;obtain ⟨xs, hxs⟩ : ∃ x, x = srcsV r.ss := ⟨_, rfl⟩;obtain ⟨N, hN⟩ : ∃ f : Int -> Int -> List Value -> Prop, f = fun j u cs => ∃ x : Src, cs = srcV x /\ InsN (l.map tx) line j u x := ⟨_, rfl⟩;rw [rdH, <- hxm, <- hxs]
 refine viaR (ctS_via (A := { calls := [(64, .lend [4] (.sh .bool) [.cells cellsJ 104]), (104, .cs [0, 1, 2])], loops := [(11, ⟨[(0, .keep), (1, .keep), (2, .keep), (9, .keep), (11, .keep), (12, .keep), (13, .sh (.int .i64)), (14, .keep), (52, .keep), (53, .keep), (54, .sh (.int .i64))], [(0, .keep), (1, .keep), (2, .keep), (3, .keep), (4, .cells cellsI), (5, .keep)], [], fun vals _ _ _ => match vals with | .int .i64 u :: .int .i64 j :: cs => N j u cs | _ => False, fun vals _ => match vals with | _ :: .int .i64 j :: _ => (n - j).toNat | _ => 0⟩)] }) Tryz.func103 rfl Tryz.call103 [0, 1, 2, 3] rfl) (let E4 := Ent.mk (.cells [.rsl 1 r.ms.length, .rsl 2 r.ss.length, .v (.map (some b))] 102) nm
  let E1 := fun (x : Int) (d : ByteArray) (e : Int) (f : Int) (g : Int) (i : Int) (j : Int) (k : Int) (m : Int) (o : ByteArray) => Wr .i64 (x + 1) fun p => Rf E4 /\ Rf (Ent.mk (.row xm 3 112) none) /\ Rf (Ent.mk (.row xs 7 104) none) /\ Rf (Ent.mk (.raw (.map es clk)) (some b)) /\ Rf (Ent.mk (.cells [.ptr 4 1, .ptr 4 2, .ptr 4 3] 195) none) /\ Rf (SV.ptr 0 0) /\ Rf (SV.v (.slice a n c)) /\ Rf (SV.v (.int .i64 line)) /\ Rf (SV.v (.string d)) /\ Rf (SV.ptr 4 0) /\ Rf (SV.ptr 5 0) /\ Rf (SV.fn (.func 121) [] [.ptr 4 0]) /\ Rf (SV.v (.slice (sladdr a c 1 1) (n - 1) (c - 1))) /\ Rf (SV.v (.int .i64 ((n - 1 : Nat) : Int))) /\ Rf (none : Option Nat) /\ N p e [.int .u8 f, .int .u8 g, .int .u8 i, .int .u8 j, .int .i64 k, .int .i64 m, .string o] /\ Int.toNat ((n : Int) - p) < Int.toNat ((n : Int) - x)
  let E2 := [E4, ⟨.row xm 3 112, none⟩, ⟨.row xs 7 104, none⟩, ⟨.raw (.map es clk), some b⟩]
  let E3 := fun (x : Int) (d : ByteArray) (e : Int) (f : Int) (g : Int) (i : Int) (j : Int) (k : Int) (m : Int) (o : ByteArray) => Wr .i64 (x + 1) fun p => Rf E4 /\ Rf (Ent.mk (.row xm 3 112) none) /\ Rf (Ent.mk (.row xs 7 104) none) /\ Rf (Ent.mk (.raw (.map es clk)) (some b)) /\ Rf (Ent.mk (.cells [.ptr 4 1, .ptr 4 2, .ptr 4 3] 195) none) /\ Rf (SV.ptr 0 0) /\ Rf (SV.v (.slice a n c)) /\ Rf (SV.v (.int .i64 line)) /\ Rf (SV.v (.string d)) /\ Rf (SV.ptr 4 0) /\ Rf (SV.ptr 5 0) /\ Rf (SV.fn (.func 121) [] [.ptr 4 0]) /\ Rf (SV.v (.slice (sladdr a c 1 1) (n - 1) (c - 1))) /\ Rf (SV.v (.int .i64 ((n - 1 : Nat) : Int))) /\ N p e [.int .u8 f, .int .u8 g, .int .u8 i, .int .u8 j, .int .i64 k, .int .i64 m, .string o] /\ Int.toNat ((n : Int) - p) < Int.toNat ((n : Int) - x)
  (0 : Int) <= 0 /\ 0 < (n : Int) /\ a.isSome = true /\ ∃ q, atI I a 0 = some (.string q) /\ Ct Tryz.prog (fnv 32) #[.string q] I fun v d => ∃ e f, v = .tuple #[.int .u8 e, .bool f] /\ Ct Tryz.prog (fnv 74) #[.int .u8 e] d fun g i => ∃ j k, g = .tuple #[.string j, .bool k] /\ Br (!f) (Q (.v (.int .i64 150)) E2) (Wr .i64 ((n : Int) - 1) (fun m => Br (m != (j.size : Int)) (Q (.v (.int .i64 151)) E2) ((0 : Int) <= 1 /\ 1 <= (n : Int) /\ (Rf E4 /\ Rf (Ent.mk (.row xm 3 112) none) /\ Rf (Ent.mk (.row xs 7 104) none) /\ Rf (Ent.mk (.raw (.map es clk)) (some b)) /\ Rf (Ent.mk (.cells [.ptr 4 1, .ptr 4 2, .ptr 4 3] 195) none) /\ Rf (SV.ptr 0 0) /\ Rf (SV.v (.slice a n c)) /\ Rf (SV.v (.int .i64 line)) /\ Rf (SV.v (.string j)) /\ Rf (SV.ptr 4 0) /\ Rf (SV.ptr 5 0) /\ Rf (SV.fn (.func 121) [] [.ptr 4 0]) /\ Rf (SV.v (.slice (sladdr a c 1 1) (n - 1) (c - 1))) /\ Rf (SV.v (.int .i64 ((n - 1 : Nat) : Int))) /\ Rf (none : Option Nat) /\ N 0 0 [.int .u8 e, .int .u8 0, .int .u8 0, .int .u8 0, .int .i64 0, .int .i64 line, .string ⟨#[]⟩]) /\ ∀ (o : Mem), Mem -> i.le o -> ∀ (p s t u w x y z : Int) (q1 : ByteArray), N s p [.int .u8 t, .int .u8 u, .int .u8 w, .int .u8 x, .int .i64 y, .int .i64 z, .string q1] -> Br (decide (s < ((n - 1 : Nat) : Int))) (0 <= s /\ s < ((n - 1 : Nat) : Int) /\ (sladdr a c 1 1).isSome = true /\ ∃ q2, atI o (sladdr a c 1 1) (s.toNat * 1 + 0) = some (.string q2) /\ ∃ c1, j.data.toList[s.toNat]? = some c1 /\ 0 <= s /\ Br ((c1.toNat : Int) == 114) (Br ((q2.size : Int) != 2) (Q (.v (.int .i64 152)) E2) (∃ c2, q2.data.toList[0]? = some c2 /\ (0 : Int) <= 0 /\ Br ((c2.toNat : Int) != 114) (Q (.v (.int .i64 152)) E2) (∃ c3, q2.data.toList[1]? = some c3 /\ (0 : Int) <= 1 /\ Br (decide ((c3.toNat : Int) < 48)) (Q (.v (.int .i64 152)) E2) (∃ c4, q2.data.toList[1]? = some c4 /\ (0 : Int) <= 1 /\ Br (decide (55 < (c4.toNat : Int))) (Q (.v (.int .i64 152)) E2) ((p = 0 \/ p = 1 \/ p = 2) /\ (p = 0 -> (0 : Int) <= 0 /\ (0 : Int) < 3 /\ ∃ c5, q2.data.toList[1]? = some c5 /\ (0 : Int) <= 1 /\ Wr .u8 ((c5.toNat : Int) - 48) fun c6 => Wr .i64 (p + 1) fun c7 => E1 s j c7 t c6 w x y z q1) /\ (p = 1 -> (0 : Int) <= 1 /\ (1 : Int) < 3 /\ ∃ c5, q2.data.toList[1]? = some c5 /\ (0 : Int) <= 1 /\ Wr .u8 ((c5.toNat : Int) - 48) fun c6 => Wr .i64 (p + 1) fun c7 => E1 s j c7 t u c6 x y z q1) /\ (p = 2 -> (0 : Int) <= 2 /\ (2 : Int) < 3 /\ ∃ c5, q2.data.toList[1]? = some c5 /\ (0 : Int) <= 1 /\ Wr .u8 ((c5.toNat : Int) - 48) fun c6 => Wr .i64 (p + 1) fun c7 => E1 s j c7 t u w c6 y z q1)))))) (Br ((c1.toNat : Int) == 116) (Ct Tryz.prog (fnv 37) #[.string q2] o (fun v1 I1 => ∃ b1, v1 = .bool b1 /\ Br (!b1) (Q (.v (.int .i64 153)) E2) (E1 s j p t u w x y z q2))) (∀ (b1 : Nat), CtS Tryz.prog (.fn (.func 121) [] [.ptr 0 0]) [.v (.string q2)] [⟨.cells [.v (.int .u8 t), .v (.int .u8 u), .v (.int .u8 w), .v (.int .u8 x), .v (.int .i64 y), .v (.int .i64 z), .v (.string q1)] 104, some b1⟩] o fun s1 H I1 => ∃ b2 n1 n2 n3 n4 n5 n6 q3, s1 = .v (.bool b2) /\ H = [⟨.cells [.v (.int .u8 n1), .v (.int .u8 n2), .v (.int .u8 n3), .v (.int .u8 n4), .v (.int .i64 n5), .v (.int .i64 n6), .v (.string q3)] 104, some b1⟩] /\ Br (!b2) (Q (.v (.int .i64 152)) E2) (∃ c2, j.data.toList[s.toNat]? = some c2 /\ 0 <= s /\ Br ((c2.toNat : Int) == 112) (Br (decide (n5 < 0)) (Q (.v (.int .i64 152)) E2) (Br (decide (16 <= n5)) (Q (.v (.int .i64 152)) E2) (E3 s j p n1 n2 n3 n4 n5 n6 q3))) (E3 s j p n1 n2 n3 n4 n5 n6 q3))))) (xs.length = r.ss.length * 7 /\ r.ss.length + 1 <= 9223372036854775807 /\ (r.ss.length + 1) * 40 <= 140737488355328 /\ Q (.v (.int .i64 0)) [⟨.cells [.rsl 1 r.ms.length, .rsl 2 (r.ss.length + 1), .v (.map (some b))] 102, nm⟩, ⟨.row xm 3 112, none⟩, ⟨.row (xs ++ [.int .u8 t, .int .u8 u, .int .u8 w, .int .u8 x, .int .i64 y, .int .i64 z, .string q1]) 7 104, none⟩, ⟨.raw (.map es clk), some b⟩]))))) (by kernel_rfl) ?_
 intro E4 E1 E2 E3
 have hlen : l.length = n := by have := h.len; simpa [strs] using this
 obtain ⟨w, t, rfl⟩ : ∃ w t, l = w :: t := by
  cases l with
  | nil => simp at hlen; omega
  | cons w t => exact ⟨w, t, rfl⟩
 have htl : t.length = n - 1 := by simp at hlen; omega
 have hmx : n <= maxLen := h.max
 have hmx2 : maxLen <= 9223372036854775807 := by decide
 have hrng := findT_rng (tx w);have h0 : atI I a 0 = some (.string w) := h.at_ 0 _ rfl;obtain ⟨F, hF⟩ : ∃ F, F = formL (findT (tx w)).1 := ⟨_, rfl⟩;obtain ⟨hmem, hF3, _⟩ := formL_mem (findT (tx w)).1;rw [<- hF] at hmem hF3
 have hE2 : E2 = rdH r b es clk nm := by rw [rdH, <- hxm, <- hxs]
 refine ⟨by omega, by omega, h.isSome hne, w, h0, (ct32 w I).mono fun v J1 l1 hv => ⟨_, _, hv, (ct74 _ (by omega) J1).mono fun g J2 l2 hg => ⟨_, _, hg, Br.mk (fun h1 => ?_) (fun h1 => wr_i64 (by omega) (by omega) (Br.mk (fun h2 => ?_) (fun h2 => ⟨by omega, by omega, ⟨?_, fun o G lo p s t1 u1 w1 x1 y1 z1 q1 hn => ?_⟩⟩)))⟩⟩⟩
 · have h1 : (findT (tx w)).2 = false := by simpa using h1
   have e : instrA ((w :: t).map tx) line = (150, ⟨⟨0, 0, 0, 0, 0⟩, line, []⟩) := by rw [List.map_cons, instrA, if_pos h1]
   rw [hQ, e];exact ⟨rfl, hE2⟩
 all_goals have h1 : ¬ (findT (tx w)).2 = false := by simpa using h1
 · have h2 : (n : Int) - 1 ≠ ((strT (formL (findT (tx w)).1)).size : Int) := by simpa using h2
   have e : instrA ((w :: t).map tx) line = (151, ⟨⟨0, 0, 0, 0, 0⟩, line, []⟩) := by
    rw [List.map_cons, instrA, if_neg h1, if_pos];rw [strT_size] at h2
    rw [List.length_map]; omega
   rw [hQ, e];exact ⟨rfl, hE2⟩
 all_goals have h2 : (n : Int) - 1 = ((strT (formL (findT (tx w)).1)).size : Int) := by simpa using h2
 all_goals rw [strT_size, <- hF] at h2
 · refine ⟨rfl, rfl, rfl, rfl, rfl, rfl, rfl, rfl, rfl, rfl, rfl, rfl, rfl, rfl, rfl, ?_⟩
   rw [hN];exact ⟨⟨⟨(findT (tx w)).1, 0, 0, 0, 0⟩, line, []⟩, rfl, Int.le_refl _, Int.natCast_nonneg _, Int.le_refl _, Int.le_refl _, rfl⟩
 have hfl : F.length = t.length := by omega
 have einst : instrA ((w :: t).map tx) line = putGo F (t.map tx) ⟨⟨(findT (tx w)).1, 0, 0, 0, 0⟩, line, []⟩ 0 := by
  rw [List.map_cons, instrA, if_neg h1, if_neg (by rw [List.length_map, <- hF]; omega), <- hF]
 rw [hN] at hn;obtain ⟨x, hx, h3, h4, h5, h6, h7⟩ := hn;simp only [srcV, insV, List.cons_append, List.nil_append, List.cons.injEq, Value.int.injEq, Value.string.injEq, true_and, and_true] at hx;obtain ⟨rfl, rfl, rfl, rfl, rfl, rfl, rfl⟩ := hx;simp only [List.map_cons, List.headD_cons, List.tail_cons, <- hF] at h4 h7
 have hnl : ((n - 1 : Nat) : Int) = (n : Int) - 1 := by omega
 refine Br.mk (fun h8 => ?_) (fun h8 => ?_)
 · have h8 := of_decide_eq_true h8
   have hjt : s.toNat < t.length := by omega
   obtain ⟨q2, hq2⟩ : ∃ q2, t[s.toNat]? = some q2 := ⟨_, List.getElem?_eq_getElem hjt⟩
   obtain ⟨f, hf⟩ : ∃ f, F[s.toNat]? = some f := ⟨_, List.getElem?_eq_getElem (by omega)⟩
   have hfm := hmem f (List.mem_of_getElem? hf);have hq2s : q2.size <= 1000000 := hls q2 (List.mem_cons_of_mem _ (List.mem_of_getElem? hq2))
   have hFd : F.drop s.toNat = f :: F.drop (s + 1).toNat := by
    rw [show (s + 1).toNat = s.toNat + 1 by omega, List.drop_eq_getElem_cons (by omega)]
    congr 1
    rw [List.getElem?_eq_getElem (by omega)] at hf
    exact Option.some.inj hf
   have hTd : (t.map tx).drop s.toNat = tx q2 :: (t.map tx).drop (s + 1).toNat := by
    have hlt : s.toNat < (t.map tx).length := by rw [List.length_map]; exact hjt
    rw [show (s + 1).toNat = s.toNat + 1 by omega, List.drop_eq_getElem_cons hlt]
    congr 1
    rw [List.getElem?_eq_getElem hjt] at hq2;rw [List.getElem_map, Option.some.inj hq2]
   rw [hFd, hTd] at h7
   have hat : atI o (sladdr a c 1 1) (s.toNat * 1 + 0) = some (.string q2) := by
    rw [Nat.mul_one, Nat.add_zero];have hs := (h.mono (Mem.le_trans l1 (Mem.le_trans l2 lo)))
    exact (sl_drop (k := 1) hs (by omega) hnc).at_ _ _ (by rw [show (strs (w :: t)).drop 1 = strs t from rfl]; exact strs_get hq2)
   have hsome : (sladdr a c 1 1).isSome = true := (sl_drop (k := 1) h (by omega) hnc).isSome (by omega)
   have errQ : ∀ e : Int, e ≠ 0 -> (putGo (f :: F.drop (s + 1).toNat) (tx q2 :: (t.map tx).drop (s + 1).toNat) x p.toNat).1 = e -> Q (.v (.int .i64 e)) E2 := fun e he hp => by
    rw [hQ, einst, h7, hp, if_neg he];exact ⟨rfl, hE2⟩
   have hqs : (tx q2).length = q2.size := Array.length_toList
   have stepN : ∀ (u' : Int) (x' : Src), 0 <= u' -> u' <= s + 1 -> putGo (f :: F.drop (s + 1).toNat) (tx q2 :: (t.map tx).drop (s + 1).toNat) x p.toNat = putGo (F.drop (s + 1).toNat) ((t.map tx).drop (s + 1).toNat) x' u'.toNat -> ∀ cs, cs = srcV x' -> N (s + 1) u' cs := fun u' x' g1 g2 g3 cs g4 => by
    rw [hN]
    refine ⟨x', g4, by omega, ?_, g1, by omega, ?_⟩
    · simp only [List.map_cons, List.headD_cons, <- hF]; omega
    · simp only [List.map_cons, List.headD_cons, List.tail_cons, <- hF]
      rw [h7, g3]
   refine ⟨h3, by omega, hsome, q2, hat, f, (by rw [<- hF]; exact hf), h3, ?_⟩
   have wrapE : ∀ (u' : Int) (x' : Src), 0 <= u' -> u' <= s + 1 -> putGo (f :: F.drop (s + 1).toNat) (tx q2 :: (t.map tx).drop (s + 1).toNat) x p.toNat = putGo (F.drop (s + 1).toNat) ((t.map tx).drop (s + 1).toNat) x' u'.toNat -> E1 s (strT (formL (findT (tx w)).1)) u' x'.ins.op x'.ins.a x'.ins.b x'.ins.c x'.ins.n x'.line (strT x'.target) := fun u' x' g1 g2 g3 =>
    wr_i64 (by omega) (by omega) ⟨rfl, rfl, rfl, rfl, rfl, rfl, rfl, rfl, rfl, rfl, rfl, rfl, rfl, rfl, rfl, stepN u' x' g1 g2 g3 _ rfl, by omega⟩
   have wrapF : ∀ (u' : Int) (x' : Src), 0 <= u' -> u' <= s + 1 -> putGo (f :: F.drop (s + 1).toNat) (tx q2 :: (t.map tx).drop (s + 1).toNat) x p.toNat = putGo (F.drop (s + 1).toNat) ((t.map tx).drop (s + 1).toNat) x' u'.toNat -> E3 s (strT (formL (findT (tx w)).1)) u' x'.ins.op x'.ins.a x'.ins.b x'.ins.c x'.ins.n x'.line (strT x'.target) := fun u' x' g1 g2 g3 =>
    wr_i64 (by omega) (by omega) ⟨rfl, rfl, rfl, rfl, rfl, rfl, rfl, rfl, rfl, rfl, rfl, rfl, rfl, rfl, stepN u' x' g1 g2 g3 _ rfl, by omega⟩
   by_cases hr1 : f = 114
   · subst hr1
     have noreg : regT (tx q2) = none -> Q (.v (.int .i64 152)) E2 := fun hh => errQ 152 (by decide) (by rw [putGo, if_pos rfl, hh])
     refine Br.t rfl (Br.mk (fun h9 => ?_) (fun h9 => ?_))
     · have h9 : (q2.size : Int) ≠ 2 := by simpa using h9
       refine noreg ?_;unfold regT;split
       · rename_i hh; rw [hh] at hqs; simp at hqs; omega
       · rfl
     have h9 : (q2.size : Int) = 2 := by simpa using h9
     obtain ⟨c2, c3, hcc⟩ : ∃ c2 c3, tx q2 = [c2, c3] := by
      match hh : tx q2 with
      | [] => rw [hh] at hqs; simp at hqs; omega
      | [_] => rw [hh] at hqs; simp at hqs; omega
      | [c2, c3] => exact ⟨c2, c3, rfl⟩
      | _ :: _ :: _ :: _ => rw [hh] at hqs; simp at hqs; omega
     have g0 : q2.data.toList[0]? = some c2 := by show (tx q2)[0]? = _; rw [hcc]; rfl
     have g1 : q2.data.toList[1]? = some c3 := by show (tx q2)[1]? = _; rw [hcc]; rfl
     refine ⟨c2, g0, by omega, Br.mk (fun h10 => ?_) (fun h10 => ⟨c3, g1, by omega, Br.mk (fun h11 => ?_) (fun h11 => ⟨c3, g1, by omega, Br.mk (fun h12 => ?_) (fun h12 => ?_)⟩)⟩)⟩
     · have h10 : (c2.toNat : Int) ≠ 114 := by simpa using h10
       refine noreg ?_
       rw [hcc, regT, if_neg (fun hh => h10 (by rw [hh.1]; rfl))]
     all_goals have h10 : (c2.toNat : Int) = 114 := by simpa using h10
     · have h11 := of_decide_eq_true h11
       refine noreg ?_
       rw [hcc, regT, if_neg (fun hh => by omega)]
     · have h12 := of_decide_eq_true h12
       refine noreg ?_
       rw [hcc, regT, if_neg (fun hh => by omega)]
     have h11 := of_decide_eq_false h11;have h12 := of_decide_eq_false h12
     have hc2 : c2 = 114 := UInt8.toNat_inj.1 (by rw [show (114 : UInt8).toNat = 114 by decide]; omega)
     have hreg : regT (tx q2) = some ((c3.toNat : Int) - 48) := by rw [hcc, regT, if_pos ⟨hc2, by omega, by omega⟩]
     have hput : putGo (114 :: F.drop (s + 1).toNat) (tx q2 :: (t.map tx).drop (s + 1).toNat) x p.toNat = putGo (F.drop (s + 1).toNat) ((t.map tx).drop (s + 1).toNat) { x with ins := putR x.ins p.toNat ((c3.toNat : Int) - 48) } (p.toNat + 1) := by
      rw [putGo, if_pos rfl, hreg]
     refine ⟨by omega, fun hp => ?_, fun hp => ?_, fun hp => ?_⟩
     all_goals subst hp
     · exact ⟨by omega, by omega, c3, g1, by omega, wr_u8 (by omega) (by omega) (wr_i64 (by omega) (by omega) (wrapE (0 + 1) { x with ins := putR x.ins 0 ((c3.toNat : Int) - 48) } (by omega) (by omega) hput))⟩
     · exact ⟨by omega, by omega, c3, g1, by omega, wr_u8 (by omega) (by omega) (wr_i64 (by omega) (by omega) (wrapE (1 + 1) { x with ins := putR x.ins 1 ((c3.toNat : Int) - 48) } (by omega) (by omega) hput))⟩
     · exact ⟨by omega, by omega, c3, g1, by omega, wr_u8 (by omega) (by omega) (wr_i64 (by omega) (by omega) (wrapE (2 + 1) { x with ins := putR x.ins 2 ((c3.toNat : Int) - 48) } (by omega) (by omega) hput))⟩
   · refine Br.f (by simpa using fun e : (f.toNat : Int) = 114 => hr1 (UInt8.toNat_inj.1 (by rw [show (114 : UInt8).toNat = 114 by decide]; omega))) ?_
     by_cases ht1 : f = 116
     · subst ht1
       refine Br.t rfl ((ct37 q2 (by omega) o).mono fun v1 I1 lI1 hv1 => ⟨_, hv1, Br.mk (fun h9 => ?_) (fun h9 => ?_)⟩)
       · have h9 : nameB (tx q2) = false := by simpa using h9
         exact errQ 153 (by decide) (by rw [putGo, if_neg (by decide), if_pos rfl, if_neg (by rw [h9]; decide)])
       · have h9 : nameB (tx q2) = true := by simpa using h9
         have := wrapE p { x with target := tx q2 } h5 (by omega) (by rw [putGo, if_neg (by decide), if_pos rfl, if_pos h9])
         simpa only [strT_tx] using this
     · refine Br.f (by simpa using fun e : (f.toNat : Int) = 116 => ht1 (UInt8.toNat_inj.1 (by rw [show (116 : UInt8).toNat = 116 by decide]; omega))) fun b1 => ?_
       refine (cts_cap (first := []) (args := [.v (.string q2)]) (cap := [.ptr 0 0]) (cs121 x (some b1) q2 hq2s o (hG.mono (Mem.le_trans l1 (Mem.le_trans l2 lo))))).mono fun s1 H I1 lI1 ⟨hs1, hH⟩ => ⟨_, _, _, _, _, _, _, _, hs1, hH, ?_⟩;have hT := numT_eq (tx q2)
       refine Br.mk (fun h9 => ?_) (fun h9 => ⟨f, (by rw [<- hF]; exact hf), h3, ?_⟩)
       · have h9 : numT (tx q2) = none := by simpa using h9
         exact errQ 152 (by decide) (by rw [putGo, if_neg hr1, if_neg ht1, h9])
       have h9 : numT (tx q2) = some (numP (tx q2)).1 := by
        cases hq : numT (tx q2) with
        | none => rw [hq] at h9; cases h9
        | some z =>
          rw [hq] at hT
          split at hT
          · exact hT
          · cases hT
       refine Br.mk (fun h10 => Br.mk (fun h11 => ?_) (fun h11 => Br.mk (fun h12 => ?_) (fun h12 => ?_))) (fun h10 => ?_)
       · have h10 : f = 112 := UInt8.toNat_inj.1 (by rw [show (112 : UInt8).toNat = 112 by decide]; have := eq_of_beq h10; omega)
         have h11 : (numP (tx q2)).1 < 0 := of_decide_eq_true h11
         exact errQ 152 (by decide) (by rw [putGo, if_neg hr1, if_neg ht1, h9]; simp only; rw [if_pos ⟨h10, fun hh => by omega⟩])
       · have h10 : f = 112 := UInt8.toNat_inj.1 (by rw [show (112 : UInt8).toNat = 112 by decide]; have := eq_of_beq h10; omega)
         have h12 : 16 <= (numP (tx q2)).1 := of_decide_eq_true h12
         exact errQ 152 (by decide) (by rw [putGo, if_neg hr1, if_neg ht1, h9]; simp only; rw [if_pos ⟨h10, fun hh => by omega⟩])
       · have h11 : ¬ (numP (tx q2)).1 < 0 := of_decide_eq_false h11
         have h12 : ¬ 16 <= (numP (tx q2)).1 := of_decide_eq_false h12
         exact wrapF p (putN x (numP (tx q2)).1) h5 (by omega) (by rw [putGo, if_neg hr1, if_neg ht1, h9]; simp only; rw [if_neg (fun hh => hh.2 ⟨by omega, by omega⟩)]; rfl)
       · have h10 : ¬ f = 112 := fun e => by subst e; simp at h10
         exact wrapF p (putN x (numP (tx q2)).1) h5 (by omega) (by rw [putGo, if_neg hr1, if_neg ht1, h9]; simp only; rw [if_neg (fun hh => h10 hh.1)]; rfl)
 · have h8 := of_decide_eq_false h8
   have hms := hr.ss
   rw [List.drop_eq_nil_of_le (by omega), putGo_nil] at h7
   refine ⟨by rw [hxs, srcsV_len], by omega, by omega, ?_⟩
   rw [hQ, einst, h7];simp only [if_true, true_and];rw [rdH, hxm, hxs];simp [srcsV, srcV, insV]
theorem suffix_one (t : Tx) (c : UInt8) : Lib.hasSuffix t [c] = decide (t.getLast? = some c) /\ Lib.trimSuffix t [c] = if t.getLast? = some c then t.dropLast else t := by
 have h1 : Lib.hasSuffix t [c] = decide (t.getLast? = some c) := by
  unfold Lib.hasSuffix
  by_cases h : t.getLast? = some c
  · rw [decide_eq_true h, List.isSuffixOf_iff_suffix]
    obtain ⟨ys, rfl⟩ := List.getLast?_eq_some_iff.1 h;exact ⟨ys, rfl⟩
  · rw [decide_eq_false h, Bool.eq_false_iff]
    intro hs;obtain ⟨ys, rfl⟩ := List.isSuffixOf_iff_suffix.1 hs
    exact h (by simp)
 refine ⟨h1, ?_⟩;rw [Lib.trimSuffix, h1]
 by_cases h : t.getLast? = some c
 · rw [decide_eq_true h, if_pos rfl, if_pos h, List.dropLast_eq_take]; rfl
 · rw [decide_eq_false h, if_neg (by simp), if_neg h]
theorem fields_len : ∀ (t acc : Tx), ∀ x ∈ fieldsGo acc t, x.length <= acc.length + t.length
 | [], acc, x, hx => by
   rw [fieldsGo] at hx
   split at hx
   · cases hx
   · simp only [List.mem_cons, List.not_mem_nil, or_false] at hx
     subst hx; simp
 | c :: r, acc, x, hx => by
   rw [fieldsGo] at hx;simp only [List.length_cons]
   split at hx
   · split at hx
     · have := fields_len r [] x hx
       simp at this; omega
     · rcases List.mem_cons.1 hx with rfl | hx
       · omega
       · have := fields_len r [] x hx
         simp at this; omega
   · have := fields_len r _ x hx
     simp at this; omega
theorem pieces_len (s : Tx) : ∀ x ∈ piecesT s, x.length <= s.length := fun x hx => by
 have h1 := fields_len _ _ x hx;have h2 := (List.takeWhile_prefix (p := (· ≠ 59)) (l := s)).length_le
 simp at h1 h2 ⊢; omega
def rdR : RSh := .sh (.int .i64)
def rdE : List ESh := [.cells [.row 1, .row 2, .sh .map] 102, .row 3 112, .row 7 104, .mp]
theorem cs81 (r : Rd) (hr : r.ms.length <= 900000 /\ r.ss.length <= 900000) (b b0 clk : Nat) (es : Array MapEntry) (hm : MapI es r.ms) (s : ByteArray) (hs : s.size <= 1000000) (line : Int) (hl : i64N line) (I : Mem) (hG : Globs I) :
 CtS Tryz.prog (.v (fnv 81)) [.ptr 0 0, .v (.string s), .v (.int .i64 line)] (rdH r b es clk (some b0)) I (fun sv H' _ => sv = .v (.int .i64 (lineA r (tx s) line).1) /\ ∃ es' clk', MapI es' (lineA r (tx s) line).2.ms /\ H' = rdH (lineA r (tx s) line).2 b es' clk' (some b0)) := by
 obtain ⟨Q, hQ⟩ : ∃ q : SV -> List Ent -> Prop, q = fun sv H' => sv = .v (.int .i64 (lineA r (tx s) line).1) /\ ∃ es' clk', MapI es' (lineA r (tx s) line).2.ms /\ H' = rdH (lineA r (tx s) line).2 b es' clk' (some b0) := ⟨_, rfl⟩
 rw [show (fun (sv : SV) (H' : List Ent) (_ : Mem) => sv = .v (.int .i64 (lineA r (tx s) line).1) /\ ∃ es' clk', MapI es' (lineA r (tx s) line).2.ms /\ H' = rdH (lineA r (tx s) line).2 b es' clk' (some b0)) = fun sv H' _ => Q sv H' from by rw [hQ]]
 obtain ⟨xm, hxm⟩ : ∃ x, x = mksV r.ms := ⟨_, rfl⟩;obtain ⟨xs, hxs⟩ : ∃ x, x = srcsV r.ss := ⟨_, rfl⟩;rw [rdH, <- hxm, <- hxs]
 refine viaR (ctS_via (A := { calls := [(27, .lend [0, 1, 2, 3] rdR rdE), (39, .lend [0, 1, 2, 3] rdR rdE)] }) Tryz.func81 rfl Tryz.call81 [0, 1, 2, 3] rfl) (let E1 := fun (x : Nat) (a : Nat) (c : Option Nat) (d : List Value) (e : List Value) (f : Array MapEntry) (g : Nat) => [⟨.cells [.rsl 1 x, .rsl 2 a, .v (.map c)] 102, some b0⟩, ⟨.row d 3 112, none⟩, ⟨.row e 7 104, none⟩, ⟨.raw (.map f g), some b⟩]
  let E2 := [Ent.mk (.cells [.rsl 1 r.ms.length, .rsl 2 r.ss.length, .v (.map (some b))] 102) (some b0), ⟨.row xm 3 112, none⟩, ⟨.row xs 7 104, none⟩, ⟨.raw (.map es clk), some b⟩]
  Ct Tryz.prog (fnv 100) #[.string s] I fun v a => ∃ c n d, v = .slice c n d /\ Br ((n : Int) == 0) (Q (.v (.int .i64 0)) E2) ((0 : Int) <= 0 /\ 0 < (n : Int) /\ c.isSome = true /\ ∃ q, atI a c 0 = some (.string q) /\ Ct Tryz.prog (fnv 101) #[.string q, .string ⟨#[58]⟩] a fun e f => ∃ g h, e = .tuple #[.string g, .bool h] /\ Br h (CtS Tryz.prog (.v (fnv 102)) [.ptr 0 0, .v (.string g), .v (.int .i64 line)] E2 f (fun i H j => ∃ k l m o x p t u, i = .v (.int .i64 k) /\ H = E1 l m o x p t u /\ Br (k != 0) (Q (.v (.int .i64 k)) (E1 l m o x p t u)) ((0 : Int) <= 1 /\ 1 <= (n : Int) /\ Br (((n - 1 : Nat) : Int) == 0) (Q (.v (.int .i64 0)) (E1 l m o x p t u)) (CtS Tryz.prog (.v (fnv 103)) [.ptr 0 0, .v (.slice (sladdr c d 1 1) (n - 1) (d - 1)), .v (.int .i64 line)] (E1 l m o x p t u) j (fun w y z => ∃ n1 n2 n3 r1 x1 x2 e1 c1, w = .v (.int .i64 n1) /\ y = E1 n2 n3 r1 x1 x2 e1 c1 /\ Q (.v (.int .i64 n1)) (E1 n2 n3 r1 x1 x2 e1 c1)))))) (Br ((n : Int) == 0) (Q (.v (.int .i64 0)) E2) (CtS Tryz.prog (.v (fnv 103)) [.ptr 0 0, .v (.slice c n d), .v (.int .i64 line)] E2 f (fun i H j => ∃ k l m o x p t u, i = .v (.int .i64 k) /\ H = E1 l m o x p t u /\ Q (.v (.int .i64 k)) (E1 l m o x p t u)))))) (by kernel_rfl) ?_
 intro E1 E2
 have hE2 : E2 = rdH r b es clk (some b0) := by rw [rdH, <- hxm, <- hxs]
 have hsz : (tx s).length = s.size := Array.length_toList
 have okr : okRd r := ⟨by omega, by omega⟩
 refine (ct100 s (by omega) I hG).mono fun v J lJ ⟨l, a, n, hv, hp, hsl, hmx⟩ => ⟨_, _, _, hv, Br.mk (fun h1 => ?_) (fun h1 => ?_)⟩
 · have h1 : n = 0 := by have := eq_of_beq h1; omega
   have hl0 : l = [] := by
    have := hsl.len;rw [h1] at this;simpa [strs] using this
   rw [hl0] at hp;rw [hQ, lineA, <- hp];exact ⟨rfl, es, clk, hm, hE2⟩
 have h1 : n ≠ 0 := fun e => by subst e; simp at h1
 have hlen : l.length = n := by have := hsl.len; simpa [strs] using this
 obtain ⟨w, t, rfl⟩ : ∃ w t, l = w :: t := by
  cases l with
  | nil => simp at hlen; omega
  | cons w t => exact ⟨w, t, rfl⟩
 have htl : t.length = n - 1 := by simp at hlen; omega
 have hmx2 : maxLen <= 9223372036854775807 := by decide
 have h0 : atI J a 0 = some (.string w) := hsl.at_ 0 _ rfl
 have hall : ∀ q ∈ w :: t, q.size <= 1000000 := fun q hq => by
  have hm : tx q ∈ piecesT (tx s) := by rw [<- hp]; exact List.mem_map_of_mem hq
  have := pieces_len _ _ hm;have h2 : (tx q).length = q.size := Array.length_toList;omega
 have hw := hall w (by simp)
 obtain ⟨g1, g2⟩ := suffix_one (tx w) 58
 refine ⟨by omega, by omega, hsl.isSome (by omega), w, h0, (ct101 w (by omega) J).mono fun e J2 l2 he => ⟨_, _, he, Br.mk (fun h2 => ?_) (fun h2 => Br.f (by simpa using h1) ?_)⟩⟩
 · rw [g1] at h2
   have h2 := of_decide_eq_true h2
   have hlab : labT (tx w) = some (tx w).dropLast := by rw [labT, if_pos h2]
   rw [g2, if_pos h2]
   have hline : lineA r (tx s) line = if (labelA r (tx w).dropLast line).1 ≠ 0 then labelA r (tx w).dropLast line else putI (labelA r (tx w).dropLast line).2 (t.map tx) line := by
    rw [lineA, <- hp, List.map_cons];simp only [hlab]
   rw [hE2];have hwl : (tx w).length = w.size := Array.length_toList
   refine (cs102 r okr b clk es hm (some b0) (strT (tx w).dropLast) (by rw [strT_size, List.length_dropLast]; omega) line hl J2).mono fun i H J3 l3 ⟨hi, es2, clk2, hm2, hH⟩ => ⟨_, _, _, _, _, _, _, _, hi, hH, Br.mk (fun h3 => ?_) (fun h3 => ?_)⟩
   · rw [tx_strT] at h3 hm2 ⊢
     have h3 : (labelA r (tx w).dropLast line).1 ≠ 0 := by simpa using h3
     rw [hQ, hline, if_pos h3];exact ⟨rfl, es2, clk2, hm2, rfl⟩
   · rw [tx_strT] at h3 hm2 ⊢
     have h3 : ¬ (labelA r (tx w).dropLast line).1 ≠ 0 := by simpa using h3
     rw [if_neg h3] at hline
     have hr1 : okRd (labelA r (tx w).dropLast line).2 := by
      unfold labelA;split
      · exact okr
      · split
        · exact okr
        · exact ⟨by simp; omega, by simp; omega⟩
     refine ⟨by omega, by omega, Br.mk (fun h4 => ?_) (fun h4 => ?_)⟩
     · have h4 : t = [] := by
        have : n - 1 = 0 := by have := eq_of_beq h4; omega
        exact List.eq_nil_of_length_eq_zero (by omega)
       rw [h4] at hline;rw [hQ, hline];exact ⟨rfl, es2, clk2, hm2, rfl⟩
     · have h4 : 0 < n - 1 := by
        rcases Nat.eq_zero_or_pos (n - 1) with h | h
        · rw [h] at h4; simp at h4
        · exact h
       obtain ⟨w2, t2, rfl⟩ : ∃ w2 t2, t = w2 :: t2 := by
        cases t with
        | nil => simp at htl; omega
        | cons w2 t2 => exact ⟨w2, t2, rfl⟩
       refine (cs103 _ hr1 b clk2 es2 (some b0) (w2 :: t2) _ (n - 1) (n - 1) h4 (Nat.le_refl _) (fun q hq => hall q (List.mem_cons_of_mem _ hq)) line hl J3 (hG.mono (Mem.le_trans lJ (Mem.le_trans l2 l3))) (sl_drop (k := 1) (hsl.mono (Mem.le_trans l2 l3)) (by omega) (Nat.le_refl _))).mono fun i H J4 l4 ⟨hi, hH⟩ => ⟨_, _, _, _, _, _, _, _, hi, hH, ?_⟩
       have hput : putI (labelA r (tx w).dropLast line).2 ((w2 :: t2).map tx) line = if (instrA ((w2 :: t2).map tx) line).1 = 0 then (0, ⟨(labelA r (tx w).dropLast line).2.ms, (labelA r (tx w).dropLast line).2.ss ++ [(instrA ((w2 :: t2).map tx) line).2]⟩) else ((instrA ((w2 :: t2).map tx) line).1, (labelA r (tx w).dropLast line).2) := rfl
       rw [hQ, hline, hput];split
       · rename_i h5
         exact ⟨by rw [h5], es2, clk2, hm2, rfl⟩
       · exact ⟨rfl, es2, clk2, hm2, rfl⟩
 · rw [g1] at h2
   have h2 := of_decide_eq_false h2
   have hlab : labT (tx w) = none := by rw [labT, if_neg h2]
   have hline : lineA r (tx s) line = putI r ((w :: t).map tx) line := by
    rw [lineA, <- hp, List.map_cons];simp only [hlab]
   have hput : putI r ((w :: t).map tx) line = if (instrA ((w :: t).map tx) line).1 = 0 then (0, ⟨r.ms, r.ss ++ [(instrA ((w :: t).map tx) line).2]⟩) else ((instrA ((w :: t).map tx) line).1, r) := rfl
   rw [hE2]
   refine (cs103 r okr b clk es (some b0) (w :: t) a n n (by omega) (Nat.le_refl _) hall line hl J2 (hG.mono (Mem.le_trans lJ l2)) (hsl.mono l2)).mono fun i H J4 l4 ⟨hi, hH⟩ => ⟨_, _, _, _, _, _, _, _, hi, hH, ?_⟩
   rw [hQ, hline, hput];split
   · rename_i h5
     exact ⟨by rw [h5], es, clk, hm, rfl⟩
   · exact ⟨rfl, es, clk, hm, rfl⟩
def ownL (text : ByteArray) (fv : Value) (G : Mem) : Prop := ∃ b, fv = .func (.func 98) #[] #[.pointer (some ⟨b, 0, none⟩)] /\ G b = some (.cells #[.string text] 9 (0, 0)) /\ ∀ k, k ≠ b -> G k = none
theorem cs80 (text : ByteArray) (I : Mem) : CtS Tryz.prog (.v (fnv 80)) [.v (.string text)] [] I (fun sv H' _ => sv = .fn (.func 98) [] [.ptr 0 0] /\ H' = [⟨.cells [.v (.string text)] 9, none⟩]) := by
 refine viaR (ctS_via (A := { }) Tryz.func80 rfl Tryz.call80 [0] rfl) (Rf (SV.fn (.func 98) [] [.ptr 0 0]) /\ Rf [Ent.mk (.cells [.v (.string text)] 9) none]) (by kernel_rfl) ?_
 exact ⟨rfl, rfl⟩
theorem ch65 (text : ByteArray) (I : Mem) : CtH Tryz.prog (fnv 80) #[.string text] I Mem.emp (fun v _ G' => ownL text v G') := by
 have h := cs80 text I ⟨fun _ => 0, fun _ => 0, fun _ => false⟩ Mem.emp ⟨fun id x hx => by simp at hx, fun i j x y hx => by simp at hx, fun b hb => absurd rfl hb, fun id x b hx => by simp at hx⟩
 simp only [denL, den] at h;refine CtH.mono h fun v I' G' _ ⟨e', sv, H', hv, hO, hsv, hH⟩ => ?_;subst hsv hH;obtain ⟨hn, c, hc, hcs, hcv⟩ := hO.hold 0 _ rfl rfl
 have e0 : c[0]? = some (.string text) := by have := hcv 0 (.v (.string text)) rfl rfl; simpa [den] using this
 have hsz : c.size = 1 := hcs
 have hceq : c = #[.string text] := by
  apply Array.ext_getElem?;intro i
  match i with
  | 0 => simpa using e0
  | i + 1 => rw [Array.getElem?_eq_none (by omega), Array.getElem?_eq_none (by simp)]
 refine ⟨e'.blk 0, by rw [hv]; simp [den, denL], by rw [hc, hceq], fun k hk => ?_⟩
 cases hq : G' k with
 | none => rfl
 | some o =>
   obtain ⟨id, x, hx, _, _, hb⟩ := hO.dom k (by rw [hq]; simp)
   match id, hx with
   | 0, _ => exact absurd hb.symm hk
def encL (L : List Tx) (k : Nat) (args : Array Value) (_ : Mem) : Prop := ∃ s, L[k]? = some s /\ args = #[.int .i64 ((k : Int) + 1), .string (strT s)]
theorem join_emp (G : Mem) : join G Mem.emp = G := by
 funext b
 cases h : G b with
 | some o => rw [join_some h]
 | none => rw [join_none h]; rfl
theorem split_cut (c : UInt8) : ∀ t : Tx, splitC c t = (cutT c t).1 :: if (cutT c t).2.2 then splitC c (cutT c t).2.1 else [] := by
 intro t;rw [cutT, cut_one]
 induction t with
 | nil => rfl
 | cons b r ih =>
   rw [splitC]
   by_cases h : b = c
   · subst h; simp
   · have h' : ¬ c = b := fun e => h e.symm
     rw [if_neg h, ih];simp [h, h']
theorem cut_len (c : UInt8) (t : Tx) : (cutT c t).1.length <= t.length /\ (cutT c t).2.1.length <= t.length /\ ((cutT c t).2.2 = true -> (cutT c t).2.1.length < t.length) := by
 rw [cutT, cut_one];obtain ⟨g1, g2⟩ := tw_take (· ≠ c) t;have h1 := (List.takeWhile_prefix (p := (· ≠ c)) (l := t)).length_le;have h2 := (List.dropWhile_suffix (p := (· ≠ c)) (l := t)).length_le;refine ⟨h1, ?_, fun h => ?_⟩
 · simp only [List.length_drop]; omega
 · have hc : c ∈ t := by simpa using h
   have : t.dropWhile (· ≠ c) ≠ [] := fun e => by
    have h3 := List.takeWhile_append_dropWhile (p := (· ≠ c)) (l := t);rw [e, List.append_nil] at h3;rw [<- h3] at hc;have := List.all_eq_true.1 (List.all_takeWhile (p := (· ≠ c)) (l := t)) c hc;simp at this
   have := List.length_pos_iff.2 this
   simp only [List.length_drop]; omega
theorem split_len (c : UInt8) (t : Tx) : (splitC c t).length <= t.length + 1 /\ ∀ x ∈ splitC c t, x.length <= t.length := by
 refine ⟨by rw [<- count_splitC]; have := List.count_le_length (a := c) (l := t); omega, ?_⟩
 have main : ∀ (n : Nat) (t : Tx), t.length <= n -> ∀ x ∈ splitC c t, x.length <= t.length := by
  intro n
  induction n with
  | zero =>
    intro t ht x hx
    have : t = [] := List.eq_nil_of_length_eq_zero (by omega)
    subst this
    simp [splitC] at hx; subst hx; simp
  | succ n ih =>
    intro t ht x hx;obtain ⟨h1, h2, h3⟩ := cut_len c t;rw [split_cut] at hx
    rcases List.mem_cons.1 hx with rfl | hx
    · exact h1
    · split at hx
      · rename_i hm
        have := ih _ (by have := h3 hm; omega) x hx
        omega
      · cases hx
 exact main _ t (Nat.le_refl _)
set_option maxHeartbeats 1000000 in
theorem gives77 (text : ByteArray) (ht : text.size <= 10000000) (fv : Value) (I G0 : Mem) (hG : Globs I) (h0 : ownL text fv G0) :
 GivesR Tryz.prog fv I (splitC 10 (tx text)).length (encL (splitC 10 (tx text))) (ownL text fv) (fun _ _ => True) := by
 obtain ⟨b0, hfv, _, _⟩ := h0;subst hfv;refine ⟨fun Y W => ⟨98, _, run_semV_func.trans (Tryz.call98 _ _)⟩, fun Y J D I0 Gc Gr hI0 hJ0 hR0 hap hJ hD hY => ?_⟩;obtain ⟨b, hb, hGb, hGk⟩ := hR0;simp only [Value.func.injEq, true_and] at hb
 have hbb : b0 = b := by simpa using hb
 subst hbb
 obtain ⟨WI, hWI⟩ : ∃ f : Mem -> Mem -> Int -> Bool -> ByteArray -> Prop, f = fun I' G' n m s => ∃ k : Nat, n = (k : Int) + 1 /\ k <= (splitC 10 (tx text)).length /\ (splitC 10 (tx text)).drop k = (if m then splitC 10 (tx s) else []) /\ s.size <= text.size /\ J k I' G' := ⟨_, rfl⟩
 have hO : OwnE ⟨fun _ => b0, fun _ => 0, fun _ => false⟩ [⟨.cells [.v (.string text)] 9, some b0⟩] Gr := by
  refine ⟨fun id x hx hal => ?_, fun i j x y hi hj _ _ _ _ hij => ?_, fun k hk => ?_, fun id x k hx hnm => ?_⟩
  · match id, hx with
    | 0, hx =>
      cases hx;refine ⟨rfl, _, hGb, rfl, fun k sv hk hj => ?_⟩
      match k, hk with
      | 0, hk => cases hk; simp [den]
  · match i, j, hi, hj with
    | 0, 0, _, _ => exact absurd rfl hij
  · by_cases hkb : k = b0
    · exact ⟨0, _, rfl, rfl, rfl, hkb.symm⟩
    · exact absurd (hGk k hkb) hk
  · match id, hx with
    | 0, hx => cases hx; cases hnm; exact ⟨rfl, rfl⟩
 refine viaR (ctGS_via (A := { loops := [(1, ⟨[(0, .keep), (1, .keep), (3, .sh (.int .i64)), (4, .sh .bool)], [(0, .cells [.sh .str])], [], fun vals _ I' G' => match vals with | [.int .i64 n, .bool m, .string s] => WI I' G' n m s | _ => False, fun vals _ => match vals with | [_, .bool m, .string s] => if m then s.size + 1 else 0 | _ => 0⟩)], calls := [(18, .g)] }) Tryz.func98 rfl Tryz.call98 (sargs := [.v Y, .ptr 0 0]) hO hap (by simp [denL, den]) rfl) ((Rf (SV.v Y) /\ Rf (SV.ptr 0 0) /\ Rf (some b0) /\ WI I0 Gc 1 true text) /\ ∀ (a G : Mem), Mem.le I0 a -> ∀ (n : Int) (b : Bool) (q : ByteArray), WI a G n b q -> Br b (Ct Tryz.prog (fnv 99) #[.string q, .string ⟨#[10]⟩] a (fun v c => ∃ d e f, v = .tuple #[.string d, .string e, .bool f] /\ CtH Tryz.prog Y #[.int .i64 n, .string d] c G fun g h i => ∃ j, g = .bool j /\ Br (!j) (∃ k l, i = join k l /\ (∀ (m : Nat), k m = none \/ l m = none) /\ (J (splitC (UInt8.ofNat 10) (tx text)).length h k /\ True \/ D h k)) (Wr .i64 (n + 1) (fun k => Rf (SV.v Y) /\ Rf (SV.ptr 0 0) /\ Rf (some b0) /\ WI h i k f e /\ (match [Value.int IntKind.i64 k, Value.bool f, Value.string e] with
  | [head, Value.bool m, Value.string s] => if m = true then ByteArray.size s + (1 : Nat) else (0 : Nat)
  | x => (0 : Nat)) < (match [Value.int IntKind.i64 n, Value.bool b, Value.string q] with
  | [head, Value.bool m, Value.string s] => if m = true then ByteArray.size s + (1 : Nat) else (0 : Nat)
  | x => (0 : Nat)))))) (∃ c d, G = join c d /\ (∀ (e : Nat), c e = none \/ d e = none) /\ (J (splitC (UInt8.ofNat 10) (tx text)).length a c /\ True \/ D a c))) (by kernel_rfl) ?_
 obtain ⟨hL1, hL2⟩ := split_len 10 (tx text);have htl : (tx text).length = text.size := Array.length_toList
 refine ⟨⟨rfl, rfl, rfl, by rw [hWI]; exact ⟨0, rfl, Nat.zero_le _, rfl, Nat.le_refl _, hJ0⟩⟩, fun a G la n m q hq => ?_⟩
 rw [hWI] at hq;obtain ⟨k, hn, hk, hl, hsz, hJk⟩ := hq;refine Br.mk (fun h => ?_) (fun h => ?_)
 · subst h
   rw [if_pos rfl, split_cut 10 (tx q)] at hl;have hql : (tx q).length = q.size := Array.length_toList;obtain ⟨c1, c2, c3⟩ := cut_len 10 (tx q)
   refine (ct99 10 q (by omega) a (hG.mono (Mem.le_trans hI0 la))).mono fun v c lc hv => ⟨_, _, _, hv, ?_⟩
   have hlt : k < (splitC 10 (tx text)).length := by
    rcases Nat.lt_or_ge k (splitC 10 (tx text)).length with hk2 | hk2
    · exact hk2
    · rw [List.drop_eq_nil_of_le hk2] at hl; cases hl
   have hdrop := List.drop_eq_getElem_cons hlt;rw [hdrop] at hl;simp only [List.cons.injEq] at hl
   have hg : (splitC 10 (tx text))[k]? = some (cutT 10 (tx q)).1 := by rw [List.getElem?_eq_getElem hlt, hl.1]
   refine CtH.mono (hY k c G _ hlt (Mem.le_trans la lc) (hJ k _ _ G hJk lc) ⟨_, hg, by rw [hn]⟩) fun g h i lg hf => ?_
   rcases hf with ⟨hv, hJ2⟩ | ⟨hv, hD2⟩
   · refine ⟨true, hv, Br.f rfl (wr_i64 (by omega) (by omega) ⟨rfl, rfl, rfl, ?_, ?_⟩)⟩
     · rw [hWI]
       exact ⟨k + 1, by omega, by omega, hl.2, by rw [strT_size]; omega, hJ2⟩
     · simp only [if_true]
       split
       · rename_i hm
         rw [strT_size];have := c3 hm;omega
       · omega
   · exact ⟨false, hv, Br.t rfl ⟨i, Mem.emp, (join_emp _).symm, fun l => .inr rfl, .inr hD2⟩⟩
 · subst h
   rw [if_neg (by simp)] at hl
   have : k = (splitC 10 (tx text)).length := by
    have := List.drop_eq_nil_iff.1 hl;omega
   rw [this] at hJk;exact ⟨G, Mem.emp, (join_emp _).symm, fun l => .inr rfl, .inl ⟨hJk, trivial⟩⟩
theorem flat_at {α : Type} {f : α -> List Value} {n : Nat} (hf : ∀ a, (f a).length = n) : ∀ {l : List α} {k : Nat} {a : α}, l[k]? = some a -> ∀ i, i < n -> (l.flatMap f)[k * n + i]? = (f a)[i]?
 | [], k, a, h, i, hi => by simp at h
 | x :: r, 0, a, h, i, hi => by
   simp only [List.getElem?_cons_zero, Option.some.injEq] at h;subst h
   rw [List.flatMap_cons, Nat.zero_mul, Nat.zero_add, List.getElem?_append_left (by rw [hf]; exact hi)]
 | x :: r, k + 1, a, h, i, hi => by
   have ih := flat_at hf (l := r) (k := k) (a := a) (by simpa using h) i hi
   rw [List.flatMap_cons, List.getElem?_append_right (by rw [hf, Nat.add_mul]; omega), hf, show (k + 1) * n + i - n = k * n + i by rw [Nat.add_mul]; omega, ih]
theorem srcV_len (x : Src) : (srcV x).length = 7 := rfl
theorem mkV_len (x : Mk) : (mkV x).length = 3 := rfl
theorem srcs_at {l : List Src} {k : Nat} {x : Src} (h : l[k]? = some x) (i : Nat) (hi : i < 7) : (srcsV l)[k * 7 + i]? = (srcV x)[i]? := flat_at srcV_len h i hi
theorem mks_at {l : List Mk} {k : Nat} {x : Mk} (h : l[k]? = some x) (i : Nat) (hi : i < 3) : (mksV l)[k * 3 + i]? = (mkV x)[i]? := flat_at mkV_len h i hi
theorem splice_src {l : List Src} {k : Nat} {x : Src} (h : l[k]? = some x) (n : Int) : splice (srcsV l) (k * 7 + 0 + 4) [.int .i64 n] = srcsV (l.take k ++ putN x n :: l.drop (k + 1)) := by
 have hlt : k < l.length := (List.getElem?_eq_some_iff.1 h).1;have hx : l[k] = x := (List.getElem?_eq_some_iff.1 h).2
 have hl : l = l.take k ++ x :: l.drop (k + 1) := by
  conv => lhs; rw [<- List.take_append_drop k l]
  rw [List.drop_eq_getElem_cons hlt, hx]
 have e : srcsV l = srcsV (l.take k) ++ (srcV x ++ srcsV (l.drop (k + 1))) := by
  conv => lhs; rw [hl]
  simp [srcsV]
 have hk : (srcsV (l.take k)).length = k * 7 := by rw [srcsV_len, List.length_take, Nat.min_eq_left (by omega)]
 rw [e]
 show (srcsV (l.take k) ++ (srcV x ++ srcsV (l.drop (k + 1)))).set (k * 7 + 0 + 4) (.int .i64 n) = _
 rw [List.set_append, if_neg (by omega), hk, show k * 7 + 0 + 4 - k * 7 = 4 by omega]
 simp [srcsV, srcV, insV, putN]
def EndN (r : Rd) (xs : List Value) (j : Int) : Prop := 0 <= j /\ j <= r.ss.length /\ xs = srcsV ((r.ss.take j.toNat).map (setTo r.ms) ++ r.ss.drop j.toNat) /\ ∀ x ∈ r.ss.take j.toNat, lostB r.ms x = false
set_option maxHeartbeats 4000000 in
theorem cs82 (r : Rd) (hr : okRd r) (hk : ∀ x ∈ r.ss, okI x.ins /\ i64N x.line) (ha : ∀ m ∈ r.ms, i64N m.at_ /\ i64N m.line) (b b0 clk : Nat) (es : Array MapEntry) (hm : MapI es r.ms) (I : Mem) :
 CtS Tryz.prog (.v (fnv 82)) [.ptr 0 0] (rdH r b es clk (some b0)) I (fun sv H' _ => sv = .tup [.v (.int .i64 (endA r).1), .v (.int .i64 (endA r).2)] /\ ∃ ss', ss'.length = r.ss.length /\ ((endA r).2 = 0 -> ss' = r.ss.map (setTo r.ms)) /\ H' = rdH ⟨r.ms, ss'⟩ b es clk (some b0)) := by
 obtain ⟨Q, hQ⟩ : ∃ q : SV -> List Ent -> Prop, q = fun sv H' => sv = .tup [.v (.int .i64 (endA r).1), .v (.int .i64 (endA r).2)] /\ ∃ ss', ss'.length = r.ss.length /\ ((endA r).2 = 0 -> ss' = r.ss.map (setTo r.ms)) /\ H' = rdH ⟨r.ms, ss'⟩ b es clk (some b0) := ⟨_, rfl⟩
 rw [show (fun (sv : SV) (H' : List Ent) (_ : Mem) => sv = .tup [.v (.int .i64 (endA r).1), .v (.int .i64 (endA r).2)] /\ ∃ ss', ss'.length = r.ss.length /\ ((endA r).2 = 0 -> ss' = r.ss.map (setTo r.ms)) /\ H' = rdH ⟨r.ms, ss'⟩ b es clk (some b0)) = fun sv H' _ => Q sv H' from by rw [hQ]]
 obtain ⟨xm, hxm⟩ : ∃ x, x = mksV r.ms := ⟨_, rfl⟩;obtain ⟨xs, hxs⟩ : ∃ x, x = srcsV r.ss := ⟨_, rfl⟩;obtain ⟨N, hN⟩ : ∃ f, f = EndN r := ⟨_, rfl⟩;obtain ⟨M, hM⟩ : ∃ f : Int -> Prop, f = fun j : Int => 0 <= j /\ j <= r.ms.length /\ ∀ m ∈ r.ms.take j.toNat, m.at_ ≠ (r.ss.length : Int) := ⟨_, rfl⟩;rw [rdH, <- hxm, <- hxs]
 refine viaR (ctS_via (A := { loops := [(4, ⟨[(0, .keep), (21, .keep), (22, .sh (.int .i64))], [(0, .cells [.keep, .row 2, .keep]), (1, .keep), (2, .row), (3, .keep)], [], fun vals xss _ _ => match vals, xss with | [.int .i64 j], [ys] => N ys j | _, _ => False, fun vals _ => match vals with | [.int .i64 j] => (r.ss.length - j).toNat | _ => 0⟩), (14, ⟨[(0, .keep), (70, .keep), (71, .keep), (72, .sh (.int .i64))], [(0, .keep), (1, .keep), (2, .keep), (3, .keep)], [], fun vals _ _ _ => match vals with | [.int .i64 j] => M j | _ => False, fun vals _ => match vals with | [.int .i64 j] => (r.ms.length - j).toNat | _ => 0⟩)] }) Tryz.func82 rfl Tryz.call82 [0, 1, 2, 3] rfl) (let E3 := fun (x : List Value) => [⟨.cells [.rsl 1 r.ms.length, .rsl 2 (x.length / 7), .v (.map (some b))] 102, some b0⟩, ⟨.row xm 3 112, none⟩, ⟨.row x 7 104, none⟩, ⟨.raw (.map es clk), some b⟩]
  let E4 := fun (x : Int) (a : List Value) => Wr .i64 (x + 1) fun c => Rf (Ent.mk (.row xm 3 112) none) /\ Rf (Ent.mk (.raw (.map es clk)) (some b)) /\ Rf (SV.ptr 0 0) /\ Rf (SV.v (.int .i64 (r.ss.length : Int))) /\ Rf (some b0) /\ Rf (SV.rsl 1 r.ms.length) /\ Rf (a.length / 7) /\ Rf (SV.v (.map (some b))) /\ N a c /\ Int.toNat ((r.ss.length : Int) - c) < Int.toNat ((r.ss.length : Int) - x)
  let E2 := fun (x : List Value) (a : Int) (c : Int) => ∃ q, x[a.toNat * 7 + 6 + 0]? = some (.string q) /\ Br (!(q.toList == (ByteArray.mk #[]).toList)) (a.toNat * 7 + 0 + 4 + 1 <= x.length /\ (0 : Nat) < 1 /\ Wr .i64 (a + 1) fun d => Rf (Ent.mk (.row xm 3 112) none) /\ Rf (Ent.mk (.raw (.map es clk)) (some b)) /\ Rf (SV.ptr 0 0) /\ Rf (SV.v (.int .i64 (r.ss.length : Int))) /\ Rf (some b0) /\ Rf (SV.rsl 1 r.ms.length) /\ x.length / 7 = (splice x (a.toNat * 7 + 0 + 4) [.int .i64 c]).length / 7 /\ Rf (SV.v (.map (some b))) /\ N (splice x (a.toNat * 7 + 0 + 4) [.int .i64 c]) d /\ Int.toNat ((r.ss.length : Int) - d) < Int.toNat ((r.ss.length : Int) - a)) (E4 a x)
  let E1 := fun (x : List Value) (a : Int) => ∃ q, x[a.toNat * 7 + 6 + 0]? = some (.string q) /\ b = b /\ true = true /\ (∃ c, findM .string (.string q) es = some c) /\ (∀ (i : Nat) (v : Value), findM .string (.string q) es = some (some (i, v)) -> ∃ n, v = .int .i64 n /\ ∃ c, x[a.toNat * 7 + 6 + 0]? = some (.string c) /\ Br (!(c.toList == (ByteArray.mk #[]).toList)) (E2 x a n) (E2 x a n)) /\ (findM .string (.string q) es = some none -> ∃ c, x[a.toNat * 7 + 6 + 0]? = some (.string c) /\ Br (!(c.toList == (ByteArray.mk #[]).toList)) (∃ n, x[a.toNat * 7 + 5 + 0]? = some (.int .i64 n) /\ Q (.tup [.v (.int .i64 n), .v (.int .i64 155)]) (E3 x)) (∃ d, x[a.toNat * 7 + 6 + 0]? = some (.string d) /\ Br (!(d.toList == (ByteArray.mk #[]).toList)) (a.toNat * 7 + 0 + 4 + 1 <= x.length /\ (0 : Nat) < 1 /\ Wr .i64 (a + 1) fun e => Rf (Ent.mk (.row xm 3 112) none) /\ Rf (Ent.mk (.raw (.map es clk)) (some b)) /\ Rf (SV.ptr 0 0) /\ Rf (SV.v (.int .i64 (r.ss.length : Int))) /\ Rf (some b0) /\ Rf (SV.rsl 1 r.ms.length) /\ x.length / 7 = (splice x (a.toNat * 7 + 0 + 4) [.int .i64 0]).length / 7 /\ Rf (SV.v (.map (some b))) /\ N (splice x (a.toNat * 7 + 0 + 4) [.int .i64 0]) e /\ Int.toNat ((r.ss.length : Int) - e) < Int.toNat ((r.ss.length : Int) - a)) (E4 a x)))
  Br (decide (256 < (r.ss.length : Int))) (Q (.tup [.v (.int .i64 0), .v (.int .i64 5)]) [⟨.cells [.rsl 1 r.ms.length, .rsl 2 r.ss.length, .v (.map (some b))] 102, some b0⟩, ⟨.row xm 3 112, none⟩, ⟨.row xs 7 104, none⟩, ⟨.raw (.map es clk), some b⟩]) ((Rf (Ent.mk (.row xm 3 112) none) /\ Rf (Ent.mk (.raw (.map es clk)) (some b)) /\ Rf (SV.ptr 0 0) /\ Rf (SV.v (.int .i64 (r.ss.length : Int))) /\ Rf (some b0) /\ Rf (SV.rsl 1 r.ms.length) /\ r.ss.length = xs.length / 7 /\ Rf (SV.v (.map (some b))) /\ N xs 0) /\ ∀ (a : Mem), Mem -> I.le a -> ∀ (x : List Value) (n : Int), N x n -> Br (decide (n < (r.ss.length : Int))) (0 <= n /\ n < ((x.length / 7 : Nat) : Int) /\ x.length / 7 * 7 <= x.length /\ ((E1 x n /\ E1 x n /\ E1 x n /\ E1 x n) /\ (E1 x n /\ E1 x n /\ E1 x n) /\ (E1 x n /\ E1 x n) /\ E1 x n) /\ ((E1 x n /\ E1 x n /\ E1 x n) /\ (E1 x n /\ E1 x n) /\ E1 x n) /\ ((E1 x n /\ E1 x n) /\ E1 x n) /\ E1 x n) ((Rf (Ent.mk (.cells [.rsl 1 r.ms.length, .rsl 2 (x.length / 7), .v (.map (some b))] 102) (some b0)) /\ Rf (Ent.mk (.row xm 3 112) none) /\ Rf (Ent.mk (.row x 7 104) none) /\ Rf (Ent.mk (.raw (.map es clk)) (some b)) /\ Rf (SV.ptr 0 0) /\ Rf (SV.rsl 1 r.ms.length) /\ Rf (SV.v (.int .i64 (r.ms.length : Int))) /\ M 0) /\ ∀ (c : Mem), Mem -> a.le c -> ∀ (d : Int), M d -> Br (decide (d < (r.ms.length : Int))) (0 <= d /\ d < (r.ms.length : Int) /\ r.ms.length * 3 <= xm.length /\ (3 : Nat) = 3 /\ ∃ q, xm[d.toNat * 3 + 0]? = some (.string q) /\ ∃ e, xm[d.toNat * 3 + 1]? = some (.int .i64 e) /\ ∃ f, xm[d.toNat * 3 + 2]? = some (.int .i64 f) /\ Br (e == ((x.length / 7 : Nat) : Int)) (Q (.tup [.v (.int .i64 f), .v (.int .i64 156)]) (E3 x)) (Wr .i64 (d + 1) (fun g => Rf (Ent.mk (.cells [.rsl 1 r.ms.length, .rsl 2 (x.length / 7), .v (.map (some b))] 102) (some b0)) /\ Rf (Ent.mk (.row xm 3 112) none) /\ Rf (Ent.mk (.row x 7 104) none) /\ Rf (Ent.mk (.raw (.map es clk)) (some b)) /\ Rf (SV.ptr 0 0) /\ Rf (SV.rsl 1 r.ms.length) /\ Rf (SV.v (.int .i64 (r.ms.length : Int))) /\ M g /\ Int.toNat ((r.ms.length : Int) - g) < Int.toNat ((r.ms.length : Int) - d)))) (Br (((x.length / 7 : Nat) : Int) == 0) (Q (.tup [.v (.int .i64 0), .v (.int .i64 6)]) (E3 x)) (Wr .i64 (((x.length / 7 : Nat) : Int) - 1) (fun e => 0 <= e /\ e < ((x.length / 7 : Nat) : Int) /\ x.length / 7 * 7 <= x.length /\ (5 : Nat) = 5 /\ ∃ f, x[e.toNat * 7 + 0 + 0]? = some (.int .u8 f) /\ ∃ g, x[e.toNat * 7 + 0 + 1]? = some (.int .u8 g) /\ ∃ h, x[e.toNat * 7 + 0 + 2]? = some (.int .u8 h) /\ ∃ i, x[e.toNat * 7 + 0 + 3]? = some (.int .u8 i) /\ ∃ j, x[e.toNat * 7 + 0 + 4]? = some (.int .i64 j) /\ Ct Tryz.prog (fnv 73) #[.agg #[.int .u8 f, .int .u8 g, .int .u8 h, .int .u8 i, .int .i64 j]] c fun v k => ∃ l, v = .bool l /\ Br l (Wr .i64 (((x.length / 7 : Nat) : Int) - 1) (fun m => 0 <= m /\ m < ((x.length / 7 : Nat) : Int) /\ x.length / 7 * 7 <= x.length /\ ∃ o, x[m.toNat * 7 + 5 + 0]? = some (.int .i64 o) /\ Q (.tup [.v (.int .i64 o), .v (.int .i64 143)]) (E3 x))) (Q (.tup [.v (.int .i64 0), .v (.int .i64 0)]) (E3 x)))))))) (by kernel_rfl) ?_
 intro E3 E4 E2 E1;have hsl := srcsV_len r.ss;have hml := mksV_len r.ms
 have hE0 : ∀ (ss' : List Src) (x : List Value), x = srcsV ss' -> E3 x = rdH ⟨r.ms, ss'⟩ b es clk (some b0) := fun ss' x hx => by
  have hl : x.length / 7 = ss'.length := by rw [hx, srcsV_len]; omega
  show [_, _, _, _] = _
  rw [rdH, hl, hx, hxm]
 have hin := hr.ss;have him := hr.ms;refine Br.mk (fun h1 => ?_) (fun h1 => ⟨⟨rfl, rfl, rfl, rfl, rfl, rfl, ?_, rfl, ?_⟩, fun a G la x n hn => ?_⟩)
 · have h1 := of_decide_eq_true h1
   have e : endA r = (0, 5) := by rw [endA, if_pos (by omega)]
   rw [hQ, e]
   exact ⟨rfl, r.ss, rfl, fun hh => by simp at hh, by rw [rdH, hxm, hxs]⟩
 · rw [hxs, hsl]; omega
 · rw [hN]
   exact ⟨Int.le_refl _, Int.natCast_nonneg _, by rw [hxs]; simp, by simp⟩
 have h1 := of_decide_eq_false h1
 have hend : endA r = (match r.ss.find? (lostB r.ms) with
  | some x => (x.line, 155)
  | none => match r.ms.find? fun m => decide (m.at_ = (r.ss.length : Int)) with
    | some m => (m.line, 156)
    | none => match (r.ss.map (setTo r.ms)).getLast? with
      | none => (0, 6)
      | some x => if goesB x.ins then (x.line, 143) else (0, 0)) := by rw [endA, if_neg (by omega)] <;> rfl
 rw [hN] at hn;obtain ⟨h2, h3, h4, h5⟩ := hn;obtain ⟨L, hL⟩ : ∃ L, L = (r.ss.take n.toNat).map (setTo r.ms) ++ r.ss.drop n.toNat := ⟨_, rfl⟩;rw [<- hL] at h4
 have hLl : L.length = r.ss.length := by rw [hL, List.length_append, List.length_map, List.length_take, List.length_drop]; omega
 have hxl : x.length = r.ss.length * 7 := by rw [h4, srcsV_len, hLl]
 have hx7 : x.length / 7 = r.ss.length := by omega
 refine Br.mk (fun h6 => ?_) (fun h6 => ?_)
 · have h6 := of_decide_eq_true h6
   obtain ⟨y, hy⟩ : ∃ y, r.ss[n.toNat]? = some y := ⟨_, List.getElem?_eq_getElem (by omega)⟩
   have hyo := hk y (List.mem_of_getElem? hy)
   have htk : ((r.ss.take n.toNat).map (setTo r.ms)).length = n.toNat := by rw [List.length_map, List.length_take]; omega
   have hLy : L[n.toNat]? = some y := by
    rw [hL, List.getElem?_append_right (by omega), htk, Nat.sub_self, List.getElem?_drop, Nat.add_zero, hy]
   have htar : x[n.toNat * 7 + 6 + 0]? = some (.string (strT y.target)) := by rw [h4]; exact srcs_at hLy 6 (by omega)
   have hlin : x[n.toNat * 7 + 5 + 0]? = some (.int .i64 y.line) := by rw [h4]; exact srcs_at hLy 5 (by omega)
   have hemp : (!(strT y.target).toList == (⟨#[]⟩ : ByteArray).toList) = decide (y.target ≠ []) := by
    rw [str_eq]
    by_cases hh : y.target = []
    · rw [hh]; rfl
    · rw [decide_eq_false (fun e => hh (by have := congrArg tx e; rwa [tx_strT] at this)), decide_eq_true hh]; rfl
   have htk1 : (n + 1).toNat = n.toNat + 1 := by omega
   have htake : r.ss.take (n + 1).toNat = r.ss.take n.toNat ++ [y] := by rw [htk1, List.take_add_one, hy]; rfl
   have hdrop : r.ss.drop n.toNat = y :: r.ss.drop (n + 1).toNat := by
    rw [htk1, List.drop_eq_getElem_cons (by omega)]
    congr 1
    rw [List.getElem?_eq_getElem (by omega)] at hy
    exact Option.some.inj hy
   have next : ∀ (z : List Value) (y' : Src), y' = setTo r.ms y -> lostB r.ms y = false -> z = srcsV (L.take n.toNat ++ y' :: L.drop (n.toNat + 1)) -> N z (n + 1) := fun z y' hy' hlost hz => by
    rw [hN]
    refine ⟨by omega, by omega, ?_, fun w hw => ?_⟩
    · rw [hz]
      congr 1
      have hLt : L.take n.toNat = (r.ss.take n.toNat).map (setTo r.ms) := by rw [hL, List.take_left' htk]
      have hLd : L.drop (n.toNat + 1) = r.ss.drop (n.toNat + 1) := by rw [hL, <- List.drop_drop, List.drop_left' htk, List.drop_drop]
      rw [hLt, hLd, htake, List.map_append, hy', htk1]
      simp
    · rw [htake] at hw
      rcases List.mem_append.1 hw with hw | hw
      · exact h5 w hw
      · simp only [List.mem_cons, List.not_mem_nil, or_false] at hw
        rw [hw]; exact hlost
   have hLsplit : L = L.take n.toNat ++ y :: L.drop (n.toNat + 1) := by
    have hlt : n.toNat < L.length := by omega
    conv => lhs; rw [<- List.take_append_drop n.toNat L]
    rw [List.drop_eq_getElem_cons hlt]
    congr 2
    rw [List.getElem?_eq_getElem hlt] at hLy;exact Option.some.inj hLy
   have keep : y.target = [] -> E4 n x := fun ht =>
    wr_i64 (by omega) (by omega) ⟨rfl, rfl, rfl, rfl, rfl, rfl, rfl, rfl, next x y (by rw [setTo, if_pos ht]) (by rw [lostB, ht]; rfl) (by rw [<- hLsplit]; exact h4), by omega⟩
   have put : y.target ≠ [] -> hasMk r.ms y.target = true -> (n.toNat * 7 + 0 + 4 + 1 <= x.length /\ 0 < 1 /\ Wr .i64 (n + 1) fun d => Rf (Ent.mk (.row xm 3 112) none) /\ Rf (Ent.mk (.raw (.map es clk)) (some b)) /\ Rf (SV.ptr 0 0) /\ Rf (SV.v (.int .i64 (r.ss.length : Int))) /\ Rf (some b0) /\ Rf (SV.rsl 1 r.ms.length) /\ x.length / 7 = (splice x (n.toNat * 7 + 0 + 4) [.int .i64 (atMk r.ms y.target)]).length / 7 /\ Rf (SV.v (.map (some b))) /\ N (splice x (n.toNat * 7 + 0 + 4) [.int .i64 (atMk r.ms y.target)]) d /\ ((r.ss.length : Int) - d).toNat < ((r.ss.length : Int) - n).toNat) := fun ht hh => by
    have hs := splice_src hLy (atMk r.ms y.target);rw [<- h4] at hs
    refine ⟨by omega, by omega, wr_i64 (by omega) (by omega) ⟨rfl, rfl, rfl, rfl, rfl, rfl, ?_, rfl, next _ (putN y (atMk r.ms y.target)) (by rw [setTo, if_neg ht]; rfl) (by rw [lostB, hh]; simp) hs, by omega⟩⟩
    rw [hs, srcsV_len, hx7, List.length_append, List.length_cons, List.length_take, List.length_drop]; omega
   have main : E1 x n := by
    refine ⟨_, htar, rfl, rfl, ?_, fun i v hf => ?_, fun hf => ⟨_, htar, ?_⟩⟩
    · cases hh : hasMk r.ms y.target with
      | false => exact ⟨_, findM_none hm hh⟩
      | true => obtain ⟨k, hk⟩ := findM_some hm hh; exact ⟨_, hk⟩
    · cases hh : hasMk r.ms y.target with
      | false => rw [findM_none hm hh] at hf; cases hf
      | true =>
        obtain ⟨k, hkk⟩ := findM_some hm hh;rw [hkk] at hf;simp only [Option.some.injEq, Prod.mk.injEq] at hf
        have e2 : E2 x n (atMk r.ms y.target) := by
         refine ⟨_, htar, ?_⟩;rw [hemp]
         exact Br.mk (fun h7 => put (of_decide_eq_true h7) hh) (fun h7 => keep (by simpa using h7))
        exact ⟨_, hf.2.symm, _, htar, Br.mk (fun _ => e2) (fun _ => e2)⟩
    · have hh : hasMk r.ms y.target = false := by
       cases hh : hasMk r.ms y.target with
       | false => rfl
       | true => obtain ⟨k, hkk⟩ := findM_some hm hh; rw [hkk] at hf; cases hf
      rw [hemp];refine Br.mk (fun h7 => ⟨_, hlin, ?_⟩) (fun h7 => ⟨_, htar, ?_⟩)
      · have h7 := of_decide_eq_true h7
        have hlost : lostB r.ms y = true := by rw [lostB, hh, decide_eq_true h7]; rfl
        have hfind : r.ss.find? (lostB r.ms) = some y := by
         rw [<- List.take_append_drop n.toNat r.ss, List.find?_append, List.find?_eq_none.2 (fun w hw => by rw [h5 w hw]; simp), hdrop, Option.none_or, List.find?_cons, hlost]
        rw [hQ, hend, hfind]
        exact ⟨rfl, L, hLl, fun hh => by simp at hh, hE0 L x h4⟩
      · rw [hemp]
        have h7 : y.target = [] := by simpa using h7
        exact Br.f (by simpa using h7) (keep h7)
   exact ⟨h2, by omega, by omega, ⟨⟨main, main, main, main⟩, ⟨main, main, main⟩, ⟨main, main⟩, main⟩, ⟨⟨main, main, main⟩, ⟨main, main⟩, main⟩, ⟨⟨main, main⟩, main⟩, main⟩
 · have h6 := of_decide_eq_false h6
   have hLa : L = r.ss.map (setTo r.ms) := by rw [hL, List.take_of_length_le (by omega), List.drop_eq_nil_of_le (by omega), List.append_nil]
   have hnone : r.ss.find? (lostB r.ms) = none := List.find?_eq_none.2 fun w hw => by
    rw [h5 w (by rw [List.take_of_length_le (by omega)]; exact hw)]; simp
   rw [hnone] at hend
   simp only at hend
   refine ⟨⟨rfl, rfl, rfl, rfl, rfl, rfl, rfl, by rw [hM]; exact ⟨Int.le_refl _, Int.natCast_nonneg _, by simp⟩⟩, fun c G2 lc d hd => ?_⟩
   rw [hM] at hd ⊢;obtain ⟨g1, g2, g3⟩ := hd;refine Br.mk (fun h7 => ?_) (fun h7 => ?_)
   · have h7 := of_decide_eq_true h7
     obtain ⟨m, hmm⟩ : ∃ m, r.ms[d.toNat]? = some m := ⟨_, List.getElem?_eq_getElem (by omega)⟩
     have e0 : xm[d.toNat * 3 + 0]? = some (.string (strT m.name)) := by rw [hxm]; exact mks_at hmm 0 (by omega)
     have e1 : xm[d.toNat * 3 + 1]? = some (.int .i64 m.at_) := by rw [hxm]; exact mks_at hmm 1 (by omega)
     have e2 : xm[d.toNat * 3 + 2]? = some (.int .i64 m.line) := by rw [hxm]; exact mks_at hmm 2 (by omega)
     have htake : r.ms.take (d + 1).toNat = r.ms.take d.toNat ++ [m] := by rw [show (d + 1).toNat = d.toNat + 1 by omega, List.take_add_one, hmm]; rfl
     refine ⟨g1, h7, by rw [hxm, hml]; omega, rfl, _, e0, _, e1, _, e2, Br.mk (fun h8 => ?_) (fun h8 => ?_)⟩
     · have h8 : m.at_ = (r.ss.length : Int) := by have := eq_of_beq h8; omega
       have hfind : r.ms.find? (fun m => decide (m.at_ = (r.ss.length : Int))) = some m := by
        have hdr : r.ms.drop d.toNat = m :: r.ms.drop (d.toNat + 1) := by
         rw [List.drop_eq_getElem_cons (by omega)]
         congr 1
         rw [List.getElem?_eq_getElem (by omega)] at hmm
         exact Option.some.inj hmm
        rw [<- List.take_append_drop d.toNat r.ms, List.find?_append, List.find?_eq_none.2 (fun w hw => by simpa using g3 w hw), hdr, Option.none_or, List.find?_cons, decide_eq_true h8]
       rw [hQ, hend, hfind]
       exact ⟨rfl, L, hLl, fun hh => by simp at hh, hE0 L x h4⟩
     · have h8 : m.at_ ≠ (r.ss.length : Int) := fun e => by rw [e, hx7] at h8; simp at h8
       refine wr_i64 (by omega) (by omega) ⟨rfl, rfl, rfl, rfl, rfl, rfl, rfl, ⟨by omega, by omega, fun w hw => ?_⟩, by omega⟩
       rw [htake] at hw
       rcases List.mem_append.1 hw with hw | hw
       · exact g3 w hw
       · simp only [List.mem_cons, List.not_mem_nil, or_false] at hw
         rw [hw]; exact h8
   · have h7 := of_decide_eq_false h7
     have hnone2 : r.ms.find? (fun m => decide (m.at_ = (r.ss.length : Int))) = none := List.find?_eq_none.2 fun w hw => by
      simpa using g3 w (by rw [List.take_of_length_le (by omega)]; exact hw)
     rw [hnone2] at hend
     simp only at hend
     refine Br.mk (fun h8 => ?_) (fun h8 => ?_)
     · have h8 : r.ss.length = 0 := by have := eq_of_beq h8; omega
       have hnil : r.ss = [] := List.eq_nil_of_length_eq_zero h8
       have hend2 : endA r = (0, 6) := by rw [hend, hnil]; rfl
       rw [hQ, hend2]
       exact ⟨rfl, L, hLl, fun hh => by simp at hh, hE0 L x h4⟩
     · have h8 : r.ss.length ≠ 0 := fun e => by rw [hx7, e] at h8; simp at h8
       have hlt : ((r.ss.length : Int) - 1).toNat < L.length := by omega
       obtain ⟨y, hy⟩ : ∃ y, L[((r.ss.length : Int) - 1).toNat]? = some y := ⟨_, List.getElem?_eq_getElem hlt⟩
       have hlast : (r.ss.map (setTo r.ms)).getLast? = some y := by
        rw [<- hLa, List.getLast?_eq_getElem?, <- hy]
        congr 1
        omega
       rw [hlast] at hend
       simp only at hend
       have at_ : ∀ i, i < 7 -> x[((r.ss.length : Int) - 1).toNat * 7 + i]? = (srcV y)[i]? := fun i hi => by rw [h4]; exact srcs_at hy i hi
       have hyi : okI y.ins := by
        have hmem : y ∈ r.ss.map (setTo r.ms) := by rw [<- hLa]; exact List.mem_of_getElem? hy
        obtain ⟨z, hz, rfl⟩ := List.mem_map.1 hmem;have hzo := (hk z hz).1;unfold setTo;split
        · exact hzo
        · refine ⟨hzo.op, hzo.a, hzo.b, hzo.c, ?_⟩
          simp only [atMk];split
          · rename_i m hmf; exact (ha m (List.mem_of_find?_eq_some hmf)).1
          · decide
       rw [hx7]
       refine wr_i64 (by omega) (by omega) ⟨by omega, by omega, by omega, rfl, _, at_ 0 (by omega), _, at_ 1 (by omega), _, at_ 2 (by omega), _, at_ 3 (by omega), _, at_ 4 (by omega), (ct73 y.ins hyi c).mono fun v k lk hv => ⟨_, hv, Br.mk (fun h9 => ?_) (fun h9 => ?_)⟩⟩
       · refine wr_i64 (by omega) (by omega) ⟨by omega, by omega, by omega, _, at_ 5 (by omega), ?_⟩
         rw [h9, if_pos rfl] at hend;rw [hQ, hend]
         exact ⟨rfl, L, hLl, fun hh => by simp at hh, hE0 L x h4⟩
       · rw [h9, if_neg (by simp)] at hend
         rw [hQ, hend];exact ⟨rfl, L, hLl, fun _ => hLa, hE0 L x h4⟩
structure RdOk (r : Rd) (k : Nat) : Prop where
 ms : r.ms.length <= k
 ss : r.ss.length <= k
 sok : ∀ x ∈ r.ss, okI x.ins /\ i64N x.line
 mok : ∀ m ∈ r.ms, (0 <= m.at_ /\ m.at_ <= k) /\ i64N m.line
theorem RdOk.mono {r : Rd} {k k' : Nat} (h : RdOk r k) (hk : k <= k') : RdOk r k' := ⟨Nat.le_trans h.ms hk, Nat.le_trans h.ss hk, h.sok, fun m hm => ⟨⟨(h.mok m hm).1.1, by have := (h.mok m hm).1.2; omega⟩, (h.mok m hm).2⟩⟩
theorem numT_rng {t : Tx} {n : Int} (h : numT t = some n) : i64N n := by
 rw [numT_eq] at h
 split at h
 · cases h; exact numP_rng t
 · cases h
theorem regT_rng {t : Tx} {n : Int} (h : regT t = some n) : 0 <= n /\ n <= 7 := by
 unfold regT at h
 split at h
 · split at h
   · rename_i hc
     simp only [Option.some.injEq] at h;omega
   · cases h
 · cases h
theorem putGo_ok : ∀ (fs : Tx) (ts : List Tx) (x : Src) (u : Nat), okI x.ins -> okI (putGo fs ts x u).2.ins /\ (putGo fs ts x u).2.line = x.line
 | [], ts, x, u, h => by rw [putGo_nil]; exact ⟨h, rfl⟩
 | f :: fs, [], x, u, h => by rw [putGo.eq_def]; exact ⟨h, rfl⟩
 | f :: fs, s :: ss, x, u, h => by
   rw [putGo.eq_def]
   simp only
   split
   · split
     · rename_i r hr
       have hr := regT_rng hr;refine putGo_ok fs ss _ _ ?_;unfold putR;split
       · exact ⟨h.op, by simp only; omega, h.b, h.c, h.n⟩
       · exact ⟨h.op, h.a, by simp only; omega, h.c, h.n⟩
       · exact ⟨h.op, h.a, h.b, by simp only; omega, h.n⟩
     · exact ⟨h, rfl⟩
   · split
     · split
       · exact putGo_ok fs ss _ _ h
       · exact ⟨h, rfl⟩
     · split
       · exact ⟨h, rfl⟩
       · rename_i n hn
         split
         · exact ⟨h, rfl⟩
         · exact putGo_ok fs ss _ _ ⟨h.op, h.a, h.b, h.c, numT_rng hn⟩
theorem instrA_ok (l : List Tx) (line : Int) : okI (instrA l line).2.ins /\ (instrA l line).2.line = line := by
 have z : okI ⟨0, 0, 0, 0, 0⟩ := ⟨by decide, by decide, by decide, by decide, by decide⟩
 cases l with
 | nil => exact ⟨z, rfl⟩
 | cons w r =>
   rw [instrA];split
   · exact ⟨z, rfl⟩
   · split
     · exact ⟨z, rfl⟩
     · have := findT_rng w
       exact putGo_ok _ _ _ _ ⟨by simp only; omega, z.a, z.b, z.c, z.n⟩
theorem labelA_ok {r : Rd} {k : Nat} (h : RdOk r k) (name : Tx) {line : Int} (hl : i64N line) : RdOk (labelA r name line).2 (k + 1) /\ (labelA r name line).2.ss = r.ss := by
 unfold labelA;split
 · exact ⟨h.mono (by omega), rfl⟩
 · split
   · exact ⟨h.mono (by omega), rfl⟩
   · refine ⟨⟨by simp; exact h.ms, Nat.le_trans h.ss (by omega), h.sok, fun m hm => ?_⟩, rfl⟩
     rcases List.mem_append.1 hm with hm | hm
     · exact (h.mono (by omega)).mok m hm
     · simp only [List.mem_cons, List.not_mem_nil, or_false] at hm
       subst hm
       exact ⟨⟨Int.natCast_nonneg _, by have := h.ss; simp only; omega⟩, hl⟩
theorem putI_ok {r : Rd} {k : Nat} (h : RdOk r (k + 1)) (hs : r.ss.length <= k) (l : List Tx) {line : Int} (hl : i64N line) : RdOk (putI r l line).2 (k + 1) := by
 unfold putI;split
 · exact h
 · split
   · refine ⟨h.ms, by simp; exact hs, fun x hx => ?_, h.mok⟩
     rcases List.mem_append.1 hx with hx | hx
     · exact h.sok x hx
     · simp only [List.mem_cons, List.not_mem_nil, or_false] at hx
       subst hx;obtain ⟨h1, h2⟩ := instrA_ok l line
       exact ⟨h1, by rw [h2]; exact hl⟩
   · exact h
theorem lineA_ok {r : Rd} {k : Nat} (h : RdOk r k) (s : Tx) {line : Int} (hl : i64N line) : RdOk (lineA r s line).2 (k + 1) := by
 unfold lineA;split
 · exact h.mono (by omega)
 · split
   · rename_i name _
     obtain ⟨h1, h2⟩ := labelA_ok h name hl;split
     · exact h1
     · exact putI_ok h1 (by rw [h2]; exact h.ss) _ hl
   · exact putI_ok (h.mono (by omega)) h.ss _ hl
def RdI (L : List Tx) (k : Nat) (mp xm xs : List Value) : Prop := ∃ r : Rd, MapI (decM mp) r.ms /\ xm = mksV r.ms /\ xs = srcsV r.ss /\ RdOk r k /\ linesA L 1 ⟨[], []⟩ = linesA (L.drop k) ((k : Int) + 1) r
set_option maxHeartbeats 4000000 in
theorem ct50 (text : ByteArray) (ht : text.size <= 10000000) (I : Mem) (hG : Globs I) (P : Value -> Mem -> Prop)
 (hbad : (readA (tx text)).2.1 ≠ 0 -> ∀ I', P (.tuple #[.pointer none, .int .i64 (readA (tx text)).1, .int .i64 (readA (tx text)).2.1]) I')
 (hgood : (readA (tx text)).2.1 = 0 -> ∀ (I' : Mem) (b : Nat) (a1 a2 : Option Addr) (c1 c2 : Nat) (m : Option Nat), I' b = some (.cells #[.slice a1 (readA (tx text)).2.2.ms.length c1, .slice a2 (readA (tx text)).2.2.ss.length c2, .map m] 102) -> SlM I' a1 (readA (tx text)).2.2.ms.length 3 (mksV (readA (tx text)).2.2.ms) -> SlM I' a2 (readA (tx text)).2.2.ss.length 7 (srcsV (readA (tx text)).2.2.ss) -> (∀ x ∈ (readA (tx text)).2.2.ss, okI x.ins) -> (readA (tx text)).2.2.ms.length <= 1000000 /\ (readA (tx text)).2.2.ss.length <= 1000000 -> P (.tuple #[.pointer (some ⟨b, 0, none⟩), .int .i64 0, .int .i64 0]) I') :
 Ct Tryz.prog (fnv 50) #[.string text] I P := by
 obtain ⟨L, hL⟩ : ∃ q, q = splitC 10 (tx text) := ⟨_, rfl⟩;obtain ⟨R0, hR0⟩ : ∃ f, f = ownL text := ⟨_, rfl⟩;obtain ⟨R1, hR1⟩ : ∃ f : Value -> Mem -> Mem -> Prop, f = fun _ _ _ => True := ⟨_, rfl⟩;obtain ⟨XI, hXI⟩ : ∃ f, f = RdI L := ⟨_, rfl⟩;obtain ⟨ZI, hZI⟩ : ∃ f : Int -> Int -> Prop, f = fun n e => e ≠ 0 /\ (linesA L 1 ⟨[], []⟩).1 = e /\ (linesA L 1 ⟨[], []⟩).2.1 = n := ⟨_, rfl⟩
 refine viaR (ct_via (A := { calls := [(18, .g), (24, .lend [1, 5, 6, 0] rdR rdE), (33, .lend [1, 5, 6, 0] (.tup [.sh (.int .i64), .sh (.int .i64)]) rdE)], rfs := [(8, { n := L.length, enc := encL L, ps := [.sh (.int .i64), .sh .str], pre := [(16, 3, 112), (16, 1007, 104)], ents := [(0, .mp), (1, .cells [.row 5, .row 6, .keep]), (2, .keep), (3, .keep), (4, .keep), (5, .row), (6, .row)], inv := (fun k _ xss _ _ => match xss with | [mp, xm, xs] => XI k mp xm xs | _ => False), jumps := [(.exit 0, [(3, .cells [.sh (.int .i64)]), (4, .cells [.sh (.int .i64)])], fun vals _ _ _ => match vals with | [.int .i64 n, .int .i64 e] => ZI n e | _ => False)], gst := some (R0, R1) })] }) Tryz.func50 rfl Tryz.call50 rfl rfl) (Br (decide (65536 < (text.size : Int))) (P (.tuple #[.pointer none, .int .i64 0, .int .i64 3]) I) (∀ (b : Nat), CtH Tryz.prog (fnv 80) #[.string text] I Mem.emp fun v a G => ∃ x, v = x /\ ∀ (c d e f g h : Nat) (r : Loop), GivesR Tryz.prog x a L.length (encL L) (R0 x) (R1 x) /\ R0 x G /\ (∀ (k : Nat) (i : Array Value) (j : Mem), encL L k i j -> psOk [.sh (.int .i64), .sh .str] i.toList = true) /\ (Rf (some b) /\ Rf (Ent.mk (.cells [.ptr 1 0] 95) (some d)) /\ Rf (Ent.mk (.cells [.v (.int .i64 0)] 3) (some e)) /\ Rf (Ent.mk (.cells [.v (.int .i64 0)] 32) (some f)) /\ Rf (Ent.mk (.raw (.deferred (some []))) (some g)) /\ Rf (Ent.mk (.raw (.loop ⟨.ready, none, r.fn, r.tmps, r.params, r.assign, r.body, r.defers⟩)) (some h)) /\ Rf (some c) /\ (0 : Nat) = 0 /\ (0 : Nat) = 0 /\ Rf (SV.v (.map (some b))) /\ ((b = b /\ c = c /\ d = d /\ e = e /\ f = f /\ g = g /\ h = h /\ True) /\ Rf (Obj.loop ⟨.ready, none, r.fn, r.tmps, r.params, r.assign, r.body, r.defers⟩)) /\ XI 0 (encM #[] 0) [] []) /\ (∀ (k : Nat) (i : Mem), k < L.length -> a.le i -> ∀ (j l m : List Value), XI k j l m -> ∀ (n : Mem), i.le n -> ∀ (o : Int) (q : ByteArray), encL L k #[.int .i64 o, .string q] n -> Rf (Obj.loop ⟨.ready, none, r.fn, r.tmps, r.params, r.assign, r.body, r.defers⟩) /\ Rf (some h) /\ CtS Tryz.prog (.v (fnv 81)) [.ptr 0 0, .v (.string q), .v (.int .i64 o)] [⟨.cells [.rsl 1 (l.length / 3), .rsl 2 (m.length / 7), .v (.map (some b))] 102, some c⟩, ⟨.row l 3 112, none⟩, ⟨.row m 7 104, none⟩, ⟨.raw (.map (decM j) (posL j)), some b⟩] n fun s H p => ∃ t u w y z x1 e1 c1, s = .v (.int .i64 t) /\ H = [⟨.cells [.rsl 1 u, .rsl 2 w, .v (.map y)] 102, some c⟩, ⟨.row z 3 112, none⟩, ⟨.row x1 7 104, none⟩, ⟨.raw (.map e1 c1), some b⟩] /\ Br (t != 0) (Rf (Obj.loop ⟨.busy, none, r.fn, r.tmps, r.params, r.assign, r.body, r.defers⟩) /\ Rf (some h) /\ Mem.emp = Mem.emp /\ Rf (Ent.mk (.raw (.deferred (some []))) (some g)) /\ Rf (Ent.mk (.raw (.loop ⟨.done, some (.exit 0), r.fn, r.tmps, r.params, r.assign, r.body, r.defers⟩)) (some h)) /\ Rf (some e) /\ Rf (some f) /\ ((e = e /\ f = f /\ g = g /\ h = h /\ True) /\ Rf (Obj.loop ⟨.done, some (.exit 0), r.fn, r.tmps, r.params, r.assign, r.body, r.defers⟩)) /\ ZI o t) (Rf (Obj.loop ⟨.busy, none, r.fn, r.tmps, r.params, r.assign, r.body, r.defers⟩) /\ Rf (some h) /\ Mem.emp = Mem.emp /\ Rf (some b) /\ Rf (Ent.mk (.cells [.ptr 1 0] 95) (some d)) /\ Rf (Ent.mk (.cells [.v (.int .i64 0)] 3) (some e)) /\ Rf (Ent.mk (.cells [.v (.int .i64 0)] 32) (some f)) /\ Rf (Ent.mk (.raw (.deferred (some []))) (some g)) /\ Rf (Ent.mk (.raw (.loop ⟨.ready, none, r.fn, r.tmps, r.params, r.assign, r.body, r.defers⟩)) (some h)) /\ Rf (some c) /\ u = z.length / 3 /\ w = x1.length / 7 /\ SV.v (.map y) = .v (.map (some b)) /\ ((b = b /\ c = c /\ d = d /\ e = e /\ f = f /\ g = g /\ h = h /\ True) /\ Rf (Obj.loop ⟨.ready, none, r.fn, r.tmps, r.params, r.assign, r.body, r.defers⟩)) /\ XI (k + 1) (encM e1 c1) z x1)) /\ (∀ (i : Mem), a.le i -> ∀ (j k l : List Value), XI L.length j k l -> ∀ (m n : Mem), i.le m -> R1 x m n -> CtS Tryz.prog (.v (fnv 82)) [.ptr 0 0] [⟨.cells [.rsl 1 (k.length / 3), .rsl 2 (l.length / 7), .v (.map (some b))] 102, some c⟩, ⟨.row k 3 112, none⟩, ⟨.row l 7 104, none⟩, ⟨.raw (.map (decM j) (posL j)), some b⟩] m fun s H o => ∃ p q t u w y z e1 c1, s = .tup [.v (.int .i64 p), .v (.int .i64 q)] /\ H = [⟨.cells [.rsl 1 t, .rsl 2 u, .v (.map w)] 102, some c⟩, ⟨.row y 3 112, none⟩, ⟨.row z 7 104, none⟩, ⟨.raw (.map e1 c1), some b⟩] /\ Br (q != 0) (P (.tuple #[.pointer none, .int .i64 p, .int .i64 q]) o) (∀ (a1 : Option Addr) (c2 : Nat) (I1 : Mem), o.le I1 -> RowM I1 a1 c2 3 y -> ∀ (a2 : Option Addr) (c3 : Nat) (I2 : Mem), I1.le I2 -> RowM I2 a2 c3 7 z -> ∀ (I3 : Mem), I2.le I3 -> I3 c = some (.cells #[.slice a1 t c2, .slice a2 u c3, .map w] 102 (0, 0)) -> P (.tuple #[.pointer (some ⟨c, 0, none⟩), .int .i64 0, .int .i64 0]) I3)) /\ ∀ (i : Mem), a.le i -> ∀ (n j : Int), ZI n j -> ∀ (k : Mem), Mem -> i.le k -> Br (j == 0) False (Br (j != 0) (P (.tuple #[.pointer none, .int .i64 n, .int .i64 j]) k) False))) (by kernel_rfl) ?_
 have htl : (tx text).length = text.size := Array.length_toList;obtain ⟨hL1, hL2⟩ := split_len 10 (tx text);rw [<- hL] at hL1 hL2
 refine Br.mk (fun h1 => ?_) (fun h1 b => CtH.mono (ch65 text I) fun v a G la hv => ⟨v, rfl, fun c d e f g h rc => ⟨by rw [hL, hR0, hR1]; exact gives77 text ht v a G (hG.mono la) hv, by rw [hR0]; exact hv, ?_, ?_, ?_, ?_, ?_⟩⟩)
 · have h1 := of_decide_eq_true h1
   have e : readA (tx text) = (0, 3, ⟨[], []⟩) := by rw [readA, if_pos (by omega)]
   rw [e] at hbad
   exact hbad (by decide) I
 · rintro k args J ⟨s, _, rfl⟩; rfl
 · refine ⟨rfl, rfl, rfl, rfl, rfl, rfl, rfl, rfl, rfl, rfl, ⟨⟨rfl, rfl, rfl, rfl, rfl, rfl, rfl, trivial⟩, rfl⟩, ?_⟩
   rw [hXI]
   refine ⟨⟨[], []⟩, ?_, rfl, rfl, ⟨Nat.le_refl _, Nat.le_refl _, fun x hx => (by cases hx), fun x hx => (by cases hx)⟩, rfl⟩
   rw [decM_encM]; rfl
 all_goals have h1 := of_decide_eq_false h1
 all_goals have hread : readA (tx text) = if (linesA L 1 ⟨[], []⟩).1 ≠ 0 then ((linesA L 1 ⟨[], []⟩).2.1, (linesA L 1 ⟨[], []⟩).1, ⟨[], []⟩)
  else if (endA (linesA L 1 ⟨[], []⟩).2.2).2 ≠ 0 then ((endA (linesA L 1 ⟨[], []⟩).2.2).1, (endA (linesA L 1 ⟨[], []⟩).2.2).2, ⟨[], []⟩)
  else (0, 0, ⟨(linesA L 1 ⟨[], []⟩).2.2.ms, (linesA L 1 ⟨[], []⟩).2.2.ss.map (setTo (linesA L 1 ⟨[], []⟩).2.2.ms)⟩) := by rw [readA, if_neg (by omega), hL]
 · intro k i hk li j l m hX n ln o q hq
   obtain ⟨s, hs, hnq⟩ := hq;simp only [Array.mk.injEq, List.cons.injEq, Value.int.injEq, Value.string.injEq, true_and, and_true] at hnq;obtain ⟨rfl, rfl⟩ := hnq;rw [hXI] at hX;obtain ⟨r, g1, g2, g3, g4, g5⟩ := hX
   have hdr : L.drop k = s :: L.drop (k + 1) := by
    rw [List.drop_eq_getElem_cons hk]
    congr 1
    rw [List.getElem?_eq_getElem hk] at hs;exact Option.some.inj hs
   rw [hdr, linesA] at g5;have hsl := hL2 s (List.mem_of_getElem? hs)
   have e1 : l.length / 3 = r.ms.length := by rw [g2, mksV_len]; omega
   have e2 : m.length / 7 = r.ss.length := by rw [g3, srcsV_len]; omega
   have hms := g4.ms;have hss := g4.ss;refine ⟨rfl, rfl, ?_⟩;rw [e1, e2, g2, g3]
   have hline : i64N ((k : Int) + 1) := ⟨by omega, by omega⟩
   refine (cs81 r ⟨by omega, by omega⟩ b c (posL j) (decM j) g1 (strT s) (by rw [strT_size]; omega) _ hline n (hG.mono (Mem.le_trans la (Mem.le_trans li ln)))).mono fun sv H p lp ⟨hsv, es', clk', hm', hH⟩ => ⟨_, _, _, _, _, _, _, _, hsv, hH, ?_⟩
   rw [tx_strT] at hm' ⊢;refine Br.mk (fun h2 => ?_) (fun h2 => ?_)
   · have h2 : (lineA r s ((k : Int) + 1)).1 ≠ 0 := by simpa using h2
     refine ⟨rfl, rfl, rfl, rfl, rfl, rfl, rfl, ⟨⟨rfl, rfl, rfl, rfl, trivial⟩, rfl⟩, ?_⟩;rw [if_pos h2] at g5;rw [hZI]
     exact ⟨h2, by rw [g5], by rw [g5]⟩
   · have h2 : ¬ (lineA r s ((k : Int) + 1)).1 ≠ 0 := by simpa using h2
     refine ⟨rfl, rfl, rfl, rfl, rfl, rfl, rfl, rfl, rfl, rfl, ?_, ?_, rfl, ⟨⟨rfl, rfl, rfl, rfl, rfl, rfl, rfl, trivial⟩, rfl⟩, ?_⟩
     · rw [mksV_len]; omega
     · rw [srcsV_len]; omega
     rw [if_neg h2] at g5;rw [hXI];refine ⟨_, ?_, rfl, rfl, lineA_ok g4 s hline, ?_⟩
     · rw [decM_encM]; exact hm'
     · rw [g5]; rfl
 · intro i li j k l hX m n lm _
   rw [hXI] at hX;obtain ⟨r, g1, g2, g3, g4, g5⟩ := hX;rw [List.drop_length, linesA] at g5
   have e1 : k.length / 3 = r.ms.length := by rw [g2, mksV_len]; omega
   have e2 : l.length / 7 = r.ss.length := by rw [g3, srcsV_len]; omega
   have hms := g4.ms;have hss := g4.ss;rw [g5] at hread;simp only [ne_eq, not_true_eq_false, if_false] at hread;rw [e1, e2, g2, g3]
   refine (cs82 r ⟨by omega, by omega⟩ g4.sok (fun w hw => ⟨⟨by have := (g4.mok w hw).1; omega, by have := (g4.mok w hw).1; omega⟩, (g4.mok w hw).2⟩) b c (posL j) (decM j) g1 m).mono fun sv H o lo ⟨hsv, ss', hl', hz, hH⟩ => ⟨_, _, _, _, _, _, _, _, _, hsv, hH, Br.mk (fun h2 => ?_) (fun h2 => ?_)⟩
   · have h2 : (endA r).2 ≠ 0 := by simpa using h2
     rw [if_pos h2] at hread;rw [hread] at hbad;exact hbad h2 _
   · have h2 : (endA r).2 = 0 := by simpa using h2
     rw [if_neg (fun hh => hh h2)] at hread;have hss' := hz h2;intro a1 c2 I1 l1 hr1 a2 c3 I2 l2 hr2 I3 l3 hc;rw [hread] at hgood;rw [hss'] at hc hr2
     refine hgood rfl I3 c a1 a2 c2 c3 _ hc ((hr1.sl (by decide) (mksV_len _)).mono (Mem.le_trans l2 l3)) ((hr2.sl (by decide) (srcsV_len _)).mono l3) (fun x hx => ?_) ⟨by simp only; omega, by simp only [List.length_map]; omega⟩
     obtain ⟨z, hz, rfl⟩ := List.mem_map.1 hx;have hzo := (g4.sok z hz).1;unfold setTo;split
     · exact hzo
     · refine ⟨hzo.op, hzo.a, hzo.b, hzo.c, ?_⟩
       simp only [atMk];split
       · rename_i m hmf
         have := (g4.mok m (List.mem_of_find?_eq_some hmf)).1;omega
       · decide
 · intro i li n j hZ k a' lk
   rw [hZI] at hZ;obtain ⟨z1, z2, z3⟩ := hZ
   refine Br.f (by simpa using z1) (Br.t (by simpa using z1) ?_)
   rw [z2, if_pos z1, z3] at hread;rw [hread] at hbad;exact hbad z1 k
def parseA (t : Tx) : List Ins × Int × Int := if (readA t).2.1 = 0 then ((readA t).2.2.ss.map (·.ins), 0, 0) else ([], (readA t).1, (readA t).2.1)
def labelsA (t : Tx) : List (Tx × Int) × Int × Int := if (readA t).2.1 = 0 then ((readA t).2.2.ms.map (fun m => (m.name, m.at_)), 0, 0) else ([], (readA t).1, (readA t).2.1)
theorem insVs_len (p : List Ins) : (insVs p).length = p.length * 5 := by
 induction p with
 | nil => rfl
 | cons m r ih => simp only [insVs, List.flatMap_cons, List.length_append, insV, List.length_cons, List.length_nil] at ih ⊢; omega
theorem rowR_ins (I : Mem) : ∀ {p : List Ins}, (∀ i ∈ p, okI i) -> RowR 5 InsC I (insVs p) p
 | [], _ => rfl
 | i :: r, h => ⟨insV i, insVs r, rfl, rfl, ⟨rfl, h i (by simp)⟩, rowR_ins I fun j hj => h j (List.mem_cons_of_mem _ hj)⟩
set_option maxHeartbeats 4000000 in
theorem ct16 (text : ByteArray) (ht : text.size <= 10000000) (I : Mem) (hG : Globs I) :
 Ct Tryz.prog (fnv 16) #[.string text] I (fun v I' => ∃ a n c, v = .tuple #[.slice a n c, .int .i64 (parseA (tx text)).2.1, .int .i64 (parseA (tx text)).2.2] /\ InsM I' a n (parseA (tx text)).1 /\ n <= c /\ c <= maxLen) := by
 obtain ⟨Q, hQ⟩ : ∃ q : Value -> Mem -> Prop, q = fun v I' => ∃ a n c, v = .tuple #[.slice a n c, .int .i64 (parseA (tx text)).2.1, .int .i64 (parseA (tx text)).2.2] /\ InsM I' a n (parseA (tx text)).1 /\ n <= c /\ c <= maxLen := ⟨_, rfl⟩;obtain ⟨ss, hss⟩ : ∃ s, s = (readA (tx text)).2.2.ss := ⟨_, rfl⟩;obtain ⟨N, hN⟩ : ∃ f : Int -> List Value -> Prop, f = fun (j : Int) xs => 0 <= j /\ j <= ss.length /\ xs = insVs ((ss.take j.toNat).map (·.ins)) := ⟨_, rfl⟩;rw [<- hQ]
 refine viaR (ct_via (A := { loops := [(6, ⟨[(8, .row 0), (24, .keep), (25, .keep), (26, .sh (.int .i64))], [(0, .row)], [(8, 5, 27)], fun vals xss _ _ => match vals, xss with | [.int .i64 j], [xs] => N j xs | _, _ => False, fun vals _ => match vals with | [.int .i64 j] => (ss.length - j).toNat | _ => 0⟩)] }) Tryz.func16 rfl Tryz.call16 rfl rfl) (Ct Tryz.prog (fnv 50) #[.string text] I fun v a => ∃ b n c, v = .tuple #[.pointer b, .int .i64 n, .int .i64 c] /\ Br (c != 0) (Q (.tuple #[.slice none 0 0, .int .i64 n, .int .i64 c]) a) (b.isSome = true /\ b.isSome = true /\ ∃ d e f, atI a b 1 = some (.slice d e f) /\ ((0 : Nat) = 0 /\ Rf (SV.v (.slice d e f)) /\ Rf (SV.v (.int .i64 (e : Int))) /\ N 0 []) /\ ∀ (g : Mem), Mem -> a.le g -> ∀ (x : List Value) (h : Int), N h x -> Br (decide (h < (e : Int))) (0 <= h /\ h < (e : Int) /\ d.isSome = true /\ (7 : Nat) = 7 /\ ∃ i, atI g d (h.toNat * 7 + 0) = some (.int .u8 i) /\ ∃ j, atI g d (h.toNat * 7 + 1) = some (.int .u8 j) /\ ∃ k, atI g d (h.toNat * 7 + 2) = some (.int .u8 k) /\ ∃ l, atI g d (h.toNat * 7 + 3) = some (.int .u8 l) /\ ∃ m, atI g d (h.toNat * 7 + 4) = some (.int .i64 m) /\ ∃ o, atI g d (h.toNat * 7 + 5) = some (.int .i64 o) /\ ∃ q, atI g d (h.toNat * 7 + 6) = some (.string q) /\ x.length = x.length / 5 * 5 /\ x.length / 5 + 1 <= 9223372036854775807 /\ (x.length / 5 + 1) * 16 <= 140737488355328 /\ Wr .i64 (h + 1) fun p => x.length / 5 + 1 = List.length (x ++ [.int .u8 i, .int .u8 j, .int .u8 k, .int .u8 l, .int .i64 m]) / 5 /\ Rf (SV.v (.slice d e f)) /\ Rf (SV.v (.int .i64 (e : Int))) /\ N p (x ++ [.int .u8 i, .int .u8 j, .int .u8 k, .int .u8 l, .int .i64 m]) /\ Int.toNat ((ss.length : Int) - p) < Int.toNat ((ss.length : Int) - h)) (∀ (i : Option Addr) (j : Nat) (k : Mem), g.le k -> RowM k i j 5 x -> Q (.tuple #[.slice i (x.length / 5) j, .int .i64 0, .int .i64 0]) k))) (by kernel_rfl) ?_
 refine ct50 text ht I hG _ (fun hb I' => ⟨_, _, _, rfl, ?_⟩) (fun hg I' b a1 a2 c1 c2 m hc h1 h2 hok hbd => ⟨_, _, _, rfl, ?_⟩)
 · refine Br.t (by simpa using hb) ?_
   rw [hQ, parseA, if_neg hb];exact ⟨none, 0, 0, rfl, SlR.nil, Nat.le_refl _, Nat.zero_le _⟩
 · rw [<- hss] at h2 hc hok hbd
   have hcell : atI I' (some ⟨b, 0, none⟩) 1 = some (.slice a2 ss.length c2) := by simp [atI, cellM, Addr.add, hc]
   refine Br.f rfl ⟨rfl, rfl, _, _, _, hcell, ⟨rfl, rfl, rfl, by rw [hN]; exact ⟨Int.le_refl _, Int.natCast_nonneg _, rfl⟩⟩, fun g G lg x j hj => ?_⟩
   rw [hN] at hj ⊢;obtain ⟨g1, g2, g3⟩ := hj
   have hxl : x.length = j.toNat * 5 := by rw [g3, insVs_len, List.length_map, List.length_take]; omega
   have hx5 : x.length / 5 = j.toNat := by omega
   refine Br.mk (fun h3 => ?_) (fun h3 => ?_)
   · have h3 := of_decide_eq_true h3
     obtain ⟨y, hy⟩ : ∃ y, ss[j.toNat]? = some y := ⟨_, List.getElem?_eq_getElem (by omega)⟩
     have hs := h2.mono lg
     have at_ : ∀ (i : Nat) (v : Value), i < 7 -> (srcV y)[i]? = some v -> atI g a2 (j.toNat * 7 + i) = some v := fun i v hi hv => hs.at_ _ _ (by rw [srcs_at hy i hi, hv])
     refine ⟨g1, h3, hs.isSome (by omega), rfl, _, at_ 0 _ (by omega) rfl, _, at_ 1 _ (by omega) rfl, _, at_ 2 _ (by omega) rfl, _, at_ 3 _ (by omega) rfl, _, at_ 4 _ (by omega) rfl, _, at_ 5 _ (by omega) rfl, _, at_ 6 _ (by omega) rfl, by omega, by omega, by omega, wr_i64 (by omega) (by omega) ⟨?_, rfl, rfl, ⟨by omega, by omega, ?_⟩, by omega⟩⟩
     · rw [List.length_append]; simp only [List.length_cons, List.length_nil]; omega
     · rw [show (j + 1).toNat = j.toNat + 1 by omega, List.take_add_one, hy, g3]
       simp [insVs, insV]
   · have h3 := of_decide_eq_false h3
     intro i k K lK hrow
     have hp : parseA (tx text) = (ss.map (·.ins), 0, 0) := by rw [parseA, if_pos hg, hss]
     rw [hQ, hp]
     have hx : x = insVs (ss.map (·.ins)) := by rw [g3, List.take_of_length_le (by omega)]
     have hr : RowR 5 InsC K x (ss.map (·.ins)) := by
      rw [hx]
      exact rowR_ins K fun w hw => by
       obtain ⟨z, hz, rfl⟩ := List.mem_map.1 hw;exact hok z hz
     have hsl := SlR.row (by decide) hrow hr
     obtain ⟨r1, r2, _⟩ := hrow
     refine ⟨i, x.length / 5, k, rfl, ?_, by omega, r2⟩
     have e : x.length / 5 = (ss.map (·.ins)).length := by rw [List.length_map]; omega
     rw [e]; exact hsl
set_option maxHeartbeats 4000000 in
theorem ct26 (text : ByteArray) (ht : text.size <= 10000000) (I : Mem) (hG : Globs I) :
 Ct Tryz.prog (fnv 26) #[.string text] I (fun v I' => ∃ a n c, v = .tuple #[.slice a n c, .int .i64 (labelsA (tx text)).2.1, .int .i64 (labelsA (tx text)).2.2] /\ SlM I' a n 2 ((labelsA (tx text)).1.flatMap fun x => [.string (strT x.1), .int .i64 x.2]) /\ n = (labelsA (tx text)).1.length /\ n <= c /\ c <= maxLen) := by
 obtain ⟨Q, hQ⟩ : ∃ q : Value -> Mem -> Prop, q = fun v I' => ∃ a n c, v = .tuple #[.slice a n c, .int .i64 (labelsA (tx text)).2.1, .int .i64 (labelsA (tx text)).2.2] /\ SlM I' a n 2 ((labelsA (tx text)).1.flatMap fun x => [.string (strT x.1), .int .i64 x.2]) /\ n = (labelsA (tx text)).1.length /\ n <= c /\ c <= maxLen := ⟨_, rfl⟩;obtain ⟨ms, hms⟩ : ∃ s, s = (readA (tx text)).2.2.ms := ⟨_, rfl⟩
 obtain ⟨N, hN⟩ : ∃ f : Int -> List Value -> Prop, f = fun (j : Int) (xs : List Value) => 0 <= j /\ j <= ms.length /\ xs = (ms.take j.toNat).flatMap fun m => ([.string (strT m.name), .int .i64 m.at_] : List Value) := ⟨_, rfl⟩;rw [<- hQ]
 refine viaR (ct_via (A := { loops := [(6, ⟨[(8, .row 0), (24, .keep), (25, .keep), (26, .sh (.int .i64))], [(0, .row)], [(8, 2, 72)], fun vals xss _ _ => match vals, xss with | [.int .i64 j], [xs] => N j xs | _, _ => False, fun vals _ => match vals with | [.int .i64 j] => (ms.length - j).toNat | _ => 0⟩)] }) Tryz.func26 rfl Tryz.call26 rfl rfl) (Ct Tryz.prog (fnv 50) #[.string text] I fun v a => ∃ b n c, v = .tuple #[.pointer b, .int .i64 n, .int .i64 c] /\ Br (c != 0) (Q (.tuple #[.slice none 0 0, .int .i64 n, .int .i64 c]) a) (b.isSome = true /\ b.isSome = true /\ ∃ d e f, atI a b 0 = some (.slice d e f) /\ ((0 : Nat) = 0 /\ Rf (SV.v (.slice d e f)) /\ Rf (SV.v (.int .i64 (e : Int))) /\ N 0 []) /\ ∀ (g : Mem), Mem -> a.le g -> ∀ (x : List Value) (h : Int), N h x -> Br (decide (h < (e : Int))) (0 <= h /\ h < (e : Int) /\ d.isSome = true /\ (3 : Nat) = 3 /\ ∃ q, atI g d (h.toNat * 3 + 0) = some (.string q) /\ ∃ i, atI g d (h.toNat * 3 + 1) = some (.int .i64 i) /\ ∃ j, atI g d (h.toNat * 3 + 2) = some (.int .i64 j) /\ x.length = x.length / 2 * 2 /\ x.length / 2 + 1 <= 9223372036854775807 /\ (x.length / 2 + 1) * 24 <= 140737488355328 /\ Wr .i64 (h + 1) fun k => x.length / 2 + 1 = List.length (x ++ [.string q, .int .i64 i]) / 2 /\ Rf (SV.v (.slice d e f)) /\ Rf (SV.v (.int .i64 (e : Int))) /\ N k (x ++ [.string q, .int .i64 i]) /\ Int.toNat ((ms.length : Int) - k) < Int.toNat ((ms.length : Int) - h)) (∀ (i : Option Addr) (j : Nat) (k : Mem), g.le k -> RowM k i j 2 x -> Q (.tuple #[.slice i (x.length / 2) j, .int .i64 0, .int .i64 0]) k))) (by kernel_rfl) ?_
 refine ct50 text ht I hG _ (fun hb I' => ⟨_, _, _, rfl, ?_⟩) (fun hg I' b a1 a2 c1 c2 m hc h1 h2 hok hbd => ⟨_, _, _, rfl, ?_⟩)
 · refine Br.t (by simpa using hb) ?_
   rw [hQ, labelsA, if_neg hb];exact ⟨none, 0, 0, rfl, sl_nil _ _, rfl, Nat.le_refl _, Nat.zero_le _⟩
 · rw [<- hms] at h1 hc hbd
   have hcell : atI I' (some ⟨b, 0, none⟩) 0 = some (.slice a1 ms.length c1) := by simp [atI, cellM, Addr.add, hc]
   refine Br.f rfl ⟨rfl, rfl, _, _, _, hcell, ⟨rfl, rfl, rfl, by rw [hN]; exact ⟨Int.le_refl _, Int.natCast_nonneg _, rfl⟩⟩, fun g G lg x j hj => ?_⟩
   rw [hN] at hj ⊢;obtain ⟨g1, g2, g3⟩ := hj
   have fl : ∀ l : List Mk, (l.flatMap fun m => ([.string (strT m.name), .int .i64 m.at_] : List Value)).length = l.length * 2 := fun l => by
    induction l with
    | nil => rfl
    | cons m r ih => simp only [List.flatMap_cons, List.length_append, List.length_cons, List.length_nil] at ih ⊢; omega
   have hxl : x.length = j.toNat * 2 := by rw [g3, fl, List.length_take]; omega
   have hx5 : x.length / 2 = j.toNat := by omega
   refine Br.mk (fun h3 => ?_) (fun h3 => ?_)
   · have h3 := of_decide_eq_true h3
     obtain ⟨y, hy⟩ : ∃ y, ms[j.toNat]? = some y := ⟨_, List.getElem?_eq_getElem (by omega)⟩
     have hs := h1.mono lg
     have at_ : ∀ (i : Nat) (v : Value), i < 3 -> (mkV y)[i]? = some v -> atI g a1 (j.toNat * 3 + i) = some v := fun i v hi hv => hs.at_ _ _ (by rw [mks_at hy i hi, hv])
     refine ⟨g1, h3, hs.isSome (by omega), rfl, _, at_ 0 _ (by omega) rfl, _, at_ 1 _ (by omega) rfl, _, at_ 2 _ (by omega) rfl, by omega, by omega, by omega, wr_i64 (by omega) (by omega) ⟨?_, rfl, rfl, ⟨by omega, by omega, ?_⟩, by omega⟩⟩
     · rw [List.length_append]; simp only [List.length_cons, List.length_nil]; omega
     · rw [show (j + 1).toNat = j.toNat + 1 by omega, List.take_add_one, hy, g3]
       simp
   · have h3 := of_decide_eq_false h3
     intro i k K lK hrow
     have hp : labelsA (tx text) = (ms.map (fun m => (m.name, m.at_)), 0, 0) := by rw [labelsA, if_pos hg, hms]
     rw [hQ, hp]
     have hx : x = (ms.map (fun m => (m.name, m.at_))).flatMap fun x => ([.string (strT x.1), .int .i64 x.2] : List Value) := by
      rw [g3, List.take_of_length_le (by omega), List.flatMap_map]
     have hl2 : x.length / 2 = ms.length := by omega
     have hsl := hrow.sl (n := ms.length) (by decide) (by omega)
     obtain ⟨r1, r2, _⟩ := hrow;rw [hl2]
     refine ⟨i, ms.length, k, rfl, ?_, by rw [List.length_map], by omega, r2⟩
     rw [hx] at hsl;exact hsl
theorem sizeBuilder : (Tryz.prog.info? 48).map (·.size) = some 2 := by kernel_rfl
theorem liesBuilder : liesAt Tryz.prog Tryz.prog.depth 48 (2 / Tryz.prog.cellsOf 48) 0 48 1 = true := by kernel_rfl
theorem check_used (b : Nat) (w : World) (h0 : w.cell? ⟨b, 0, none⟩ = some (.pointer (some ⟨b, 0, none⟩))) :
 Calls Tryz.prog 56 #[.pointer (some ⟨b, 0, none⟩)] w fun e w' => e = .returned (.tuple #[]) /\ w' = w := by
 obtain ⟨j, hj, _⟩ := Option.map_eq_some_iff.1 sizeBuilder
 go_enter Tryz.func56, Tryz.ntmps56
 go_wp2
 rw [Lib.run_neq_ptr_same w _ Tryz.underlying46 hj]
 go_wp2
 go_end0
 exact ⟨rfl, rfl⟩
theorem check_fresh (b : Nat) (w : World) (h0 : w.cell? ⟨b, 0, none⟩ = some (.pointer none)) (hsh : w.shape? b = some (48, 2)) (hfz : w.frozen? ⟨b, 0, none⟩ = false) :
 Calls Tryz.prog 56 #[.pointer (some ⟨b, 0, none⟩)] w fun e w' => e = .returned (.tuple #[]) /\ w' = w.setCell ⟨b, 0, none⟩ (.pointer (some ⟨b, 0, none⟩)) := by
 obtain ⟨j, hj, hjs⟩ := Option.map_eq_some_iff.1 sizeBuilder
 go_enter Tryz.func56, Tryz.ntmps56
 go_wp2
 rw [Lib.run_to_unsafe w ⟨b, 0, none⟩ Tryz.underlying46 Tryz.underlying150 hj (by rw [hjs]; decide) hsh (Nat.zero_lt_succ 1)]
 simp only [Result.andThen];rw [Oper.upon_value]
 go_wp2
 rw [run_callFunc_extern Tryz.func85 (by kernel_rfl) (by kernel_rfl) (by kernel_rfl) (e := Extern.AbiNoEscape.same) (by kernel_rfl)]
 rw [Lib.run_noEscape];simp only [Result.andThen];rw [Oper.upon_value]
 go_wp2
 rw [Lib.run_from_unsafe w ⟨b, 0, none⟩ Tryz.underlying150 Tryz.underlying46 hj hsh liesBuilder];simp only [Result.andThen];rw [Oper.upon_value]
 go_wp2
 go_end0
 exact ⟨rfl, rfl⟩
def bldE0 (nm : Option Nat) : Ent := ⟨.cells [.v (.pointer none), .v (.slice none 0 0)] 48, nm⟩
def bldE1 (nm : Option Nat) (n : Nat) : Ent := ⟨.cells [.ptr 0 0, .rsl 1 n] 48, nm⟩
def bufE (bs : List UInt8) : Ent := ⟨.row (bs.map fun b => Value.int .u8 b.toNat) 1 5, none⟩
theorem cs62_fresh (nm : Option Nat) (I : Mem) : CtS Tryz.prog (.v (fnv 56)) [.ptr 0 0] [bldE0 nm] I (fun sv H' _ => sv = .tup [] /\ H' = [bldE1 nm 0, bufE []]) := by
 intro e hp hO W hI hpW hap;obtain ⟨hn, c, hc, hcs, hcv⟩ := hO.hold 0 _ rfl rfl
 have e0 : c[0]? = some (.pointer none) := by have := hcv 0 (.v (.pointer none)) rfl rfl; simpa [den] using this
 have e1 : c[1]? = some (.slice none 0 0) := by have := hcv 1 (.v (.slice none 0 0)) rfl rfl; simpa [den] using this
 have hW := hpW _ _ hc;obtain ⟨b, hb⟩ : ∃ b, b = e.blk 0 := ⟨_, rfl⟩;rw [<- hb] at hc hW;have hsz : c.size = 2 := hcs;have hlt : b < W.heap.size := (Array.getElem?_eq_some_iff.1 hW).1
 have hcell : W.cell? ⟨b, 0, none⟩ = some (.pointer none) := by simp [World.cell?, hW, e0]
 have hargs : (denL e [.ptr 0 0]).toArray = #[.pointer (some ⟨b, 0, none⟩)] := by simp [denL, den, hb]
 rw [hargs]
 refine callV_func Tryz.call56 (args := [.pointer (some ⟨b, 0, none⟩)]) (by simp) (callsIn_wide.2 ?_)
 refine (check_fresh b W hcell (by simp [World.shape?, hW, hsz]) (by simp [World.frozen?, hW])).mono fun en W' ⟨he, hw⟩ => ?_
 subst hw
 have hother : ∀ k, k ≠ b -> (W.setCell ⟨b, 0, none⟩ (.pointer (some ⟨b, 0, none⟩))).heap[k]? = W.heap[k]? := fun k hk => by
  simp only [World.setCell, Array.getElem?_modify];rw [if_neg (fun h => hk h.symm)]
 have hself : (W.setCell ⟨b, 0, none⟩ (.pointer (some ⟨b, 0, none⟩))).heap[b]? = some (.cells (c.setIfInBounds 0 (.pointer (some ⟨b, 0, none⟩))) 48 (0, 0)) := by
  simp only [World.setCell, Array.getElem?_modify, if_true, hW]; rfl
 have hIb : I b = none := by
  rcases hap b with h | h
  · exact h
  · rw [h] at hc; cases hc
 have hdom : ∀ k, hp k ≠ none -> k = b := fun k hk => by
  obtain ⟨id, x, hx, _, _, hbk⟩ := hO.dom k hk
  match id, hx with
  | 0, _ => rw [hb, hbk]
 obtain ⟨hp', hhp'⟩ : ∃ h : Mem, h = fun k => if k = b then some (.cells (c.setIfInBounds 0 (.pointer (some ⟨b, 0, none⟩))) 48 (0, 0)) else none := ⟨_, rfl⟩
 refine ⟨.tuple #[], I, hp', he, Mem.le_refl _, fun k o hk => ?_, fun k o hk => ?_, fun k => ?_, by simp [World.setCell], ⟨rfl, rfl, rfl⟩, fun k hk hn => ?_, fun k hk hn => ?_, ⟨e.blk, fun i => if i = 1 then 0 else e.cap i, fun i => if i = 1 then true else e.nil i⟩, .tup [], _, by simp [den, denL], ?_, rfl, rfl⟩
 · rw [hother k (fun e => by rw [e, hIb] at hk; cases hk)]; exact hI k o hk
 · rw [hhp'] at hk
   simp only at hk
   split at hk
   · rename_i hkb
     subst hkb
     rw [hself]; exact hk
   · cases hk
 · by_cases hkb : k = b
   · subst hkb; exact .inl hIb
   · right; rw [hhp']; simp [hkb]
 · exact hother k (fun e => by rw [e] at hn; rw [hn] at hc; cases hc)
 · refine ⟨?_, fun h => h⟩
   rw [hhp']
   simp only
   rw [if_neg (fun e => by rw [e] at hn; rw [hn] at hc; cases hc)]
 · refine ⟨fun id x hx hal => ?_, fun i j x y hi hj _ _ hni hnj hij => ?_, fun k hk => ?_, fun id x k hx hnm => ?_⟩
   · match id, hx with
     | 0, hx =>
       cases hx
       refine ⟨hn, _, by rw [<- hb, hhp']; simp; rfl, by simp [hsz], fun k sv hk hj => ?_⟩
       match k, hk with
       | 0, hk => cases hk; rw [Array.getElem?_setIfInBounds_self_of_lt (by omega)]; simp [den, hb]
       | 1, hk => cases hk; rw [Array.getElem?_setIfInBounds_ne (by omega), e1]; simp [den]
     | 1, hx => cases hx; exact ⟨by decide, ⟨0, rfl⟩, .inl ⟨rfl, rfl, rfl⟩⟩
   · match i, j, hi, hj with
     | 0, 0, _, _ => exact absurd rfl hij
     | 1, _, _, _ => simp at hni
     | 0, 1, _, _ => simp at hnj
   · rw [hhp'] at hk
     by_cases hkb : k = b
     · exact ⟨0, _, rfl, rfl, hn, by rw [hkb, hb]⟩
     · simp [hkb] at hk
   · match id, hx with
     | 0, hx => cases hx; exact hO.names 0 (bldE0 nm) k rfl hnm
     | 1, hx => cases hx; cases hnm
theorem cs62_used (nm : Option Nat) (n : Nat) (bs : List UInt8) (I : Mem) : CtS Tryz.prog (.v (fnv 56)) [.ptr 0 0] [bldE1 nm n, bufE bs] I (fun sv H' _ => sv = .tup [] /\ H' = [bldE1 nm n, bufE bs]) := by
 intro e hp hO W hI hpW hap;obtain ⟨hn, c, hc, hcs, hcv⟩ := hO.hold 0 _ rfl rfl
 have e0 : c[0]? = some (.pointer (some ⟨e.blk 0, 0, none⟩)) := by have := hcv 0 (.ptr 0 0) rfl rfl; simpa [den] using this
 have hW := hpW _ _ hc
 have hcell : W.cell? ⟨e.blk 0, 0, none⟩ = some (.pointer (some ⟨e.blk 0, 0, none⟩)) := by simp [World.cell?, hW, e0]
 have hargs : (denL e [.ptr 0 0]).toArray = #[.pointer (some ⟨e.blk 0, 0, none⟩)] := by simp [denL, den]
 rw [hargs]
 refine callV_func Tryz.call56 (args := [.pointer (some ⟨e.blk 0, 0, none⟩)]) (by simp) (callsIn_wide.2 ?_)
 refine (check_used (e.blk 0) W hcell).mono fun en W' ⟨he, hw⟩ => ?_;subst hw
 exact ⟨.tuple #[], I, hp, he, Mem.le_refl _, hI, hpW, hap, Nat.le_refl _, ⟨rfl, rfl, rfl⟩, fun _ _ _ => rfl, fun k _ hk => ⟨hk, fun h => h⟩, e, .tup [], _, by simp [den, denL], hO, rfl, rfl⟩
theorem cs39_fresh (nm : Nat) (s : ByteArray) (hs : s.size <= 100000000) (I : Mem) : CtS Tryz.prog (.v (fnv 24)) [.ptr 0 0, .v (.string s)] [bldE0 (some nm)] I
 (fun sv H' _ => sv = .tup [.v (.int .i64 s.size), .v .nilIface] /\ H' = [bldE1 (some nm) s.size, bufE (tx s)]) := by
 refine viaR (ctS_via (A := { calls := [(7, .lend [0] (.tup []) [.cells [.ptr 0 0, .row 1] 48, .row 1 5])] }) Tryz.func24 rfl Tryz.call24 [0, 1] rfl) (CtS Tryz.prog (.v (fnv 56)) [.ptr 0 0] [⟨.cells [.v (.pointer none), .v (.slice none 0 0)] 48, some nm⟩] I fun a H b => ∃ n x, a = .tup [] /\ H = [⟨.cells [.ptr 0 0, .rsl 1 n] 48, some nm⟩, ⟨.row x 1 5, none⟩] /\ (1 : Nat) = 1 /\ x.length = n * 1 /\ n + s.size <= 9223372036854775807 /\ (n + s.size) * 1 <= 140737488355328 /\ Rf (SV.tup [.v (.int .i64 (s.size : Int)), .v .nilIface]) /\ [Ent.mk (.cells [.ptr 0 0, .rsl 1 (n + s.size)] 48) (some nm), ⟨.row (x ++ bytesV s) 1 5, none⟩] = [⟨.cells [.ptr 0 0, .rsl 1 s.size] 48, some nm⟩, ⟨.row (List.map (fun (c : UInt8) => .int .u8 (c.toNat : Int)) (tx s)) 1 5, none⟩]) (by kernel_rfl) ?_
 refine (cs62_fresh (some nm) I).mono fun a H b _ ⟨ha, hH⟩ => ⟨0, [], ha, hH, rfl, rfl, by omega, by omega, rfl, ?_⟩
 simp [bufE, tx, bytesV]
theorem cs39_used (nm : Nat) (bs : List UInt8) (s : ByteArray) (hs : bs.length + s.size <= 100000000) (I : Mem) : CtS Tryz.prog (.v (fnv 24)) [.ptr 0 0, .v (.string s)] [bldE1 (some nm) bs.length, bufE bs] I
 (fun sv H' _ => sv = .tup [.v (.int .i64 s.size), .v .nilIface] /\ H' = [bldE1 (some nm) (bs.length + s.size), bufE (bs ++ tx s)]) := by
 refine viaR (ctS_via (A := { calls := [(7, .lend [0, 1] (.tup []) [.cells [.ptr 0 0, .row 1] 48, .row 1 5])] }) Tryz.func24 rfl Tryz.call24 [0, 1] rfl) (CtS Tryz.prog (.v (fnv 56)) [.ptr 0 0] [⟨.cells [.ptr 0 0, .rsl 1 bs.length] 48, some nm⟩, ⟨.row (List.map (fun (b : UInt8) => .int .u8 (b.toNat : Int)) bs) 1 5, none⟩] I fun a H b => ∃ n x, a = .tup [] /\ H = [⟨.cells [.ptr 0 0, .rsl 1 n] 48, some nm⟩, ⟨.row x 1 5, none⟩] /\ (1 : Nat) = 1 /\ x.length = n * 1 /\ n + s.size <= 9223372036854775807 /\ (n + s.size) * 1 <= 140737488355328 /\ Rf (SV.tup [.v (.int .i64 (s.size : Int)), .v .nilIface]) /\ [Ent.mk (.cells [.ptr 0 0, .rsl 1 (n + s.size)] 48) (some nm), ⟨.row (x ++ bytesV s) 1 5, none⟩] = [⟨.cells [.ptr 0 0, .rsl 1 (bs.length + s.size)] 48, some nm⟩, ⟨.row (List.map (fun (c : UInt8) => .int .u8 (c.toNat : Int)) (bs ++ tx s)) 1 5, none⟩]) (by kernel_rfl) ?_
 refine (cs62_used (some nm) bs.length bs I).mono fun a H b _ ⟨ha, hH⟩ => ⟨bs.length, _, ha, hH, rfl, by simp, by omega, by omega, rfl, ?_⟩
 simp [tx, bytesV]
theorem cells5' : Tryz.prog.cellsOf 5 = 1 := by kernel_rfl
set_option maxHeartbeats 2000000 in
theorem str_some (b g cap : Nat) (cur : Array Value) {fz : Nat × Nat} (p : Value) (l : List UInt8) (w : World) (hbk : w.heap[b]? = some (.cells #[p, .slice (some ⟨g, 0, none⟩) l.length cap] 48 (0, 0))) (hg : w.heap[g]? = some (.cells cur 5 fz))
 (h0 : l ≠ []) (hnc : l.length <= cap) (hcm : cap <= maxLen) (hcs : cur.size = cap) (hl : ∀ (j : Nat) (x : UInt8), l[j]? = some x -> cur[j]? = some (.int .u8 x.toNat)) :
 Calls Tryz.prog 23 #[.pointer (some ⟨b, 0, none⟩)] w fun e w' => e = .returned (.string ⟨l.toArray⟩) /\ w' = w.drew.freeze ⟨g, 0, none⟩ l.length := by
 have c1 : w.drew.cell? ⟨b, 1, none⟩ = some (.slice (some ⟨g, 0, none⟩) l.length cap) := by
  have : w.drew.heap[b]? = some (.cells #[p, .slice (some ⟨g, 0, none⟩) l.length cap] 48 (0, 0)) := hbk
  rw [Lib.cell_of_heap this]; rfl
 have hl0 : l.length ≠ 0 := by simpa using h0
 have hSD : (Builtin.unsafeSliceData_ #[45] 110 #[.slice (some ⟨g, 0, none⟩) l.length cap]).run Tryz.prog w.drew = .ok (.pointer (some ⟨g, 0, none⟩)) w.drew :=
  Lib.run_unsafeSliceData_row _ _ _ _ _ _ (by omega)
 have hUS : (Builtin.unsafeString_ #[110, 3] 9 #[.pointer (some ⟨g, 0, none⟩), .int .i64 l.length]).run Tryz.prog w.drew = .ok (.string ⟨l.toArray⟩) (w.drew.freeze ⟨g, 0, none⟩ l.length) := by
  refine Lib.run_unsafeString_row w.drew 110 3 9 5 Tryz.underlying110 cells5' g cur.size (by have hg' : w.drew.heap[g]? = some (.cells cur 5 fz) := hg; simp [World.shape?, hg']) l h0 (by omega) (by unfold maxLen at hcm; omega) ?_
  intro j x hx;have hg' : w.drew.heap[g]? = some (.cells cur 5 fz) := hg
  rw [Addr.add_lit, Nat.zero_add, Lib.cell_of_heap hg']; exact hl j x hx
 go_enter Tryz.func23, Tryz.ntmps23
 go_wp2
 go_region
 all_goals (go_wp2; go_ret; exact ⟨rfl, rfl⟩)
structure KeepBut (w w' : World) (g : Option Nat) : Prop where
 size : w.heap.size <= w'.heap.size
 same : Same w w'
 keep : ∀ k, k < w.heap.size -> some k ≠ g -> w'.heap[k]? = w.heap[k]?
theorem run_us_none (W : World) (q : Option Addr) : (Builtin.unsafeString_ #[110, 3] 9 #[.pointer q, .int .i64 0]).run Tryz.prog W = .ok (.string .empty) W := Lib.run_unsafeString_none W _ _ _ q
set_option maxHeartbeats 2000000 in
theorem str_nil (b : Nat) (p : Value) (w : World) (hbk : w.heap[b]? = some (.cells #[p, .slice none 0 0] 48 (0, 0))) :
 Calls Tryz.prog 23 #[.pointer (some ⟨b, 0, none⟩)] w fun e w' => e = .returned (.string ⟨#[]⟩) /\ KeepBut w w' none := by
 have hUS := run_us_none
 have c1 : w.drew.cell? ⟨b, 1, none⟩ = some (.slice none 0 0) := by
  have : w.drew.heap[b]? = some (.cells #[p, .slice none 0 0] 48 (0, 0)) := hbk
  rw [Lib.cell_of_heap this]; rfl
 have hSD : (Builtin.unsafeSliceData_ #[45] 110 #[.slice none 0 0]).run Tryz.prog w.drew = .ok (.pointer none) w.drew := rfl
 go_enter Tryz.func23, Tryz.ntmps23
 go_wp2
 go_region
 all_goals (go_wp2; go_ret; exact ⟨rfl, Nat.le_refl _, ⟨rfl, rfl, rfl⟩, fun _ _ _ => rfl⟩)
set_option maxHeartbeats 2000000 in
theorem str_room (b g cap : Nat) (p : Value) (w : World) (hc0 : cap ≠ 0) (hbk : w.heap[b]? = some (.cells #[p, .slice (some ⟨g, 0, none⟩) 0 cap] 48 (0, 0))) :
 Calls Tryz.prog 23 #[.pointer (some ⟨b, 0, none⟩)] w fun e w' => e = .returned (.string ⟨#[]⟩) /\ KeepBut w w' none := by
 have hUS := run_us_none
 have c1 : w.drew.cell? ⟨b, 1, none⟩ = some (.slice (some ⟨g, 0, none⟩) 0 cap) := by
  have : w.drew.heap[b]? = some (.cells #[p, .slice (some ⟨g, 0, none⟩) 0 cap] 48 (0, 0)) := hbk
  rw [Lib.cell_of_heap this]; rfl
 have hSD : (Builtin.unsafeSliceData_ #[45] 110 #[.slice (some ⟨g, 0, none⟩) 0 cap]).run Tryz.prog w.drew = .ok (.pointer (some ⟨g, 0, none⟩)) w.drew :=
  Lib.run_unsafeSliceData_row _ _ _ _ _ _ hc0
 clear hc0
 go_enter Tryz.func23, Tryz.ntmps23
 go_wp2
 go_region
 all_goals (go_wp2; go_ret; exact ⟨rfl, Nat.le_refl _, ⟨rfl, rfl, rfl⟩, fun _ _ _ => rfl⟩)
set_option maxHeartbeats 2000000 in
theorem str_noroom (b g : Nat) (p : Value) (cur : Array Value) {fz : Nat × Nat} (w : World) (hbk : w.heap[b]? = some (.cells #[p, .slice (some ⟨g, 0, none⟩) 0 0] 48 (0, 0))) (hg : w.heap[g]? = some (.cells cur 5 fz)) :
 Calls Tryz.prog 23 #[.pointer (some ⟨b, 0, none⟩)] w fun e w' => e = .returned (.string ⟨#[]⟩) /\ KeepBut w w' none := by
 have hUS := run_us_none;have hlt : b < w.heap.size := (Array.getElem?_eq_some_iff.1 hbk).1
 have c1 : w.drew.cell? ⟨b, 1, none⟩ = some (.slice (some ⟨g, 0, none⟩) 0 0) := by
  have : w.drew.heap[b]? = some (.cells #[p, .slice (some ⟨g, 0, none⟩) 0 0] 48 (0, 0)) := hbk
  rw [Lib.cell_of_heap this]; rfl
 have hg' : w.drew.heap[g]? = some (.cells cur 5 fz) := hg
 have hsh : w.drew.shape? g = some (5, cur.size) := by simp [World.shape?, hg']
 have hSD : (Builtin.unsafeSliceData_ #[45] 110 #[.slice (some ⟨g, 0, none⟩) 0 0]).run Tryz.prog w.drew = .ok (.pointer (some ⟨w.drew.heap.size, 0, none⟩)) (w.drew.alloc (.view ⟨g, 0, none⟩ 5)) :=
  Lib.run_unsafeSliceData_zero w.drew _ _ 5 Tryz.underlying110 ⟨g, 0, none⟩ 0 (5, cur.size) hsh
 have c2 : (w.drew.alloc (.view ⟨g, 0, none⟩ 5)).cell? ⟨b, 1, none⟩ = some (.slice (some ⟨g, 0, none⟩) 0 0) := by
  have : (w.drew.alloc (.view ⟨g, 0, none⟩ 5)).heap[b]? = _ := (Lib.alloc_old w.drew _ b hlt).trans hbk
  rw [Lib.cell_of_heap this]; rfl
 have c3 : (w.alloc (.view ⟨g, 0, none⟩ 5)).drew.cell? ⟨b, 1, none⟩ = some (.slice (some ⟨g, 0, none⟩) 0 0) := c2;have c0 : w.cell? ⟨b, 1, none⟩ = some (.slice (some ⟨g, 0, none⟩) 0 0) := c1
 have fin : KeepBut w (w.drew.alloc (.view ⟨g, 0, none⟩ 5)) none := ⟨by show w.heap.size <= (w.heap.push _).size; rw [Array.size_push]; omega, ⟨rfl, rfl, rfl⟩, fun k hk _ => Lib.alloc_old w.drew _ k hk⟩
 go_enter Tryz.func23, Tryz.ntmps23
 go_wp2
 go_region
 all_goals (go_wp2; go_ret; exact ⟨rfl, fin⟩)
theorem freeze_keep (w : World) (g n : Nat) : KeepBut w (w.drew.freeze ⟨g, 0, none⟩ n) (some g) := by
 unfold World.freeze;split
 · exact ⟨Nat.le_refl _, ⟨rfl, rfl, rfl⟩, fun _ _ _ => rfl⟩
 · refine ⟨?_, ⟨rfl, rfl, rfl⟩, fun k hk hne => ?_⟩
   · show w.heap.size <= (Array.modify _ _ _).size
     rw [Array.size_modify]; exact Nat.le_refl _
   · show (Array.modify _ _ _)[k]? = _
     rw [Array.getElem?_modify, if_neg (fun e => hne (congrArg some e.symm))]; rfl
theorem cs23 (nm : Option Nat) (bs : List UInt8) (I : Mem) : CtS Tryz.prog (.v (fnv 23)) [.ptr 0 0] [bldE1 nm bs.length, bufE bs] I (fun sv H' _ => sv = .v (.string (strT bs)) /\ H' = [⟨.dead, none⟩, ⟨.dead, none⟩]) := by
 intro e hp hO W hI hpW hap;obtain ⟨hn, c, hc, hcs, hcv⟩ := hO.hold 0 _ rfl rfl
 have e0 : c[0]? = some (.pointer (some ⟨e.blk 0, 0, none⟩)) := by have := hcv 0 (.ptr 0 0) rfl rfl; simpa [den] using this
 have e1 : c[1]? = some (.slice (if e.nil 1 then none else some ⟨e.blk 1, 0, none⟩) bs.length (e.cap 1)) := by have := hcv 1 (.rsl 1 bs.length) rfl rfl; simpa [den] using this
 have hsz : c.size = 2 := hcs
 have hceq : c = #[.pointer (some ⟨e.blk 0, 0, none⟩), .slice (if e.nil 1 then none else some ⟨e.blk 1, 0, none⟩) bs.length (e.cap 1)] := by
  apply Array.ext_getElem?;intro i
  match i with
  | 0 => simpa using e0
  | 1 => simpa using e1
  | i + 2 => rw [Array.getElem?_eq_none (by omega), Array.getElem?_eq_none (by simp)]
 have hW := hpW _ _ hc;obtain ⟨_, _, hrow⟩ := hO.hold 1 _ rfl rfl
 have hargs : (denL e [.ptr 0 0]).toArray = #[.pointer (some ⟨e.blk 0, 0, none⟩)] := by simp [denL, den]
 rw [hargs]
 obtain ⟨g, hg⟩ : ∃ g, g = if e.nil 1 then none else some (e.blk 1) := ⟨_, rfl⟩
 have key : Calls Tryz.prog 23 #[.pointer (some ⟨e.blk 0, 0, none⟩)] W fun en w' => en = .returned (.string (strT bs)) /\ KeepBut W w' g := by
  rcases hrow with ⟨h1, h2, h3⟩ | ⟨h1, cur, fz, h2, _, h3, h4, h5, h6⟩
  · have hb : bs = [] := by simpa using h3
    subst hb;rw [h1] at hceq hg;simp only [if_true] at hceq hg;rw [hceq, h2] at hW
    exact (str_nil _ _ W hW).mono fun en w' ⟨he, hk⟩ => ⟨he, by rw [hg]; exact hk⟩
  · rw [h1] at hceq hg
    simp only [Bool.false_eq_true, if_false] at hceq hg;rw [hceq] at hW;have hWg := hpW _ _ h2;rw [List.length_map] at h5 h6
    have hcur : cur.size = e.cap 1 := by rw [h3, Nat.mul_one]
    have none_some : ∀ {w' : World}, KeepBut W w' none -> KeepBut W w' g := fun hk => ⟨hk.size, hk.same, fun k hlt _ => hk.keep k hlt (by simp)⟩
    cases bs with
    | nil =>
      by_cases hc0 : e.cap 1 = 0
      · rw [hc0] at hW
        exact (str_noroom _ _ _ cur W hW hWg).mono fun en w' ⟨he, hk⟩ => ⟨he, none_some hk⟩
      · exact (str_room _ _ _ _ W hc0 hW).mono fun en w' ⟨he, hk⟩ => ⟨he, none_some hk⟩
    | cons x r =>
      refine (str_some _ _ _ cur _ (x :: r) W hW hWg (by simp) (by omega) h4 hcur fun j y hj => ?_).mono fun en w' ⟨he, hk⟩ => ⟨he, by rw [hk, hg]; exact freeze_keep _ _ _⟩
      have hlt := (List.getElem?_eq_some_iff.1 hj).1;have := congrArg (fun l : List Value => l[j]?) h6;simp only [List.getElem?_map, hj, Option.map_some, List.getElem?_take] at this;rw [if_pos hlt] at this;simpa using this
 refine callV_func Tryz.call23 (args := [.pointer (some ⟨e.blk 0, 0, none⟩)]) (by simp) (callsIn_wide.2 (key.mono ?_))
 rintro en w' ⟨he, hk⟩
 have hin : ∀ k, hp k = none -> some k ≠ g := fun k hk2 hkg => by
  rw [hg] at hkg
  split at hkg
  · cases hkg
  · rename_i hnl
    have hnl : e.nil 1 = false := by simpa using hnl
    cases hkg
    rcases hrow with ⟨h1, _, _⟩ | ⟨_, cur, fz, h2, _⟩
    · rw [h1] at hnl; cases hnl
    · rw [h2] at hk2; cases hk2
 have hIk : ∀ k o, I k = some o -> w'.heap[k]? = some o := fun k o hko => by
  have hkn : hp k = none := by
   rcases hap k with h | h
   · rw [h] at hko; cases hko
   · exact h
  rw [hk.keep k (Mem.inW_lt hI hko) (hin k hkn)];exact hI k o hko
 refine ⟨.string (strT bs), I, Mem.emp, he, Mem.le_refl _, hIk, Mem.emp_inW _, Mem.apart_emp _, hk.size, hk.same, fun k hlt hkn => hk.keep k hlt (hin k hkn), fun k _ _ => ⟨rfl, fun h => h⟩, e, .v (.string (strT bs)), _, by simp [den], ?_, rfl, rfl⟩
 refine ⟨fun id x hx hal => ?_, fun i j x y hi hj hal _ _ _ _ => ?_, fun k hk => absurd rfl hk, fun id x k hx hnm => ?_⟩
 · match id, hx with
   | 0, hx => cases hx; cases hal
   | 1, hx => cases hx; cases hal
 · match i, hi with
   | 0, hi => cases hi; cases hal
   | 1, hi => cases hi; cases hal
 · match id, hx with
   | 0, hx => cases hx; cases hnm
   | 1, hx => cases hx; cases hnm
def BldG (G : Mem) (b : Nat) (bs : List UInt8) : Prop := ∃ e H, OwnE e H G /\ ((H = [bldE0 (some b)] /\ bs = []) \/ H = [bldE1 (some b) bs.length, bufE bs])
theorem bld_blk {e : Env} {H : List Ent} {G : Mem} {x : Ent} {r : List Ent} {b : Nat} (hO : OwnE e H G) (hH : H = x :: r) (hx : x.name = some b) : e.blk 0 = b := by
 subst hH;exact (hO.names 0 x b rfl hx).1
theorem ch39 (G : Mem) (b : Nat) (bs : List UInt8) (s : ByteArray) (hs : bs.length + s.size <= 100000000) (I : Mem) (h : BldG G b bs) :
 CtH Tryz.prog (fnv 24) #[.pointer (some ⟨b, 0, none⟩), .string s] I G (fun v I' G' => v = .tuple #[.int .i64 s.size, .nilIface] /\ BldG G' b (bs ++ tx s)) := by
 obtain ⟨e, H, hO, hH⟩ := h
 have harg : e.blk 0 = b -> (denL e [.ptr 0 0, .v (.string s)]).toArray = #[.pointer (some ⟨b, 0, none⟩), .string s] := fun hb => by simp [denL, den, hb]
 rcases hH with ⟨hH, rfl⟩ | hH
 · have hb := bld_blk hO hH rfl
   have := (cs39_fresh b s (by simpa using hs) I) e G (hH ▸ hO)
   rw [harg hb] at this
   refine CtH.mono this fun v I' G' _ ⟨e', sv, H', hv, hO', hsv, hH'⟩ => ⟨by rw [hv, hsv]; simp [den, denL], e', H', hO', .inr ?_⟩
   rw [hH'];have : (tx s).length = s.size := Array.length_toList;simp [this]
 · have hb := bld_blk hO hH rfl
   have := (cs39_used b bs s hs I) e G (hH ▸ hO);rw [harg hb] at this
   refine CtH.mono this fun v I' G' _ ⟨e', sv, H', hv, hO', hsv, hH'⟩ => ⟨by rw [hv, hsv]; simp [den, denL], e', H', hO', .inr ?_⟩
   rw [hH'];have : (tx s).length = s.size := Array.length_toList;simp [this]
theorem cs43_fresh (nm : Option Nat) (I : Mem) : CtS Tryz.prog (.v (fnv 23)) [.ptr 0 0] [bldE0 nm] I (fun sv H' _ => sv = .v (.string (strT [])) /\ H' = [⟨.dead, none⟩]) := by
 intro e hp hO W hI hpW hap;obtain ⟨hn, c, hc, hcs, hcv⟩ := hO.hold 0 _ rfl rfl
 have e0 : c[0]? = some (.pointer none) := by have := hcv 0 (.v (.pointer none)) rfl rfl; simpa [den] using this
 have e1 : c[1]? = some (.slice none 0 0) := by have := hcv 1 (.v (.slice none 0 0)) rfl rfl; simpa [den] using this
 have hsz : c.size = 2 := hcs
 have hceq : c = #[.pointer none, .slice none 0 0] := by
  apply Array.ext_getElem?;intro i
  match i with
  | 0 => simpa using e0
  | 1 => simpa using e1
  | i + 2 => rw [Array.getElem?_eq_none (by omega), Array.getElem?_eq_none (by simp)]
 have hW := hpW _ _ hc;rw [hceq] at hW
 have hargs : (denL e [.ptr 0 0]).toArray = #[.pointer (some ⟨e.blk 0, 0, none⟩)] := by simp [denL, den]
 rw [hargs]
 refine callV_func Tryz.call23 (args := [.pointer (some ⟨e.blk 0, 0, none⟩)]) (by simp) (callsIn_wide.2 ((str_nil _ _ W hW).mono ?_))
 rintro en w' ⟨he, hk⟩
 refine ⟨.string (strT []), I, Mem.emp, he, Mem.le_refl _, fun k o hko => ?_, Mem.emp_inW _, Mem.apart_emp _, hk.size, hk.same, fun k hlt hkn => hk.keep k hlt (by simp), fun k _ _ => ⟨rfl, fun h => h⟩, e, .v (.string (strT [])), _, by simp [den], ?_, rfl, rfl⟩
 · rw [hk.keep k (Mem.inW_lt hI hko) (by simp)]
   exact hI k o hko
 refine ⟨fun id x hx hal => ?_, fun i j x y hi hj hal _ _ _ _ => ?_, fun k hk => absurd rfl hk, fun id x k hx hnm => ?_⟩
 · match id, hx with
   | 0, hx => cases hx; cases hal
 · match i, hi with
   | 0, hi => cases hi; cases hal
 · match id, hx with
   | 0, hx => cases hx; cases hnm
theorem ch43 (G : Mem) (b : Nat) (bs : List UInt8) (I : Mem) (h : BldG G b bs) :
 CtH Tryz.prog (fnv 23) #[.pointer (some ⟨b, 0, none⟩)] I G (fun v I' G' => v = .string (strT bs)) := by
 obtain ⟨e, H, hO, hH⟩ := h
 have harg : e.blk 0 = b -> (denL e [.ptr 0 0]).toArray = #[.pointer (some ⟨b, 0, none⟩)] := fun hb => by simp [denL, den, hb]
 rcases hH with ⟨hH, rfl⟩ | hH
 · have hb := bld_blk hO hH rfl
   have := (cs43_fresh (some b) I) e G (hH ▸ hO);rw [harg hb] at this
   exact CtH.mono this fun v I' G' _ ⟨e', sv, H', hv, hO', hsv, hH'⟩ => by rw [hv, hsv]; simp [den]
 · have hb := bld_blk hO hH rfl
   have := (cs23 (some b) bs I) e G (hH ▸ hO);rw [harg hb] at this
   exact CtH.mono this fun v I' G' _ ⟨e', sv, H', hv, hO', hsv, hH'⟩ => by rw [hv, hsv]; simp [den]
theorem dec_len : ∀ (k u : Nat), u < 10 ^ (k + 1) -> (Lib.decDigits u).length <= k + 1
 | 0, u, h => by rw [Lib.decDigits, dif_pos (by simpa using h)]; simp
 | k + 1, u, h => by
   rw [Lib.decDigits];split
   · simp
   · have := dec_len k (u / 10) (by rw [Nat.pow_succ] at h; omega)
     simp only [List.length_append, List.length_cons, List.length_nil]; omega
theorem itoa_len {n : Int} (h : i64N n) : (Lib.itoa n).length <= 21 := by
 have h1 := h.1;have h2 := h.2;unfold Lib.itoa;split
 · have := dec_len 19 n.natAbs (by omega)
   simp only [List.length_cons]; omega
 · have := dec_len 19 n.toNat (by omega)
   omega
theorem joinC_len (c : UInt8) (B : Nat) : ∀ ws : List Tx, (∀ w ∈ ws, w.length <= B) -> (joinC c ws).length <= ws.length * (B + 1)
 | [], _ => by simp [joinC]
 | [x], h => by have := h x (by simp); simp only [joinC, List.length_cons, List.length_nil]; omega
 | x :: y :: r, h => by
   have h1 := h x (by simp)
   have h2 := joinC_len c B (y :: r) fun w hw => h w (List.mem_cons_of_mem _ hw);simp only [joinC, List.length_append, List.length_cons] at h2 ⊢;rw [Nat.add_mul _ 1];omega
theorem ct45 (n : Int) (hn : i64N n) (I : Mem) (hG : Globs I) : Ct Tryz.prog (fnv 45) #[.int .i64 n] I (fun v _ => v = .string (strT (lab n))) := by
 obtain ⟨Q, hQ⟩ : ∃ q : Value, q = .string (strT (lab n)) := ⟨_, rfl⟩;rw [<- hQ]
 refine viaR (ct_via (A := { }) Tryz.func45 rfl Tryz.call45 rfl rfl) (Ct Tryz.prog (fnv 25) #[.int .i64 n] I fun v a => ∃ q, v = .string q /\ 1 + q.size <= 4611686018427387904 /\ Value.string (⟨#[108]⟩ ++ q) = Q) (by kernel_rfl) ?_
 have hl := itoa_len hn
 refine (ct25 n hn I hG).mono fun v J l hv => ⟨_, hv, by rw [strT_size]; omega, ?_⟩
 rw [hQ];rfl
def OperN (i : Ins) (p : Nat) (u : Int) (xs : List Value) : Prop := ∃ l : List ByteArray, xs = strs l /\ operands i = l.map tx ++ operA ((formL i.op).drop p) i u.toNat /\ 0 <= u /\ u + ((formL i.op).drop p).count 114 <= 3 /\ l.length = p /\ p <= (formL i.op).length
set_option maxHeartbeats 4000000 in
theorem ct46 (i : Ins) (h : okI i) (I : Mem) (hG : Globs I) : Ct Tryz.prog (fnv 46) #[.agg (insV i).toArray] I (fun v I' => ∃ (l : List ByteArray) (a : Option Addr) (n c : Nat), v = .slice a n c /\ l.map tx = operands i /\ SlM I' a n 1 (strs l) /\ n <= 3 /\ n <= c /\ c <= maxLen) := by
 obtain ⟨Q, hQ⟩ : ∃ q : Value -> Mem -> Prop, q = fun v I' => ∃ (l : List ByteArray) (a : Option Addr) (n c : Nat), v = .slice a n c /\ l.map tx = operands i /\ SlM I' a n 1 (strs l) /\ n <= 3 /\ n <= c /\ c <= maxLen := ⟨_, rfl⟩;obtain ⟨N, hN⟩ : ∃ f, f = OperN i := ⟨_, rfl⟩;obtain ⟨F, hF⟩ : ∃ q : Nat, q = (formL i.op).length := ⟨_, rfl⟩;rw [<- hQ]
 refine viaR (ct_via (A := { loops := [(5, ⟨[(1, .keep), (5, .keep), (6, .sh (.int .i64)), (7, .row 3), (24, .keep)], [(0, .keep), (1, .keep), (2, .iter), (3, .row)], [(7, 1, 9)], fun vals xss _ _ => match vals, xss with | [.int .i64 u], [it, xs] => N (posL it) u xs | _, _ => False, fun _ xss => match xss with | [it, _] => F - posL it | _ => 0⟩)] }) Tryz.func46 rfl Tryz.call46 rfl rfl) (let E1 := fun (x : Value) (a : List Value) (b : ByteArray) (c : List Value) (d : Int) => ∃ q, x = .string q /\ a.length = a.length * 1 /\ a.length + 1 <= 9223372036854775807 /\ (a.length + 1) * 16 <= 140737488355328 /\ Rf (Ent.mk (.cells [.v (.int .u8 i.op), .v (.int .u8 i.a), .v (.int .u8 i.b), .v (.int .u8 i.c), .v (.int .i64 i.n)] 27) none) /\ Rf (Ent.mk (.cells [.v (.int .u8 i.a), .v (.int .u8 i.b), .v (.int .u8 i.c)] 134) none) /\ (b = b /\ Rf (none : Option Nat)) /\ Rf (SV.ptr 0 0) /\ Rf (SV.ptr 1 0) /\ a.length + 1 = List.length (a ++ [.string q]) /\ Rf (SV.ptr 2 0) /\ N (posL [.int .i64 ((posL c + (Utf8.decode b (posL c)).2 : Nat) : Int)]) d (a ++ [.string q]) /\ F - posL [.int .i64 ((posL c + (Utf8.decode b (posL c)).2 : Nat) : Int)] < F - posL c
  Ct Tryz.prog (fnv 74) #[.int .u8 i.op] I fun v a => ∃ q b, v = .tuple #[.string q, .bool b] /\ (Rf (Ent.mk (.cells [.v (.int .u8 i.op), .v (.int .u8 i.a), .v (.int .u8 i.b), .v (.int .u8 i.c), .v (.int .i64 i.n)] 27) none) /\ Rf (Ent.mk (.cells [.v (.int .u8 i.a), .v (.int .u8 i.b), .v (.int .u8 i.c)] 134) none) /\ (q = q /\ Rf (none : Option Nat)) /\ Rf (SV.ptr 0 0) /\ Rf (SV.ptr 1 0) /\ (0 : Nat) = 0 /\ Rf (SV.ptr 2 0) /\ N 0 0 []) /\ ∀ (c : Mem), Mem -> a.le c -> ∀ (x d : List Value) (n : Int), N (posL x) n d -> Br ((posL x).blt q.size) (Br (((Utf8.decode q (posL x)).1 : Int) == 114) (0 <= n /\ n < 3 /\ ∃ e, [SV.v (.int .u8 i.a), .v (.int .u8 i.b), .v (.int .u8 i.c)][0 + n.toNat * 1 + 0]?.bind (fun (f : SV) => (match f with
  | SV.v x => some x
  | x => none)) = some (.int .u8 e) /\ Wr .i64 e fun f => Ct Tryz.prog (fnv 25) #[.int .i64 f] c fun g j => ∃ k, g = .string k /\ 1 + k.size <= 4611686018427387904 /\ d.length = d.length * 1 /\ d.length + 1 <= 9223372036854775807 /\ (d.length + 1) * 16 <= 140737488355328 /\ Wr .i64 (n + 1) fun l => Rf (Ent.mk (.cells [.v (.int .u8 i.op), .v (.int .u8 i.a), .v (.int .u8 i.b), .v (.int .u8 i.c), .v (.int .i64 i.n)] 27) none) /\ Rf (Ent.mk (.cells [.v (.int .u8 i.a), .v (.int .u8 i.b), .v (.int .u8 i.c)] 134) none) /\ (q = q /\ Rf (none : Option Nat)) /\ Rf (SV.ptr 0 0) /\ Rf (SV.ptr 1 0) /\ d.length + 1 = List.length (d ++ [.string (⟨#[114]⟩ ++ k)]) /\ Rf (SV.ptr 2 0) /\ N (posL [.int .i64 ((posL x + (Utf8.decode q (posL x)).2 : Nat) : Int)]) l (d ++ [.string (⟨#[114]⟩ ++ k)]) /\ F - posL [.int .i64 ((posL x + (Utf8.decode q (posL x)).2 : Nat) : Int)] < F - posL x) (Br (((Utf8.decode q (posL x)).1 : Int) == 116) (Ct Tryz.prog (fnv 45) #[.int .i64 i.n] c (fun e f => E1 e d q x n)) (Ct Tryz.prog (fnv 75) #[.int .i64 i.n, .int .i64 10] c (fun e f => E1 e d q x n)))) (∀ (e : Option Addr) (f : Nat) (g : Mem), c.le g -> RowM g e f 1 d -> Q (.slice e d.length f) g)) (by kernel_rfl) ?_
 intro E1;obtain ⟨hmem, hlen, hcnt⟩ := formL_mem i.op;refine (ct74 i.op h.op I).mono fun v J lJ hv => ⟨_, _, hv, ⟨rfl, rfl, ⟨rfl, rfl⟩, rfl, rfl, rfl, rfl, ?_⟩, fun c G lc x d n hn => ?_⟩
 · rw [hN]
   exact ⟨[], rfl, rfl, by omega, by simp only [List.drop_zero]; omega, rfl, Nat.zero_le _⟩
 rw [hN] at hn;obtain ⟨l, rfl, h2, h3, h4, h5, h6⟩ := hn
 have hsl : (strs l).length = l.length := by simp [strs]
 have snoc : ∀ y : ByteArray, strs l ++ [.string y] = strs (l ++ [y]) := fun y => by simp [strs]
 refine Br.mk (fun h7 => ?_) (fun h7 => ?_)
 · have hlt : posL x < (formL i.op).length := by
    have : posL x < (strT (formL i.op)).size := by simpa using h7
    rwa [strT_size] at this
   obtain ⟨L, hL⟩ : ∃ L, (formL i.op)[posL x]? = some L := ⟨_, List.getElem?_eq_getElem hlt⟩;have hLm := hmem L (List.mem_of_getElem? hL)
   have hd : (formL i.op).drop (posL x) = L :: (formL i.op).drop (posL x + 1) := by
    rw [List.drop_eq_getElem_cons hlt]
    congr 1
    rw [List.getElem?_eq_getElem hlt] at hL;exact Option.some.inj hL
   have hdec : Utf8.decode (strT (formL i.op)) (posL x) = (L.toNat, 1) := dec_ascii hL (by rcases hLm with rfl | rfl | rfl | rfl <;> decide)
   have hpos : posL [Value.int .i64 ((posL x + 1 : Nat) : Int)] = posL x + 1 := by simp [posL, natV]
   rw [hd] at h2 h4;have hG2 := hG.mono (Mem.le_trans lJ lc);rw [hdec];simp only [E1, hdec, Rf, eq_self, true_and, and_true]
   by_cases hr : L = 114
   · subst hr
     have hn3 : n < 3 := by rw [List.count_cons_self] at h4; omega
     refine Br.t rfl ⟨h3, hn3, regAt i.a i.b i.c n.toNat, ?_, ?_⟩
     · have hcs : n = 0 \/ n = 1 \/ n = 2 := by omega
       rcases hcs with rfl | rfl | rfl <;> rfl
     · have hrg : 0 <= regAt i.a i.b i.c n.toNat /\ regAt i.a i.b i.c n.toNat <= 255 := by
        unfold regAt;split
        · exact h.a
        · exact h.b
        · exact h.c
       have hrn : i64N (regAt i.a i.b i.c n.toNat) := ⟨by omega, by omega⟩
       have hl := itoa_len hrn
       refine wr_i64 (by omega) (by omega) ((ct25 _ hrn c hG2).mono fun g j lj hg => ⟨_, hg, by rw [strT_size]; omega, by omega, by omega, by omega, wr_i64 (by omega) (by omega) ⟨by simp, ?_, ?_⟩⟩)
       · rw [hN, hpos]
         refine ⟨l ++ [strT (114 :: Lib.itoa (regAt i.a i.b i.c n.toNat))], ?_, ?_, by omega, by rw [List.count_cons_self] at h4; omega, by simp; omega, by omega⟩
         · rw [<- snoc]; rfl
         · rw [h2, operA, if_pos rfl, show (n + 1).toNat = n.toNat + 1 by omega]
           simp [tx_strT]
       · rw [hpos]; omega
   · refine Br.f (by simpa using fun e : (L.toNat : Int) = 114 => hr (UInt8.toNat_inj.1 (by rw [show (114 : UInt8).toNat = 114 by decide]; omega))) ?_
     have hcn : n + (((formL i.op).drop (posL x + 1)).count 114 : Nat) <= 3 := by rw [List.count_cons_of_ne (fun e => hr e)] at h4; exact h4
     have fin : ∀ (y : Tx), operA (L :: (formL i.op).drop (posL x + 1)) i n.toNat = y :: operA ((formL i.op).drop (posL x + 1)) i n.toNat -> N (posL [Value.int .i64 ((posL x + 1 : Nat) : Int)]) n (strs l ++ [.string (strT y)]) := fun y hy => by
      rw [hN, hpos]
      refine ⟨l ++ [strT y], by rw [snoc], ?_, h3, hcn, by simp; omega, by omega⟩
      rw [h2, hy];simp [tx_strT]
     have hF2 : F - posL [Value.int .i64 ((posL x + 1 : Nat) : Int)] < F - posL x := by rw [hpos]; omega
     by_cases ht : L = 116
     · subst ht
       refine Br.t rfl ((ct45 i.n h.n c hG2).mono fun e f lf he => ⟨_, he, by omega, by omega, by omega, by simp, fin _ ?_, hF2⟩)
       rw [operA, if_neg (by decide), if_pos rfl]
     · refine Br.f (by simpa using fun e : (L.toNat : Int) = 116 => ht (UInt8.toNat_inj.1 (by rw [show (116 : UInt8).toNat = 116 by decide]; omega))) ((ct75 i.n h.n c hG2).mono fun e f lf he => ⟨_, he, by omega, by omega, by omega, by simp, fin _ ?_, hF2⟩)
       rw [operA, if_neg hr, if_neg ht]
 · have hge : (formL i.op).length <= posL x := by
    have h7 : ¬ posL x < (strT (formL i.op)).size := fun hh => by
     have : (posL x).blt (strT (formL i.op)).size = true := by simpa using hh
     rw [this] at h7; cases h7
    rw [strT_size] at h7; omega
   rw [List.drop_eq_nil_of_le hge, operA, List.append_nil] at h2;intro e f g lg hrow;rw [hQ]
   have hs := hrow.sl (n := l.length) (by decide) (by rw [hsl]; omega)
   obtain ⟨r1, r2, _⟩ := hrow
   refine ⟨l, e, (strs l).length, f, rfl, h2.symm, by rw [hsl]; exact hs, by omega, by omega, r2⟩
