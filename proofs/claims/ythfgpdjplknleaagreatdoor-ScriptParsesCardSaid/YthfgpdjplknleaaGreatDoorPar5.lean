/- Part of a proof by the rules of the symbolic walk (see the law's own text): contracts of functions of the program. -/
import Derived.Test.YthfgpdjplknleaaGreatDoorPar4
import Derived.Lib.SplitLaws
import Derived.Lib.IndexBytes
import Derived.Lib.ItoaNum
import Derived.Lib.ParseIntB
import Derived.Lib.Join
import Derived.Test.YthfgpdjplknleaaGreatDoorParShelf
import Derived.Lib.SmallJoins
import Derived.Lib.AtoiAll
import Derived.Test.YthfgpdjplknleaaGreatDoorRows
import Derived.Lib.LaidTab
import Derived.Lib.LaidU8
import Derived.Stop.LaidErr
import Derived.Stop.Joined
import Derived.Shelf.Vars
import Derived.Lay
import Derived.MakeChecks
import Derived.ProofKit
import Derived.Test.YthfgpdjplknleaaGreatDoorPar3
import Derived.Lib.Builder
import Derived.Shelf.RegionOpenPlain
import Derived.Shelf.Strings.BuilderX
import Derived.Lib.UnsafeStr
import Derived.Lib.Strings
import Derived.Lib.Walk
import Derived.WalkKit
import Derived.Laws.Externs
set_option linter.unusedVariables false
set_option linter.unusedSimpArgs false
open Go Go.Proofs Go.SE Go.RowKit
set_option linter.unusedVariables false
set_option maxRecDepth 100000
theorem same_iff {r q : Rq} : sameR r q = true ↔ r = q := by
 constructor
 · intro h
   have h := of_decide_eq_true h
   cases r; cases q
   simp only at h
   obtain ⟨rfl, rfl, rfl, rfl, rfl, rfl, rfl, rfl, rfl, rfl, rfl, rfl⟩ := h;rfl
 · rintro rfl
   simp [sameR]
theorem right_run {r : Rq} (hr : okRq r) (h : rightR r = true) : (tagsR r).all (okT r) = true /\ (tagsR r).foldl (copyT r) (had0 r) = r := by
 have ht := (right_tag h).1;rw [right_eq hr, rightS, ht] at h;simp only [Bool.and_eq_true] at h;exact ⟨h.2.2.1, same_iff.1 h.2.2.2⟩
theorem tag_seven {k w : Int} {l : List Int} (h : tagL k w = some l) : (k = 7 /\ ∃ m, askL w = some m /\ l = 1 :: m) \/ (k ≠ 7 /\ (∀ t ∈ l, t ≠ 1) /\ ∀ w', tagL k w' = some l) := by
 by_cases h7 : k = 7
 · subst h7
   have : (askL w).map (1 :: ·) = some l := h
   cases hq : askL w with
   | none => rw [hq] at this; cases this
   | some m =>
    rw [hq] at this;cases this;exact .inl ⟨rfl, m, rfl, rfl⟩
 · refine .inr ⟨h7, ?_, fun w' => ?_⟩
   · unfold tagL at h
     rw [if_neg h7] at h
     repeat' split at h
     all_goals first | (cases h; simp; done) | (cases h; done)
   · unfold tagL at h ⊢
     rw [if_neg h7] at h ⊢;exact h
theorem fold_what (r : Rq) : ∀ (l : List Int) (h : Rq), (∀ t ∈ l, t ≠ 1) -> (l.foldl (copyT r) h).what = h.what
 | [], h, _ => rfl
 | t :: l, h, ht => by
  rw [List.foldl_cons, fold_what r l _ fun s hs => ht s (by simp [hs])]
  have h1 := ht t (by simp)
  unfold copyT;rw [if_neg h1]
  repeat' split
  all_goals rfl
def setW (h : Rq) (w : Int) : Rq := { h with what := w }
theorem copy_what (r h : Rq) (t : Int) : copyT r (setW h r.what) t = setW (copyT r h t) r.what := by
 unfold copyT
 by_cases h1 : t = 1
 · rw [if_pos h1, if_pos h1]; rfl
 rw [if_neg h1, if_neg h1]
 by_cases h2 : t = 2
 · rw [if_pos h2, if_pos h2]; rfl
 rw [if_neg h2, if_neg h2]
 by_cases h3 : t = 3
 · rw [if_pos h3, if_pos h3]; rfl
 rw [if_neg h3, if_neg h3]
 by_cases h4 : t = 4
 · rw [if_pos h4, if_pos h4]; rfl
 rw [if_neg h4, if_neg h4]
 by_cases h5 : t = 5
 · rw [if_pos h5, if_pos h5]; rfl
 rw [if_neg h5, if_neg h5]
 by_cases h6 : t = 6
 · rw [if_pos h6, if_pos h6]; rfl
 rw [if_neg h6, if_neg h6]
 by_cases h7 : t = 7
 · rw [if_pos h7, if_pos h7]; rfl
 rw [if_neg h7, if_neg h7]
 by_cases h8 : t = 8
 · rw [if_pos h8, if_pos h8]; rfl
 rw [if_neg h8, if_neg h8]
 by_cases h9 : t = 9
 · rw [if_pos h9, if_pos h9]; rfl
 rw [if_neg h9, if_neg h9]
 by_cases h10 : t = 10
 · rw [if_pos h10, if_pos h10]; rfl
 rw [if_neg h10, if_neg h10];rfl
theorem fold_set (r : Rq) : ∀ (l : List Int) (h : Rq), l.foldl (copyT r) (setW h r.what) = setW (l.foldl (copyT r) h) r.what
 | [], h => rfl
 | t :: l, h => by
  rw [List.foldl_cons, copy_what, fold_set r l]; rfl
theorem try_copy {r : Rq} (hr : okRq r) : ∀ (l : List Int) (h : Rq), (∀ t ∈ l, 1 <= t /\ t <= 11) -> h.what = r.what -> l.all (okT r) = true -> tryT h l (fldsR r l) = (l.foldl (copyT r) h, true)
 | [], h, _, _, _ => rfl
 | t :: l, h, ht, hw, ha => by
  rw [List.all_cons, Bool.and_eq_true] at ha
  obtain ⟨g1, g2⟩ := step_copy (h := h) hr (ht t (by simp))
  have hp : preR r h t = h := by
   unfold preR;split
   · rw [<- hw]
   · rfl
  rw [hp, ha.1] at g1;have g2 := g2 ha.1;rw [hp] at g2;have hf : fldsR r (t :: l) = (t, bytesR r t) :: fldsR r l := rfl
  have hcw : (copyT r h t).what = r.what := by
   unfold copyT
   repeat' split
   all_goals first | rfl | exact hw
  rw [hf, tryT, if_pos rfl, if_pos g1, g2, try_copy hr l _ (fun s hs => ht s (by simp [hs])) hcw ha.2, List.foldl_cons]
theorem flds_ok {r : Rq} (hr : okRq r) {l : List Int} (hl : ∀ t ∈ l, 1 <= t /\ t <= 11) : ∀ f ∈ fldsR r l, okFld f := fun f hf => by
 obtain ⟨t, ht, rfl⟩ := List.mem_map.1 hf;have := hl t ht
 exact ⟨⟨by show -9223372036854775808 <= t; omega, by show t <= 9223372036854775807; omega⟩, bytesR_ok hr t⟩
theorem write_ok {r : Rq} (hr : okRq r) (h : rightR r = true) : byteL (writeR r) := fun z hz => by
 have hk := hr.kind
 rcases List.mem_cons.1 hz with rfl | hz
 · omega
 rcases List.mem_cons.1 hz with rfl | hz
 · exact hk
 exact write_bytes (right_flds hr h) (flds_ok hr (tagL_ok (right_tag h).1).1) z hz
theorem read_writeR {r : Rq} (hr : okRq r) (h : rightR r = true) : accB (writeR r) = true /\ readR (writeR r) = (r, 0) := by
 obtain ⟨ha, hf⟩ := right_run hr h;have ht := (right_tag h).1;have hl := (tagL_ok ht).1;have hF := right_flds hr h;have hrd := read_write hF;have hd : (writeR r).drop 2 = writeF (fldsR r (tagsR r)) := rfl;have hk : kindB (writeR r) = r.kind := rfl
 have hfl : flB (writeR r) = fldsR r (tagsR r) := by rw [flB, hd, hrd]
 have hw : whatB (writeR r) = r.what := by
  rw [whatB, hk, hfl]
  rcases tag_seven ht with ⟨h7, m, hm, he⟩ | ⟨h7, hn, _⟩
  · have hwr := hr.what
    obtain ⟨g1, g2⟩ := lastN_f2 (x := r.what.toNat) (by omega)
    rw [Int.toNat_of_nonneg hwr.1] at g1
    have : fldsR r (tagsR r) = (1, formN r.what.toNat) :: fldsR r m := by rw [he]; rfl
    rw [this]
    show (if r.kind = 7 /\ (lastN (formN r.what.toNat)).2.2 = 0 /\ (lastN (formN r.what.toNat)).1 < 256 then (lastN (formN r.what.toNat)).1 else 0) = r.what
    rw [g1, g2, if_pos ⟨h7, rfl, by omega⟩]
  · have hw0 : r.what = 0 := by
     have := fold_what r (tagsR r) (had0 r) hn;rw [hf] at this;exact this
    rw [hw0]
    cases fldsR r (tagsR r) with
    | nil => rfl
    | cons f fs =>
     show (if r.kind = 7 /\ _ then _ else _) = _
     rw [if_neg (fun hc => h7 hc.1)]
 have hst : startQ (writeR r) = setW (had0 r) r.what := by rw [startQ, hk, hw]; rfl
 have htb : tagB (writeR r) = some (tagsR r) := by rw [tagB, hk, hw, ht]
 have hrun : runB (writeR r) = (r, true) := by
  rw [runB, htb, hfl, hst, Option.getD_some, try_copy hr (tagsR r) (setW (had0 r) r.what) hl rfl ha, fold_set, hf]; rfl
 have hacc : accB (writeR r) = true := by
  rw [accB, hd, hrd, htb, hrun];simp only [h]
  have h1 : 2 <= (writeR r).length := by rw [writeR, List.length_cons, List.length_cons]; omega
  have h2 : (writeR r)[0]? = some 1 := rfl
  rw [decide_eq_true h1, decide_eq_true h2]; rfl
 exact ⟨hacc, by rw [readR, hacc, if_pos rfl, hrun]⟩
theorem strL_strB {bs : List Int} (h : byteL bs) : strL (strB bs) = bs := by
 show (u8s bs).toArray.toList.map _ = bs
 simp only [u8s, List.map_map]
 conv => rhs; rw [<- List.map_id bs]
 apply List.map_congr_left;intro z hz;exact u8_nat (h z hz)
theorem fold_unfold {y : Int} (h : 0 <= y) : foldZ (unfoldZ y) = y := by
 unfold foldZ unfoldZ
 split <;> split <;> omega
theorem form_last {bs : List Int} (hb : byteL bs) (h : (lastN bs).2.2 = 0) : formN (lastN bs).1.toNat = bs /\ 0 <= (lastN bs).1 := by
 rcases lastN_cases bs hb with ⟨_, h1, _, h2⟩ | ⟨_, h1⟩
 · exact ⟨h2, h1⟩
 · omega
theorem num_back {h : Rq} {t : Int} {bs : List Int} (hb : byteL bs) (ht : 3 <= t /\ t <= 9) (ha : takeB h t bs = true) : formN (IntKind.u64.wrap (IntKind.i64.wrap (lastN bs).1)).toNat = bs := by
 rw [takeB, if_neg (by omega), if_neg (by omega), if_neg (by omega), Bool.and_eq_true, decide_eq_true_eq, decide_eq_true_eq] at ha
 obtain ⟨g1, g2⟩ := form_last hb ha.1
 have : IntKind.u64.wrap (IntKind.i64.wrap (lastN bs).1) = (lastN bs).1 := by
  rw [w64, IntKind.wrap_i64]; omega
 rw [this, g1]
theorem bytes_take {h : Rq} {t : Int} {bs : List Int} (hb : byteL bs) (ht : 1 <= t /\ t <= 11) (ha : takeB h t bs = true) : bytesR (takeR h t bs) t = bs := by
 rcases (by omega : t = 1 \/ t = 2 \/ t = 3 \/ t = 4 \/ t = 5 \/ t = 6 \/ t = 7 \/ t = 8 \/ t = 9 \/ t = 10 \/ t = 11) with rfl | rfl | rfl | rfl | rfl | rfl | rfl | rfl | rfl | rfl | rfl
 · rw [takeB, if_neg (by omega), if_pos rfl, Bool.and_eq_true, decide_eq_true_eq, decide_eq_true_eq] at ha
   show formN h.what.toNat = bs
   rw [<- ha.2];exact (form_last hb ha.1).1
 · exact strL_strB hb
 · exact num_back hb (by omega) ha
 · exact num_back hb (by omega) ha
 · exact num_back hb (by omega) ha
 · exact num_back hb (by omega) ha
 · exact num_back hb (by omega) ha
 · exact num_back hb (by omega) ha
 · exact num_back hb (by omega) ha
 · rw [takeB, if_neg (by omega), if_neg (by omega), if_pos rfl, decide_eq_true_eq] at ha
   obtain ⟨g1, g2⟩ := form_last hb ha
   show formN (foldZ (unfoldZ (lastN bs).1)).toNat = bs
   rw [fold_unfold g2, g1]
 · rfl
theorem bytes_other {h : Rq} {t s : Int} {bs : List Int} (ht : 1 <= t /\ t <= 11) (hs : 1 <= s /\ s <= 11) (hne : s ≠ t) : bytesR (takeR h t bs) s = bytesR h s := by
 rcases (by omega : t = 1 \/ t = 2 \/ t = 3 \/ t = 4 \/ t = 5 \/ t = 6 \/ t = 7 \/ t = 8 \/ t = 9 \/ t = 10 \/ t = 11) with rfl | rfl | rfl | rfl | rfl | rfl | rfl | rfl | rfl | rfl | rfl
 all_goals
  rcases (by omega : s = 1 \/ s = 2 \/ s = 3 \/ s = 4 \/ s = 5 \/ s = 6 \/ s = 7 \/ s = 8 \/ s = 9 \/ s = 10 \/ s = 11) with rfl | rfl | rfl | rfl | rfl | rfl | rfl | rfl | rfl | rfl | rfl
  all_goals first | rfl | exact absurd rfl hne
theorem take_kw (h : Rq) (t : Int) (bs : List Int) : (takeR h t bs).kind = h.kind /\ (takeR h t bs).what = h.what := by
 unfold takeR
 repeat' split
 all_goals exact ⟨rfl, rfl⟩
theorem try_back : ∀ (ts : List Int) (fs : List (Int × List Int)) (h r : Rq), okRq h -> (∀ t ∈ ts, 1 <= t /\ t <= 11) -> ts.Nodup -> (∀ f ∈ fs, okFld f) -> tryT h ts fs = (r, true) ->
 okRq r /\ r.kind = h.kind /\ r.what = h.what /\ fldsR r ts = fs /\ ∀ s, 1 <= s /\ s <= 11 -> s ∉ ts -> bytesR r s = bytesR h s
 | [], [], h, r, hh, _, _, _, he => by
  cases he;exact ⟨hh, rfl, rfl, rfl, fun _ _ _ => rfl⟩
 | [], _ :: _, h, r, hh, _, _, _, he => by simp [tryT] at he
 | _ :: _, [], h, r, hh, _, _, _, he => by simp [tryT] at he
 | t :: ts, f :: fs, h, r, hh, ht, hn, hok, he => by
  rw [tryT] at he
  split at he
  · rename_i hft
    split at he
    · rename_i hb
      have hof := hok f (by simp)
      have htr := ht t (by simp)
      rw [List.nodup_cons] at hn
      obtain ⟨g1, g2, g3, g4, g5⟩ := try_back ts fs _ r (okRq_take hh t hof.2) (fun s hs => ht s (by simp [hs])) hn.2 (fun g hg => hok g (by simp [hg])) he
      obtain ⟨k1, k2⟩ := take_kw h t f.2;refine ⟨g1, g2.trans k1, g3.trans k2, ?_, fun s hs hns => ?_⟩
      · have : fldsR r (t :: ts) = (t, bytesR r t) :: fldsR r ts := rfl
        rw [this, g4, g5 t htr hn.1, bytes_take hof.2 htr hb, <- hft]
      · rw [g5 s hs (fun hc => hns (by simp [hc])), bytes_other htr hs (fun hc => hns (by simp [hc]))]
    · cases he
  · cases he
theorem tag_nodup {k w : Int} {l : List Int} (h : tagL k w = some l) : l.Nodup := by
 have := tagL_shape h;simp only [shapesL, List.mem_cons, List.not_mem_nil, or_false] at this
 rcases this with rfl | rfl | rfl | rfl | rfl | rfl | rfl | rfl | rfl | rfl | rfl | rfl
 all_goals decide
theorem what_range {bs : List Int} (hb : byteL bs) : (0 <= kindB bs /\ kindB bs <= 255) /\ (0 <= whatB bs /\ whatB bs <= 255) /\ ∀ f ∈ flB bs, okFld f := by
 have hbd : byteL (bs.drop 2) := fun z hz => hb z (List.mem_of_mem_drop hz)
 have hk : 0 <= kindB bs /\ kindB bs <= 255 := by
  rw [kindB]
  cases hq : bs[1]? with
  | none => show (0 : Int) <= 0 /\ (0 : Int) <= 255; omega
  | some x => exact hb x (List.mem_of_getElem? hq)
 have hfo : ∀ f ∈ flB bs, okFld f := by
  rcases read_cases (bs.drop 2) hbd with ⟨_, _, hr, hw⟩ | ⟨hr, _⟩
  · intro f hf
    have h1 := right_at (rightF_iff.1 hr).1 f hf
    refine ⟨⟨by omega, by omega⟩, fun z hz => hbd z ?_⟩
    rw [<- hw, writeF, List.mem_flatMap]
    exact ⟨f, hf, by simp [hz]⟩
  · intro f hf
    have : flB bs = [] := hr
    rw [this] at hf; cases hf
 refine ⟨hk, ?_, hfo⟩;rw [whatB]
 cases hq : flB bs with
 | nil =>
  show (0 : Int) <= 0 /\ (0 : Int) <= 255
  omega
 | cons f r0 =>
  have hok := hfo f (by rw [hq]; simp)
  have hr := last_range hok.2;rw [whatL]
  split <;> omega
theorem read_back {bs : List Int} (hb : byteL bs) (h : accB bs = true) : okRq (readR bs).1 /\ rightR (readR bs).1 = true /\ writeR (readR bs).1 = bs /\ (readR bs).2 = 0 := by
 have hrd : readR bs = ((runB bs).1, 0) := by rw [readR, h, if_pos rfl]
 rw [hrd]
 simp only
 rw [accB, Bool.and_eq_true, Bool.and_eq_true, Bool.and_eq_true, Bool.and_eq_true, Bool.and_eq_true] at h;obtain ⟨h1, h2, h3, h4, h5, h6⟩ := h;have h1 := of_decide_eq_true h1;have h2 := of_decide_eq_true h2;have h3 := of_decide_eq_true h3;obtain ⟨ts, hts⟩ := Option.isSome_iff_exists.1 h4;obtain ⟨hk, hw, hfo⟩ := what_range hb
 have hrun : runB bs = tryT (startQ bs) ts (flB bs) := by rw [runB, hts]; rfl
 have hpair : tryT (startQ bs) ts (flB bs) = ((runB bs).1, true) := by rw [<- hrun]; exact Prod.ext rfl h5
 obtain ⟨g1, g2, g3, g4, _⟩ := try_back ts (flB bs) (startQ bs) (runB bs).1 (okRq_start hk hw) (tagL_ok hts).1 (tag_nodup hts) hfo hpair;refine ⟨g1, h6, ?_, trivial⟩;have g2 : (runB bs).1.kind = kindB bs := g2;have g3 : (runB bs).1.what = whatB bs := g3
 have htg : tagsR (runB bs).1 = ts := by
  rw [tagsR, g2, g3];have : tagL (kindB bs) (whatB bs) = some ts := hts
  rw [this]; rfl
 rw [writeR, htg, g4, g2];have hbd : byteL (bs.drop 2) := fun z hz => hb z (List.mem_of_mem_drop hz)
 have hwf : writeF (flB bs) = bs.drop 2 := by
  rcases read_cases (bs.drop 2) hbd with ⟨_, _, _, hw⟩ | ⟨_, hr⟩
  · exact hw
  · omega
 rw [hwf]
 match bs, h1, h2 with
 | x :: y :: r, _, h2 =>
  cases h2;rfl
theorem read_bad {bs : List Int} (h : accB bs = false) : readR bs = (zeroRq, 341) := by rw [readR, h]; rfl
def nameStep (b c : Int) : Bool := if (97 <= c /\ c <= 122) \/ (48 <= c /\ c <= 57) then true else if c = 45 then decide (b ≠ 46) else if c = 46 then decide (b ≠ 46) && decide (b ≠ 45) else false
def nameGo : List Int -> Int -> Option Int
 | [], b => some b
 | c :: r, b => if nameStep b c then nameGo r c else none
def nameEnd : Option Int -> Bool
 | none => false
 | some b => decide (b ≠ 46) && decide (b ≠ 45)
def nameB (s : List Int) : Bool := decide (1 <= s.length) && (decide (s.length <= 32) && (decide (97 <= s.headD 0 /\ s.headD 0 <= 122) && nameEnd (nameGo s 46)))
theorem strL_get {s : ByteArray} {j : Nat} {c : UInt8} (h : s.data.toList[j]? = some c) : (strL s)[j]? = some (c.toNat : Int) := by
 rw [strL, List.getElem?_map, h]; rfl
theorem str_at {s : ByteArray} {j : Int} (h0 : 0 <= j) (h1 : j < s.size) : ∃ c : UInt8, s.data.toList[j.toNat]? = some c := by
 have : j.toNat < s.data.toList.length := by
  rw [Array.length_toList];have e : s.size = s.data.size := rfl;omega
 exact ⟨_, List.getElem?_eq_getElem this⟩
theorem ct54 (s : ByteArray) (I : Mem) : Ct Tryz.prog (fnv 54) #[.string s] I (fun v _ => v = .bool (nameB (strL s))) := by
 refine viaR (ct_via (A := { cuts := [(15, ⟨[(0, .keep), (2, .keep), (3, .sh .bool), (4, .kv), (5, .keep), (6, .kv), (26, .keep), (27, .keep)], [], [], fun vals _ _ _ => match vals with | [.bool ok, .int .u8 b, .int .u8 c] => ok = nameStep b c | _ => False, fun _ _ => 0⟩)], loops := [(6, ⟨[(0, .keep), (2, .keep), (3, .sh .bool), (4, .sh (.int .u8)), (26, .keep), (27, .sh (.int .i64))], [], [], fun vals _ _ _ => match vals with | [.bool ok, .int .u8 b, .int .i64 j] => 0 <= j /\ j <= s.size /\ ok = true /\ nameGo (strL s) 46 = nameGo ((strL s).drop j.toNat) b | _ => False, fun vals _ => match vals with | [_, _, .int .i64 j] => (s.size - j).toNat | _ => 0⟩)] }) Tryz.func54 rfl Tryz.call54 rfl rfl) (Br (decide ((s.size : Int) < 1)) (Value.bool false = .bool (nameB (strL s))) (Br (decide (32 < (s.size : Int))) (Value.bool false = .bool (nameB (strL s))) (∃ c, s.data.toList[0]? = some c /\ (0 : Int) <= 0 /\ Br (decide ((c.toNat : Int) < 97)) (Value.bool false = .bool (nameB (strL s))) (∃ a, s.data.toList[0]? = some a /\ (0 : Int) <= 0 /\ Br (decide (122 < (a.toNat : Int))) (Value.bool false = .bool (nameB (strL s))) ((Rf (SV.v (.string s)) /\ Rf (SV.v (.bool false)) /\ Rf (SV.v (.int .i64 (s.size : Int))) /\ (0 : Int) <= 0 /\ 0 <= (s.size : Int) /\ true = true /\ nameGo (strL s) 46 = nameGo (List.drop 0 (strL s)) 46) /\ ∀ (b : Mem), Mem -> I.le b -> ∀ (d : Bool) (n e : Int), 0 <= e /\ e <= (s.size : Int) /\ d = true /\ nameGo (strL s) 46 = nameGo (List.drop e.toNat (strL s)) n -> Br (decide (e < (s.size : Int))) (∃ f, s.data.toList[e.toNat]? = some f /\ 0 <= e /\ Br (decide (97 <= (f.toNat : Int))) (Br (decide ((f.toNat : Int) <= 122)) (Rf (SV.v (.string s)) /\ Rf (SV.v (.bool false)) /\ Rf (SV.v (.int .u8 n)) /\ Rf (SV.v (.int .i64 e)) /\ Rf (SV.v (.int .u8 (f.toNat : Int))) /\ Rf (SV.v (.int .i64 (s.size : Int))) /\ Rf (SV.v (.int .i64 e)) /\ d = nameStep n (f.toNat : Int)) (Br (decide (48 <= (f.toNat : Int))) (Br (decide ((f.toNat : Int) <= 57)) (Rf (SV.v (.string s)) /\ Rf (SV.v (.bool false)) /\ Rf (SV.v (.int .u8 n)) /\ Rf (SV.v (.int .i64 e)) /\ Rf (SV.v (.int .u8 (f.toNat : Int))) /\ Rf (SV.v (.int .i64 (s.size : Int))) /\ Rf (SV.v (.int .i64 e)) /\ d = nameStep n (f.toNat : Int)) (Br ((f.toNat : Int) == 45) (Rf (SV.v (.string s)) /\ Rf (SV.v (.bool false)) /\ Rf (SV.v (.int .u8 n)) /\ Rf (SV.v (.int .i64 e)) /\ Rf (SV.v (.int .u8 (f.toNat : Int))) /\ Rf (SV.v (.int .i64 (s.size : Int))) /\ Rf (SV.v (.int .i64 e)) /\ (n != 46) = nameStep n (f.toNat : Int)) (Br ((f.toNat : Int) == 46) (Br (n != 46) (Rf (SV.v (.string s)) /\ Rf (SV.v (.bool false)) /\ Rf (SV.v (.int .u8 n)) /\ Rf (SV.v (.int .i64 e)) /\ Rf (SV.v (.int .u8 (f.toNat : Int))) /\ Rf (SV.v (.int .i64 (s.size : Int))) /\ Rf (SV.v (.int .i64 e)) /\ (n != 45) = nameStep n (f.toNat : Int)) (Rf (SV.v (.string s)) /\ Rf (SV.v (.bool false)) /\ Rf (SV.v (.int .u8 n)) /\ Rf (SV.v (.int .i64 e)) /\ Rf (SV.v (.int .u8 (f.toNat : Int))) /\ Rf (SV.v (.int .i64 (s.size : Int))) /\ Rf (SV.v (.int .i64 e)) /\ false = nameStep n (f.toNat : Int))) (Rf (SV.v (.string s)) /\ Rf (SV.v (.bool false)) /\ Rf (SV.v (.int .u8 n)) /\ Rf (SV.v (.int .i64 e)) /\ Rf (SV.v (.int .u8 (f.toNat : Int))) /\ Rf (SV.v (.int .i64 (s.size : Int))) /\ Rf (SV.v (.int .i64 e)) /\ false = nameStep n (f.toNat : Int))))) (Br ((f.toNat : Int) == 45) (Rf (SV.v (.string s)) /\ Rf (SV.v (.bool false)) /\ Rf (SV.v (.int .u8 n)) /\ Rf (SV.v (.int .i64 e)) /\ Rf (SV.v (.int .u8 (f.toNat : Int))) /\ Rf (SV.v (.int .i64 (s.size : Int))) /\ Rf (SV.v (.int .i64 e)) /\ (n != 46) = nameStep n (f.toNat : Int)) (Br ((f.toNat : Int) == 46) (Br (n != 46) (Rf (SV.v (.string s)) /\ Rf (SV.v (.bool false)) /\ Rf (SV.v (.int .u8 n)) /\ Rf (SV.v (.int .i64 e)) /\ Rf (SV.v (.int .u8 (f.toNat : Int))) /\ Rf (SV.v (.int .i64 (s.size : Int))) /\ Rf (SV.v (.int .i64 e)) /\ (n != 45) = nameStep n (f.toNat : Int)) (Rf (SV.v (.string s)) /\ Rf (SV.v (.bool false)) /\ Rf (SV.v (.int .u8 n)) /\ Rf (SV.v (.int .i64 e)) /\ Rf (SV.v (.int .u8 (f.toNat : Int))) /\ Rf (SV.v (.int .i64 (s.size : Int))) /\ Rf (SV.v (.int .i64 e)) /\ false = nameStep n (f.toNat : Int))) (Rf (SV.v (.string s)) /\ Rf (SV.v (.bool false)) /\ Rf (SV.v (.int .u8 n)) /\ Rf (SV.v (.int .i64 e)) /\ Rf (SV.v (.int .u8 (f.toNat : Int))) /\ Rf (SV.v (.int .i64 (s.size : Int))) /\ Rf (SV.v (.int .i64 e)) /\ false = nameStep n (f.toNat : Int)))))) (Br (decide (48 <= (f.toNat : Int))) (Br (decide ((f.toNat : Int) <= 57)) (Rf (SV.v (.string s)) /\ Rf (SV.v (.bool false)) /\ Rf (SV.v (.int .u8 n)) /\ Rf (SV.v (.int .i64 e)) /\ Rf (SV.v (.int .u8 (f.toNat : Int))) /\ Rf (SV.v (.int .i64 (s.size : Int))) /\ Rf (SV.v (.int .i64 e)) /\ d = nameStep n (f.toNat : Int)) (Br ((f.toNat : Int) == 45) (Rf (SV.v (.string s)) /\ Rf (SV.v (.bool false)) /\ Rf (SV.v (.int .u8 n)) /\ Rf (SV.v (.int .i64 e)) /\ Rf (SV.v (.int .u8 (f.toNat : Int))) /\ Rf (SV.v (.int .i64 (s.size : Int))) /\ Rf (SV.v (.int .i64 e)) /\ (n != 46) = nameStep n (f.toNat : Int)) (Br ((f.toNat : Int) == 46) (Br (n != 46) (Rf (SV.v (.string s)) /\ Rf (SV.v (.bool false)) /\ Rf (SV.v (.int .u8 n)) /\ Rf (SV.v (.int .i64 e)) /\ Rf (SV.v (.int .u8 (f.toNat : Int))) /\ Rf (SV.v (.int .i64 (s.size : Int))) /\ Rf (SV.v (.int .i64 e)) /\ (n != 45) = nameStep n (f.toNat : Int)) (Rf (SV.v (.string s)) /\ Rf (SV.v (.bool false)) /\ Rf (SV.v (.int .u8 n)) /\ Rf (SV.v (.int .i64 e)) /\ Rf (SV.v (.int .u8 (f.toNat : Int))) /\ Rf (SV.v (.int .i64 (s.size : Int))) /\ Rf (SV.v (.int .i64 e)) /\ false = nameStep n (f.toNat : Int))) (Rf (SV.v (.string s)) /\ Rf (SV.v (.bool false)) /\ Rf (SV.v (.int .u8 n)) /\ Rf (SV.v (.int .i64 e)) /\ Rf (SV.v (.int .u8 (f.toNat : Int))) /\ Rf (SV.v (.int .i64 (s.size : Int))) /\ Rf (SV.v (.int .i64 e)) /\ false = nameStep n (f.toNat : Int))))) (Br ((f.toNat : Int) == 45) (Rf (SV.v (.string s)) /\ Rf (SV.v (.bool false)) /\ Rf (SV.v (.int .u8 n)) /\ Rf (SV.v (.int .i64 e)) /\ Rf (SV.v (.int .u8 (f.toNat : Int))) /\ Rf (SV.v (.int .i64 (s.size : Int))) /\ Rf (SV.v (.int .i64 e)) /\ (n != 46) = nameStep n (f.toNat : Int)) (Br ((f.toNat : Int) == 46) (Br (n != 46) (Rf (SV.v (.string s)) /\ Rf (SV.v (.bool false)) /\ Rf (SV.v (.int .u8 n)) /\ Rf (SV.v (.int .i64 e)) /\ Rf (SV.v (.int .u8 (f.toNat : Int))) /\ Rf (SV.v (.int .i64 (s.size : Int))) /\ Rf (SV.v (.int .i64 e)) /\ (n != 45) = nameStep n (f.toNat : Int)) (Rf (SV.v (.string s)) /\ Rf (SV.v (.bool false)) /\ Rf (SV.v (.int .u8 n)) /\ Rf (SV.v (.int .i64 e)) /\ Rf (SV.v (.int .u8 (f.toNat : Int))) /\ Rf (SV.v (.int .i64 (s.size : Int))) /\ Rf (SV.v (.int .i64 e)) /\ false = nameStep n (f.toNat : Int))) (Rf (SV.v (.string s)) /\ Rf (SV.v (.bool false)) /\ Rf (SV.v (.int .u8 n)) /\ Rf (SV.v (.int .i64 e)) /\ Rf (SV.v (.int .u8 (f.toNat : Int))) /\ Rf (SV.v (.int .i64 (s.size : Int))) /\ Rf (SV.v (.int .i64 e)) /\ false = nameStep n (f.toNat : Int))))) /\ ∀ (g : Mem), Mem -> b.le g -> ∀ (h : Bool), h = nameStep n (f.toNat : Int) -> Br (!h) (Br h (Br (n != 46) (Value.bool (n != 45) = .bool (nameB (strL s))) (Value.bool false = .bool (nameB (strL s)))) (Value.bool false = .bool (nameB (strL s)))) (Wr .i64 (e + 1) (fun i => Rf (SV.v (.string s)) /\ Rf (SV.v (.bool false)) /\ Rf (SV.v (.int .i64 (s.size : Int))) /\ (0 <= i /\ i <= (s.size : Int) /\ h = true /\ nameGo (strL s) 46 = nameGo (List.drop i.toNat (strL s)) (f.toNat : Int)) /\ Int.toNat ((s.size : Int) - i) < Int.toNat ((s.size : Int) - e)))) (Br d (Br (n != 46) (Value.bool (n != 45) = .bool (nameB (strL s))) (Value.bool false = .bool (nameB (strL s)))) (Value.bool false = .bool (nameB (strL s))))))))) (by kernel_rfl) ?_
 have hl := strL_len s;refine Br.mk (fun h => ?_) (fun h1 => Br.mk (fun h => ?_) (fun h2 => ?_))
 · have h := of_decide_eq_true h
   rw [nameB, decide_eq_false (by omega), Bool.false_and]
 · have h := of_decide_eq_true h
   rw [nameB, decide_eq_false (p := (strL s).length <= 32) (by omega), Bool.false_and, Bool.and_false]
 have h1 := of_decide_eq_false h1;have h2 := of_decide_eq_false h2
 obtain ⟨c0, hc0⟩ := str_at (s := s) (j := 0) (by omega) (by omega)
 have hc0' := strL_get hc0
 have hd : (strL s).headD 0 = (c0.toNat : Int) := by
  cases hq : strL s with
  | nil => rw [hq] at hc0'; cases hc0'
  | cons x r => rw [hq] at hc0'; exact Option.some.inj hc0'
 have hB : nameB (strL s) = (decide (97 <= (c0.toNat : Int) /\ (c0.toNat : Int) <= 122) && nameEnd (nameGo (strL s) 46)) := by
  rw [nameB, decide_eq_true (by omega), decide_eq_true (p := (strL s).length <= 32) (by omega), hd, Bool.true_and, Bool.true_and]
 refine ⟨c0, hc0, by omega, Br.mk (fun h => ?_) (fun h3 => ⟨c0, hc0, by omega, Br.mk (fun h => ?_) (fun h4 => ?_)⟩)⟩
 · have h := of_decide_eq_true h
   rw [hB, decide_eq_false (by omega), Bool.false_and]
 · have h := of_decide_eq_true h
   rw [hB, decide_eq_false (by omega), Bool.false_and]
 have h3 := of_decide_eq_false h3;have h4 := of_decide_eq_false h4
 have hB : nameB (strL s) = nameEnd (nameGo (strL s) 46) := by
  rw [hB, decide_eq_true (by omega), Bool.true_and]
 rw [hB]
 have fin : ∀ (ok : Bool) (b : Int), (if ok then nameEnd (some b) else false) = nameEnd (nameGo (strL s) 46) -> Br ok (Br (b != 46) (Value.bool (b != 45) = Value.bool (nameEnd (nameGo (strL s) 46))) (Value.bool false = Value.bool (nameEnd (nameGo (strL s) 46)))) (Value.bool false = Value.bool (nameEnd (nameGo (strL s) 46))) := fun ok b h => by
  rw [<- h]
  cases ok with
  | false => exact rfl
  | true =>
   refine Br.t rfl (Br.mk (fun g => ?_) (fun g => ?_))
   · have g : b ≠ 46 := fun e => by rw [e] at g; cases g
     simp only [nameEnd, if_true];rw [decide_eq_true g, Bool.true_and]
     congr 1
     by_cases h45 : b = 45 <;> simp [h45]
   · have g : b = 46 := by
      by_cases e : b = 46
      · exact e
      · rw [bne_iff_ne.2 e] at g; cases g
     subst g; rfl
 refine ⟨⟨rfl, rfl, rfl, by omega, by omega, rfl, rfl⟩, fun I1 _ l1 ok b j ⟨j0, j1, hok, hgo⟩ => Br.mk (fun hlt => ?_) (fun hge => ?_)⟩
 rotate_left
 · have hge := of_decide_eq_false hge
   refine fin ok b ?_
   rw [hgo, List.drop_eq_nil_of_le (by omega), hok]; rfl
 have hlt := of_decide_eq_true hlt;obtain ⟨c, hc⟩ := str_at j0 hlt;have hc' := strL_get hc;rw [drop_cons hc', nameGo] at hgo;refine ⟨c, hc, j0, ?_, fun I2 _ l2 ok2 hok2 => ?_⟩
 · rw [hok]
   generalize (c.toNat : Int) = x
   clear fin hgo
   repeat' refine Br.mk (fun _ => ?_) (fun _ => ?_)
   all_goals
    refine ⟨rfl, rfl, rfl, rfl, rfl, rfl, rfl, ?_⟩;simp only [decide_eq_true_eq, decide_eq_false_iff_not, beq_iff_eq, beq_eq_false_iff_ne, bne_iff_ne, bne_eq_false_iff_eq, ne_eq] at *;unfold nameStep
    repeat' split
    all_goals first
     | omega
     | rfl
     | (simp_all; done)
     | (by_cases e45 : b = 45 <;> by_cases e46 : b = 46 <;> simp_all <;> omega)
     | skip
 · rw [<- hok2] at hgo
   refine Br.mk (fun h => fin ok2 b ?_) (fun h => ?_)
   · have h : ok2 = false := by simpa using h
     rw [h] at hgo ⊢
     rw [hgo]; rfl
   · have h : ok2 = true := by simpa using h
     rw [h, if_pos rfl] at hgo
     exact wr_i64 (by omega) (by omega) ⟨rfl, rfl, rfl, ⟨by omega, by omega, h, by rw [show (j + 1).toNat = j.toNat + 1 by omega]; exact hgo⟩, by omega⟩
abbrev Tx := List UInt8
def hexC (n : Nat) : UInt8 := if n < 10 then UInt8.ofNat (48 + n) else UInt8.ofNat (87 + n)
def hexV (c : UInt8) : Option Nat := if 48 <= c.toNat /\ c.toNat <= 57 then some (c.toNat - 48) else if 97 <= c.toNat /\ c.toNat <= 102 then some (c.toNat - 87) else none
theorem hexC_nat {n : Nat} (h : n < 16) : (hexC n).toNat = if n < 10 then 48 + n else 87 + n := by
 unfold hexC;split
 · rw [UInt8.toNat_ofNat']; omega
 · rw [UInt8.toNat_ofNat']; omega
theorem hexV_C {n : Nat} (h : n < 16) : hexV (hexC n) = some n := by
 unfold hexV;rw [hexC_nat h];split
 · rw [if_pos (by omega)]; congr 1; omega
 · rw [if_neg (by omega), if_pos (by omega)]; congr 1; omega
theorem hexV_lt {c : UInt8} {n : Nat} (h : hexV c = some n) : n < 16 /\ hexC n = c := by
 unfold hexV at h
 split at h
 · simp only [Option.some.injEq] at h
   subst h
   refine ⟨by omega, UInt8.toNat_inj.1 ?_⟩
   rw [hexC_nat (by omega), if_pos (by omega)]; omega
 · split at h
   · simp only [Option.some.injEq] at h
     subst h
     refine ⟨by omega, UInt8.toNat_inj.1 ?_⟩
     rw [hexC_nat (by omega), if_neg (by omega)]; omega
   · cases h
theorem hexC_ok {n : Nat} (h : n < 16) : hexC n ≠ 32 /\ hexC n ≠ 10 /\ hexC n ≠ 37 := by
 have e := hexC_nat h
 refine ⟨?_, ?_, ?_⟩ <;> (intro hc; rw [hc] at e; revert e; split <;> (simp; omega))
def hex2 (b : Int) : Tx := [hexC (b.toNat / 16), hexC (b.toNat % 16)]
def wordT (bs : List Int) : Tx := 37 :: bs.flatMap hex2
def pairsT : Tx -> Option (List Int)
 | [] => some []
 | [_] => none
 | a :: b :: r => match hexV a, hexV b, pairsT r with
  | some x, some y, some l => some (((16 * x + y : Nat) : Int) :: l)
  | _, _, _ => none
def unwordT : Tx -> Option (List Int)
 | [] => none
 | c :: r => if c = 37 /\ r.length % 2 = 0 then pairsT r else none
theorem pairs_hex : ∀ (bs : List Int), (∀ z ∈ bs, 0 <= z /\ z <= 255) -> pairsT (bs.flatMap hex2) = some bs
 | [], _ => rfl
 | b :: r, h => by
  have hb := h b (by simp)
  have ih := pairs_hex r fun z hz => h z (List.mem_cons_of_mem _ hz);simp only [List.flatMap_cons, hex2, List.cons_append, List.nil_append, pairsT]
  rw [hexV_C (by omega), hexV_C (by omega)]
  rw [ih];simp only [Option.some.injEq, List.cons.injEq, and_true];omega
theorem hex_len (bs : List Int) : (bs.flatMap hex2).length = 2 * bs.length := by
 induction bs with
 | nil => rfl
 | cons b r ih => simp only [List.flatMap_cons, List.length_append, ih, hex2, List.length_cons, List.length_nil]; omega
theorem unword_word {bs : List Int} (h : ∀ z ∈ bs, 0 <= z /\ z <= 255) : unwordT (wordT bs) = some bs := by
 rw [wordT, unwordT, if_pos ⟨rfl, by rw [hex_len]; omega⟩, pairs_hex bs h]
theorem pairs_spec : ∀ {s : Tx} {bs : List Int}, pairsT s = some bs -> (∀ z ∈ bs, 0 <= z /\ z <= 255) /\ bs.flatMap hex2 = s
 | [], bs, h => by simp only [pairsT, Option.some.injEq] at h; subst h; exact ⟨fun z hz => (by cases hz), rfl⟩
 | [_], _, h => by simp [pairsT] at h
 | a :: b :: r, bs, h => by
  rw [pairsT] at h
  split at h
  · rename_i x y l hx hy hl
    simp only [Option.some.injEq] at h;subst h;obtain ⟨h1, h2⟩ := hexV_lt hx;obtain ⟨h3, h4⟩ := hexV_lt hy;obtain ⟨h5, h6⟩ := pairs_spec hl;refine ⟨fun z hz => ?_, ?_⟩
    · rcases List.mem_cons.1 hz with rfl | hz
      · omega
      · exact h5 z hz
    · simp only [List.flatMap_cons, hex2, h6, Int.toNat_natCast]
      rw [show (16 * x + y) / 16 = x by omega, show (16 * x + y) % 16 = y by omega, h2, h4]
      rfl
  · cases h
theorem unword_spec {s : Tx} {bs : List Int} (h : unwordT s = some bs) : (∀ z ∈ bs, 0 <= z /\ z <= 255) /\ wordT bs = s := by
 cases s with
 | nil => cases h
 | cons c r =>
  rw [unwordT] at h
  split at h
  · rename_i hc
    obtain ⟨h1, h2⟩ := pairs_spec h
    exact ⟨h1, by rw [wordT, h2, hc.1]⟩
  · cases h
theorem word_ok {bs : List Int} (h : ∀ z ∈ bs, 0 <= z /\ z <= 255) : ∀ c ∈ wordT bs, c ≠ 32 /\ c ≠ 10 := fun c hc => by
 rw [wordT] at hc
 rcases List.mem_cons.1 hc with rfl | hc
 · decide
 · obtain ⟨b, hb, hc⟩ := List.mem_flatMap.1 hc
   have := h b hb;simp only [hex2, List.mem_cons, List.not_mem_nil, or_false] at hc
   rcases hc with rfl | rfl
   · have := hexC_ok (n := b.toNat / 16) (by omega); exact ⟨this.1, this.2.1⟩
   · have := hexC_ok (n := b.toNat % 16) (by omega); exact ⟨this.1, this.2.1⟩
def splitC (c : UInt8) : Tx -> List Tx
 | [] => [[]]
 | b :: r => if b = c then [] :: splitC c r else match splitC c r with
  | x :: xs => (b :: x) :: xs
  | [] => [[b]]
theorem splitC_ne (c : UInt8) (s : Tx) : splitC c s ≠ [] := by
 cases s with
 | nil => simp [splitC]
 | cons b r =>
  rw [splitC];split
  · simp
  · split <;> simp
theorem splitC_free (c : UInt8) : ∀ (s : Tx), ∀ x ∈ splitC c s, c ∉ x
 | [], x, hx => by simp [splitC] at hx; subst hx; simp
 | b :: r, x, hx => by
  have ih := splitC_free c r;rw [splitC] at hx
  split at hx
  · rcases List.mem_cons.1 hx with rfl | hx
    · simp
    · exact ih x hx
  · rename_i hb
    split at hx
    · rename_i y ys e
      rw [e] at ih
      rcases List.mem_cons.1 hx with rfl | hx
      · have := ih y (by simp)
        simp only [List.mem_cons, not_or];exact ⟨fun h => hb h.symm, this⟩
      · exact ih x (List.mem_cons_of_mem _ hx)
    · rename_i e
      exact absurd e (splitC_ne c r)
def joinC (c : UInt8) : List Tx -> Tx
 | [] => []
 | [x] => x
 | x :: y :: r => x ++ c :: joinC c (y :: r)
theorem split_app {c : UInt8} {x : Tx} (hx : c ∉ x) (s : Tx) : splitC c (x ++ c :: s) = x :: splitC c s := by
 induction x with
 | nil => rw [List.nil_append, splitC, if_pos rfl]
 | cons b r ih =>
  simp only [List.mem_cons, not_or] at hx;rw [List.cons_append, splitC, if_neg (fun h => hx.1 h.symm), ih hx.2]
theorem split_free {c : UInt8} {x : Tx} (hx : c ∉ x) : splitC c x = [x] := by
 induction x with
 | nil => rfl
 | cons b r ih =>
  simp only [List.mem_cons, not_or] at hx;rw [splitC, if_neg (fun h => hx.1 h.symm), ih hx.2]
theorem split_join {c : UInt8} : ∀ {ws : List Tx}, ws ≠ [] -> (∀ x ∈ ws, c ∉ x) -> splitC c (joinC c ws) = ws
 | [], h, _ => absurd rfl h
 | [x], _, h => by rw [joinC]; exact split_free (h x (by simp))
 | x :: y :: r, _, h => by
  rw [joinC, split_app (h x (by simp)), split_join (by simp) fun z hz => h z (List.mem_cons_of_mem _ hz)]
theorem joinC_eq (c : UInt8) : ∀ ws : List Tx, Lib.join ws [c] = joinC c ws
 | [] => rfl
 | [x] => by rw [Lib.join_one, joinC]
 | x :: y :: r => by
  have ih := joinC_eq c (y :: r);rw [joinC, <- ih, Lib.join_cons, Lib.join_cons, Lib.joinTail, List.map_cons, List.flatten_cons, Lib.joinTail]
  simp
theorem count_splitC (c : UInt8) : ∀ s : Tx, s.count c + 1 = (splitC c s).length
 | [] => rfl
 | b :: r => by
  have ih := count_splitC c r;rw [splitC];split
  · rename_i h; subst h; rw [List.count_cons_self, List.length_cons, ih]
  · rename_i h
    rw [List.count_cons_of_ne (fun e => h e), ih]
    cases e : splitC c r with
    | nil => exact absurd e (splitC_ne c r)
    | cons x xs => rfl
theorem splitK_one (c : UInt8) : ∀ (s : Tx), Lib.splitK [c] 0 (s.count c) s = splitC c s := by
 have key : ∀ (x : Tx) (r : Tx), c ∉ x -> Lib.index (x ++ c :: r) [c] = x.length := by
  intro x r hx;rw [Lib.index_one]
  induction x with
  | nil => simp [Lib.indexByte]
  | cons b t ih =>
   simp only [List.mem_cons, not_or] at hx
   rw [List.cons_append, Lib.indexByte, ih hx.2, if_neg (by simpa using fun h => hx.1 h.symm), if_neg (by simp)]
   simp
 have miss : ∀ (x : Tx), c ∉ x -> Lib.index x [c] = -1 := by
  intro x hx;rw [Lib.index_one]
  induction x with
  | nil => rfl
  | cons b t ih =>
   simp only [List.mem_cons, not_or] at hx
   rw [Lib.indexByte, ih hx.2, if_neg (by simpa using fun h => hx.1 h.symm)]
   simp
 have main : ∀ (n : Nat) (s : Tx), s.length <= n -> Lib.splitK [c] 0 (s.count c) s = splitC c s := by
  intro n
  induction n with
  | zero =>
   intro s hs
   have : s = [] := List.eq_nil_of_length_eq_zero (by omega)
   subst this; rfl
  | succ n ih =>
   intro s hs
   by_cases hc : c ∈ s
   · obtain ⟨x, r, rfl, hx⟩ := List.eq_append_cons_of_mem hc
     have hcnt : (x ++ c :: r).count c = r.count c + 1 := by
      rw [List.count_append, List.count_cons_self, List.count_eq_zero.2 hx]; omega
     rw [hcnt, Lib.splitK, key x r hx, split_app hx]
     have h1 : ((x.length : Int) == -1) = false := by simp
     rw [h1];simp only [Bool.false_eq_true, if_false, Int.toNat_natCast, Nat.add_zero, List.length_singleton]
     rw [List.take_left', List.drop_append, List.drop_of_length_le (by omega), show x.length + 1 - x.length = 1 by omega, List.nil_append, List.drop_succ_cons, List.drop_zero]
     · rw [ih r (by simp at hs; omega)]
     · rfl
   · rw [List.count_eq_zero.2 hc, Lib.splitK, split_free hc]
 exact fun s => main s.length s (Nat.le_refl _)
theorem dec_digits : ∀ u : Nat, Lib.decDigits u ≠ [] /\ (∀ c ∈ Lib.decDigits u, 48 <= c.toNat /\ c.toNat <= 57) := by
 intro u
 induction u using Nat.strongRecOn with
 | _ u ih =>
  rw [Lib.decDigits];split
  · rename_i h
    refine ⟨by simp, fun c hc => ?_⟩
    simp only [List.mem_cons, List.not_mem_nil, or_false] at hc;subst hc
    rw [UInt8.toNat_ofNat']; omega
  · rename_i h
    refine ⟨by simp, fun c hc => ?_⟩
    rcases List.mem_append.1 hc with hc | hc
    · exact (ih (u / 10) (by omega)).2 c hc
    · simp only [List.mem_cons, List.not_mem_nil, or_false] at hc
      subst hc
      rw [UInt8.toNat_ofNat']; omega
theorem parseM_app (M acc : Nat) : ∀ (x : Tx) (r : Tx) (v : Nat), Lib.parseUintM M acc x = .ok v -> Lib.parseUintM M acc (x ++ r) = Lib.parseUintM M v r := by
 intro x
 induction x generalizing acc with
 | nil => intro r v h; simp only [Lib.parseUintM, Lib.NumEnd.ok.injEq] at h; subst h; rfl
 | cons c t ih =>
  intro r v h;rw [Lib.parseUintM] at h;rw [List.cons_append, Lib.parseUintM]
  split at h
  · rename_i h1
    rw [if_pos h1]
    split at h
    · cases h
    · rename_i h2
      rw [if_neg h2]
      split at h
      · cases h
      · rename_i h3
        rw [if_neg h3];exact ih _ r v h
  · cases h
theorem parse_dec : ∀ u : Nat, u < 18446744073709551616 -> Lib.parseUintM 18446744073709551615 0 (Lib.decDigits u) = .ok u := by
 intro u
 induction u using Nat.strongRecOn with
 | _ u ih =>
  intro hu;rw [Lib.decDigits];split
  · rename_i h
    have e : (UInt8.ofNat (48 + u)).toNat = 48 + u := by rw [UInt8.toNat_ofNat']; omega
    rw [Lib.parseUintM, e, if_pos (by omega), if_neg (by omega), if_neg (by omega), Lib.parseUintM]
    congr 1; omega
  · rename_i h
    have e : (UInt8.ofNat (48 + u % 10)).toNat = 48 + u % 10 := by rw [UInt8.toNat_ofNat']; omega
    rw [parseM_app _ _ _ _ _ (ih (u / 10) (by omega) (by omega)), Lib.parseUintM, e, if_pos (by omega), if_neg (by omega), if_neg (by omega), Lib.parseUintM]
    congr 1; omega
theorem itoa_parse {n : Int} (h : -9223372036854775808 <= n /\ n <= 9223372036854775807) : Lib.parseIntB 64 (Lib.itoa n) = .ok n := by
 have e1 : (2 : Nat) ^ 64 - 1 = 18446744073709551615 := by decide
 have e2 : (2 : Nat) ^ (64 - 1) = 9223372036854775808 := by decide
 unfold Lib.itoa;split
 · rename_i hn
   have hp : Lib.parseUintB 64 (Lib.decDigits n.natAbs) = .ok n.natAbs := by
    rw [Lib.parseUintB, if_neg (dec_digits _).1, e1, parse_dec _ (by omega)]
   have h45 : (45 : UInt8).toNat = 45 := by decide
   simp only [Lib.parseIntB, h45, or_true, if_true, hp, e2, not_true, false_and, if_false, true_and]
   rw [if_neg (by omega)]
   congr 1; omega
 · rename_i hn
   obtain ⟨h1, h2⟩ := dec_digits n.toNat
   have hp : Lib.parseUintB 64 (Lib.decDigits n.toNat) = .ok n.toNat := by
    rw [Lib.parseUintB, if_neg (dec_digits _).1, e1, parse_dec _ (by omega)]
   cases hd : Lib.decDigits n.toNat with
   | nil => exact absurd hd h1
   | cons c r =>
    rw [hd] at hp
    have hc := h2 c (by rw [hd]; simp)
    have n1 : ¬ c.toNat = 43 := by omega
    have n2 : ¬ c.toNat = 45 := by omega
    simp only [Lib.parseIntB, n1, n2, or_self, if_false, hp, e2, not_false_eq_true, true_and, false_and]
    rw [if_neg (by omega)]
    congr 1; omega
theorem itoa_ok (n : Int) : ∀ c ∈ Lib.itoa n, c ≠ 32 /\ c ≠ 10 /\ c ≠ 37 := fun c hc => by
 have key : ∀ u, ∀ c ∈ Lib.decDigits u, c ≠ 32 /\ c ≠ 10 /\ c ≠ 37 := fun u c hc => by
  have := (dec_digits u).2 c hc
  refine ⟨?_, ?_, ?_⟩ <;> (rintro rfl; revert this; decide)
 unfold Lib.itoa at hc
 split at hc
 · rcases List.mem_cons.1 hc with rfl | hc
   · decide
   · exact key _ c hc
 · exact key _ c hc
structure En where
 kind : Int
 slot : Int
 n : Int
 bs : List Int
 deriving DecidableEq
def enV (e : En) (y : Value) : List Value := [.int .u8 e.kind, .int .i64 e.slot, .int .i64 e.n, y]
structure okEn (e : En) : Prop where
 kind : 0 <= e.kind /\ e.kind <= 255
 slot : i64R e.slot
 n : i64R e.n
 bs : byteL e.bs
def withinB (n : Int) : Bool := decide (0 <= n /\ n <= 4294967295)
def cleanE (e : En) : Bool :=
 if e.kind = 1 then withinB e.slot && (decide (e.n = 0) && decide (e.bs.length <= 16384))
 else if e.kind = 2 then decide (e = ⟨2, 0, 0, []⟩)
 else if e.kind = 3 then withinB e.n && decide (e = ⟨3, 0, e.n, []⟩) else false
theorem ct72 (n : Int) (I : Mem) : Ct Tryz.prog (fnv 72) #[.int .i64 n] I (fun v _ => v = .bool (withinB n)) := by
 refine viaR (ct_via (A := { }) Tryz.func72 rfl Tryz.call72 rfl rfl) (Br (decide (0 <= n)) (Value.bool (decide (n <= 4294967295)) = .bool (withinB n)) (Value.bool false = .bool (withinB n))) (by kernel_rfl) ?_
 refine Br.mk (fun h => ?_) (fun h => ?_)
 · have h := of_decide_eq_true h
   rw [withinB]; congr 1; exact decide_eq_decide.2 ⟨fun h1 => ⟨by omega, by omega⟩, fun h1 => by omega⟩
 · have h := of_decide_eq_false h
   rw [withinB, decide_eq_false (by omega)]
theorem ct33 (a b : En) (y z : Value) (I : Mem) (hy : BySl I y a.bs) (hz : BySl I z b.bs) (ha : byteL a.bs) (hb : byteL b.bs) :
 Ct Tryz.prog (fnv 33) #[.agg (enV a y).toArray, .agg (enV b z).toArray] I (fun v _ => v = .bool (decide (a = b))) := by
 obtain ⟨p, n, c, rfl, hp, _⟩ := hy;obtain ⟨q, m, d, rfl, hq, _⟩ := hz;obtain ⟨D, hD⟩ : ∃ D, D = decide (a = b) := ⟨_, rfl⟩;rw [<- hD]
 refine viaR (ct_via (A := { }) Tryz.func33 rfl Tryz.call33 rfl rfl) (Br (a.kind == b.kind) (Br (a.slot == b.slot) (Br (a.n == b.n) (Ct Tryz.prog (fnv 43) #[.slice p n c, .slice q m d] I (fun v e => ∃ f, v = .bool f /\ Value.bool f = .bool D)) (Value.bool false = .bool D)) (Value.bool false = .bool D)) (Value.bool false = .bool D)) (by kernel_rfl) ?_
 have NO : ∀ {P : Prop}, ¬ P -> (a = b -> P) -> Value.bool false = Value.bool D := fun h1 h2 => by rw [hD, decide_eq_false fun e => h1 (h2 e)]
 refine Br.mk (fun h1 => Br.mk (fun h2 => Br.mk (fun h3 => (ct43 _ _ ha hb _ _ _ _ _ _ I hp hq).mono fun v J l hv => ⟨_, hv, ?_⟩) (fun h => NO (P := a.n = b.n) (by simpa using h) (by rintro rfl; rfl))) (fun h => NO (P := a.slot = b.slot) (by simpa using h) (by rintro rfl; rfl))) (fun h => NO (P := a.kind = b.kind) (by simpa using h) (by rintro rfl; rfl))
 rw [hD];obtain ⟨k, sl, m1, bs⟩ := a;obtain ⟨k', sl', m1', bs'⟩ := b;simp only [beq_iff_eq] at h1 h2 h3
 simp only at h1 h2 h3 ⊢
 subst h1 h2 h3
 congr 1
 exact decide_eq_decide.2 ⟨fun h => by rw [h], fun h => by cases h; rfl⟩
theorem byteL_nil : byteL [] := fun z hz => by cases hz
theorem bysl_nil (I : Mem) : BySl I (.slice none 0 0) [] := ⟨none, 0, 0, rfl, sl_nil _ _, Nat.le_refl 0, Nat.zero_le _⟩
theorem ct32 (e : En) (y : Value) (I : Mem) (hy : BySl I y e.bs) (hb : byteL e.bs) : Ct Tryz.prog (fnv 32) #[.agg (enV e y).toArray] I (fun v _ => v = .bool (cleanE e)) := by
 have hy' := hy;obtain ⟨p, n, c, rfl, hp, hpc, hpm⟩ := hy;obtain ⟨D, hD⟩ : ∃ D, D = cleanE e := ⟨_, rfl⟩;rw [<- hD]
 refine viaR (ct_via (A := { }) Tryz.func32 rfl Tryz.call32 rfl rfl) (Br (e.kind == 1) (Ct Tryz.prog (fnv 72) #[.int .i64 e.slot] I (fun v a => ∃ b, v = .bool b /\ Br b (Br (e.n == 0) (Value.bool (decide ((n : Int) <= 16384)) = .bool D) (Value.bool false = .bool D)) (Value.bool false = .bool D))) (Br (e.kind == 2) (Ct Tryz.prog (fnv 33) #[.agg #[.int .u8 e.kind, .int .i64 e.slot, .int .i64 e.n, .slice p n c], .agg #[.int .u8 2, .int .i64 0, .int .i64 0, .slice none 0 0]] I (fun v a => ∃ b, v = .bool b /\ Value.bool b = .bool D)) (Br (e.kind == 3) (Ct Tryz.prog (fnv 72) #[.int .i64 e.n] I (fun v a => ∃ b, v = .bool b /\ Br b (Ct Tryz.prog (fnv 33) #[.agg #[.int .u8 e.kind, .int .i64 e.slot, .int .i64 e.n, .slice p n c], .agg #[.int .u8 3, .int .i64 0, .int .i64 e.n, .slice none 0 0]] a (fun d f => ∃ g, d = .bool g /\ Value.bool g = .bool D)) (Value.bool false = .bool D))) (Value.bool false = .bool D)))) (by kernel_rfl) ?_
 have hn := hp.numLen;have e1 := fun (x : Int) => beq_iff_eq (a := e.kind) (b := x);refine Br.mk (fun h => ?_) (fun h => ?_)
 · have hk : e.kind = 1 := by simpa using h
   refine (ct72 e.slot I).mono fun v J l hv => ⟨_, hv, ?_⟩;rw [hD, cleanE, if_pos hk];refine Br.mk (fun h1 => Br.mk (fun h2 => ?_) (fun h2 => ?_)) (fun h1 => ?_)
   · have h2 : e.n = 0 := by simpa using h2
     rw [h1, decide_eq_true h2, Bool.true_and, Bool.true_and]
     congr 1; exact decide_eq_decide.2 (by omega)
   · have h2 : e.n ≠ 0 := by simpa using h2
     rw [decide_eq_false h2, Bool.false_and, Bool.and_false]
   · rw [h1, Bool.false_and]
 have hk : e.kind ≠ 1 := by simpa using h
 refine Br.mk (fun h => ?_) (fun h => ?_)
 · have hk2 : e.kind = 2 := by simpa using h
   refine (ct33 e ⟨2, 0, 0, []⟩ _ _ I hy' (bysl_nil I) hb byteL_nil).mono fun v J l hv => ⟨_, hv, ?_⟩;rw [hD, cleanE, if_neg hk, if_pos hk2]
 have hk2 : e.kind ≠ 2 := by simpa using h
 refine Br.mk (fun h => ?_) (fun h => ?_)
 · have hk3 : e.kind = 3 := by simpa using h
   refine (ct72 e.n I).mono fun v J l hv => ⟨_, hv, ?_⟩;rw [hD, cleanE, if_neg hk, if_neg hk2, if_pos hk3];refine Br.mk (fun h1 => ?_) (fun h1 => ?_)
   · exact (ct33 e ⟨3, 0, e.n, []⟩ _ _ J (hy'.mono l) (bysl_nil J) hb byteL_nil).mono fun v J' l' hv => ⟨_, hv, by rw [h1, Bool.true_and]⟩
   · rw [h1, Bool.false_and]
 · have hk3 : e.kind ≠ 3 := by simpa using h
   rw [hD, cleanE, if_neg hk, if_neg hk2, if_neg hk3]
def intT (t : Tx) : List Int := t.map fun c => (c.toNat : Int)
def tx (s : ByteArray) : Tx := s.data.toList
theorem strL_tx (s : ByteArray) : strL s = intT (tx s) := rfl
theorem hexAt : ∀ {k : Nat}, k < 16 -> [UInt8.ofNat 48, UInt8.ofNat 49, UInt8.ofNat 50, UInt8.ofNat 51, UInt8.ofNat 52, UInt8.ofNat 53, UInt8.ofNat 54, UInt8.ofNat 55, UInt8.ofNat 56, UInt8.ofNat 57, UInt8.ofNat 97, UInt8.ofNat 98, UInt8.ofNat 99, UInt8.ofNat 100, UInt8.ofNat 101, UInt8.ofNat 102][k]? = some (hexC k) := by
 have : ∀ k : Fin 16, [UInt8.ofNat 48, UInt8.ofNat 49, UInt8.ofNat 50, UInt8.ofNat 51, UInt8.ofNat 52, UInt8.ofNat 53, UInt8.ofNat 54, UInt8.ofNat 55, UInt8.ofNat 56, UInt8.ofNat 57, UInt8.ofNat 97, UInt8.ofNat 98, UInt8.ofNat 99, UInt8.ofNat 100, UInt8.ofNat 101, UInt8.ofNat 102][k.val]? = some (hexC k.val) := by decide
 intro k h;exact this ⟨k, h⟩
theorem and15 (c : UInt8) : bitsV .and .u8 (c.toNat : Int) 15 = ((c.toNat % 16 : Nat) : Int) := by
 have : ∀ x : Fin 256, bitsV .and .u8 (x.val : Int) 15 = ((x.val % 16 : Nat) : Int) := by decide +kernel
 exact this ⟨c.toNat, c.toNat_lt⟩
theorem fdiv16 (c : UInt8) : (c.toNat : Int).fdiv 16 = ((c.toNat / 16 : Nat) : Int) := by
 rw [Int.fdiv_eq_ediv_of_nonneg _ (by omega)]; omega
theorem word_app (l : List Int) (x : Int) : wordT (l ++ [x]) = wordT l ++ hex2 x := by simp [wordT]
theorem ints_T (t : Tx) : ints .u8 (intT t) = t.map fun b => Value.int .u8 b.toNat := by simp [ints, intT]
theorem ct55 (s : ByteArray) (hs : s.size <= 1000000) (I : Mem) : Ct Tryz.prog (fnv 55) #[.string s] I (fun v _ => v = .string ⟨(wordT (strL s)).toArray⟩) := by
 obtain ⟨WI, hWI⟩ : ∃ f : Int -> List Value -> Prop, f = fun (j : Int) xs => 0 <= j /\ j <= s.size /\ xs = ints .u8 (intT (wordT ((strL s).take j.toNat))) := ⟨_, rfl⟩;obtain ⟨Q, hQ⟩ : ∃ q : Value, q = .string ⟨(wordT (strL s)).toArray⟩ := ⟨_, rfl⟩;rw [<- hQ]
 refine viaR (ct_via (A := { loops := [(3, ⟨[(0, .keep), (3, .row 0), (7, .keep), (8, .sh (.int .i64))], [(0, .row)], [(3, 1, 5)], fun vals xss _ _ => match vals, xss with | [.int .i64 j], [xs] => WI j xs | _, _ => False, fun vals _ => match vals with | [.int .i64 j] => (s.size - j).toNat | _ => 0⟩)] }) Tryz.func55 rfl Tryz.call55 rfl rfl) ((Rf (SV.v (.string s)) /\ (1 : Nat) = 1 /\ Rf (SV.v (.int .i64 (s.size : Int))) /\ WI 0 [.int .u8 37]) /\ ∀ (a : Mem), Mem -> I.le a -> ∀ (x : List Value) (n : Int), WI n x -> Br (decide (n < (s.size : Int))) (∃ c, s.data.toList[n.toNat]? = some c /\ 0 <= n /\ (0 : Int) <= 4 /\ ∃ b, [UInt8.ofNat 48, UInt8.ofNat 49, UInt8.ofNat 50, UInt8.ofNat 51, UInt8.ofNat 52, UInt8.ofNat 53, UInt8.ofNat 54, UInt8.ofNat 55, UInt8.ofNat 56, UInt8.ofNat 57, UInt8.ofNat 97, UInt8.ofNat 98, UInt8.ofNat 99, UInt8.ofNat 100, UInt8.ofNat 101, UInt8.ofNat 102][(Int.fdiv (c.toNat : Int) 16).toNat]? = some b /\ 0 <= Int.fdiv (c.toNat : Int) 16 /\ ∃ d, s.data.toList[n.toNat]? = some d /\ 0 <= n /\ ∃ e, [UInt8.ofNat 48, UInt8.ofNat 49, UInt8.ofNat 50, UInt8.ofNat 51, UInt8.ofNat 52, UInt8.ofNat 53, UInt8.ofNat 54, UInt8.ofNat 55, UInt8.ofNat 56, UInt8.ofNat 57, UInt8.ofNat 97, UInt8.ofNat 98, UInt8.ofNat 99, UInt8.ofNat 100, UInt8.ofNat 101, UInt8.ofNat 102][(bitsV .and .u8 (d.toNat : Int) 15).toNat]? = some e /\ 0 <= bitsV .and .u8 (d.toNat : Int) 15 /\ x.length = x.length * 1 /\ x.length + 2 <= 9223372036854775807 /\ (x.length + 2) * 1 <= 140737488355328 /\ Wr .i64 (n + 1) fun f => Rf (SV.v (.string s)) /\ x.length + 2 = List.length (x ++ [.int .u8 (b.toNat : Int), .int .u8 (e.toNat : Int)]) /\ Rf (SV.v (.int .i64 (s.size : Int))) /\ WI f (x ++ [.int .u8 (b.toNat : Int), .int .u8 (e.toNat : Int)]) /\ Int.toNat ((s.size : Int) - f) < Int.toNat ((s.size : Int) - n)) (∃ q, q.length = x.length /\ List.take x.length x = List.map (fun (b : UInt8) => .int .u8 (b.toNat : Int)) q /\ Value.string ⟨q.toArray⟩ = Q)) (by kernel_rfl) ?_
 have hl := strL_len s
 refine ⟨⟨rfl, rfl, rfl, by rw [hWI]; exact ⟨by omega, by omega, rfl⟩⟩, fun I' G' hle xs j hj => ?_⟩
 rw [hWI] at hj;obtain ⟨h0, h1, rfl⟩ := hj
 have hlen : (ints .u8 (intT (wordT ((strL s).take j.toNat)))).length = 1 + 2 * j.toNat := by
  rw [ints_len, intT, List.length_map, wordT, List.length_cons, hex_len, List.length_take]; omega
 refine Br.mk (fun h => ?_) (fun h => ?_)
 · have h := of_decide_eq_true h
   obtain ⟨c, hc⟩ := str_at h0 h;have hcb := c.toNat_lt;have e1 := fdiv16 c;have e2 := and15 c
   refine ⟨c, hc, h0, by omega, hexC (c.toNat / 16), by rw [e1, Int.toNat_natCast]; exact hexAt (by omega), by omega, c, hc, h0, hexC (c.toNat % 16), by rw [e2, Int.toNat_natCast]; exact hexAt (by omega), by omega, by omega, by omega, by omega, wr_i64 (by omega) (by omega) ⟨rfl, by simp, rfl, ?_, by omega⟩⟩
   rw [hWI]
   refine ⟨by omega, by omega, ?_⟩
   rw [show (j + 1).toNat = j.toNat + 1 by omega, List.take_add_one, strL_get hc, Option.toList_some, word_app]
   simp [ints_T, hex2]
 · have h := of_decide_eq_false h
   have hj : (strL s).take j.toNat = strL s := List.take_of_length_le (by omega)
   rw [hj] at hlen ⊢
   exact ⟨wordT (strL s), by rw [ints_T, List.length_map], by rw [List.take_length, ints_T], hQ.symm⟩
def hexI (c : UInt8) : Int := match hexV c with
 | some n => n
 | none => -1
theorem hexI_eq (c : UInt8) : Lib.indexByte [48, 49, 50, 51, 52, 53, 54, 55, 56, 57, 97, 98, 99, 100, 101, 102] c = hexI c := by
 have : ∀ x : Fin 256, Lib.indexByte [48, 49, 50, 51, 52, 53, 54, 55, 56, 57, 97, 98, 99, 100, 101, 102] (UInt8.ofNat x.val) = hexI (UInt8.ofNat x.val) := by decide +kernel
 have h := this ⟨c.toNat, c.toNat_lt⟩;simpa using h
theorem ct156 (c : UInt8) (I : Mem) : Ct Tryz.prog (fnv 156) #[.string ⟨#[UInt8.ofNat 48, UInt8.ofNat 49, UInt8.ofNat 50, UInt8.ofNat 51, UInt8.ofNat 52, UInt8.ofNat 53, UInt8.ofNat 54, UInt8.ofNat 55, UInt8.ofNat 56, UInt8.ofNat 57, UInt8.ofNat 97, UInt8.ofNat 98, UInt8.ofNat 99, UInt8.ofNat 100, UInt8.ofNat 101, UInt8.ofNat 102]⟩, .int .u8 c.toNat] I (fun v _ => v = .int .i64 (hexI c)) := by
 refine ct_of_calls Tryz.call156 fun w _ => ?_;refine (Tryz.strings_IndexByte _ _ w).mono fun e w' h => ?_;obtain ⟨rfl, rfl⟩ := h
 have e : ((c.toNat : Int).toNat).toUInt8 = c := by simp
 refine ⟨⟨_, rfl, ?_⟩, Below.refl _ _⟩;rw [e, <- hexI_eq c];rfl
theorem or16 {a b : Nat} (ha : a < 16) (hb : b < 16) : bitsV .or .i64 ((a : Int) * 16) (b : Int) = ((16 * a + b : Nat) : Int) := by
 have : ∀ (x y : Fin 16), bitsV .or .i64 ((x.val : Int) * 16) (y.val : Int) = ((16 * x.val + y.val : Nat) : Int) := by decide +kernel
 exact this ⟨a, ha⟩ ⟨b, hb⟩
theorem hexI_neg {c : UInt8} (h : hexI c < 0) : hexV c = none := by
 unfold hexI at h
 split at h
 · omega
 · assumption
theorem hexI_pos {c : UInt8} (h : ¬ hexI c < 0) : ∃ n, hexV c = some n /\ hexI c = n /\ n < 16 := by
 unfold hexI at h ⊢
 split at h
 · rename_i n hn
   exact ⟨n, hn, rfl, (hexV_lt hn).1⟩
 · omega
theorem ints_u8s {L : List Int} (h : byteL L) : (u8s L).map (fun b => Value.int .u8 b.toNat) = ints .u8 L := by
 simp only [u8s, ints, List.map_map];refine List.map_congr_left fun z hz => ?_;have := h z hz;simp only [Function.comp]
 congr 1
 rw [UInt8.toNat_ofNat']; omega
def unwV (o : Option (List Int)) : Value := match o with
 | some bs => .tuple #[.string (strB bs), .bool true]
 | none => .tuple #[.string ⟨#[]⟩, .bool false]
theorem drop_two {α : Type} {l : List α} {j : Nat} {b e : α} (hb : l[j]? = some b) (he : l[j + 1]? = some e) : l.drop j = b :: e :: l.drop (j + 2) := by
 have h1 := (List.getElem?_eq_some_iff.1 hb);have h2 := (List.getElem?_eq_some_iff.1 he);obtain ⟨g1, g2⟩ := h1;obtain ⟨g3, g4⟩ := h2;rw [List.drop_eq_getElem_cons g1, g2, List.drop_eq_getElem_cons g3, g4]
theorem ct115 (s : ByteArray) (hs : s.size <= 1000000) (I : Mem) : Ct Tryz.prog (fnv 115) #[.string s] I (fun v _ => v = unwV (unwordT (tx s))) := by
 obtain ⟨WI, hWI⟩ : ∃ f : Int -> List Value -> Prop, f = fun (j : Int) xs => 1 <= j /\ j % 2 = 1 /\ j <= s.size /\ ∃ L, xs = ints .u8 L /\ L.length <= j /\ byteL L /\ pairsT ((tx s).drop 1) = (pairsT ((tx s).drop j.toNat)).map (L ++ ·) := ⟨_, rfl⟩;obtain ⟨Q, hQ⟩ : ∃ q : Value, q = unwV (unwordT (tx s)) := ⟨_, rfl⟩;rw [<- hQ]
 refine viaR (ct_via (A := { loops := [(5, ⟨[(0, .keep), (4, .row 0), (5, .sh (.int .i64))], [(0, .row)], [(4, 1, 5)], fun vals xss _ _ => match vals, xss with | [.int .i64 j], [xs] => WI j xs | _, _ => False, fun vals _ => match vals with | [.int .i64 j] => (s.size - j).toNat | _ => 0⟩)] }) Tryz.func115 rfl Tryz.call115 rfl rfl) ((2 : Int) ≠ 0 /\ Br (Int.tmod (s.size : Int) 2 != 1) (Value.tuple #[.string ⟨#[]⟩, .bool false] = Q) (∃ c, s.data.toList[0]? = some c /\ (0 : Int) <= 0 /\ Br ((c.toNat : Int) != 37) (Value.tuple #[.string ⟨#[]⟩, .bool false] = Q) ((Rf (SV.v (.string s)) /\ (0 : Nat) = 0 /\ WI 1 []) /\ ∀ (a : Mem), Mem -> I.le a -> ∀ (x : List Value) (n : Int), WI n x -> Br (decide (n < (s.size : Int))) (∃ b, s.data.toList[n.toNat]? = some b /\ 0 <= n /\ Wr .i64 (n + 1) fun d => ∃ e, s.data.toList[d.toNat]? = some e /\ 0 <= d /\ Ct Tryz.prog (fnv 156) #[.string ⟨#[48, 49, 50, 51, 52, 53, 54, 55, 56, 57, 97, 98, 99, 100, 101, 102]⟩, .int .u8 (b.toNat : Int)] a fun v f => ∃ g, v = .int .i64 g /\ Ct Tryz.prog (fnv 156) #[.string ⟨#[48, 49, 50, 51, 52, 53, 54, 55, 56, 57, 97, 98, 99, 100, 101, 102]⟩, .int .u8 (e.toNat : Int)] f fun h i => ∃ j, h = .int .i64 j /\ Br (decide (g < 0)) (Value.tuple #[.string ⟨#[]⟩, .bool false] = Q) (Br (decide (j < 0)) (Value.tuple #[.string ⟨#[]⟩, .bool false] = Q) ((0 : Int) <= 4 /\ Wr .i64 (g * 16) fun k => Wr .u8 (bitsV .or .i64 k j) fun l => x.length = x.length * 1 /\ x.length + 1 <= 9223372036854775807 /\ (x.length + 1) * 1 <= 140737488355328 /\ Wr .i64 (n + 2) fun m => Rf (SV.v (.string s)) /\ x.length + 1 = List.length (x ++ [.int .u8 l]) /\ WI m (x ++ [.int .u8 l]) /\ Int.toNat ((s.size : Int) - m) < Int.toNat ((s.size : Int) - n)))) (∃ q, q.length = x.length /\ List.take x.length x = List.map (fun (b : UInt8) => .int .u8 (b.toNat : Int)) q /\ Value.tuple #[.string ⟨q.toArray⟩, .bool true] = Q)))) (by kernel_rfl) ?_
 have hsz : (tx s).length = s.size := Array.length_toList
 have ht : ((s.size : Nat) : Int).tmod 2 = ((s.size % 2 : Nat) : Int) := by rw [Int.tmod_eq_emod_of_nonneg (by omega)]; omega
 have bad : unwordT (tx s) = none -> Value.tuple #[Value.string ⟨#[]⟩, Value.bool false] = Q := fun h => by rw [hQ, h]; rfl
 refine ⟨by omega, Br.mk (fun h => bad ?_) (fun h => ?_)⟩
 · have h : s.size % 2 ≠ 1 := fun hq => by rw [ht, hq] at h; exact absurd h (by decide)
   cases hc : tx s with
   | nil => rfl
   | cons c r => rw [hc, List.length_cons] at hsz; rw [unwordT, if_neg (by omega)]
 have h : s.size % 2 = 1 := by rw [ht] at h; simp at h; omega
 obtain ⟨c, hc⟩ := str_at (s := s) (j := 0) (by omega) (by omega)
 have hc0 : (tx s)[0]? = some c := hc
 obtain ⟨r, hr⟩ : ∃ r, tx s = c :: r := by
  cases hq : tx s with
  | nil => rw [hq] at hc0; cases hc0
  | cons d r => rw [hq] at hc0; simp at hc0; exact ⟨r, by rw [hc0]⟩
 have hrl : r.length + 1 = s.size := by rw [<- hsz, hr, List.length_cons]
 refine ⟨c, hc, by omega, Br.mk (fun h2 => bad ?_) (fun h2 => ?_)⟩
 · have h2 : ¬ c = 37 := fun e => by subst e; simp at h2
   rw [hr, unwordT, if_neg (fun hh => h2 hh.1)]
 have h2 : c = 37 := by
  have : (c.toNat : Int) = 37 := by simpa using h2
  exact UInt8.toNat_inj.1 (by rw [show (37 : UInt8).toNat = 37 by decide]; omega)
 have hun : unwordT (tx s) = pairsT ((tx s).drop 1) := by
  rw [hr, unwordT, if_pos ⟨h2, by omega⟩]; rfl
 refine ⟨⟨rfl, rfl, by rw [hWI]; exact ⟨by omega, by omega, by omega, [], rfl, by simp, byteL_nil, by simp⟩⟩, fun I' G' hle xs j hj => ?_⟩
 rw [hWI] at hj;obtain ⟨h0, h1, h3, L, rfl, hL, hbL, hp⟩ := hj;refine Br.mk (fun h4 => ?_) (fun h4 => ?_)
 · have h4 := of_decide_eq_true h4
   obtain ⟨b, hb⟩ := str_at (s := s) (j := j) (by omega) (by omega)
   obtain ⟨e, he⟩ := str_at (s := s) (j := j + 1) (by omega) (by omega)
   have hd := drop_two (l := tx s) hb (by rw [show j.toNat + 1 = (j + 1).toNat by omega]; exact he)
   refine ⟨b, hb, by omega, wr_i64 (by omega) (by omega) ⟨e, he, by omega, (ct156 b I').mono fun v J l hv => ⟨_, hv, (ct156 e J).mono fun v2 J2 l2 hv2 => ⟨_, hv2, Br.mk (fun h5 => bad ?_) (fun h5 => Br.mk (fun h6 => bad ?_) (fun h6 => ?_))⟩⟩⟩⟩
   · rw [hun, hp, hd, pairsT, hexI_neg (of_decide_eq_true h5)]; rfl
   · obtain ⟨x, hx, _⟩ := hexI_pos (of_decide_eq_false h5)
     rw [hun, hp, hd, pairsT, hexI_neg (of_decide_eq_true h6), hx]; rfl
   · obtain ⟨x, hx, hx2, hx3⟩ := hexI_pos (of_decide_eq_false h5)
     obtain ⟨y, hy, hy2, hy3⟩ := hexI_pos (of_decide_eq_false h6);rw [hx2, hy2]
     refine ⟨by omega, wr_i64 (by omega) (by omega) ⟨((16 * x + y : Nat) : Int), by rw [or16 hx3 hy3, IntKind.wrap_u8]; omega, by rw [ints_len]; omega, by rw [ints_len]; omega, by rw [ints_len]; omega, wr_i64 (by omega) (by omega) ⟨rfl, by simp, ?_, by omega⟩⟩⟩
     rw [hWI]
     refine ⟨by omega, by omega, by omega, L ++ [((16 * x + y : Nat) : Int)], by simp [ints], by simp; omega, fun z hz => ?_, ?_⟩
     · rcases List.mem_append.1 hz with hz | hz
       · exact hbL z hz
       · simp only [List.mem_cons, List.not_mem_nil, or_false] at hz
         subst hz; omega
     · rw [hp, hd, pairsT, hx, hy, show (j + 2).toNat = j.toNat + 2 by omega]
       cases pairsT ((tx s).drop (j.toNat + 2)) with
       | none => rfl
       | some l => simp
 · have h4 := of_decide_eq_false h4
   have hnil : (tx s).drop j.toNat = [] := List.drop_eq_nil_of_le (by omega)
   rw [hnil] at hp
   have hQ2 : unwordT (tx s) = some L := by rw [hun, hp]; simp [pairsT]
   refine ⟨u8s L, ?_, ?_, by rw [hQ, hQ2]; rfl⟩
   · rw [ints_len]; simp [u8s]
   · rw [List.take_length, ints_u8s hbL]
def Globs (I : Mem) : Prop := ∀ w : World, I.inW w -> (∃ m, w.cell? ⟨0, 0, none⟩ = some (.int .i64 m)) /\ Lib.TabIs Tryz.prog w "internal/strconv.uint64pow10" .u64 Lib.pow10Tab /\
 (∃ tp p, w.cell? ⟨2, 0, none⟩ = some (.iface tp p)) /\ ∃ tp p, w.cell? ⟨3, 0, none⟩ = some (.iface tp p)
theorem Globs.mono {I J : Mem} (h : Globs I) (hle : I.le J) : Globs J := fun w hw => h w (Mem.inW_of_le hle hw)
def strT (t : Tx) : ByteArray := ⟨t.toArray⟩
theorem below_gr (w : World) (n : Nat) (os : Array Obj) : Below w.heap.size w (Go.Sort.grow (w.drewN n) os) :=
 ⟨rfl, rfl, rfl, by simp [Go.Sort.grow, World.drewN], fun k hk => by simp [Go.Sort.grow, World.drewN, Array.getElem?_append_left hk]⟩
theorem ct57 (n : Int) (hn : i64R n) (I : Mem) (hG : Globs I) : Ct Tryz.prog (fnv 57) #[.int .i64 n] I (fun v _ => v = .string (strT (Lib.itoa n))) := by
 refine ct_of_calls Tryz.call57 fun w hw => ?_;refine (Tryz.strconv_Itoa n hn.1 hn.2 w (hG w hw).2.1).mono fun e w' h => ?_;obtain ⟨rfl, k, os, rfl⟩ := h;exact ⟨⟨_, rfl, rfl⟩, below_gr _ _ _⟩
theorem ct103 (n : Int) (hn : i64R n) (I : Mem) (hG : Globs I) : Ct Tryz.prog (fnv 103) #[.int .i64 n, .int .i64 10] I (fun v _ => v = .string (strT (Lib.itoa n))) := by
 refine ct_of_calls Tryz.call103 fun w hw => ?_;refine (Tryz.internal_strconv_FormatInt_10 n hn.1 hn.2 w (hG w hw).2.1).mono fun e w' h => ?_;obtain ⟨rfl, k, os, rfl⟩ := h;exact ⟨⟨_, rfl, rfl⟩, below_gr _ _ _⟩
theorem ct56 (n : Int) (hn : i64R n) (I : Mem) (hG : Globs I) : Ct Tryz.prog (fnv 56) #[.int .i64 n, .int .i64 10] I (fun v _ => v = .string (strT (Lib.itoa n))) := by
 obtain ⟨Q, hQ⟩ : ∃ q : Value, q = .string (strT (Lib.itoa n)) := ⟨_, rfl⟩;rw [<- hQ]
 refine viaR (ct_via (A := { }) Tryz.func56 rfl Tryz.call56 rfl rfl) (Ct Tryz.prog (fnv 103) #[.int .i64 n, .int .i64 10] I fun v a => ∃ q, v = .string q /\ Value.string q = Q) (by kernel_rfl) ?_
 exact (ct103 n hn I hG).mono fun v J l hv => ⟨_, hv, hQ.symm⟩
def errV (ok : Bool) (e : Value) : Prop := if ok then e = .nilIface else ∃ t p, e = .iface t p
def numP (t : Tx) : Int × Bool := match Lib.parseIntB 64 t with
 | .ok v => (v, true)
 | .range => (Lib.intSat 64 t, false)
 | _ => (0, false)
def numA (t : Tx) : Int × Bool := match Lib.atoiAll t with
 | .ok v => (v, true)
 | .range => (Lib.atoiSat t, false)
 | _ => (0, false)
def NumR (p : Int × Bool) (v : Value) : Prop := ∃ e, v = .tuple #[.int .i64 p.1, e] /\ errV p.2 e
theorem ct159 (s : ByteArray) (hs : s.size <= 1000000) (I : Mem) (hG : Globs I) : Ct Tryz.prog (fnv 159) #[.string s, .int .i64 10, .int .i64 64] I (fun v _ => NumR (numP (tx s)) v) := by
 refine ct_of_calls Tryz.call159 fun w hw => ?_;obtain ⟨_, _, ⟨tp, p, h1⟩, ⟨tq, q, h2⟩⟩ := hG w hw
 cases h : Lib.parseIntB 64 s.data.toList
 · rename_i v
   refine (Tryz.strconv_ParseInt_10_at64_ok s (by omega) v h w).mono fun e w' hh => ?_
   obtain ⟨rfl, hw'⟩ := hh
   refine ⟨⟨_, rfl, .nilIface, by rw [numP, tx, h], by rw [numP, tx, h]; rfl⟩, ?_⟩
   rcases hw' with rfl | ⟨t, rfl⟩
   · exact Below.refl _ _
   · exact Go.Joins.below_bytesWorld _ _ _ _ (Nat.le_refl _)
 · refine (Tryz.strconv_ParseInt_10_at64_syntax s (by omega) h _ w h1 (.inr ⟨_, _, rfl⟩)).mono fun e w' hh => ?_
   obtain ⟨N, rfl, _, _, hb⟩ := hh
   exact ⟨⟨_, rfl, _, by rw [numP, tx, h], by rw [numP, tx, h]; exact ⟨_, _, rfl⟩⟩, hb⟩
 · refine (Tryz.strconv_ParseInt_10_at64_range s (by omega) h _ w h2 (.inr ⟨_, _, rfl⟩)).mono fun e w' hh => ?_
   obtain ⟨N, rfl, _, _, hb⟩ := hh
   exact ⟨⟨_, rfl, _, by rw [numP, tx, h], by rw [numP, tx, h]; exact ⟨_, _, rfl⟩⟩, hb⟩
theorem ct114 (s : ByteArray) (hs : s.size <= 1000000) (I : Mem) (hG : Globs I) : Ct Tryz.prog (fnv 114) #[.string s] I (fun v _ => NumR (numA (tx s)) v) := by
 refine ct_of_calls Tryz.call114 fun w hw => ?_;obtain ⟨_, _, ⟨tp, p, h1⟩, ⟨tq, q, h2⟩⟩ := hG w hw
 cases h : Lib.atoiAll s.data.toList
 · rename_i v
   refine (Tryz.strconv_Atoi_ok s (by omega) v h w).mono fun e w' hh => ?_
   obtain ⟨rfl, hw'⟩ := hh
   refine ⟨⟨_, rfl, .nilIface, by rw [numA, tx, h], by rw [numA, tx, h]; rfl⟩, ?_⟩
   rcases hw' with rfl | ⟨t, rfl⟩
   · exact Below.refl _ _
   · exact Go.Joins.below_bytesWorld _ _ _ _ (Nat.le_refl _)
 · refine (Tryz.strconv_Atoi_syntax s (by omega) h _ w h1 (.inr ⟨_, _, rfl⟩)).mono fun e w' hh => ?_
   obtain ⟨N, rfl, _, _, hb⟩ := hh
   exact ⟨⟨_, rfl, _, by rw [numA, tx, h], by rw [numA, tx, h]; exact ⟨_, _, rfl⟩⟩, hb⟩
 · refine (Tryz.strconv_Atoi_range s (by omega) h _ w h2 (.inr ⟨_, _, rfl⟩)).mono fun e w' hh => ?_
   obtain ⟨N, rfl, _, _, hb⟩ := hh
   exact ⟨⟨_, rfl, _, by rw [numA, tx, h], by rw [numA, tx, h]; exact ⟨_, _, rfl⟩⟩, hb⟩
def kindGo (f : Int -> ByteArray) (s : ByteArray) : Nat -> Int -> Int
 | 0, _ => 0
 | k + 1, n => if f n = ⟨#[]⟩ then 0 else if f n = s then n else kindGo f s k (n + 1)
def kindS (f : Int -> ByteArray) (s : ByteArray) : Int := kindGo f s 19 1
theorem ct160 (s : ByteArray) (fv : Value) (f : Int -> ByteArray) (hf : ∀ (k : Int) (J : Mem), 0 <= k /\ k <= 255 -> Ct Tryz.prog fv #[.int .u8 k] J (fun v _ => v = .string (f k))) (I : Mem) :
 Ct Tryz.prog (fnv 160) #[.string s, fv] I (fun v _ => v = .int .u8 (kindS f s)) := by
 obtain ⟨K, hK⟩ : ∃ k, k = kindS f s := ⟨_, rfl⟩;rw [<- hK]
 refine viaR (ct_via (A := { loops := [(2, ⟨[(0, .keep), (1, .keep), (5, .sh (.int .u8))], [], [], fun vals _ _ _ => match vals with | [.int .u8 n] => 1 <= n /\ n <= 20 /\ K = kindGo f s (20 - n.toNat) n | _ => False, fun vals _ => match vals with | [.int .u8 n] => (20 - n).toNat | _ => 0⟩)] }) Tryz.func160 rfl Tryz.call160 rfl rfl) ((Rf (SV.v (.string s)) /\ Rf (SV.v fv) /\ (1 : Int) <= 1 /\ (1 : Int) <= 20 /\ K = kindGo f s 19 1) /\ ∀ (a : Mem), Mem -> I.le a -> ∀ (n : Int), 1 <= n /\ n <= 20 /\ K = kindGo f s (20 - n.toNat) n -> Br (decide (n < 20)) (Ct Tryz.prog fv #[.int .u8 n] a (fun v b => ∃ q, v = .string q /\ Br (!(q.toList == (ByteArray.mk #[]).toList)) (Ct Tryz.prog fv #[.int .u8 n] b (fun c d => ∃ e, c = .string e /\ Br (e.toList == s.toList) (Value.int .u8 n = .int .u8 K) (Wr .u8 (n + 1) (fun g => Rf (SV.v (.string s)) /\ Rf (SV.v fv) /\ (1 <= g /\ g <= 20 /\ K = kindGo f s (20 - g.toNat) g) /\ Int.toNat (20 - g) < Int.toNat (20 - n))))) (Value.int .u8 0 = .int .u8 K))) (Value.int .u8 0 = .int .u8 K)) (by kernel_rfl) ?_
 refine ⟨⟨rfl, rfl, by omega, by omega, hK⟩, fun I' G' hle n hn => ?_⟩
 obtain ⟨h1, h2, h3⟩ := hn;refine Br.mk (fun h => ?_) (fun h => ?_)
 · have h := of_decide_eq_true h
   obtain ⟨k, hk⟩ : ∃ k, 20 - n.toNat = k + 1 := ⟨19 - n.toNat, by omega⟩
   rw [hk, kindGo] at h3
   refine (hf n I' (by omega)).mono fun v J l hv => ⟨_, hv, ?_⟩
   rw [str_eq];refine Br.mk (fun h4 => ?_) (fun h4 => ?_)
   · have h4 : f n ≠ ⟨#[]⟩ := by simpa using h4
     rw [if_neg h4] at h3
     refine (hf n J (by omega)).mono fun v2 J2 l2 hv2 => ⟨_, hv2, ?_⟩
     rw [str_eq];refine Br.mk (fun h5 => ?_) (fun h5 => ?_)
     · rw [if_pos (of_decide_eq_true h5)] at h3; rw [h3]
     · rw [if_neg (of_decide_eq_false h5)] at h3
       exact ⟨n + 1, by rw [IntKind.wrap_u8]; omega, rfl, rfl, ⟨by omega, by omega, by rw [h3]; congr 1; omega⟩, by omega⟩
   · have h4 : f n = ⟨#[]⟩ := by simpa using h4
     rw [if_pos h4] at h3; rw [h3]
 · have h := of_decide_eq_false h
   rw [show 20 - n.toNat = 0 by omega, kindGo] at h3; rw [h3]
def strs (l : List ByteArray) : List Value := l.map .string
theorem strs_get {l : List ByteArray} {j : Nat} {y : ByteArray} (h : l[j]? = some y) : (strs l)[j]? = some (.string y) := by simp [strs, h]
def joinB (l : List ByteArray) : ByteArray := strT (joinC 32 (l.map tx))
theorem ct58 (l : List ByteArray) (a : Option Addr) (cp : Nat) (I : Mem) (h : RowM I a cp 1 (strs l)) (hlen : (joinB l).size <= 1000000000) (hN : l.length <= 1000000) :
 Ct Tryz.prog (fnv 58) #[.slice a l.length cp, .string ⟨#[UInt8.ofNat 32]⟩] I (fun v _ => v = .string (joinB l)) := by
 have e0 : joinB l = ⟨(Lib.join (l.map (·.data.toList)) [UInt8.ofNat 32]).toArray⟩ := by rw [joinB, strT, <- joinC_eq]; rfl
 obtain ⟨h1, h2, h3, h4⟩ := h
 have hl : l.length <= cp := by simpa [strs] using h1
 refine ct_of_calls Tryz.call58 fun w hI => ?_
 cases a with
 | none =>
  have hnil : l = [] := by
   have := (h3 rfl).1;simpa [strs] using this
  subst hnil
  refine (Tryz.strings_Join_none _ _ _ w).mono fun e w' ⟨he, hw⟩ => ⟨⟨_, he, by rfl⟩, hw ▸ Below.refl _ _⟩
 | some ad =>
  cases l with
  | nil => exact (Tryz.strings_Join_none _ _ _ w).mono fun e w' ⟨he, hw⟩ => ⟨⟨_, he, by rfl⟩, hw ▸ Below.refl _ _⟩
  | cons x r =>
   have hc : ∀ (j : Nat) (y : ByteArray), (x :: r)[j]? = some y -> w.cell? (ad.add j) = some (.string y) := fun j y hj =>
    cellM_world hI (h4 j _ (strs_get hj))
   have h0 := hc 0 x rfl;obtain ⟨b, o, sp⟩ := ad
   obtain rfl : sp = none := by
    cases sp with
    | none => rfl
    | some s => have := h4 0 (.string x) rfl; simp only [atI, Option.bind_some, cellM, Addr.add, if_true] at this; split at this <;> simp at this
   have hlt : b < w.heap.size := by
    have := h4 0 (.string x) rfl;simp only [atI, Option.bind_some, cellM, Addr.add, if_true] at this
    split at this
    · rename_i hb; exact Mem.inW_lt hI hb
    · cases this
   have hln : (Lib.join ((x :: r).map (·.data.toList)) [UInt8.ofNat 32]).length <= 140737488355328 := by
    have : (joinB (x :: r)).size = (Lib.join ((x :: r).map (·.data.toList)) [UInt8.ofNat 32]).length := by rw [e0]; rfl
    omega
   refine (Tryz.strings_Join b o cp (x :: r) ⟨#[UInt8.ofNat 32]⟩ w (fun j y hj => ?_) hlt (by omega) hl hln).mono fun e w' ⟨he, hw⟩ => ⟨⟨_, he, by rw [e0]⟩, hw⟩
   have := hc j y hj
   by_cases hj0 : j = 0
   · subst hj0; exact this
   · simpa [Addr.add, hj0] using this
theorem ct_of_callsN {P : Program} {f : FuncId} {args : Array Value} {I : Mem} {post : Value -> Mem -> Prop}
 (hcall : ∀ (args : Array Value) (w : World), (callFunc f args).run P w = .ok (.enter f args) w)
 (h : ∀ w : World, I.inW w -> Calls P f args w fun e w' => ∃ v M, e = .returned v /\ M.inW w' /\ I.le M /\ (∀ b, b < w.heap.size -> I b = none -> M b = none) /\ post v M /\ Below w.heap.size w w') : Ct P (fnv f) args I post := by
 intro W hI _ _
 refine callV_func hcall (args := args.toList) (by simp) (callsIn_wide.2 ?_)
 refine (h W hI).mono ?_;rintro e w' ⟨v, M, he, hM, hle, hn, hp, hb⟩;exact ⟨v, M, Mem.emp, he, hle, hM, Mem.emp_inW _, fun b => .inr rfl, hb.size, ⟨hb.os, hb.tape, hb.output⟩, fun b hlt _ => hb.block b hlt, fun b hb _ => ⟨rfl, hn b hb⟩, hp⟩
theorem ct83 (s : ByteArray) (hs : s.size <= 1000000) (I : Mem) (hG : Globs I) :
 Ct Tryz.prog (fnv 83) #[.string s, .string ⟨#[UInt8.ofNat 32]⟩] I (fun v I' => ∃ (l : List ByteArray) (a : Option Addr) (n c : Nat), v = .slice a n c /\ l.map tx = splitC 32 (tx s) /\ SlM I' a n 1 (strs l) /\ n <= c /\ c <= maxLen) := by
 refine ct_of_callsN Tryz.call83 fun w hI => ?_;obtain ⟨⟨m, hm⟩, _⟩ := hG w hI
 refine (Tryz.strings_Split s ⟨#[UInt8.ofNat 32]⟩ m w (by omega) hm (Nat.le_refl 1)).mono fun e w' ⟨he, hw⟩ => ?_
 obtain ⟨L, hL⟩ : ∃ L, L = Lib.splitB ⟨#[UInt8.ofNat 32]⟩ 0 (Lib.countB s ⟨#[UInt8.ofNat 32]⟩) s := ⟨_, rfl⟩;have hlen := Lib.splitB_all ⟨#[UInt8.ofNat 32]⟩ (Nat.le_refl 1) 0 _ s rfl;have hcnt : Lib.countB s ⟨#[UInt8.ofNat 32]⟩ = (tx s).count 32 := Lib.count_one 32 (tx s)
 have hmap : L.map tx = splitC 32 (tx s) := by
  rw [hL, hcnt];have := Lib.splitB_data ⟨#[UInt8.ofNat 32]⟩ 0 ((tx s).count 32) s;exact this.trans (splitK_one 32 (tx s))
 rw [<- hL] at hw hlen;have hcle : Lib.countB s ⟨#[UInt8.ofNat 32]⟩ <= s.size := Lib.countB_le ⟨#[UInt8.ofNat 32]⟩ (Nat.le_refl 1) _ s (Nat.le_refl _);subst hw
 have hnew : I w.heap.size = none := by
  cases hb : I w.heap.size with
  | none => rfl
  | some o => exact absurd (Mem.inW_lt hI hb) (Nat.lt_irrefl _)
 refine ⟨_, fun b => if b = w.heap.size then some (.cells (L.map Value.string).toArray 9 (0, 0)) else I b, he, fun b o hb => ?_, fun b o hb => ?_, fun b hb hn => ?_, ⟨L, some ⟨w.heap.size, 0, none⟩, _, _, rfl, hmap, ?_, Nat.le_refl _, ?_⟩, (Below.refl _ _).alloc (Nat.le_refl _) _⟩
 · simp only at hb
   split at hb
   · rename_i h; subst h; cases hb; exact Array.getElem?_push_size
   · rw [Below.heap_alloc w _ b (Mem.inW_lt hI hb)]; exact hI b o hb
 · simp only
   rw [if_neg (fun h => by subst h; rw [hnew] at hb; cases hb)]; exact hb
 · simp only
   rw [if_neg (by omega)]; exact hn
 · exact sl_cells (if_pos rfl) (by simp; omega) (by simp only [maxLen]; omega)
 · simp only [maxLen]; omega
def cutT (t : Tx) : Tx × Tx × Bool := Lib.cut t [10]
theorem ct113 (s : ByteArray) (hs : s.size <= 10000000) (I : Mem) (hG : Globs I) :
 Ct Tryz.prog (fnv 113) #[.string s, .string ⟨#[UInt8.ofNat 10]⟩] I (fun v _ => v = .tuple #[.string (strT (cutT (tx s)).1), .string (strT (cutT (tx s)).2.1), .bool (cutT (tx s)).2.2]) := by
 refine ct_of_calls Tryz.call113 fun w hI => ?_;obtain ⟨⟨m, hm⟩, _⟩ := hG w hI
 refine (Tryz.strings_Cut s ⟨#[UInt8.ofNat 10]⟩ m w (by omega) hm).mono fun e w' ⟨he, n, hw⟩ => ⟨⟨_, he, rfl⟩, hw ▸ Go.Joins.below_draws _ _ _⟩
def fieldT (r : Rq) (t : Int) : Tx :=
 if t = 1 then tx (askS r.what) else if t = 2 then (if nameB (strL r.name) then tx r.name else wordT (strL r.name)) else if t = 10 then Lib.itoa r.val else if t = 11 then wordT r.fed else Lib.itoa (numR r t)
def wordsL (r : Rq) : List ByteArray := nameS r.kind :: (tagsR r).map fun t => strT (fieldT r t)
def wordsB (r : Rq) : ByteArray := joinB (wordsL r)
theorem dec_len : ∀ (k u : Nat), u < 10 ^ (k + 1) -> (Lib.decDigits u).length <= k + 1
 | 0, u, h => by rw [Lib.decDigits, dif_pos (by simpa using h)]; simp
 | k + 1, u, h => by
  rw [Lib.decDigits];split
  · simp
  · have := dec_len k (u / 10) (by rw [Nat.pow_succ] at h; omega)
    simp only [List.length_append, List.length_cons, List.length_nil]; omega
theorem itoa_len {n : Int} (h : i64R n) : (Lib.itoa n).length <= 21 := by
 have h1 := h.1;have h2 := h.2;unfold Lib.itoa;split
 · have := dec_len 19 n.natAbs (by omega)
   simp only [List.length_cons]; omega
 · have := dec_len 19 n.toNat (by omega)
   omega
theorem joinC_len (c : UInt8) (B : Nat) : ∀ ws : List Tx, (∀ w ∈ ws, w.length <= B) -> (joinC c ws).length <= ws.length * (B + 1)
 | [], _ => by simp [joinC]
 | [x], h => by have := h x (by simp); simp only [joinC, List.length_cons, List.length_nil]; omega
 | x :: y :: r, h => by
  have h1 := h x (by simp)
  have h2 := joinC_len c B (y :: r) fun w hw => h w (List.mem_cons_of_mem _ hw);simp only [joinC, List.length_append, List.length_cons] at h2 ⊢;rw [Nat.add_mul _ 1];omega
theorem tag_some {k w : Int} {l : List Int} (h : tagL k w = some l) : l.length <= 4 /\ ∀ t ∈ l, 1 <= t /\ t <= 11 := by
 unfold tagL at h
 by_cases h7 : k = 7
 · subst h7
   simp only [show ¬ (7 : Int) = 1 by decide, show ¬ (7 : Int) = 2 by decide, show ¬ (7 : Int) = 3 by decide, show ¬ (7 : Int) = 4 by decide, show ¬ (7 : Int) = 5 by decide, show ¬ (7 : Int) = 6 by decide, if_false, if_true] at h
   unfold askL at h
   repeat' split at h
   all_goals first | (cases h; exact ⟨by decide, by decide⟩) | cases h
 · simp only [h7, if_false] at h
   repeat' split at h
   all_goals first | (cases h; exact ⟨by decide, by decide⟩) | cases h
theorem tag_len (k w : Int) : ((tagL k w).getD []).length <= 4 /\ ∀ t ∈ (tagL k w).getD [], 1 <= t /\ t <= 11 := by
 cases h : tagL k w with
 | none => exact ⟨by decide, by decide⟩
 | some l => exact tag_some h
theorem num_ok {r : Rq} (hr : okRq r) (t : Int) : i64R (numR r t) := by
 unfold numR
 repeat' split
 · exact hr.p3
 · exact hr.p4
 · exact hr.p5
 · exact hr.p6
 · exact hr.p7
 · exact hr.p8
 · exact hr.p9
theorem word_len (bs : List Int) : (wordT bs).length = 1 + 2 * bs.length := by rw [wordT, List.length_cons, hex_len]; omega
theorem field_len {r : Rq} (hr : okRq r) (hn : r.name.size <= 255) (hf : r.fed.length <= 15000) (t : Int) : (fieldT r t).length <= 40000 := by
 have h1 : (tx r.name).length = r.name.size := Array.length_toList;have h2 := strL_len r.name;unfold fieldT;split
 · have : ∀ w : Int, (tx (askS w)).length <= 40000 := fun w => by
    rw [askS]
    cases h : asksL[w.toNat]? with
    | none => decide
    | some x =>
     have := List.mem_of_getElem? h;simp only [asksL, List.mem_cons, List.not_mem_nil, or_false] at this
     rcases this with rfl | rfl | rfl | rfl | rfl | rfl <;> decide
   exact this _
 · split
   · split
     · omega
     · rw [word_len]; omega
   · split
     · have := itoa_len hr.val; omega
     · split
       · rw [word_len]; omega
       · have := itoa_len (num_ok hr t); omega
theorem name_len (k : Int) : (nameS k).size <= 40000 := by
 rw [nameS]
 cases h : namesL[k.toNat]? with
 | none => decide
 | some x =>
  have := List.mem_of_getElem? h;simp only [namesL, List.mem_cons, List.not_mem_nil, or_false] at this
  rcases this with rfl | rfl | rfl | rfl | rfl | rfl | rfl | rfl | rfl | rfl <;> decide
theorem tx_strT (t : Tx) : tx (strT t) = t := by simp [tx, strT]
theorem strT_size (t : Tx) : (strT t).size = t.length := by show t.toArray.size = _; simp
theorem words_len {r : Rq} (hr : okRq r) (h : rightR r = true) : (wordsL r).length <= 5 /\ (wordsB r).size <= 1000000 := by
 obtain ⟨_, h1, h2, _⟩ := right_tag h;have h3 := (tag_len r.kind r.what).1
 have h4 : (wordsL r).length <= 5 := by simp only [wordsL, tagsR, List.length_cons, List.length_map]; omega
 refine ⟨h4, ?_⟩;rw [wordsB, joinB, strT_size]
 have := joinC_len 32 40000 ((wordsL r).map tx) fun w hw => by
  obtain ⟨u, hu, rfl⟩ := List.mem_map.1 hw;simp only [wordsL, List.mem_cons, List.mem_map] at hu
  rcases hu with rfl | ⟨t, _, rfl⟩
  · have := name_len r.kind
    have e : (tx (nameS r.kind)).length = (nameS r.kind).size := Array.length_toList;omega
  · rw [tx_strT]; exact field_len hr h1 h2 t
 rw [List.length_map] at this;have h5 : (wordsL r).length * (40000 + 1) <= 5 * (40000 + 1) := Nat.mul_le_mul_right _ h4;omega
def numsV (r : Rq) : List Value := [.int .i64 0, .int .i64 0, .int .i64 0, .int .i64 r.p3, .int .i64 r.p4, .int .i64 r.p5, .int .i64 r.p6, .int .i64 r.p7, .int .i64 r.p8, .int .i64 r.p9]
theorem ct21 (r : Rq) (hr : okRq r) (hnm : r.name.size <= 1000000) (y : Value) (I : Mem) (hG : Globs I) (hy : BySl I y r.fed) (hfl : r.fed.length <= 1000000) (hfb : byteL r.fed) :
 Ct Tryz.prog (fnv 21) #[.agg (rqV r y).toArray] I (fun v _ => v = .tuple #[.string (if rightR r then wordsB r else ⟨#[]⟩), .int .i64 (if rightR r then 0 else 412)]) := by
 have hy' := hy;obtain ⟨p, n, c, rfl, hp, hpc, hpm⟩ := hy;obtain ⟨WI, hWI⟩ : ∃ f : Int -> List Value -> List Value -> Prop, f = fun (j : Int) xs ns => ns = numsV r /\ 0 <= j /\ j <= (tagsR r).length /\ xs = strs ((wordsL r).take (1 + j.toNat)) := ⟨_, rfl⟩
 obtain ⟨Q, hQ⟩ : ∃ q : Value, q = .tuple #[.string (if rightR r then wordsB r else ⟨#[]⟩), .int .i64 (if rightR r then 0 else 412)] := ⟨_, rfl⟩
 rw [<- hQ]
 refine viaR (ct_via (A := { hands := [(21, [1])], calls := [(49, .sym)], loops := [(7, ⟨[(1, .keep), (4, .row 1), (7, .keep), (40, .keep), (41, .keep), (42, .sh (.int .i64))], [(0, .keep), (1, .row), (2, .vec)], [(4, 1, 9)], fun vals xss _ _ => match vals, xss with | [.int .i64 j], [xs, ns] => WI j xs ns | _, _ => False, fun vals _ => match vals with | [.int .i64 j] => ((tagsR r).length - j).toNat | _ => 0⟩)] }) Tryz.func21 rfl Tryz.call21 rfl rfl) (let E1 := Ent.mk (.cells [.v (.int .u8 r.kind), .v (.int .u8 r.what), .v (.string r.name), .v (.int .i64 r.p3), .v (.int .i64 r.p4), .v (.int .i64 r.p5), .v (.int .i64 r.p6), .v (.int .i64 r.p7), .v (.int .i64 r.p8), .v (.int .i64 r.p9), .v (.int .i64 r.val), .v (.slice p n c)] 26) none
  Ct Tryz.prog (fnv 52) #[.agg #[.int .u8 r.kind, .int .u8 r.what, .string r.name, .int .i64 r.p3, .int .i64 r.p4, .int .i64 r.p5, .int .i64 r.p6, .int .i64 r.p7, .int .i64 r.p8, .int .i64 r.p9, .int .i64 r.val, .slice p n c]] I fun (v : Value) (a : Mem) => ∃ (b : Bool), v = .bool b /\ Br (!b) (Value.tuple #[.string ⟨#[]⟩, .int .i64 412] = Q) (Ct Tryz.prog (fnv 27) #[.int .u8 r.kind] a (fun (d : Value) (e : Mem) => ∃ (q : ByteArray), d = .string q /\ Ct Tryz.prog (fnv 28) #[.int .u8 r.kind, .int .u8 r.what] e fun (f : Value) (g : Mem) => ∃ (h : Option Addr) (i j : Nat) (k : Bool), f = .tuple #[.slice h i j, .bool k] /\ (Rf E1 /\ Rf (none : Option Nat) /\ Rf (SV.ptr 0 0) /\ (1 : Nat) = 1 /\ Rf (SV.ptr 2 0) /\ Rf (SV.v (.slice h i j)) /\ Rf (SV.v (.int .i64 (i : Int))) /\ WI 0 [.string q] [.int .i64 0, .int .i64 0, .int .i64 0, .int .i64 r.p3, .int .i64 r.p4, .int .i64 r.p5, .int .i64 r.p6, .int .i64 r.p7, .int .i64 r.p8, .int .i64 r.p9]) /\ ∀ (l : Mem), Mem -> g.le l -> ∀ (x m : List Value) (o : Int), WI o x m -> Br (decide (o < (i : Int))) (0 <= o /\ o < (i : Int) /\ h.isSome = true /\ ∃ (s : Int), atI l h (o.toNat * 1 + 0) = some (.int .i64 s) /\ Br (s == 1) (Ct Tryz.prog (fnv 53) #[.int .u8 r.what] l (fun (t : Value) (u : Mem) => ∃ (w : ByteArray), t = .string w /\ x.length = x.length * 1 /\ x.length + 1 <= 9223372036854775807 /\ (x.length + 1) * 16 <= 140737488355328 /\ Wr .i64 (o + 1) fun (y : Int) => Rf E1 /\ Rf (none : Option Nat) /\ Rf (SV.ptr 0 0) /\ x.length + 1 = List.length (x ++ [.string w]) /\ Rf (SV.ptr 2 0) /\ Rf (SV.v (.slice h i j)) /\ Rf (SV.v (.int .i64 (i : Int))) /\ WI y (x ++ [.string w]) m /\ Int.toNat (((tagsR r).length : Int) - y) < Int.toNat (((tagsR r).length : Int) - o))) (Br (s == 2) (Ct Tryz.prog (fnv 54) #[.string r.name] l (fun (t : Value) (u : Mem) => ∃ (w : Bool), t = .bool w /\ Br w (x.length = x.length * 1 /\ x.length + 1 <= 9223372036854775807 /\ (x.length + 1) * 16 <= 140737488355328 /\ Wr .i64 (o + 1) fun (y : Int) => Rf E1 /\ Rf (none : Option Nat) /\ Rf (SV.ptr 0 0) /\ x.length + 1 = List.length (x ++ [.string r.name]) /\ Rf (SV.ptr 2 0) /\ Rf (SV.v (.slice h i j)) /\ Rf (SV.v (.int .i64 (i : Int))) /\ WI y (x ++ [.string r.name]) m /\ Int.toNat (((tagsR r).length : Int) - y) < Int.toNat (((tagsR r).length : Int) - o)) (Br (s == 2) (Ct Tryz.prog (fnv 55) #[.string r.name] u (fun (y : Value) (z : Mem) => ∃ (q1 : ByteArray), y = .string q1 /\ x.length = x.length * 1 /\ x.length + 1 <= 9223372036854775807 /\ (x.length + 1) * 16 <= 140737488355328 /\ Wr .i64 (o + 1) fun (c1 : Int) => Rf E1 /\ Rf (none : Option Nat) /\ Rf (SV.ptr 0 0) /\ x.length + 1 = List.length (x ++ [.string q1]) /\ Rf (SV.ptr 2 0) /\ Rf (SV.v (.slice h i j)) /\ Rf (SV.v (.int .i64 (i : Int))) /\ WI c1 (x ++ [.string q1]) m /\ Int.toNat (((tagsR r).length : Int) - c1) < Int.toNat (((tagsR r).length : Int) - o))) (Br (s == 10) (Ct Tryz.prog (fnv 56) #[.int .i64 r.val, .int .i64 10] u (fun (y : Value) (z : Mem) => ∃ (q1 : ByteArray), y = .string q1 /\ x.length = x.length * 1 /\ x.length + 1 <= 9223372036854775807 /\ (x.length + 1) * 16 <= 140737488355328 /\ Wr .i64 (o + 1) fun (c1 : Int) => Rf E1 /\ Rf (none : Option Nat) /\ Rf (SV.ptr 0 0) /\ x.length + 1 = List.length (x ++ [.string q1]) /\ Rf (SV.ptr 2 0) /\ Rf (SV.v (.slice h i j)) /\ Rf (SV.v (.int .i64 (i : Int))) /\ WI c1 (x ++ [.string q1]) m /\ Int.toNat (((tagsR r).length : Int) - c1) < Int.toNat (((tagsR r).length : Int) - o))) (Br (s == 11) (∃ (y : List UInt8), y.length = n /\ (p = none -> n = 0) /\ (∀ (z : Nat) (b1 : UInt8), y[z]? = some b1 -> atI u p z = some (.int .u8 (b1.toNat : Int))) /\ Ct Tryz.prog (fnv 55) #[.string ⟨y.toArray⟩] u fun (z : Value) (I1 : Mem) => ∃ (q1 : ByteArray), z = .string q1 /\ x.length = x.length * 1 /\ x.length + 1 <= 9223372036854775807 /\ (x.length + 1) * 16 <= 140737488355328 /\ Wr .i64 (o + 1) fun (c1 : Int) => Rf E1 /\ Rf (none : Option Nat) /\ Rf (SV.ptr 0 0) /\ x.length + 1 = List.length (x ++ [.string q1]) /\ Rf (SV.ptr 2 0) /\ Rf (SV.v (.slice h i j)) /\ Rf (SV.v (.int .i64 (i : Int))) /\ WI c1 (x ++ [.string q1]) m /\ Int.toNat (((tagsR r).length : Int) - c1) < Int.toNat (((tagsR r).length : Int) - o)) (0 <= s /\ s < 10 /\ ∃ (y : Int), m[0 + s.toNat * 1 + 0]? = some (.int .i64 y) /\ Ct Tryz.prog (fnv 57) #[.int .i64 y] u fun (z : Value) (I1 : Mem) => ∃ (q1 : ByteArray), z = .string q1 /\ x.length = x.length * 1 /\ x.length + 1 <= 9223372036854775807 /\ (x.length + 1) * 16 <= 140737488355328 /\ Wr .i64 (o + 1) fun (c1 : Int) => Rf E1 /\ Rf (none : Option Nat) /\ Rf (SV.ptr 0 0) /\ x.length + 1 = List.length (x ++ [.string q1]) /\ Rf (SV.ptr 2 0) /\ Rf (SV.v (.slice h i j)) /\ Rf (SV.v (.int .i64 (i : Int))) /\ WI c1 (x ++ [.string q1]) m /\ Int.toNat (((tagsR r).length : Int) - c1) < Int.toNat (((tagsR r).length : Int) - o))))))) (Br (s == 2) (Ct Tryz.prog (fnv 55) #[.string r.name] l (fun (t : Value) (u : Mem) => ∃ (w : ByteArray), t = .string w /\ x.length = x.length * 1 /\ x.length + 1 <= 9223372036854775807 /\ (x.length + 1) * 16 <= 140737488355328 /\ Wr .i64 (o + 1) fun (y : Int) => Rf E1 /\ Rf (none : Option Nat) /\ Rf (SV.ptr 0 0) /\ x.length + 1 = List.length (x ++ [.string w]) /\ Rf (SV.ptr 2 0) /\ Rf (SV.v (.slice h i j)) /\ Rf (SV.v (.int .i64 (i : Int))) /\ WI y (x ++ [.string w]) m /\ Int.toNat (((tagsR r).length : Int) - y) < Int.toNat (((tagsR r).length : Int) - o))) (Br (s == 10) (Ct Tryz.prog (fnv 56) #[.int .i64 r.val, .int .i64 10] l (fun (t : Value) (u : Mem) => ∃ (w : ByteArray), t = .string w /\ x.length = x.length * 1 /\ x.length + 1 <= 9223372036854775807 /\ (x.length + 1) * 16 <= 140737488355328 /\ Wr .i64 (o + 1) fun (y : Int) => Rf E1 /\ Rf (none : Option Nat) /\ Rf (SV.ptr 0 0) /\ x.length + 1 = List.length (x ++ [.string w]) /\ Rf (SV.ptr 2 0) /\ Rf (SV.v (.slice h i j)) /\ Rf (SV.v (.int .i64 (i : Int))) /\ WI y (x ++ [.string w]) m /\ Int.toNat (((tagsR r).length : Int) - y) < Int.toNat (((tagsR r).length : Int) - o))) (Br (s == 11) (∃ (t : List UInt8), t.length = n /\ (p = none -> n = 0) /\ (∀ (u : Nat) (w : UInt8), t[u]? = some w -> atI l p u = some (.int .u8 (w.toNat : Int))) /\ Ct Tryz.prog (fnv 55) #[.string ⟨t.toArray⟩] l fun (u : Value) (w : Mem) => ∃ (y : ByteArray), u = .string y /\ x.length = x.length * 1 /\ x.length + 1 <= 9223372036854775807 /\ (x.length + 1) * 16 <= 140737488355328 /\ Wr .i64 (o + 1) fun (z : Int) => Rf E1 /\ Rf (none : Option Nat) /\ Rf (SV.ptr 0 0) /\ x.length + 1 = List.length (x ++ [.string y]) /\ Rf (SV.ptr 2 0) /\ Rf (SV.v (.slice h i j)) /\ Rf (SV.v (.int .i64 (i : Int))) /\ WI z (x ++ [.string y]) m /\ Int.toNat (((tagsR r).length : Int) - z) < Int.toNat (((tagsR r).length : Int) - o)) (0 <= s /\ s < 10 /\ ∃ (t : Int), m[0 + s.toNat * 1 + 0]? = some (.int .i64 t) /\ Ct Tryz.prog (fnv 57) #[.int .i64 t] l fun (u : Value) (w : Mem) => ∃ (y : ByteArray), u = .string y /\ x.length = x.length * 1 /\ x.length + 1 <= 9223372036854775807 /\ (x.length + 1) * 16 <= 140737488355328 /\ Wr .i64 (o + 1) fun (z : Int) => Rf E1 /\ Rf (none : Option Nat) /\ Rf (SV.ptr 0 0) /\ x.length + 1 = List.length (x ++ [.string y]) /\ Rf (SV.ptr 2 0) /\ Rf (SV.v (.slice h i j)) /\ Rf (SV.v (.int .i64 (i : Int))) /\ WI z (x ++ [.string y]) m /\ Int.toNat (((tagsR r).length : Int) - z) < Int.toNat (((tagsR r).length : Int) - o))))))) (∀ (s : Option Addr) (t : Nat) (u : Mem), l.le u -> RowM u s t 1 x -> Ct Tryz.prog (fnv 58) #[.slice s x.length t, .string ⟨#[32]⟩] u fun (w : Value) (y : Mem) => ∃ (z : ByteArray), w = .string z /\ Value.tuple #[.string z, .int .i64 0] = Q)))) (by kernel_rfl) ?_
 intro E1;refine (ct52 r hr hnm _ I hy' hfl).mono fun v I1 l1 hv => ⟨_, hv, Br.mk (fun h => ?_) (fun h => ?_)⟩
 · have h : rightR r = false := by simpa using h
   rw [hQ, h]; rfl
 have hR : rightR r = true := by simpa using h
 obtain ⟨htl, hn1, hf1, _⟩ := right_tag hR;have hTL := tag_len r.kind r.what;have htg : (tagL r.kind r.what).getD [] = tagsR r := rfl;rw [htg] at hTL
 have hwl : (wordsL r).length = 1 + (tagsR r).length := by simp only [wordsL, List.length_cons, List.length_map]; omega
 refine (ct27 r.kind hr.kind I1).mono fun v I2 l2 hv => ⟨_, hv, (ct28 r.kind r.what I2).mono fun v I3 l3 ⟨ta, tn, tc, hv, hsl, hle, hcm, hnew⟩ => ⟨ta, tn, tc, _, hv, ⟨rfl, rfl, rfl, rfl, rfl, rfl, rfl, ?_⟩, fun J G' lJ xs ns j hj => ?_⟩⟩
 · rw [hWI]; exact ⟨rfl, by omega, by omega, rfl⟩
 have hGJ := hG.mono (Mem.le_trans l1 (Mem.le_trans l2 (Mem.le_trans l3 lJ)));have hlJ := Mem.le_trans l1 (Mem.le_trans l2 (Mem.le_trans l3 lJ));rw [htg] at hsl;have htn := hsl.numLen;rw [hWI] at hj;obtain ⟨hns, h0, h1, hxs⟩ := hj
 have hlen : xs.length = 1 + j.toNat := by rw [hxs, strs, List.length_map, List.length_take]; omega
 refine Br.mk (fun h2 => ?_) (fun h2 => ?_)
 · have h2 := of_decide_eq_true h2
   obtain ⟨t, ht, hcell⟩ := (hsl.mono lJ).intAt (i := j) h0 h2;have htr := hTL.2 t (List.mem_of_getElem? ht)
   have key : ∀ u : ByteArray, u = strT (fieldT r t) -> WI (j + 1) (xs ++ [.string u]) ns := fun u hu => by
    rw [hWI]
    refine ⟨hns, by omega, by omega, ?_⟩
    have hw : (wordsL r)[1 + j.toNat]? = some (strT (fieldT r t)) := by
     rw [wordsL, Nat.add_comm, List.getElem?_cons_succ, List.getElem?_map, ht]; rfl
    rw [show 1 + (j + 1).toNat = 1 + j.toNat + 1 by omega, List.take_add_one, hw, hxs, hu]
    simp [strs]
   have mk : ∀ {A B C D E F : Prop} {u : ByteArray} , u = strT (fieldT r t) -> A -> B -> C -> D -> E -> F -> (xs.length = xs.length * 1 /\ xs.length + 1 <= 9223372036854775807 /\ (xs.length + 1) * 16 <= 140737488355328 /\ Wr .i64 (j + 1) fun w => A /\ B /\ C /\ xs.length + 1 = (xs ++ [Value.string u]).length /\ D /\ E /\ F /\ WI w (xs ++ [.string u]) ns /\ (((tagsR r).length : Int) - w).toNat < (((tagsR r).length : Int) - j).toNat) :=
    fun hu a b c d e f => ⟨by omega, by omega, by omega, wr_i64 (by omega) (by omega) ⟨a, b, c, by simp, d, e, f, key _ hu, by omega⟩⟩
   refine ⟨h0, h2, hsl.isSome (by omega), t, hcell, Br.mk (fun e1 => ?_) (fun e1 => ?_)⟩
   · have e1 : t = 1 := by simpa using e1
     refine (ct53 r.what hr.what J).mono fun v J2 lJ2 hv => ⟨_, hv, mk (by rw [fieldT, if_pos e1]; rfl) rfl rfl rfl rfl rfl rfl⟩
   have e1 : t ≠ 1 := by simpa using e1
   have d10 : t = 10 -> fieldT r t = Lib.itoa r.val := fun e => by rw [fieldT, if_neg (by omega), if_neg (by omega), if_pos e]
   have d11 : t = 11 -> fieldT r t = wordT r.fed := fun e => by rw [fieldT, if_neg (by omega), if_neg (by omega), if_neg (by omega), if_pos e]
   have dN : t ≠ 2 -> t ≠ 10 -> t ≠ 11 -> fieldT r t = Lib.itoa (numR r t) := fun h3 h4 h5 => by rw [fieldT, if_neg e1, if_neg h3, if_neg h4, if_neg h5]
   obtain ⟨us, hus, hnil, hat⟩ : ∃ us : List UInt8, us = u8s r.fed /\ (p = none -> n = 0) /\ ∀ (q : Nat) (b : UInt8), us[q]? = some b -> atI J p q = some (Value.int IntKind.u8 ↑b.toNat) := ⟨_, rfl, (u8s_at hfb (hp.mono hlJ)).2⟩;refine Br.mk (fun e2 => ?_) (fun e2 => ?_)
   · have e2 : t = 2 := by simpa using e2
     refine (ct54 r.name J).mono fun v J2 lJ2 hv => ⟨_, hv, Br.mk (fun e3 => ?_) (fun e3 => Br.mk (fun _ => ?_) (fun h => absurd (by simp [e2]) (Bool.eq_false_iff.1 h)))⟩
     · exact mk (by rw [fieldT, if_neg e1, if_pos e2, if_pos e3]; rfl) rfl rfl rfl rfl rfl rfl
     · refine (ct55 r.name (by omega) J2).mono fun v J3 lJ3 hv => ⟨_, hv, mk (by rw [fieldT, if_neg e1, if_pos e2, if_neg (by rw [e3]; decide)]; rfl) rfl rfl rfl rfl rfl rfl⟩
   have e2 : t ≠ 2 := by simpa using e2
   refine Br.f (by simpa using e2) (Br.mk (fun e3 => ?_) (fun e3 => ?_))
   · have e3 : t = 10 := by simpa using e3
     exact (ct56 r.val hr.val J hGJ).mono fun v J2 lJ2 hv => ⟨_, hv, mk (by rw [d10 e3]) rfl rfl rfl rfl rfl rfl⟩
   have e3 : t ≠ 10 := by simpa using e3
   refine Br.mk (fun e4 => ?_) (fun e4 => ?_)
   · have e4 : t = 11 := by simpa using e4
     have hsz : (⟨us.toArray⟩ : ByteArray).size = r.fed.length := by show us.toArray.size = _; rw [hus]; simp [u8s]
     refine ⟨us, by rw [hus, u8s, List.length_map]; exact hp.numLen.symm, hnil, hat, (ct55 ⟨us.toArray⟩ (by omega) J).mono fun v J2 lJ2 hv => ⟨_, hv, mk (by rw [d11 e4, hus]; exact congrArg (fun z => (⟨(wordT z).toArray⟩ : ByteArray)) (strL_strB hfb)) rfl rfl rfl rfl rfl rfl⟩⟩
   have e4 : t ≠ 11 := by simpa using e4
   have hnum : ns[0 + t.toNat * 1 + 0]? = some (Value.int IntKind.i64 (numR r t)) := by
    rw [hns]
    rcases (by omega : t = 3 \/ t = 4 \/ t = 5 \/ t = 6 \/ t = 7 \/ t = 8 \/ t = 9) with rfl | rfl | rfl | rfl | rfl | rfl | rfl <;> rfl
   exact ⟨by omega, by omega, _, hnum, (ct57 _ (num_ok hr t) J hGJ).mono fun v J2 lJ2 hv => ⟨_, hv, mk (by rw [dN e2 e3 e4]) rfl rfl rfl rfl rfl rfl⟩⟩
 · have h2 := of_decide_eq_false h2
   intro o cp J2 lJ2 hrow
   have hx : xs = strs (wordsL r) := by rw [hxs, List.take_of_length_le (by omega)]
   have hwb := words_len hr hR;rw [hx] at hrow ⊢
   have hl2 : (strs (wordsL r)).length = (wordsL r).length := by simp [strs]
   rw [hl2]
   exact (ct58 _ o cp J2 hrow (by have := hwb.2; rw [wordsB] at this; omega) (by omega)).mono fun v J3 lJ3 hv => ⟨_, hv, by rw [hQ, hR]; rfl⟩
def zeroEn : En := ⟨0, 0, 0, []⟩
def askE (slot : Int) (r : Rq) : En × Int := if rightR r then (if cleanE ⟨1, slot, 0, writeR r⟩ then (⟨1, slot, 0, writeR r⟩, 0) else (zeroEn, 410)) else (zeroEn, 412)
theorem ct20 (slot : Int) (hsl : i64R slot) (r : Rq) (hr : okRq r) (hnm : r.name.size <= 1000000) (y : Value) (I : Mem) (hy : BySl I y r.fed) (hfl : r.fed.length <= 1000000) :
 Ct Tryz.prog (fnv 20) #[.int .i64 slot, .agg (rqV r y).toArray] I (fun v I' => ∃ z, v = .tuple #[.agg (enV (askE slot r).1 z).toArray, .int .i64 (askE slot r).2] /\ BySl I' z (askE slot r).1.bs) := by
 have hy' := hy;obtain ⟨p, n, c, rfl, hp, hpc, hpm⟩ := hy;obtain ⟨Q, hQ⟩ : ∃ q : Value -> Mem -> Prop, q = fun v I' => ∃ z, v = .tuple #[.agg (enV (askE slot r).1 z).toArray, .int .i64 (askE slot r).2] /\ BySl I' z (askE slot r).1.bs := ⟨_, rfl⟩;rw [<- hQ]
 refine viaR (ct_via (A := { }) Tryz.func20 rfl Tryz.call20 rfl rfl) (Ct Tryz.prog (fnv 51) #[.agg #[.int .u8 r.kind, .int .u8 r.what, .string r.name, .int .i64 r.p3, .int .i64 r.p4, .int .i64 r.p5, .int .i64 r.p6, .int .i64 r.p7, .int .i64 r.p8, .int .i64 r.p9, .int .i64 r.val, .slice p n c]] I fun v a => ∃ b d e f, v = .tuple #[.slice b d e, .int .i64 f] /\ Br (f != 0) (Q (.tuple #[.agg #[.int .u8 0, .int .i64 0, .int .i64 0, .slice none 0 0], .int .i64 412]) a) (Ct Tryz.prog (fnv 32) #[.agg #[.int .u8 1, .int .i64 slot, .int .i64 0, .slice b d e]] a (fun g h => ∃ i, g = .bool i /\ Br (!i) (Q (.tuple #[.agg #[.int .u8 0, .int .i64 0, .int .i64 0, .slice none 0 0], .int .i64 410]) h) (Q (.tuple #[.agg #[.int .u8 1, .int .i64 slot, .int .i64 0, .slice b d e], .int .i64 0]) h)))) (by kernel_rfl) ?_
 refine (ct51 r hr hnm _ I hy' hfl).mono fun v I1 l1 ⟨a, m, d, hv, hs, h1, h2⟩ => ⟨a, m, d, _, hv, Br.mk (fun h => ?_) (fun h => ?_)⟩
 · have h : rightR r = false := by
    cases hR : rightR r with
    | false => rfl
    | true => rw [hR] at h; exact absurd h (by decide)
   have e : askE slot r = (zeroEn, 412) := by rw [askE, h]; rfl
   rw [hQ, e];exact ⟨_, rfl, bysl_nil _⟩
 have hR : rightR r = true := by
  cases hR : rightR r with
  | true => rfl
  | false => rw [hR] at h; exact absurd h (by decide)
 rw [hR] at hs;simp only [if_true] at hs;have hb := write_ok hr hR;refine (ct32 ⟨1, slot, 0, writeR r⟩ (.slice a m d) I1 ⟨a, m, d, rfl, hs, h1, h2⟩ hb).mono fun v I2 l2 hv => ⟨_, hv, Br.mk (fun h => ?_) (fun h => ?_)⟩
 · have hc : cleanE ⟨1, slot, 0, writeR r⟩ = false := by simpa using h
   have e : askE slot r = (zeroEn, 410) := by rw [askE, hR, hc]; rfl
   rw [hQ, e];exact ⟨_, rfl, bysl_nil _⟩
 · have hc : cleanE ⟨1, slot, 0, writeR r⟩ = true := by simpa using h
   have e : askE slot r = (⟨1, slot, 0, writeR r⟩, 0) := by rw [askE, hR, hc]; rfl
   rw [hQ, e];exact ⟨_, rfl, a, m, d, rfl, hs.mono l2, h1, h2⟩
theorem cts_cap {P : Program} {f : FuncId} {first args cap : List SV} {H : List Ent} {I : Mem} {post : SV -> List Ent -> Mem -> Prop} (h : CtS P (.v (fnv f)) (first ++ args ++ cap) H I post) : CtS P (.fn (.func f) first cap) args H I post := by
 intro e hp hO W h1 h2 h3;have h := h e hp hO W h1 h2 h3;simp only [den, denL_eq] at h ⊢;unfold CallV fnv at *;rw [run_semV_func] at *;simpa using h
def nextW : List ByteArray × Bool -> ByteArray × (List ByteArray × Bool)
 | ([], _) => (⟨#[]⟩, ([], false))
 | (w :: r, b) => (w, (r, b))
def WsL (I : Mem) (v : Value) (ws : List ByteArray) : Prop := ∃ p n c, v = .slice p n c /\ SlM I p n 1 (strs ws) /\ n <= c /\ c <= maxLen
theorem WsL.mono {I J : Mem} {v : Value} {ws : List ByteArray} (h : WsL I v ws) (hle : I.le J) : WsL J v ws := by
 obtain ⟨p, n, c, h1, h2, h3⟩ := h;exact ⟨p, n, c, h1, h2.mono hle, h3⟩
theorem sl_drop {I : Mem} {a : Option Addr} {n c k : Nat} {xs : List Value} (h : SlM I a n 1 xs) (hk : k <= n) (hc : n <= c) : SlM I (sladdr a c k 1) (n - k) 1 (xs.drop k) := by
 have hl := h.len
 refine ⟨by rw [List.length_drop]; omega, fun hs => ?_, Nat.le_trans (by omega) h.max, fun j v hj => ?_⟩
 · unfold sladdr at hs
   split at hs
   · omega
   · cases a with
     | none => have := h.nil rfl; omega
     | some ad => cases hs
 · rw [List.getElem?_drop] at hj
   have hlt := (List.getElem?_eq_some_iff.1 hj).1;have hat := h.at_ _ _ hj;unfold sladdr
   rw [if_neg (by omega)]
   cases a with
   | none => have := h.nil rfl; omega
   | some ad =>
    simp only [Option.map_some, Nat.mul_one];simp only [atI, Option.bind_some] at hat ⊢;rw [add_add];exact hat
def wsE (v : Value) (k : Nat) : Ent := ⟨.cells [.v v] 64, some k⟩
def okE (b : Bool) (k : Nat) : Ent := ⟨.cells [.v (.bool b)] 4, some k⟩
theorem cs157 (ws : List ByteArray) (b : Bool) (k1 k2 : Nat) (v : Value) (I : Mem) (h : WsL I v ws) :
 CtS Tryz.prog (.v (fnv 157)) [.ptr 0 0, .ptr 1 0] [wsE v k1, okE b k2] I (fun sv H' I' => ∃ v', sv = .v (.string (nextW (ws, b)).1) /\ H' = [wsE v' k1, okE (nextW (ws, b)).2.2 k2] /\ WsL I' v' (nextW (ws, b)).2.1) := by
 obtain ⟨p, n, c, rfl, hp, hpc, hpm⟩ := h;obtain ⟨Q, hQ⟩ : ∃ q : SV -> List Ent -> Mem -> Prop, q = fun sv H' I' => ∃ v', sv = .v (.string (nextW (ws, b)).1) /\ H' = [wsE v' k1, okE (nextW (ws, b)).2.2 k2] /\ WsL I' v' (nextW (ws, b)).2.1 := ⟨_, rfl⟩;rw [<- hQ]
 refine viaR (ctS_via (A := { }) Tryz.func157 rfl Tryz.call157 [0, 1] rfl) (Br ((n : Int) == 0) (Q (.v (.string ⟨#[]⟩)) [⟨.cells [.v (.slice p n c)] 64, some k1⟩, ⟨.cells [.v (.bool false)] 4, some k2⟩] I) ((0 : Int) <= 0 /\ 0 < (n : Int) /\ p.isSome = true /\ ∃ q, atI I p 0 = some (.string q) /\ (0 : Int) <= 1 /\ 1 <= (n : Int) /\ Q (.v (.string q)) [⟨.cells [.v (.slice (sladdr p c 1 1) (n - 1) (c - 1))] 64, some k1⟩, ⟨.cells [.v (.bool b)] 4, some k2⟩] I)) (by kernel_rfl) ?_
 have hl : (strs ws).length = n := by rw [hp.len, Nat.mul_one]
 refine Br.mk (fun h => ?_) (fun h => ?_)
 · have h : n = 0 := by simpa using h
   have hw : ws = [] := by
    rw [h] at hl;simpa [strs] using hl
   subst hw;rw [hQ];exact ⟨.slice p n c, rfl, rfl, p, n, c, rfl, hp, hpc, hpm⟩
 · have h : n ≠ 0 := by simpa using h
   cases ws with
   | nil => exact absurd hl (by simp [strs]; omega)
   | cons w r =>
    have h0 : atI I p 0 = some (.string w) := hp.at_ 0 _ rfl
    refine ⟨by omega, by omega, hp.isSome (by omega), w, h0, by omega, by omega, ?_⟩
    rw [hQ]
    exact ⟨_, rfl, rfl, _, _, _, rfl, sl_drop (k := 1) hp (by omega) hpc, by omega, by omega⟩
def numW (s : List ByteArray × Bool) : Int × (List ByteArray × Bool) := ((numP (tx (nextW s).1)).1, ((nextW s).2.1, (nextW s).2.2 && (numP (tx (nextW s).1)).2))
def nxE (k : Nat) : Ent := ⟨.cells [.fn (.func 157) [] [.ptr 0 0, .ptr 1 0]] 122, some k⟩
theorem next_size {ws : List ByteArray} {b : Bool} (h : ∀ w ∈ ws, w.size <= 1000000) : (nextW (ws, b)).1.size <= 1000000 /\ ∀ w ∈ (nextW (ws, b)).2.1, w.size <= 1000000 := by
 cases ws with
 | nil => exact ⟨Nat.zero_le _, fun w hw => by cases hw⟩
 | cons w r => exact ⟨h w (by simp), fun x hx => h x (List.mem_cons_of_mem _ hx)⟩
theorem cs158 (ws : List ByteArray) (hws : ∀ w ∈ ws, w.size <= 1000000) (b : Bool) (k1 k2 k3 : Nat) (v : Value) (I : Mem) (hG : Globs I) (h : WsL I v ws) :
 CtS Tryz.prog (.v (fnv 158)) [.ptr 2 0, .ptr 1 0] [wsE v k1, okE b k2, nxE k3] I (fun sv H' I' => ∃ v', sv = .v (.int .i64 (numW (ws, b)).1) /\ H' = [wsE v' k1, okE (numW (ws, b)).2.2 k2, nxE k3] /\ WsL I' v' (numW (ws, b)).2.1) := by
 obtain ⟨Q, hQ⟩ : ∃ q : SV -> List Ent -> Mem -> Prop, q = fun sv H' I' => ∃ v', sv = .v (.int .i64 (numW (ws, b)).1) /\ H' = [wsE v' k1, okE (numW (ws, b)).2.2 k2, nxE k3] /\ WsL I' v' (numW (ws, b)).2.1 := ⟨_, rfl⟩;rw [<- hQ]
 refine viaR (ctS_via (A := { calls := [(7, .lend [0, 1] (.sh .str) [.cells [.sh .sl] 64, .cells [.sh .bool] 4])] }) Tryz.func158 rfl Tryz.call158 [0, 1, 2] rfl) (CtS Tryz.prog (.fn (.func 157) [] [.ptr 0 0, .ptr 1 0]) [] [⟨.cells [.v v] 64, some k1⟩, ⟨.cells [.v (.bool b)] 4, some k2⟩] I fun s H a => ∃ q c n d e, s = .v (.string q) /\ H = [⟨.cells [.v (.slice c n d)] 64, some k1⟩, ⟨.cells [.v (.bool e)] 4, some k2⟩] /\ Ct Tryz.prog (fnv 159) #[.string q, .int .i64 10, .int .i64 64] a fun f g => ∃ i x, f = .tuple #[.int .i64 i, x] /\ Br e ((x = .nilIface \/ ∃ t p, x = .iface t p) /\ Q (.v (.int .i64 i)) [⟨.cells [.v (.slice c n d)] 64, some k1⟩, ⟨.cells [.v (.bool (isNilI x))] 4, some k2⟩, ⟨.cells [.fn (.func 157) [] [.ptr 0 0, .ptr 1 0]] 122, some k3⟩] g) (Q (.v (.int .i64 i)) [⟨.cells [.v (.slice c n d)] 64, some k1⟩, ⟨.cells [.v (.bool false)] 4, some k2⟩, ⟨.cells [.fn (.func 157) [] [.ptr 0 0, .ptr 1 0]] 122, some k3⟩] g)) (by kernel_rfl) ?_
 refine (cts_cap (first := []) (args := []) (cap := [.ptr 0 0, .ptr 1 0]) (cs157 ws b k1 k2 v I h)).mono fun sv H' I1 l1 ⟨v', hs, hH, hw⟩ => ?_;obtain ⟨p, n, c, rfl, hp, hpc, hpm⟩ := hw;have hsz := next_size (b := b) hws;refine ⟨_, _, _, _, _, hs, hH, (ct159 _ hsz.1 I1 (hG.mono l1)).mono fun u I2 l2 ⟨e, hu, he⟩ => ⟨_, _, hu, ?_⟩⟩;have hb : (numW (ws, b)).2.2 = ((nextW (ws, b)).2.2 && (numP (tx (nextW (ws, b)).1)).2) := rfl;have hW : WsL I2 (.slice p n c) (numW (ws, b)).2.1 := ⟨p, n, c, rfl, hp.mono l2, hpc, hpm⟩;refine Br.mk (fun h1 => ?_) (fun h1 => ?_)
 · have hn : isNilI e = (numP (tx (nextW (ws, b)).1)).2 /\ (e = .nilIface \/ ∃ t p, e = .iface t p) := by
    unfold errV at he
    cases hc : (numP (tx (nextW (ws, b)).1)).2 with
    | true => rw [hc] at he; simp only [if_true] at he; subst he; exact ⟨rfl, .inl rfl⟩
    | false =>
     rw [hc] at he;simp only [Bool.false_eq_true, if_false] at he;obtain ⟨t, q, rfl⟩ := he;exact ⟨rfl, .inr ⟨_, _, rfl⟩⟩
   refine ⟨hn.2, ?_⟩;rw [hQ]
   exact ⟨_, rfl, by rw [hb, h1, Bool.true_and, hn.1]; rfl, hW⟩
 · rw [hQ]
   exact ⟨_, rfl, by rw [hb, h1, Bool.false_and]; rfl, hW⟩
def tickB : Tx := [116, 105, 99, 107]
def pickB : Tx := [112, 105, 99, 107]
def rawB : Tx := [114, 97, 119]
def askB : Tx := [97, 115, 107]
def lineT (e : En) : Tx :=
 if cleanE e = false then []
 else if e.kind = 2 then tickB
 else if e.kind = 3 then pickB ++ 32 :: Lib.itoa e.n
 else if (readR e.bs).2 = 0 then askB ++ 32 :: (Lib.itoa e.slot ++ 32 :: tx (wordsB (readR e.bs).1))
 else rawB ++ 32 :: (Lib.itoa e.slot ++ 32 :: wordT e.bs)
def lineE (e : En) : Int := if cleanE e then 0 else 410
theorem strT_add (a b : Tx) : strT a ++ strT b = strT (a ++ b) := by
 apply ByteArray.ext; simp [strT]
theorem clean_len {e : En} (h : cleanE e = true) : e.bs.length <= 16384 /\ (e.kind = 1 \/ e.kind = 2 \/ e.kind = 3) := by
 unfold cleanE at h
 split at h
 · rename_i hk
   simp only [Bool.and_eq_true, decide_eq_true_eq] at h;exact ⟨h.2.2, .inl hk⟩
 · split at h
   · rename_i hk
     have h := of_decide_eq_true h
     rw [h]; exact ⟨by decide, .inr (.inl rfl)⟩
   · split at h
     · rename_i hk
       simp only [Bool.and_eq_true, decide_eq_true_eq] at h
       rw [h.2]; exact ⟨by simp, .inr (.inr rfl)⟩
     · cases h
theorem sz1 (a : UInt8) : (⟨#[a]⟩ : ByteArray).size = 1 := rfl
theorem sz3 (a b c : UInt8) : (⟨#[a, b, c]⟩ : ByteArray).size = 3 := rfl
theorem str_line (k x w : Tx) : strT k ++ (strT [32] ++ strT x ++ strT [32]) ++ strT w = strT (k ++ 32 :: (x ++ 32 :: w)) := by
 rw [strT_add, strT_add, strT_add, strT_add]; simp
theorem ct22 (e : En) (hk : okEn e) (y : Value) (I : Mem) (hG : Globs I) (hy : BySl I y e.bs) :
 Ct Tryz.prog (fnv 22) #[.agg (enV e y).toArray] I (fun v _ => v = .tuple #[.string (strT (lineT e)), .int .i64 (lineE e)]) := by
 have hy' := hy;obtain ⟨p, n, c, rfl, hp, hpc, hpm⟩ := hy;obtain ⟨Q, hQ⟩ : ∃ q : Value, q = .tuple #[.string (strT (lineT e)), .int .i64 (lineE e)] := ⟨_, rfl⟩;rw [<- hQ]
 refine viaR (ct_via (A := { }) Tryz.func22 rfl Tryz.call22 rfl rfl) (Ct Tryz.prog (fnv 32) #[.agg #[.int .u8 e.kind, .int .i64 e.slot, .int .i64 e.n, .slice p n c]] I fun (v : Value) (a : Mem) => ∃ (b : Bool), v = .bool b /\ Br (!b) (Value.tuple #[.string ⟨#[]⟩, .int .i64 410] = Q) (Br (e.kind == 2) (Value.tuple #[.string ⟨#[116, 105, 99, 107]⟩, .int .i64 0] = Q) (Br (e.kind == 3) (Ct Tryz.prog (fnv 57) #[.int .i64 e.n] a (fun (d : Value) (f : Mem) => ∃ (q : ByteArray), d = .string q /\ 5 + q.size <= 4611686018427387904 /\ Value.tuple #[.string (⟨#[112, 105, 99, 107, 32]⟩ ++ q), .int .i64 0] = Q)) (Ct Tryz.prog (fnv 57) #[.int .i64 e.slot] a (fun (d : Value) (f : Mem) => ∃ (q : ByteArray), d = .string q /\ 1 + q.size <= 4611686018427387904 /\ ByteArray.size (⟨#[32]⟩ ++ q) + 1 <= 4611686018427387904 /\ Ct Tryz.prog (fnv 23) #[.slice p n c] f fun (g : Value) (h : Mem) => ∃ (i j : Int) (k : ByteArray) (l m o r s t u w : Int) (x : Option Addr) (y z : Nat) (n1 : Int), g = .tuple #[.agg #[.int .u8 i, .int .u8 j, .string k, .int .i64 l, .int .i64 m, .int .i64 o, .int .i64 r, .int .i64 s, .int .i64 t, .int .i64 u, .int .i64 w, .slice x y z], .int .i64 n1] /\ Br (n1 == 0) (Ct Tryz.prog (fnv 21) #[.agg #[.int .u8 i, .int .u8 j, .string k, .int .i64 l, .int .i64 m, .int .i64 o, .int .i64 r, .int .i64 s, .int .i64 t, .int .i64 u, .int .i64 w, .slice x y z]] h (fun (v1 : Value) (I1 : Mem) => ∃ (q1 : ByteArray) (n2 : Int), v1 = .tuple #[.string q1, .int .i64 n2] /\ 3 + ByteArray.size (⟨#[32]⟩ ++ q ++ ⟨#[32]⟩) <= 4611686018427387904 /\ ByteArray.size (⟨#[97, 115, 107]⟩ ++ (⟨#[32]⟩ ++ q ++ ⟨#[32]⟩)) + q1.size <= 4611686018427387904 /\ Value.tuple #[.string (⟨#[97, 115, 107]⟩ ++ (⟨#[32]⟩ ++ q ++ ⟨#[32]⟩) ++ q1), .int .i64 n2] = Q)) (3 + ByteArray.size (⟨#[32]⟩ ++ q ++ ⟨#[32]⟩) <= 4611686018427387904 /\ ∃ (q1 : List UInt8), q1.length = n /\ (p = none -> n = 0) /\ (∀ (j1 : Nat) (b1 : UInt8), q1[j1]? = some b1 -> atI h p j1 = some (.int .u8 (b1.toNat : Int))) /\ Ct Tryz.prog (fnv 55) #[.string ⟨q1.toArray⟩] h fun (v1 : Value) (I1 : Mem) => ∃ (q2 : ByteArray), v1 = .string q2 /\ ByteArray.size (⟨#[114, 97, 119]⟩ ++ (⟨#[32]⟩ ++ q ++ ⟨#[32]⟩)) + q2.size <= 4611686018427387904 /\ Value.tuple #[.string (⟨#[114, 97, 119]⟩ ++ (⟨#[32]⟩ ++ q ++ ⟨#[32]⟩) ++ q2), .int .i64 0] = Q)))))) (by kernel_rfl) ?_
 have hnum : ∀ {z : Int}, i64R z -> (strT (Lib.itoa z)).size <= 21 := fun h => by rw [strT_size]; exact itoa_len h
 refine (ct32 e _ I hy' hk.bs).mono fun v I1 l1 hv => ⟨_, hv, Br.mk (fun h => ?_) (fun h => Br.mk (fun h2 => ?_) (fun h2 => Br.mk (fun h3 => ?_) (fun h3 => ?_)))⟩
 · have h : cleanE e = false := by simpa using h
   rw [hQ, lineT, lineE, if_pos h, h]; rfl
 · have h : cleanE e = true := by simpa using h
   have h2 : e.kind = 2 := by simpa using h2
   rw [hQ, lineT, lineE, if_neg (by rw [h]; decide), if_pos h2, h]; rfl
 · have h : cleanE e = true := by simpa using h
   have h2 : e.kind ≠ 2 := by simpa using h2
   have h3 : e.kind = 3 := by simpa using h3
   refine (ct57 e.n hk.n I1 (hG.mono l1)).mono fun v I2 l2 hv => ⟨_, hv, by have := hnum hk.n; omega, ?_⟩
   rw [hQ, lineT, lineE, if_neg (by rw [h]; decide), if_neg h2, if_pos h3, h]
   rfl
 · have h : cleanE e = true := by simpa using h
   have h2 : e.kind ≠ 2 := by simpa using h2
   have h3 : e.kind ≠ 3 := by simpa using h3
   obtain ⟨hbl, _⟩ := clean_len h;have hn := hp.numLen;have g1 := hnum hk.slot
   refine (ct57 e.slot hk.slot I1 (hG.mono l1)).mono fun v I2 l2 hv => ⟨_, hv, by omega, by rw [ByteArray.size_append]; show 1 + _ + 1 <= _; omega, ?_⟩
   have l12 := Mem.le_trans l1 l2
   refine (ct23 e.bs hk.bs p n c I2 (hp.mono l12) (by omega) hpc hpm).mono fun v I3 l3 ⟨y2, hv, hy2, _⟩ => ?_
   obtain ⟨p2, n2, c2, rfl, hp2, hpc2, hpm2⟩ := hy2;refine ⟨_, _, _, _, _, _, _, _, _, _, _, _, _, _, _, hv, Br.mk (fun h4 => ?_) (fun h4 => ?_)⟩
   · have h4 : (readR e.bs).2 = 0 := by simpa using h4
     have hacc : accB e.bs = true := by
      cases ha : accB e.bs with
      | true => rfl
      | false => rw [read_bad ha] at h4; cases h4
     obtain ⟨ho, hr, _, _⟩ := read_back hk.bs hacc;obtain ⟨_, hn1, hf1, _⟩ := right_tag hr;have hfb : byteL (readR e.bs).1.fed := ho.fed;have hwl := (words_len ho hr).2
     refine (ct21 (readR e.bs).1 ho (by omega) _ I3 (hG.mono (Mem.le_trans l12 l3)) ⟨p2, n2, c2, rfl, hp2, hpc2, hpm2⟩ (by omega) hfb).mono fun v I4 l4 hv => ?_
     rw [hr] at hv;simp only [if_true] at hv
     refine ⟨_, _, hv, by simp only [ByteArray.size_append, sz1]; omega, by simp only [ByteArray.size_append, sz1, sz3]; omega, ?_⟩
     rw [hQ, lineT, lineE, if_neg (by rw [h]; decide), if_neg h2, if_neg h3, if_pos h4, h]
     refine congrArg (fun z => Value.tuple #[.string z, .int .i64 0]) ?_;exact str_line askB _ _
   · have h4 : (readR e.bs).2 ≠ 0 := by simpa using h4
     obtain ⟨us, hus, hnil, hat⟩ : ∃ us : List UInt8, us = u8s e.bs /\ (p = none -> n = 0) /\ ∀ (q : Nat) (b : UInt8), us[q]? = some b -> atI I3 p q = some (Value.int IntKind.u8 ↑b.toNat) := ⟨_, rfl, (u8s_at hk.bs (hp.mono (Mem.le_trans l12 l3))).2⟩
     have hsz : (⟨us.toArray⟩ : ByteArray).size = e.bs.length := by show us.toArray.size = _; rw [hus]; simp [u8s]
     refine ⟨by simp only [ByteArray.size_append, sz1]; omega, us, by rw [hus, u8s, List.length_map]; exact hn.symm, hnil, hat, (ct55 ⟨us.toArray⟩ (by omega) I3).mono fun v I4 l4 hv => ⟨_, hv, ?_, ?_⟩⟩
     · have : (⟨(wordT (strL ⟨us.toArray⟩)).toArray⟩ : ByteArray).size <= 40000 := by
        show (wordT (strL ⟨us.toArray⟩)).toArray.size <= _
        rw [List.size_toArray, word_len, strL_len]; omega
       simp only [ByteArray.size_append, sz1, sz3]; omega
     · rw [hQ, lineT, lineE, if_neg (by rw [h]; decide), if_neg h2, if_neg h3, if_neg h4, h]
       refine congrArg (fun z => Value.tuple #[.string z, .int .i64 0]) ?_
       have : wordT (strL ⟨us.toArray⟩) = wordT e.bs := by rw [hus]; exact congrArg wordT (strL_strB hk.bs)
       rw [this];exact str_line rawB _ _
def setN (r : Rq) (t n : Int) : Rq := if t = 3 then { r with p3 := n } else if t = 4 then { r with p4 := n } else if t = 5 then { r with p5 := n } else if t = 6 then { r with p6 := n } else if t = 7 then { r with p7 := n } else if t = 8 then { r with p8 := n } else { r with p9 := n }
abbrev WS := List ByteArray × Bool
def stepW (t : Int) (r : Rq) (w : WS) : Rq × WS :=
 if t = 1 then (r, w)
 else if t = 2 then (if nameB (strL (nextW w).1) then ({ r with name := (nextW w).1 }, (nextW w).2) else ({ r with name := strB ((unwordT (tx (nextW w).1)).getD []) }, ((nextW w).2.1, (nextW w).2.2 && (unwordT (tx (nextW w).1)).isSome)))
 else if t = 10 then ({ r with val := (numW w).1 }, (numW w).2)
 else if t = 11 then ({ r with fed := (unwordT (tx (nextW w).1)).getD [] }, ((nextW w).2.1, (nextW w).2.2 && (unwordT (tx (nextW w).1)).isSome))
 else (setN r t (numW w).1, (numW w).2)
def runW : List Int -> Rq -> WS -> Rq × WS
 | [], r, w => (r, w)
 | t :: ts, r, w => if w.2 = false then (r, w) else runW ts (stepW t r w).1 (stepW t r w).2
def askK (ws : List ByteArray) : Int := kindS nameS (nextW (ws, true)).1
def askQ (ws : List ByteArray) : Int := if askK ws = 7 then kindS askS (nextW (nextW (ws, true)).2).1 else 0
def askW1 (ws : List ByteArray) : WS := if askK ws = 7 then (nextW (nextW (ws, true)).2).2 else (nextW (ws, true)).2
def askW (ws : List ByteArray) : Rq × Bool :=
 let q := runW ((tagL (askK ws) (askQ ws)).getD []) { zeroRq with kind := askK ws, what := askQ ws } ((askW1 ws).1, (askW1 ws).2 && (tagL (askK ws) (askQ ws)).isSome)
 (q.1, q.2.2 && q.2.1.isEmpty)
def AskI (ws : List ByteArray) (I : Mem) (j : Int) (wv : Value) (b : Bool) (cs : List Value) : Prop :=
 ∃ (r : Rq) (y : Value) (l : List ByteArray), 0 <= j /\ cs = rqV r y /\ BySl I y r.fed /\ WsL I wv l /\ (∀ w ∈ l, w.size <= 1000000) /\
  askW ws = (let q := runW (((tagL (askK ws) (askQ ws)).getD []).drop j.toNat) r (l, b); (q.1, q.2.2 && q.2.1.isEmpty))
def FirstI (ws : List ByteArray) (I : Mem) (wv : Value) (b : Bool) (k q : Int) : Prop :=
 ∃ l : List ByteArray, k = askK ws /\ q = askQ ws /\ WsL I wv l /\ (∀ w ∈ l, w.size <= 1000000) /\ askW1 ws = (l, b)
theorem runW_off (ts : List Int) (r : Rq) (l : List ByteArray) : runW ts r (l, false) = (r, (l, false)) := by
 cases ts <;> rfl
theorem runW_on (t : Int) (ts : List Int) (r : Rq) (l : List ByteArray) : runW (t :: ts) r (l, true) = runW ts (stepW t r (l, true)).1 (stepW t r (l, true)).2 := rfl
theorem askL_rng (w : Int) : ∀ t ∈ (askL w).getD [], 1 <= t /\ t <= 11 := by
 unfold askL;intro t ht
 repeat' split at ht
 all_goals simp at ht
 all_goals omega
theorem tagL_rng (k w : Int) : ∀ t ∈ (tagL k w).getD [], 1 <= t /\ t <= 11 := by
 unfold tagL;intro t ht;have ha := askL_rng w
 repeat' split at ht
 all_goals first
  | (simp at ht; done)
  | (simp at ht; omega)
  | (cases hq : askL w with
   | none => rw [hq] at ht; simp at ht
   | some q =>
    rw [hq] at ht ha;simp at ht
    rcases ht with rfl | ht
    · omega
    · exact ha t (by simpa using ht))
theorem stepW_num {t : Int} (h : 3 <= t /\ t <= 9) (r : Rq) (w : WS) : stepW t r w = (setN r t (numW w).1, (numW w).2) := by
 unfold stepW
 rw [if_neg (by omega), if_neg (by omega), if_neg (by omega), if_neg (by omega)]
theorem tagL_len (k w : Int) : ((tagL k w).getD []).length <= 100 := by
 have ha : ((askL w).getD []).length <= 99 := by
  unfold askL
  repeat' split
  all_goals simp
 unfold tagL
 repeat' split
 all_goals first
  | (simp; done)
  | (cases hq : askL w with
   | none => simp
   | some q => rw [hq] at ha; simp at ha ⊢; omega)
theorem num_size {wl : List ByteArray} {b : Bool} (h : ∀ w ∈ wl, w.size <= 1000000) : ∀ w ∈ (numW (wl, b)).2.1, w.size <= 1000000 := (next_size (b := b) h).2
theorem unw_bytes {s : Tx} {o : Option (List Int)} (h : unwordT s = o) : byteL (o.getD []) := by
 cases o with
 | none => exact byteL_nil
 | some l => exact (unword_spec h).1
theorem strB_len (l : List Int) : (strB l).size = l.length := by show (u8s l).toArray.size = _; simp [u8s]
theorem unw_size {w : ByteArray} {o : Option (List Int)} (h : unwordT (tx w) = o) (hs : w.size <= 1000000) : (strB (o.getD [])).size <= 1000000 := by
 rw [strB_len]
 cases o with
 | none => exact Nat.zero_le _
 | some l =>
  have h2 := congrArg List.length (unword_spec h).2;rw [wordT, List.length_cons, hex_len] at h2;have h3 : (tx w).length = w.size := Array.length_toList;simp only [Option.getD_some];omega
theorem bysl_str {I : Mem} {a : Option Addr} {c : Nat} {L : List Int} (hL : byteL L) (ha : a.isSome = true) (hn : (strB L).size <= 1000000) (hc : (strB L).size <= c) (hm : c <= 9223372036854775807)
 (h : ∀ (j : Nat) (b : UInt8), (strB L).data.toList[j]? = some b -> atI I a j = some (Value.int .u8 b.toNat)) : BySl I (.slice a (strB L).size c) L := by
 refine ⟨_, _, _, rfl, ⟨?_, fun hx => ?_, by simp only [maxLen]; omega, fun j v hj => ?_⟩, hc, hm⟩
 · rw [ints_len, strB_len]; omega
 · rw [hx] at ha; cases ha
 · rw [<- ints_u8s hL, List.getElem?_map] at hj
   cases hq : (u8s L)[j]? with
   | none => rw [hq] at hj; cases hj
   | some b =>
    rw [hq] at hj;cases hj;exact h j b hq
set_option maxHeartbeats 4000000 in
theorem ct116 (ws : List ByteArray) (hws : ∀ w ∈ ws, w.size <= 1000000) (v : Value) (I : Mem) (hG : Globs I) (h : WsL I v ws) :
 Ct Tryz.prog (fnv 116) #[v] I (fun u I' => ∃ y, u = .tuple #[.agg (rqV (askW ws).1 y).toArray, .bool (askW ws).2] /\ BySl I' y (askW ws).1.fed) := by
 obtain ⟨p, n, c, rfl, hp, hpc, hpm⟩ := h;obtain ⟨Q, hQ⟩ : ∃ q : Value -> Mem -> Prop, q = fun u I' => ∃ y, u = .tuple #[.agg (rqV (askW ws).1 y).toArray, .bool (askW ws).2] /\ BySl I' y (askW ws).1.fed := ⟨_, rfl⟩;obtain ⟨AI, hAI⟩ : ∃ f, f = AskI ws := ⟨_, rfl⟩;obtain ⟨FI, hFI⟩ : ∃ f, f = FirstI ws := ⟨_, rfl⟩;obtain ⟨RI, hRI⟩ : ∃ f : Bool -> Prop, f = fun b => b = ((askW1 ws).2 && (tagL (askK ws) (askQ ws)).isSome) := ⟨_, rfl⟩;rw [<- hQ]
 refine viaR (ct_via (A := { calls := [(18, .lend [0, 2] (.sh .str) [.cells [.sh .sl] 64, .cells [.sh .bool] 4]), (25, .lend [0, 2] (.sh .str) [.cells [.sh .sl] 64, .cells [.sh .bool] 4]), (68, .lend [0, 2] (.sh .str) [.cells [.sh .sl] 64, .cells [.sh .bool] 4]), (94, .lend [0, 2] (.sh .str) [.cells [.sh .sl] 64, .cells [.sh .bool] 4]), (61, .lend [0, 2, 3] (.sh (.int .i64)) [.cells [.sh .sl] 64, .cells [.sh .bool] 4, .same]), (88, .lend [0, 2, 3] (.sh (.int .i64)) [.cells [.sh .sl] 64, .cells [.sh .bool] 4, .same]), (53, .cs [1, 2, 3, 4, 5, 6, 7, 8, 9, 10, 11])], cuts := [(7, ⟨[(1, .keep), (2, .keep), (4, .keep), (5, .keep), (6, .keep), (7, .keep)], [(0, .cells [.sh .sl]), (1, .keep), (2, .cells [.sh .bool]), (3, .keep), (4, .cells [.sh (.int .u8), .sh (.int .u8), .keep, .keep, .keep, .keep, .keep, .keep, .keep, .keep, .keep, .keep])], [], fun vals _ I' _ => match vals with | [wv, .bool b, .int .u8 k, .int .u8 q] => FI I' wv b k q | _ => False, fun _ _ => 0⟩), (9, ⟨[(1, .keep), (2, .keep), (4, .keep), (5, .keep), (6, .keep), (7, .keep), (8, .keep)], [(0, .keep), (1, .keep), (2, .cells [.sh .bool]), (3, .keep), (4, .keep)], [], fun vals _ _ _ => match vals with | [.bool b] => RI b | _ => False, fun _ _ => 0⟩)], loops := [(11, ⟨[(1, .keep), (2, .keep), (4, .keep), (5, .keep), (6, .keep), (7, .keep), (10, .keep), (48, .keep), (49, .keep), (50, .sh (.int .i64))], [(0, .cells [.sh .sl]), (1, .keep), (2, .cells [.sh .bool]), (3, .cells [.keep]), (4, .cells cellsA), (5, .keep)], [], fun vals _ I' _ => match vals with | .int .i64 j :: wv :: .bool b :: cs => AI I' j wv b cs | _ => False, fun vals _ => match vals with | .int .i64 j :: _ => (100 - j).toNat | _ => 0⟩)] }) Tryz.func116 rfl Tryz.call116 rfl rfl) (let E2 := Ent.mk (.cells [.v (.pointer none), .v (.pointer none), .v (.pointer none), .ptr 4 3, .ptr 4 4, .ptr 4 5, .ptr 4 6, .ptr 4 7, .ptr 4 8, .ptr 4 9] 215) none
  let E4 := [SV.ptr 2 0]
  let E5 := SV.v (.int .i64 0)
  let E6 := SV.ptr 0 0 :: E4
  let E7 := SV.ptr 3 0 :: E4
  let E8 := fun (x : Option Addr) (a : Nat) (b : Nat) (d : Nat) (e : Bool) (f : Nat) => [⟨.cells [.v (.slice x a b)] 64, some d⟩, ⟨.cells [.v (.bool e)] 4, some f⟩]
  let E9 := [SV.ptr 2 0, .ptr 1 0]
  let E10 := [SV.ptr 0 0, .ptr 1 0]
  let E1 := Ent.mk (.cells [.v (.int .u8 0), .v (.int .u8 0), .v (.string ⟨#[]⟩), E5, E5, E5, E5, E5, E5, E5, E5, .v (.slice none 0 0)] 26) none
  let E3 := fun (x : Option Addr) (a : Nat) (b : Nat) (d : Nat) (e : Bool) (f : Nat) (g : Nat) => [⟨.cells [.v (.slice x a b)] 64, some d⟩, ⟨.cells [.v (.bool e)] 4, some f⟩, ⟨.cells [.fn (.func 157) [] E10] 122, some g⟩]
  ∀ (b a : Nat), CtS Tryz.prog (.fn (.func 157) [] E10) [] [⟨.cells [.v (.slice p n c)] 64, some b⟩, ⟨.cells [.v (.bool true)] 4, some a⟩] I fun s H d => ∃ q e f g h, s = .v (.string q) /\ H = E8 e f g b h a /\ Ct Tryz.prog (fnv 160) #[.string q, .func (.func 27) #[] #[]] d fun v i => ∃ j, v = .int .u8 j /\ Br (j == 7) (CtS Tryz.prog (.fn (.func 157) [] E10) [] (E8 e f g b h a) i (fun k l m => ∃ o r t u w, k = .v (.string o) /\ l = E8 r t u b w a /\ Ct Tryz.prog (fnv 160) #[.string o, .func (.func 53) #[] #[]] m fun x y => ∃ z, x = .int .u8 z /\ Rf E1 /\ Rf (Ent.mk (.cells [.fn (.func 157) [] E6] 122) none) /\ Rf (SV.ptr 0 0) /\ Rf (SV.ptr 1 0) /\ Rf (SV.ptr 2 0) /\ Rf (SV.ptr 3 0) /\ Rf (SV.fn (.func 158) [] E7) /\ Rf (SV.ptr 4 0) /\ Rf (some b) /\ Rf (some a) /\ Rf (none : Option Nat) /\ Rf (SV.v (.string ⟨#[]⟩)) /\ Rf E5 /\ Rf E5 /\ Rf E5 /\ Rf E5 /\ Rf E5 /\ Rf E5 /\ Rf E5 /\ Rf E5 /\ Rf (SV.v (.slice none 0 0)) /\ FI y (.slice r t u) w j z)) (Rf E1 /\ Rf (Ent.mk (.cells [.fn (.func 157) [] E6] 122) none) /\ Rf (SV.ptr 0 0) /\ Rf (SV.ptr 1 0) /\ Rf (SV.ptr 2 0) /\ Rf (SV.ptr 3 0) /\ Rf (SV.fn (.func 158) [] E7) /\ Rf (SV.ptr 4 0) /\ Rf (some b) /\ Rf (some a) /\ Rf (none : Option Nat) /\ Rf (SV.v (.string ⟨#[]⟩)) /\ Rf E5 /\ Rf E5 /\ Rf E5 /\ Rf E5 /\ Rf E5 /\ Rf E5 /\ Rf E5 /\ Rf E5 /\ Rf (SV.v (.slice none 0 0)) /\ FI i (.slice e f g) h j 0) /\ ∀ (k : Mem), Mem -> i.le k -> ∀ (l : Option Addr) (m o : Nat) (r : Bool) (t u : Int), FI k (.slice l m o) r t u -> Ct Tryz.prog (fnv 28) #[.int .u8 t, .int .u8 u] k fun w x => ∃ y z c1 b1, w = .tuple #[.slice y z c1, .bool b1] /\ Br r (Rf (Ent.mk (.cells [.v (.slice l m o)] 64) (some b)) /\ Rf E1 /\ Rf (Ent.mk (.cells [.fn (.func 157) [] E6] 122) none) /\ Rf (Ent.mk (.cells [.v (.int .u8 t), .v (.int .u8 u), .v (.string ⟨#[]⟩), E5, E5, E5, E5, E5, E5, E5, E5, .v (.slice none 0 0)] 26) none) /\ Rf (SV.ptr 0 0) /\ Rf (SV.ptr 1 0) /\ Rf (SV.ptr 2 0) /\ Rf (SV.ptr 3 0) /\ Rf (SV.fn (.func 158) [] E7) /\ Rf (SV.ptr 4 0) /\ Rf (SV.v (.slice y z c1)) /\ Rf (some a) /\ RI b1) (Rf (Ent.mk (.cells [.v (.slice l m o)] 64) (some b)) /\ Rf E1 /\ Rf (Ent.mk (.cells [.fn (.func 157) [] E6] 122) none) /\ Rf (Ent.mk (.cells [.v (.int .u8 t), .v (.int .u8 u), .v (.string ⟨#[]⟩), E5, E5, E5, E5, E5, E5, E5, E5, .v (.slice none 0 0)] 26) none) /\ Rf (SV.ptr 0 0) /\ Rf (SV.ptr 1 0) /\ Rf (SV.ptr 2 0) /\ Rf (SV.ptr 3 0) /\ Rf (SV.fn (.func 158) [] E7) /\ Rf (SV.ptr 4 0) /\ Rf (SV.v (.slice y z c1)) /\ Rf (some a) /\ RI false) /\ ∀ (I1 : Mem), Mem -> x.le I1 -> ∀ (b2 : Bool), RI b2 -> (Rf E1 /\ Rf E2 /\ Rf (SV.ptr 0 0) /\ Rf (SV.ptr 1 0) /\ Rf (SV.ptr 2 0) /\ Rf (SV.ptr 3 0) /\ Rf (SV.fn (.func 158) [] E7) /\ Rf (SV.ptr 4 0) /\ Rf (SV.ptr 5 0) /\ Rf (SV.v (.slice y z c1)) /\ Rf (SV.v (.int .i64 (z : Int))) /\ Rf (some b) /\ Rf (some a) /\ Rf (none : Option Nat) /\ Rf (SV.fn (.func 157) [] E6) /\ Rf (none : Option Nat) /\ AI I1 0 (.slice l m o) b2 [.int .u8 t, .int .u8 u, .string ⟨#[]⟩, .int .i64 0, .int .i64 0, .int .i64 0, .int .i64 0, .int .i64 0, .int .i64 0, .int .i64 0, .int .i64 0, .slice none 0 0]) /\ ∀ (I2 : Mem), Mem -> I1.le I2 -> ∀ (n1 : Int) (a1 : Option Addr) (n2 c2 : Nat) (b3 : Bool) (n3 n4 : Int) (q1 : ByteArray) (n5 n6 n7 n8 n9 n10 n11 n12 : Int) (a2 : Option Addr) (n13 c3 : Nat), AI I2 n1 (.slice a1 n2 c2) b3 [.int .u8 n3, .int .u8 n4, .string q1, .int .i64 n5, .int .i64 n6, .int .i64 n7, .int .i64 n8, .int .i64 n9, .int .i64 n10, .int .i64 n11, .int .i64 n12, .slice a2 n13 c3] -> Br (decide (n1 < (z : Int))) (0 <= n1 /\ n1 < (z : Int) /\ y.isSome = true /\ ∃ n14, atI I2 y (n1.toNat * 1 + 0) = some (.int .i64 n14) /\ (n14 = 1 \/ n14 = 2 \/ n14 = 3 \/ n14 = 4 \/ n14 = 5 \/ n14 = 6 \/ n14 = 7 \/ n14 = 8 \/ n14 = 9 \/ n14 = 10 \/ n14 = 11) /\ (n14 = 1 -> Br (!b3) (Br b3 (Q (.tuple #[.agg #[.int .u8 n3, .int .u8 n4, .string q1, .int .i64 n5, .int .i64 n6, .int .i64 n7, .int .i64 n8, .int .i64 n9, .int .i64 n10, .int .i64 n11, .int .i64 n12, .slice a2 n13 c3], .bool ((n2 : Int) == 0)]) I2) (Q (.tuple #[.agg #[.int .u8 n3, .int .u8 n4, .string q1, .int .i64 n5, .int .i64 n6, .int .i64 n7, .int .i64 n8, .int .i64 n9, .int .i64 n10, .int .i64 n11, .int .i64 n12, .slice a2 n13 c3], .bool false]) I2)) (Wr .i64 (n1 + 1) (fun c4 => Rf E1 /\ Rf E2 /\ Rf (SV.ptr 0 0) /\ Rf (SV.ptr 1 0) /\ Rf (SV.ptr 2 0) /\ Rf (SV.ptr 3 0) /\ Rf (SV.fn (.func 158) [] E7) /\ Rf (SV.ptr 4 0) /\ Rf (SV.ptr 5 0) /\ Rf (SV.v (.slice y z c1)) /\ Rf (SV.v (.int .i64 (z : Int))) /\ Rf (some b) /\ Rf (some a) /\ Rf (none : Option Nat) /\ Rf (SV.fn (.func 157) [] E6) /\ Rf (none : Option Nat) /\ AI I2 c4 (.slice a1 n2 c2) b3 [.int .u8 n3, .int .u8 n4, .string q1, .int .i64 n5, .int .i64 n6, .int .i64 n7, .int .i64 n8, .int .i64 n9, .int .i64 n10, .int .i64 n11, .int .i64 n12, .slice a2 n13 c3] /\ Int.toNat (100 - c4) < Int.toNat (100 - n1)))) /\ (n14 = 2 -> Br (!b3) (Br b3 (Q (.tuple #[.agg #[.int .u8 n3, .int .u8 n4, .string q1, .int .i64 n5, .int .i64 n6, .int .i64 n7, .int .i64 n8, .int .i64 n9, .int .i64 n10, .int .i64 n11, .int .i64 n12, .slice a2 n13 c3], .bool ((n2 : Int) == 0)]) I2) (Q (.tuple #[.agg #[.int .u8 n3, .int .u8 n4, .string q1, .int .i64 n5, .int .i64 n6, .int .i64 n7, .int .i64 n8, .int .i64 n9, .int .i64 n10, .int .i64 n11, .int .i64 n12, .slice a2 n13 c3], .bool false]) I2)) (CtS Tryz.prog (.fn (.func 157) [] E10) [] (E8 a1 n2 c2 b b3 a) I2 (fun s1 H1 I3 => ∃ q2 a3 n15 c4 b4, s1 = .v (.string q2) /\ H1 = E8 a3 n15 c4 b b4 a /\ Ct Tryz.prog (fnv 54) #[.string q2] I3 fun v1 I4 => ∃ b5, v1 = .bool b5 /\ Br (!b5) (Ct Tryz.prog (fnv 115) #[.string q2] I4 (fun v2 I5 => ∃ q3 b6, v2 = .tuple #[.string q3, .bool b6] /\ Br b4 (Wr .i64 (n1 + 1) (fun c5 => Rf E1 /\ Rf E2 /\ Rf (SV.ptr 0 0) /\ Rf (SV.ptr 1 0) /\ Rf (SV.ptr 2 0) /\ Rf (SV.ptr 3 0) /\ Rf (SV.fn (.func 158) [] E7) /\ Rf (SV.ptr 4 0) /\ Rf (SV.ptr 5 0) /\ Rf (SV.v (.slice y z c1)) /\ Rf (SV.v (.int .i64 (z : Int))) /\ Rf (some b) /\ Rf (some a) /\ Rf (none : Option Nat) /\ Rf (SV.fn (.func 157) [] E6) /\ Rf (none : Option Nat) /\ AI I5 c5 (.slice a3 n15 c4) b6 [.int .u8 n3, .int .u8 n4, .string q3, .int .i64 n5, .int .i64 n6, .int .i64 n7, .int .i64 n8, .int .i64 n9, .int .i64 n10, .int .i64 n11, .int .i64 n12, .slice a2 n13 c3] /\ Int.toNat (100 - c5) < Int.toNat (100 - n1))) (Wr .i64 (n1 + 1) (fun c5 => Rf E1 /\ Rf E2 /\ Rf (SV.ptr 0 0) /\ Rf (SV.ptr 1 0) /\ Rf (SV.ptr 2 0) /\ Rf (SV.ptr 3 0) /\ Rf (SV.fn (.func 158) [] E7) /\ Rf (SV.ptr 4 0) /\ Rf (SV.ptr 5 0) /\ Rf (SV.v (.slice y z c1)) /\ Rf (SV.v (.int .i64 (z : Int))) /\ Rf (some b) /\ Rf (some a) /\ Rf (none : Option Nat) /\ Rf (SV.fn (.func 157) [] E6) /\ Rf (none : Option Nat) /\ AI I5 c5 (.slice a3 n15 c4) false [.int .u8 n3, .int .u8 n4, .string q3, .int .i64 n5, .int .i64 n6, .int .i64 n7, .int .i64 n8, .int .i64 n9, .int .i64 n10, .int .i64 n11, .int .i64 n12, .slice a2 n13 c3] /\ Int.toNat (100 - c5) < Int.toNat (100 - n1))))) (Wr .i64 (n1 + 1) (fun c5 => Rf E1 /\ Rf E2 /\ Rf (SV.ptr 0 0) /\ Rf (SV.ptr 1 0) /\ Rf (SV.ptr 2 0) /\ Rf (SV.ptr 3 0) /\ Rf (SV.fn (.func 158) [] E7) /\ Rf (SV.ptr 4 0) /\ Rf (SV.ptr 5 0) /\ Rf (SV.v (.slice y z c1)) /\ Rf (SV.v (.int .i64 (z : Int))) /\ Rf (some b) /\ Rf (some a) /\ Rf (none : Option Nat) /\ Rf (SV.fn (.func 157) [] E6) /\ Rf (none : Option Nat) /\ AI I4 c5 (.slice a3 n15 c4) b4 [.int .u8 n3, .int .u8 n4, .string q2, .int .i64 n5, .int .i64 n6, .int .i64 n7, .int .i64 n8, .int .i64 n9, .int .i64 n10, .int .i64 n11, .int .i64 n12, .slice a2 n13 c3] /\ Int.toNat (100 - c5) < Int.toNat (100 - n1)))))) /\ (n14 = 3 -> Br (!b3) (Br b3 (Q (.tuple #[.agg #[.int .u8 n3, .int .u8 n4, .string q1, .int .i64 n5, .int .i64 n6, .int .i64 n7, .int .i64 n8, .int .i64 n9, .int .i64 n10, .int .i64 n11, .int .i64 n12, .slice a2 n13 c3], .bool ((n2 : Int) == 0)]) I2) (Q (.tuple #[.agg #[.int .u8 n3, .int .u8 n4, .string q1, .int .i64 n5, .int .i64 n6, .int .i64 n7, .int .i64 n8, .int .i64 n9, .int .i64 n10, .int .i64 n11, .int .i64 n12, .slice a2 n13 c3], .bool false]) I2)) ((0 : Int) <= 3 /\ (3 : Int) < 10 /\ ∀ (b4 : Nat), CtS Tryz.prog (.fn (.func 158) [] E9) [] (E3 a1 n2 c2 b b3 a b4) I2 fun s1 H1 I3 => ∃ n15 a3 n16 c4 b5, s1 = .v (.int .i64 n15) /\ H1 = E3 a3 n16 c4 b b5 a b4 /\ Wr .i64 (n1 + 1) fun c5 => Rf E1 /\ Rf E2 /\ Rf (SV.ptr 0 0) /\ Rf (SV.ptr 1 0) /\ Rf (SV.ptr 2 0) /\ Rf (SV.ptr 3 0) /\ Rf (SV.fn (.func 158) [] E7) /\ Rf (SV.ptr 4 0) /\ Rf (SV.ptr 5 0) /\ Rf (SV.v (.slice y z c1)) /\ Rf (SV.v (.int .i64 (z : Int))) /\ Rf (some b) /\ Rf (some a) /\ Rf (SV.fn (.func 157) [] E6) /\ Rf (none : Option Nat) /\ AI I3 c5 (.slice a3 n16 c4) b5 [.int .u8 n3, .int .u8 n4, .string q1, .int .i64 n15, .int .i64 n6, .int .i64 n7, .int .i64 n8, .int .i64 n9, .int .i64 n10, .int .i64 n11, .int .i64 n12, .slice a2 n13 c3] /\ Int.toNat (100 - c5) < Int.toNat (100 - n1))) /\ (n14 = 4 -> Br (!b3) (Br b3 (Q (.tuple #[.agg #[.int .u8 n3, .int .u8 n4, .string q1, .int .i64 n5, .int .i64 n6, .int .i64 n7, .int .i64 n8, .int .i64 n9, .int .i64 n10, .int .i64 n11, .int .i64 n12, .slice a2 n13 c3], .bool ((n2 : Int) == 0)]) I2) (Q (.tuple #[.agg #[.int .u8 n3, .int .u8 n4, .string q1, .int .i64 n5, .int .i64 n6, .int .i64 n7, .int .i64 n8, .int .i64 n9, .int .i64 n10, .int .i64 n11, .int .i64 n12, .slice a2 n13 c3], .bool false]) I2)) ((0 : Int) <= 4 /\ (4 : Int) < 10 /\ ∀ (b4 : Nat), CtS Tryz.prog (.fn (.func 158) [] E9) [] (E3 a1 n2 c2 b b3 a b4) I2 fun s1 H1 I3 => ∃ n15 a3 n16 c4 b5, s1 = .v (.int .i64 n15) /\ H1 = E3 a3 n16 c4 b b5 a b4 /\ Wr .i64 (n1 + 1) fun c5 => Rf E1 /\ Rf E2 /\ Rf (SV.ptr 0 0) /\ Rf (SV.ptr 1 0) /\ Rf (SV.ptr 2 0) /\ Rf (SV.ptr 3 0) /\ Rf (SV.fn (.func 158) [] E7) /\ Rf (SV.ptr 4 0) /\ Rf (SV.ptr 5 0) /\ Rf (SV.v (.slice y z c1)) /\ Rf (SV.v (.int .i64 (z : Int))) /\ Rf (some b) /\ Rf (some a) /\ Rf (SV.fn (.func 157) [] E6) /\ Rf (none : Option Nat) /\ AI I3 c5 (.slice a3 n16 c4) b5 [.int .u8 n3, .int .u8 n4, .string q1, .int .i64 n5, .int .i64 n15, .int .i64 n7, .int .i64 n8, .int .i64 n9, .int .i64 n10, .int .i64 n11, .int .i64 n12, .slice a2 n13 c3] /\ Int.toNat (100 - c5) < Int.toNat (100 - n1))) /\ (n14 = 5 -> Br (!b3) (Br b3 (Q (.tuple #[.agg #[.int .u8 n3, .int .u8 n4, .string q1, .int .i64 n5, .int .i64 n6, .int .i64 n7, .int .i64 n8, .int .i64 n9, .int .i64 n10, .int .i64 n11, .int .i64 n12, .slice a2 n13 c3], .bool ((n2 : Int) == 0)]) I2) (Q (.tuple #[.agg #[.int .u8 n3, .int .u8 n4, .string q1, .int .i64 n5, .int .i64 n6, .int .i64 n7, .int .i64 n8, .int .i64 n9, .int .i64 n10, .int .i64 n11, .int .i64 n12, .slice a2 n13 c3], .bool false]) I2)) ((0 : Int) <= 5 /\ (5 : Int) < 10 /\ ∀ (b4 : Nat), CtS Tryz.prog (.fn (.func 158) [] E9) [] (E3 a1 n2 c2 b b3 a b4) I2 fun s1 H1 I3 => ∃ n15 a3 n16 c4 b5, s1 = .v (.int .i64 n15) /\ H1 = E3 a3 n16 c4 b b5 a b4 /\ Wr .i64 (n1 + 1) fun c5 => Rf E1 /\ Rf E2 /\ Rf (SV.ptr 0 0) /\ Rf (SV.ptr 1 0) /\ Rf (SV.ptr 2 0) /\ Rf (SV.ptr 3 0) /\ Rf (SV.fn (.func 158) [] E7) /\ Rf (SV.ptr 4 0) /\ Rf (SV.ptr 5 0) /\ Rf (SV.v (.slice y z c1)) /\ Rf (SV.v (.int .i64 (z : Int))) /\ Rf (some b) /\ Rf (some a) /\ Rf (SV.fn (.func 157) [] E6) /\ Rf (none : Option Nat) /\ AI I3 c5 (.slice a3 n16 c4) b5 [.int .u8 n3, .int .u8 n4, .string q1, .int .i64 n5, .int .i64 n6, .int .i64 n15, .int .i64 n8, .int .i64 n9, .int .i64 n10, .int .i64 n11, .int .i64 n12, .slice a2 n13 c3] /\ Int.toNat (100 - c5) < Int.toNat (100 - n1))) /\ (n14 = 6 -> Br (!b3) (Br b3 (Q (.tuple #[.agg #[.int .u8 n3, .int .u8 n4, .string q1, .int .i64 n5, .int .i64 n6, .int .i64 n7, .int .i64 n8, .int .i64 n9, .int .i64 n10, .int .i64 n11, .int .i64 n12, .slice a2 n13 c3], .bool ((n2 : Int) == 0)]) I2) (Q (.tuple #[.agg #[.int .u8 n3, .int .u8 n4, .string q1, .int .i64 n5, .int .i64 n6, .int .i64 n7, .int .i64 n8, .int .i64 n9, .int .i64 n10, .int .i64 n11, .int .i64 n12, .slice a2 n13 c3], .bool false]) I2)) ((0 : Int) <= 6 /\ (6 : Int) < 10 /\ ∀ (b4 : Nat), CtS Tryz.prog (.fn (.func 158) [] E9) [] (E3 a1 n2 c2 b b3 a b4) I2 fun s1 H1 I3 => ∃ n15 a3 n16 c4 b5, s1 = .v (.int .i64 n15) /\ H1 = E3 a3 n16 c4 b b5 a b4 /\ Wr .i64 (n1 + 1) fun c5 => Rf E1 /\ Rf E2 /\ Rf (SV.ptr 0 0) /\ Rf (SV.ptr 1 0) /\ Rf (SV.ptr 2 0) /\ Rf (SV.ptr 3 0) /\ Rf (SV.fn (.func 158) [] E7) /\ Rf (SV.ptr 4 0) /\ Rf (SV.ptr 5 0) /\ Rf (SV.v (.slice y z c1)) /\ Rf (SV.v (.int .i64 (z : Int))) /\ Rf (some b) /\ Rf (some a) /\ Rf (SV.fn (.func 157) [] E6) /\ Rf (none : Option Nat) /\ AI I3 c5 (.slice a3 n16 c4) b5 [.int .u8 n3, .int .u8 n4, .string q1, .int .i64 n5, .int .i64 n6, .int .i64 n7, .int .i64 n15, .int .i64 n9, .int .i64 n10, .int .i64 n11, .int .i64 n12, .slice a2 n13 c3] /\ Int.toNat (100 - c5) < Int.toNat (100 - n1))) /\ (n14 = 7 -> Br (!b3) (Br b3 (Q (.tuple #[.agg #[.int .u8 n3, .int .u8 n4, .string q1, .int .i64 n5, .int .i64 n6, .int .i64 n7, .int .i64 n8, .int .i64 n9, .int .i64 n10, .int .i64 n11, .int .i64 n12, .slice a2 n13 c3], .bool ((n2 : Int) == 0)]) I2) (Q (.tuple #[.agg #[.int .u8 n3, .int .u8 n4, .string q1, .int .i64 n5, .int .i64 n6, .int .i64 n7, .int .i64 n8, .int .i64 n9, .int .i64 n10, .int .i64 n11, .int .i64 n12, .slice a2 n13 c3], .bool false]) I2)) ((0 : Int) <= 7 /\ (7 : Int) < 10 /\ ∀ (b4 : Nat), CtS Tryz.prog (.fn (.func 158) [] E9) [] (E3 a1 n2 c2 b b3 a b4) I2 fun s1 H1 I3 => ∃ n15 a3 n16 c4 b5, s1 = .v (.int .i64 n15) /\ H1 = E3 a3 n16 c4 b b5 a b4 /\ Wr .i64 (n1 + 1) fun c5 => Rf E1 /\ Rf E2 /\ Rf (SV.ptr 0 0) /\ Rf (SV.ptr 1 0) /\ Rf (SV.ptr 2 0) /\ Rf (SV.ptr 3 0) /\ Rf (SV.fn (.func 158) [] E7) /\ Rf (SV.ptr 4 0) /\ Rf (SV.ptr 5 0) /\ Rf (SV.v (.slice y z c1)) /\ Rf (SV.v (.int .i64 (z : Int))) /\ Rf (some b) /\ Rf (some a) /\ Rf (SV.fn (.func 157) [] E6) /\ Rf (none : Option Nat) /\ AI I3 c5 (.slice a3 n16 c4) b5 [.int .u8 n3, .int .u8 n4, .string q1, .int .i64 n5, .int .i64 n6, .int .i64 n7, .int .i64 n8, .int .i64 n15, .int .i64 n10, .int .i64 n11, .int .i64 n12, .slice a2 n13 c3] /\ Int.toNat (100 - c5) < Int.toNat (100 - n1))) /\ (n14 = 8 -> Br (!b3) (Br b3 (Q (.tuple #[.agg #[.int .u8 n3, .int .u8 n4, .string q1, .int .i64 n5, .int .i64 n6, .int .i64 n7, .int .i64 n8, .int .i64 n9, .int .i64 n10, .int .i64 n11, .int .i64 n12, .slice a2 n13 c3], .bool ((n2 : Int) == 0)]) I2) (Q (.tuple #[.agg #[.int .u8 n3, .int .u8 n4, .string q1, .int .i64 n5, .int .i64 n6, .int .i64 n7, .int .i64 n8, .int .i64 n9, .int .i64 n10, .int .i64 n11, .int .i64 n12, .slice a2 n13 c3], .bool false]) I2)) ((0 : Int) <= 8 /\ (8 : Int) < 10 /\ ∀ (b4 : Nat), CtS Tryz.prog (.fn (.func 158) [] E9) [] (E3 a1 n2 c2 b b3 a b4) I2 fun s1 H1 I3 => ∃ n15 a3 n16 c4 b5, s1 = .v (.int .i64 n15) /\ H1 = E3 a3 n16 c4 b b5 a b4 /\ Wr .i64 (n1 + 1) fun c5 => Rf E1 /\ Rf E2 /\ Rf (SV.ptr 0 0) /\ Rf (SV.ptr 1 0) /\ Rf (SV.ptr 2 0) /\ Rf (SV.ptr 3 0) /\ Rf (SV.fn (.func 158) [] E7) /\ Rf (SV.ptr 4 0) /\ Rf (SV.ptr 5 0) /\ Rf (SV.v (.slice y z c1)) /\ Rf (SV.v (.int .i64 (z : Int))) /\ Rf (some b) /\ Rf (some a) /\ Rf (SV.fn (.func 157) [] E6) /\ Rf (none : Option Nat) /\ AI I3 c5 (.slice a3 n16 c4) b5 [.int .u8 n3, .int .u8 n4, .string q1, .int .i64 n5, .int .i64 n6, .int .i64 n7, .int .i64 n8, .int .i64 n9, .int .i64 n15, .int .i64 n11, .int .i64 n12, .slice a2 n13 c3] /\ Int.toNat (100 - c5) < Int.toNat (100 - n1))) /\ (n14 = 9 -> Br (!b3) (Br b3 (Q (.tuple #[.agg #[.int .u8 n3, .int .u8 n4, .string q1, .int .i64 n5, .int .i64 n6, .int .i64 n7, .int .i64 n8, .int .i64 n9, .int .i64 n10, .int .i64 n11, .int .i64 n12, .slice a2 n13 c3], .bool ((n2 : Int) == 0)]) I2) (Q (.tuple #[.agg #[.int .u8 n3, .int .u8 n4, .string q1, .int .i64 n5, .int .i64 n6, .int .i64 n7, .int .i64 n8, .int .i64 n9, .int .i64 n10, .int .i64 n11, .int .i64 n12, .slice a2 n13 c3], .bool false]) I2)) ((0 : Int) <= 9 /\ (9 : Int) < 10 /\ ∀ (b4 : Nat), CtS Tryz.prog (.fn (.func 158) [] E9) [] (E3 a1 n2 c2 b b3 a b4) I2 fun s1 H1 I3 => ∃ n15 a3 n16 c4 b5, s1 = .v (.int .i64 n15) /\ H1 = E3 a3 n16 c4 b b5 a b4 /\ Wr .i64 (n1 + 1) fun c5 => Rf E1 /\ Rf E2 /\ Rf (SV.ptr 0 0) /\ Rf (SV.ptr 1 0) /\ Rf (SV.ptr 2 0) /\ Rf (SV.ptr 3 0) /\ Rf (SV.fn (.func 158) [] E7) /\ Rf (SV.ptr 4 0) /\ Rf (SV.ptr 5 0) /\ Rf (SV.v (.slice y z c1)) /\ Rf (SV.v (.int .i64 (z : Int))) /\ Rf (some b) /\ Rf (some a) /\ Rf (SV.fn (.func 157) [] E6) /\ Rf (none : Option Nat) /\ AI I3 c5 (.slice a3 n16 c4) b5 [.int .u8 n3, .int .u8 n4, .string q1, .int .i64 n5, .int .i64 n6, .int .i64 n7, .int .i64 n8, .int .i64 n9, .int .i64 n10, .int .i64 n15, .int .i64 n12, .slice a2 n13 c3] /\ Int.toNat (100 - c5) < Int.toNat (100 - n1))) /\ (n14 = 10 -> Br (!b3) (Br b3 (Q (.tuple #[.agg #[.int .u8 n3, .int .u8 n4, .string q1, .int .i64 n5, .int .i64 n6, .int .i64 n7, .int .i64 n8, .int .i64 n9, .int .i64 n10, .int .i64 n11, .int .i64 n12, .slice a2 n13 c3], .bool ((n2 : Int) == 0)]) I2) (Q (.tuple #[.agg #[.int .u8 n3, .int .u8 n4, .string q1, .int .i64 n5, .int .i64 n6, .int .i64 n7, .int .i64 n8, .int .i64 n9, .int .i64 n10, .int .i64 n11, .int .i64 n12, .slice a2 n13 c3], .bool false]) I2)) (∀ (b4 : Nat), CtS Tryz.prog (.fn (.func 158) [] E9) [] (E3 a1 n2 c2 b b3 a b4) I2 fun s1 H1 I3 => ∃ n15 a3 n16 c4 b5, s1 = .v (.int .i64 n15) /\ H1 = E3 a3 n16 c4 b b5 a b4 /\ Wr .i64 (n1 + 1) fun c5 => Rf E1 /\ Rf E2 /\ Rf (SV.ptr 0 0) /\ Rf (SV.ptr 1 0) /\ Rf (SV.ptr 2 0) /\ Rf (SV.ptr 3 0) /\ Rf (SV.fn (.func 158) [] E7) /\ Rf (SV.ptr 4 0) /\ Rf (SV.ptr 5 0) /\ Rf (SV.v (.slice y z c1)) /\ Rf (SV.v (.int .i64 (z : Int))) /\ Rf (some b) /\ Rf (some a) /\ Rf (SV.fn (.func 157) [] E6) /\ Rf (none : Option Nat) /\ AI I3 c5 (.slice a3 n16 c4) b5 [.int .u8 n3, .int .u8 n4, .string q1, .int .i64 n5, .int .i64 n6, .int .i64 n7, .int .i64 n8, .int .i64 n9, .int .i64 n10, .int .i64 n11, .int .i64 n15, .slice a2 n13 c3] /\ Int.toNat (100 - c5) < Int.toNat (100 - n1))) /\ (n14 = 11 -> Br (!b3) (Br b3 (Q (.tuple #[.agg #[.int .u8 n3, .int .u8 n4, .string q1, .int .i64 n5, .int .i64 n6, .int .i64 n7, .int .i64 n8, .int .i64 n9, .int .i64 n10, .int .i64 n11, .int .i64 n12, .slice a2 n13 c3], .bool ((n2 : Int) == 0)]) I2) (Q (.tuple #[.agg #[.int .u8 n3, .int .u8 n4, .string q1, .int .i64 n5, .int .i64 n6, .int .i64 n7, .int .i64 n8, .int .i64 n9, .int .i64 n10, .int .i64 n11, .int .i64 n12, .slice a2 n13 c3], .bool false]) I2)) (CtS Tryz.prog (.fn (.func 157) [] E10) [] (E8 a1 n2 c2 b b3 a) I2 (fun s1 H1 I3 => ∃ q2 a3 n15 c4 b4, s1 = .v (.string q2) /\ H1 = E8 a3 n15 c4 b b4 a /\ Ct Tryz.prog (fnv 115) #[.string q2] I3 fun v1 I4 => ∃ q3 b5, v1 = .tuple #[.string q3, .bool b5] /\ q3.size <= 4611686018427387904 /\ ∀ (a4 : Option Addr) (c5 : Nat) (I5 : Mem), I4.le I5 -> a4.isSome = true -> q3.size <= c5 -> c5 <= 9223372036854775807 -> (∀ (j1 : Nat) (b6 : UInt8), q3.data.toList[j1]? = some b6 -> atI I5 a4 j1 = some (.int .u8 (b6.toNat : Int))) -> Br b4 (Wr .i64 (n1 + 1) (fun c6 => Rf E1 /\ Rf E2 /\ Rf (SV.ptr 0 0) /\ Rf (SV.ptr 1 0) /\ Rf (SV.ptr 2 0) /\ Rf (SV.ptr 3 0) /\ Rf (SV.fn (.func 158) [] E7) /\ Rf (SV.ptr 4 0) /\ Rf (SV.ptr 5 0) /\ Rf (SV.v (.slice y z c1)) /\ Rf (SV.v (.int .i64 (z : Int))) /\ Rf (some b) /\ Rf (some a) /\ Rf (none : Option Nat) /\ Rf (SV.fn (.func 157) [] E6) /\ Rf (none : Option Nat) /\ AI I5 c6 (.slice a3 n15 c4) b5 [.int .u8 n3, .int .u8 n4, .string q1, .int .i64 n5, .int .i64 n6, .int .i64 n7, .int .i64 n8, .int .i64 n9, .int .i64 n10, .int .i64 n11, .int .i64 n12, .slice a4 q3.size c5] /\ Int.toNat (100 - c6) < Int.toNat (100 - n1))) (Wr .i64 (n1 + 1) (fun c6 => Rf E1 /\ Rf E2 /\ Rf (SV.ptr 0 0) /\ Rf (SV.ptr 1 0) /\ Rf (SV.ptr 2 0) /\ Rf (SV.ptr 3 0) /\ Rf (SV.fn (.func 158) [] E7) /\ Rf (SV.ptr 4 0) /\ Rf (SV.ptr 5 0) /\ Rf (SV.v (.slice y z c1)) /\ Rf (SV.v (.int .i64 (z : Int))) /\ Rf (some b) /\ Rf (some a) /\ Rf (none : Option Nat) /\ Rf (SV.fn (.func 157) [] E6) /\ Rf (none : Option Nat) /\ AI I5 c6 (.slice a3 n15 c4) false [.int .u8 n3, .int .u8 n4, .string q1, .int .i64 n5, .int .i64 n6, .int .i64 n7, .int .i64 n8, .int .i64 n9, .int .i64 n10, .int .i64 n11, .int .i64 n12, .slice a4 q3.size c5] /\ Int.toNat (100 - c6) < Int.toNat (100 - n1))))))) (Br b3 (Q (.tuple #[.agg #[.int .u8 n3, .int .u8 n4, .string q1, .int .i64 n5, .int .i64 n6, .int .i64 n7, .int .i64 n8, .int .i64 n9, .int .i64 n10, .int .i64 n11, .int .i64 n12, .slice a2 n13 c3], .bool ((n2 : Int) == 0)]) I2) (Q (.tuple #[.agg #[.int .u8 n3, .int .u8 n4, .string q1, .int .i64 n5, .int .i64 n6, .int .i64 n7, .int .i64 n8, .int .i64 n9, .int .i64 n10, .int .i64 n11, .int .i64 n12, .slice a2 n13 c3], .bool false]) I2))) (by kernel_rfl) ?_
 intro E2 E4 E5 E6 E7 E8 E9 E10 E1 E3;intro k1 k2;refine (cts_cap (first := []) (args := []) (cap := [.ptr 0 0, .ptr 1 0]) (cs157 ws true k1 k2 _ I ⟨p, n, c, rfl, hp, hpc, hpm⟩)).mono fun s H I1 l1 ⟨v', hs, hH, hw⟩ => ?_;have hz1 := next_size (b := true) hws;obtain ⟨p1, n1, c1, rfl, hp1, hpc1, hpm1⟩ := hw;refine ⟨_, _, _, _, _, hs, hH, (ct160 _ _ nameS (fun k J hk => ct27 k hk J) I1).mono fun u I2 l2 hu => ⟨_, hu, Br.mk (fun h => ?_) (fun h => ?_), fun I3 G3 l3 a3 n3 c3 b3 k q hF => ?_⟩⟩
 · have h : askK ws = 7 := by simpa [askK] using h
   refine (cts_cap (first := []) (args := []) (cap := [.ptr 0 0, .ptr 1 0]) (cs157 _ _ k1 k2 _ I2 ⟨p1, n1, c1, rfl, hp1.mono l2, hpc1, hpm1⟩)).mono fun s H I3 l3 ⟨v', hs, hH, hw⟩ => ?_;have hz2 := next_size (b := (nextW (ws, true)).2.2) hz1.2;obtain ⟨p2, n2, c2, rfl, hp2, hpc2, hpm2⟩ := hw;refine ⟨_, _, _, _, _, hs, hH, (ct160 _ _ askS (fun k J hk => ct53 k hk J) I3).mono fun u I4 l4 hu => ⟨_, hu, ?_⟩⟩
   repeat (refine And.intro rfl ?_)
   rw [hFI]
   exact ⟨_, rfl, by rw [askQ, if_pos h], ⟨p2, n2, c2, rfl, hp2.mono l4, hpc2, hpm2⟩, hz2.2, by rw [askW1, if_pos h]⟩
 · have h : askK ws ≠ 7 := by simpa [askK] using h
   repeat (refine And.intro rfl ?_)
   rw [hFI]
   exact ⟨_, rfl, by rw [askQ, if_neg h], ⟨p1, n1, c1, rfl, hp1.mono l2, hpc1, hpm1⟩, hz1.2, by rw [askW1, if_neg h]⟩
 rw [hFI] at hF;obtain ⟨l, rfl, rfl, hw3, hz3, hW1⟩ := hF;refine (ct28 _ _ I3).mono fun u I4 l4 ⟨ya, yn, yc, hu, hs, hyc, hym, _⟩ => ⟨ya, yn, yc, _, hu, Br.mk (fun h => ?_) (fun h => ?_), fun I5 G5 l5 b5 hR => ?_⟩
 · repeat (refine And.intro rfl ?_)
   rw [hRI, hW1, h];exact (Bool.true_and _).symm
 · repeat (refine And.intro rfl ?_)
   rw [hRI, hW1, h];rfl
 rw [hRI, hW1] at hR
 have hyl : (ints .i64 ((tagL (askK ws) (askQ ws)).getD [])).length = yn := by rw [hs.len, Nat.mul_one]
 have hyl : ((tagL (askK ws) (askQ ws)).getD []).length = yn := by rw [<- hyl]; simp [ints]
 have hy100 : yn <= 100 := by rw [<- hyl]; exact tagL_len _ _
 refine ⟨?_, fun I6 G6 l6 j a1 m1 d1 b1 k1' q1' nm x3 x4 x5 x6 x7 x8 x9 x10 fa fn fc hA => ?_⟩
 · repeat (refine And.intro rfl ?_)
   rw [hAI]
   refine ⟨{ zeroRq with kind := askK ws, what := askQ ws }, .slice none 0 0, l, Int.le_refl _, rfl, bysl_nil _, (hw3.mono l4).mono l5, hz3, ?_⟩
   rw [askW, hW1, hR];rfl
 have hA' := hA;rw [hAI] at hA;obtain ⟨r, y, wl, hj, hcs, hy, hwl, hwz, hrun⟩ := hA;have hcs' := hcs;simp only [rqV, List.cons.injEq, Value.int.injEq, Value.string.injEq, true_and, and_true] at hcs;obtain ⟨rfl, rfl, rfl, rfl, rfl, rfl, rfl, rfl, rfl, rfl, rfl, rfl⟩ := hcs
 have fin : ∀ bb, askW ws = (r, bb) -> Q (.tuple #[.agg (rqV r (.slice fa fn fc)).toArray, .bool bb]) I6 := fun bb e => by
  rw [hQ, e];exact ⟨_, rfl, hy⟩
 have hemp : wl.isEmpty = ((m1 : Int) == 0) := by
  obtain ⟨_, _, _, e, hwp, _⟩ := hwl;cases e;have h1 := hwp.len
  cases wl with
  | nil => simp [strs] at h1; subst h1; rfl
  | cons w t => simp [strs] at h1; rw [<- h1]; rfl
 have ret : ∀ (ts : List Int), b1 = false \/ ts = [] -> runW ts r (wl, b1) = (r, (wl, b1)) := fun ts h => by
  rcases h with rfl | rfl
  · exact runW_off _ _ _
  · rfl
 have stop : b1 = false \/ ((tagL (askK ws) (askQ ws)).getD []).drop j.toNat = [] -> askW ws = (r, b1 && wl.isEmpty) := fun h => by
  rw [hrun, ret _ h]
 refine Br.mk (fun h => ?_) (fun h => ?_)
 · have hjl : j < yn := of_decide_eq_true h
   have hlt : j.toNat < ((tagL (askK ws) (askQ ws)).getD []).length := by omega
   obtain ⟨t, ht⟩ : ∃ t, t = ((tagL (askK ws) (askQ ws)).getD [])[j.toNat] := ⟨_, rfl⟩
   have htr := tagL_rng _ _ t (by rw [ht]; exact List.getElem_mem _)
   have hdr : ((tagL (askK ws) (askQ ws)).getD []).drop j.toNat = t :: ((tagL (askK ws) (askQ ws)).getD []).drop (j.toNat + 1) := by rw [ht]; exact List.drop_eq_getElem_cons hlt
   have hs6 := (hs.mono l5).mono l6
   have adv : b1 = true -> ∀ (J : Mem) (v' y' : Value), BySl J y' (stepW t r (wl, true)).1.fed -> WsL J v' (stepW t r (wl, true)).2.1 -> (∀ w ∈ (stepW t r (wl, true)).2.1, w.size <= 1000000) -> AI J (j + 1) v' (stepW t r (wl, true)).2.2 (rqV (stepW t r (wl, true)).1 y') := by
    intro hb J v' y' h1 h2 h3;rw [hAI]
    refine ⟨_, _, _, by omega, rfl, h1, h2, h3, ?_⟩
    rw [hrun, hdr, hb, runW_on, show (j + 1).toNat = j.toNat + 1 by omega]
   have offQ : b1 = false -> Q (.tuple #[.agg (rqV r (.slice fa fn fc)).toArray, .bool false]) I6 := fun e => fin _ (by rw [stop (.inl e), e, Bool.false_and])
   have off : ∀ {X Z : Prop}, (b1 = true -> Z) -> Br (!b1) (Br b1 X (Q (.tuple #[.agg (rqV r (.slice fa fn fc)).toArray, .bool false]) I6)) Z := fun {X Z} hz =>
    Br.mk (fun h1 => Br.f (by simpa using h1) (offQ (by simpa using h1))) (fun h1 => hz (by simpa using h1))
   have hat : atI I6 ya (j.toNat * 1 + 0) = some (.int .i64 t) := by
    obtain ⟨t', ht', hc'⟩ := hs6.intAt (i := j) hj hjl
    have : t' = t := by
     rw [List.getElem?_eq_getElem hlt] at ht'
     rw [ht]; exact (Option.some.inj ht').symm
    rw [<- this]; simpa using hc'
   have hG6 : Globs I6 := hG.mono (Mem.le_trans l1 (Mem.le_trans l2 (Mem.le_trans l3 (Mem.le_trans l4 (Mem.le_trans l5 l6)))))
   refine ⟨hj, hjl, hs.isSome (by omega), t, hat, by omega, ?_⟩
   refine ⟨fun e => off fun hb => ?_, fun e => off fun hb => ?_, fun e => off fun hb => ?_, fun e => off fun hb => ?_, fun e => off fun hb => ?_, fun e => off fun hb => ?_, fun e => off fun hb => ?_, fun e => off fun hb => ?_, fun e => off fun hb => ?_, fun e => off fun hb => ?_, fun e => off fun hb => ?_⟩
   · refine wr_i64 (by omega) (by omega) ?_
     repeat (refine And.intro rfl ?_)
     have A := adv hb I6 _ (.slice fa fn fc) (by rw [e]; exact hy) (by rw [e]; exact hwl) (by rw [e]; exact hwz)
     rw [e] at A;rw [hb]
     exact ⟨A, by omega⟩
   · refine (cts_cap (first := []) (args := []) (cap := [.ptr 0 0, .ptr 1 0]) (cs157 wl b1 k1 k2 _ I6 hwl)).mono fun s H I7 l7 ⟨v', hs', hH, hw⟩ => ?_
     have hnz := next_size (b := b1) hwz;have hw' := hw;obtain ⟨p1, n1, c1, rfl, hp1, hpc1, hpm1⟩ := hw;refine ⟨_, _, _, _, _, hs', hH, (ct54 _ I7).mono fun u I8 l8 hu => ⟨_, hu, Br.mk (fun h1 => ?_) (fun h1 => ?_)⟩⟩
     · have h1 : nameB (strL (nextW (wl, b1)).1) = false := by simpa using h1
       refine (ct115 _ hnz.1 I8).mono fun u I9 l9 hu => ?_;have A := fun J v' h2 h3 h4 => adv hb J v' (.slice fa fn fc) h2 h3 h4;rw [e] at A;rw [hb] at h1 hu hw' hnz
       simp only [stepW, h1, Bool.false_eq_true, if_false, if_true, show ¬ (2 : Int) = 1 by decide] at A
       have A := A I9 _ (hy.mono (Mem.le_trans l7 (Mem.le_trans l8 l9))) (hw'.mono (Mem.le_trans l8 l9)) hnz.2;obtain ⟨o, ho⟩ : ∃ o, o = unwordT (tx (nextW (wl, true)).1) := ⟨_, rfl⟩;rw [<- ho] at hu A
       have hu : u = .tuple #[.string (strB (o.getD [])), .bool o.isSome] := by rw [hu]; cases o <;> rfl
       refine ⟨_, _, hu, Br.mk (fun h5 => ?_) (fun h5 => ?_)⟩
       · rw [hb] at h5
         rw [h5, Bool.true_and] at A
         refine wr_i64 (by omega) (by omega) ?_
         repeat (refine And.intro rfl ?_)
         exact ⟨A, by omega⟩
       · rw [hb] at h5
         rw [h5, Bool.false_and] at A
         refine wr_i64 (by omega) (by omega) ?_
         repeat (refine And.intro rfl ?_)
         exact ⟨A, by omega⟩
     · have h1 : nameB (strL (nextW (wl, b1)).1) = true := by simpa using h1
       have A := fun J v' h2 h3 h4 => adv hb J v' (.slice fa fn fc) h2 h3 h4;rw [e] at A;rw [hb] at h1 hw' hnz
       simp only [stepW, h1, eq_self, if_true, show ¬ (2 : Int) = 1 by decide, if_false] at A
       refine wr_i64 (by omega) (by omega) ?_
       repeat (refine And.intro rfl ?_)
       rw [hb]
       exact ⟨A I8 _ (hy.mono (Mem.le_trans l7 l8)) (hw'.mono l8) hnz.2, by omega⟩
   · refine ⟨by decide, by decide, fun b4 => (cts_cap (first := []) (args := []) (cap := [.ptr 2 0, .ptr 1 0]) (cs158 wl hwz b1 k1 k2 b4 _ I6 hG6 hwl)).mono fun s H I7 l7 ⟨v', hs', hH, hw⟩ => ?_⟩
     have A := adv hb I7 v' (.slice fa fn fc) (by rw [e]; exact hy.mono l7) (by rw [e, hb] at *; exact hw) (by rw [e]; exact num_size hwz)
     rw [e] at A;obtain ⟨p1, n1, c1, rfl, hp1, hpc1, hpm1⟩ := hw
     refine ⟨_, _, _, _, _, hs', hH, wr_i64 (by omega) (by omega) ?_⟩
     repeat (refine And.intro rfl ?_)
     rw [hb]
     exact ⟨A, by omega⟩
   · refine ⟨by decide, by decide, fun b4 => (cts_cap (first := []) (args := []) (cap := [.ptr 2 0, .ptr 1 0]) (cs158 wl hwz b1 k1 k2 b4 _ I6 hG6 hwl)).mono fun s H I7 l7 ⟨v', hs', hH, hw⟩ => ?_⟩
     have A := adv hb I7 v' (.slice fa fn fc) (by rw [e]; exact hy.mono l7) (by rw [e, hb] at *; exact hw) (by rw [e]; exact num_size hwz)
     rw [e] at A;obtain ⟨p1, n1, c1, rfl, hp1, hpc1, hpm1⟩ := hw
     refine ⟨_, _, _, _, _, hs', hH, wr_i64 (by omega) (by omega) ?_⟩
     repeat (refine And.intro rfl ?_)
     rw [hb]
     exact ⟨A, by omega⟩
   · refine ⟨by decide, by decide, fun b4 => (cts_cap (first := []) (args := []) (cap := [.ptr 2 0, .ptr 1 0]) (cs158 wl hwz b1 k1 k2 b4 _ I6 hG6 hwl)).mono fun s H I7 l7 ⟨v', hs', hH, hw⟩ => ?_⟩
     have A := adv hb I7 v' (.slice fa fn fc) (by rw [e]; exact hy.mono l7) (by rw [e, hb] at *; exact hw) (by rw [e]; exact num_size hwz)
     rw [e] at A;obtain ⟨p1, n1, c1, rfl, hp1, hpc1, hpm1⟩ := hw
     refine ⟨_, _, _, _, _, hs', hH, wr_i64 (by omega) (by omega) ?_⟩
     repeat (refine And.intro rfl ?_)
     rw [hb]
     exact ⟨A, by omega⟩
   · refine ⟨by decide, by decide, fun b4 => (cts_cap (first := []) (args := []) (cap := [.ptr 2 0, .ptr 1 0]) (cs158 wl hwz b1 k1 k2 b4 _ I6 hG6 hwl)).mono fun s H I7 l7 ⟨v', hs', hH, hw⟩ => ?_⟩
     have A := adv hb I7 v' (.slice fa fn fc) (by rw [e]; exact hy.mono l7) (by rw [e, hb] at *; exact hw) (by rw [e]; exact num_size hwz)
     rw [e] at A;obtain ⟨p1, n1, c1, rfl, hp1, hpc1, hpm1⟩ := hw
     refine ⟨_, _, _, _, _, hs', hH, wr_i64 (by omega) (by omega) ?_⟩
     repeat (refine And.intro rfl ?_)
     rw [hb]
     exact ⟨A, by omega⟩
   · refine ⟨by decide, by decide, fun b4 => (cts_cap (first := []) (args := []) (cap := [.ptr 2 0, .ptr 1 0]) (cs158 wl hwz b1 k1 k2 b4 _ I6 hG6 hwl)).mono fun s H I7 l7 ⟨v', hs', hH, hw⟩ => ?_⟩
     have A := adv hb I7 v' (.slice fa fn fc) (by rw [e]; exact hy.mono l7) (by rw [e, hb] at *; exact hw) (by rw [e]; exact num_size hwz)
     rw [e] at A;obtain ⟨p1, n1, c1, rfl, hp1, hpc1, hpm1⟩ := hw
     refine ⟨_, _, _, _, _, hs', hH, wr_i64 (by omega) (by omega) ?_⟩
     repeat (refine And.intro rfl ?_)
     rw [hb]
     exact ⟨A, by omega⟩
   · refine ⟨by decide, by decide, fun b4 => (cts_cap (first := []) (args := []) (cap := [.ptr 2 0, .ptr 1 0]) (cs158 wl hwz b1 k1 k2 b4 _ I6 hG6 hwl)).mono fun s H I7 l7 ⟨v', hs', hH, hw⟩ => ?_⟩
     have A := adv hb I7 v' (.slice fa fn fc) (by rw [e]; exact hy.mono l7) (by rw [e, hb] at *; exact hw) (by rw [e]; exact num_size hwz)
     rw [e] at A;obtain ⟨p1, n1, c1, rfl, hp1, hpc1, hpm1⟩ := hw
     refine ⟨_, _, _, _, _, hs', hH, wr_i64 (by omega) (by omega) ?_⟩
     repeat (refine And.intro rfl ?_)
     rw [hb]
     exact ⟨A, by omega⟩
   · refine ⟨by decide, by decide, fun b4 => (cts_cap (first := []) (args := []) (cap := [.ptr 2 0, .ptr 1 0]) (cs158 wl hwz b1 k1 k2 b4 _ I6 hG6 hwl)).mono fun s H I7 l7 ⟨v', hs', hH, hw⟩ => ?_⟩
     have A := adv hb I7 v' (.slice fa fn fc) (by rw [e]; exact hy.mono l7) (by rw [e, hb] at *; exact hw) (by rw [e]; exact num_size hwz)
     rw [e] at A;obtain ⟨p1, n1, c1, rfl, hp1, hpc1, hpm1⟩ := hw
     refine ⟨_, _, _, _, _, hs', hH, wr_i64 (by omega) (by omega) ?_⟩
     repeat (refine And.intro rfl ?_)
     rw [hb]
     exact ⟨A, by omega⟩
   · refine (fun b4 => (cts_cap (first := []) (args := []) (cap := [.ptr 2 0, .ptr 1 0]) (cs158 wl hwz b1 k1 k2 b4 _ I6 hG6 hwl)).mono fun s H I7 l7 ⟨v', hs', hH, hw⟩ => ?_)
     have A := adv hb I7 v' (.slice fa fn fc) (by rw [e]; exact hy.mono l7) (by rw [e, hb] at *; exact hw) (by rw [e]; exact num_size hwz)
     rw [e] at A;obtain ⟨p1, n1, c1, rfl, hp1, hpc1, hpm1⟩ := hw
     refine ⟨_, _, _, _, _, hs', hH, wr_i64 (by omega) (by omega) ?_⟩
     repeat (refine And.intro rfl ?_)
     rw [hb]
     exact ⟨A, by omega⟩
   · refine (cts_cap (first := []) (args := []) (cap := [.ptr 0 0, .ptr 1 0]) (cs157 wl b1 k1 k2 _ I6 hwl)).mono fun s H I7 l7 ⟨v', hs', hH, hw⟩ => ?_
     have hnz := next_size (b := b1) hwz;have hw' := hw;obtain ⟨p1, n1, c1, rfl, hp1, hpc1, hpm1⟩ := hw;refine ⟨_, _, _, _, _, hs', hH, (ct115 _ hnz.1 I7).mono fun u I8 l8 hu => ?_⟩;rw [hb] at hu hw' hnz;obtain ⟨o, ho⟩ : ∃ o, o = unwordT (tx (nextW (wl, true)).1) := ⟨_, rfl⟩;rw [<- ho] at hu
     have hu : u = .tuple #[.string (strB (o.getD [])), .bool o.isSome] := by rw [hu]; cases o <;> rfl
     have hob := unw_bytes ho.symm;have hol : (strB (o.getD [])).size <= 1000000 := unw_size ho.symm hnz.1
     refine ⟨_, _, hu, by omega, fun a4 c5 I9 l9 h1 h2 h3 h4 => ?_⟩
     have A := adv hb I9 (.slice p1 n1 c1) (.slice a4 (strB (o.getD [])).size c5) (by rw [e]; show BySl I9 _ ((unwordT (tx (nextW (wl, true)).1)).getD []); rw [<- ho]; exact bysl_str hob h1 (by omega) h2 h3 h4) (by rw [e]; exact hw'.mono (Mem.le_trans l8 l9)) (by rw [e]; exact hnz.2)
     rw [e] at A
     simp only [stepW, show ¬ (11 : Int) = 1 by decide, show ¬ (11 : Int) = 2 by decide, show ¬ (11 : Int) = 10 by decide, if_false, if_true, <- ho] at A
     refine Br.mk (fun h5 => ?_) (fun h5 => ?_)
     · rw [hb] at h5
       rw [h5, Bool.true_and] at A
       refine wr_i64 (by omega) (by omega) ?_
       repeat (refine And.intro rfl ?_)
       exact ⟨A, by omega⟩
     · rw [hb] at h5
       rw [h5, Bool.false_and] at A
       refine wr_i64 (by omega) (by omega) ?_
       repeat (refine And.intro rfl ?_)
       exact ⟨A, by omega⟩
 · have hjl : ¬ j < yn := of_decide_eq_false h
   have e := stop (.inr (List.drop_eq_nil_of_le (by omega)))
   exact Br.mk (fun h => fin _ (by rw [e, h, hemp, Bool.true_and])) (fun h => fin _ (by rw [e, h, Bool.false_and]))
theorem num_itoa {n : Int} (h : i64R n) : numP (tx (strT (Lib.itoa n))) = (n, true) := by
 rw [tx_strT, numP, itoa_parse h]
theorem strT_tx (s : ByteArray) : strT (tx s) = s := rfl
theorem strB_strLS (s : ByteArray) : strB (strL s) = s := strB_strL s
theorem word_noName (bs : List Int) : nameB (strL (strT (wordT bs))) = false := by
 have : strL (strT (wordT bs)) = 37 :: intT (bs.flatMap hex2) := by
  rw [strL_tx, tx_strT, wordT, intT, List.map_cons]; rfl
 rw [this, nameB]
 simp
theorem strL_bytes (s : ByteArray) : ∀ z ∈ strL s, 0 <= z /\ z <= 255 := fun z hz => by
 obtain ⟨c, _, rfl⟩ := List.mem_map.1 hz;have := c.toNat_lt;omega
theorem step_word {r h : Rq} (hr : okRq r) (hf : byteL r.fed) {t : Int} (ht : 2 <= t /\ t <= 11) (l : List ByteArray) :
 stepW t h (strT (fieldT r t) :: l, true) = (copyT r h t, (l, true)) := by
 have num : 3 <= t /\ t <= 9 -> ∀ p : Int, numR r t = p -> i64R p -> stepW t h (strT (fieldT r t) :: l, true) = (setN h t p, (l, true)) := fun h3 p hp hi => by
  rw [stepW_num h3, fieldT, if_neg (by omega), if_neg (by omega), if_neg (by omega), if_neg (by omega), hp]
  simp only [numW, nextW]
  rw [num_itoa hi]; rfl
 rcases (by omega : t = 2 \/ t = 3 \/ t = 4 \/ t = 5 \/ t = 6 \/ t = 7 \/ t = 8 \/ t = 9 \/ t = 10 \/ t = 11) with rfl | rfl | rfl | rfl | rfl | rfl | rfl | rfl | rfl | rfl
 · have e : fieldT r 2 = if nameB (strL r.name) then tx r.name else wordT (strL r.name) := rfl
   rw [e]
   cases hn : nameB (strL r.name) with
   | true =>
    simp only [if_true, stepW, nextW, strT_tx, hn];rfl
   | false =>
    simp only [Bool.false_eq_true, if_false, stepW, nextW, word_noName, tx_strT, unword_word (strL_bytes _), Option.getD_some, Option.isSome_some, Bool.and_true, strB_strLS];rfl
 · rw [num (by decide) r.p3 rfl hr.p3]; rfl
 · rw [num (by decide) r.p4 rfl hr.p4]; rfl
 · rw [num (by decide) r.p5 rfl hr.p5]; rfl
 · rw [num (by decide) r.p6 rfl hr.p6]; rfl
 · rw [num (by decide) r.p7 rfl hr.p7]; rfl
 · rw [num (by decide) r.p8 rfl hr.p8]; rfl
 · rw [num (by decide) r.p9 rfl hr.p9]; rfl
 · have e : fieldT r 10 = Lib.itoa r.val := rfl
   rw [e];simp only [stepW, numW, nextW, num_itoa hr.val];rfl
 · have e : fieldT r 11 = wordT r.fed := rfl
   rw [e];simp only [stepW, nextW, tx_strT, unword_word hf, Option.getD_some, Option.isSome_some, Bool.and_true];rfl
theorem run_words {r : Rq} (hr : okRq r) (hf : byteL r.fed) : ∀ (ts : List Int) (h : Rq) (l : List ByteArray), (∀ t ∈ ts, 2 <= t /\ t <= 11) ->
 runW ts h (ts.map (fun t => strT (fieldT r t)) ++ l, true) = (ts.foldl (copyT r) h, (l, true))
 | [], h, l, _ => rfl
 | t :: ts, h, l, ht => by
  rw [List.map_cons, List.cons_append, runW_on, step_word hr hf (ht t (by simp)), run_words hr hf ts _ l fun s hs => ht s (by simp [hs])]
  rfl
theorem kind_name : ∀ {k : Int}, 0 <= k -> k <= 9 -> kindS nameS (nameS k) = k := by
 have : ∀ k : Fin 10, kindS nameS (nameS k.val) = k.val := by decide +kernel
 intro k h0 h1
 have := this ⟨k.toNat, by omega⟩
 simp only at this
 rw [Int.toNat_of_nonneg h0] at this;exact this
theorem kind_ask : ∀ {k : Int}, 0 <= k -> k <= 5 -> kindS askS (askS k) = k := by
 have : ∀ k : Fin 6, kindS askS (askS k.val) = k.val := by decide +kernel
 intro k h0 h1
 have := this ⟨k.toNat, by omega⟩
 simp only at this
 rw [Int.toNat_of_nonneg h0] at this;exact this
theorem tag_shape {k w : Int} {l : List Int} (h : tagL k w = some l) : (k = 7 /\ (1 <= w /\ w <= 5) /\ ∃ q, l = 1 :: q /\ ∀ t ∈ q, 2 <= t /\ t <= 11) \/ (k ≠ 7 /\ (1 <= k /\ k <= 9) /\ ∀ t ∈ l, 2 <= t /\ t <= 11) := by
 have aw : ∀ {q}, askL w = some q -> (1 <= w /\ w <= 5) /\ ∀ t ∈ q, 2 <= t /\ t <= 11 := fun {q} hq => by
  unfold askL at hq
  repeat' split at hq
  all_goals first | (cases hq; exact ⟨by omega, by decide⟩) | cases hq
 by_cases h7 : k = 7
 · subst h7
   simp only [tagL, show ¬ (7 : Int) = 1 by decide, show ¬ (7 : Int) = 2 by decide, show ¬ (7 : Int) = 3 by decide, show ¬ (7 : Int) = 4 by decide, show ¬ (7 : Int) = 5 by decide, show ¬ (7 : Int) = 6 by decide, if_false, if_true] at h
   cases hq : askL w with
   | none => rw [hq] at h; simp at h
   | some q =>
    rw [hq] at h;simp at h;subst h;exact .inl ⟨rfl, (aw hq).1, q, rfl, (aw hq).2⟩
 · refine .inr ⟨h7, ?_⟩
   simp only [tagL, h7, if_false] at h
   repeat' split at h
   all_goals first | (cases h; exact ⟨by omega, by decide⟩) | cases h
theorem same_eq {r q : Rq} (h : sameR r q = true) : r = q := by
 have h := of_decide_eq_true h;obtain ⟨h1, h2, h3, h4, h5, h6, h7, h8, h9, h10, h11, h12⟩ := h
 cases r; cases q
 simp only at *
 subst_vars
 rfl
theorem ask_words {r : Rq} (hr : okRq r) (hf : byteL r.fed) (h : rightR r = true) : askW (wordsL r) = (r, true) := by
 rw [right_eq hr, rightS] at h
 cases ht : tagL r.kind r.what with
 | none => rw [ht] at h; cases h
 | some l =>
  rw [ht] at h;simp only [Bool.and_eq_true] at h;have hs := same_eq h.2.2.2
  have hw : wordsL r = nameS r.kind :: l.map fun t => strT (fieldT r t) := by rw [wordsL, tagsR, ht]; rfl
  rcases tag_shape ht with ⟨h7, hw5, q, rfl, hq⟩ | ⟨h7, hk, hl⟩
  · have hK : askK (wordsL r) = 7 := by
     rw [askK, hw, nextW, h7]; exact kind_name (k := 7) (by decide) (by decide)
    have hQ : askQ (wordsL r) = r.what := by
     rw [askQ, if_pos hK, hw];simp only [nextW, List.map_cons]
     rw [show fieldT r 1 = tx (askS r.what) from rfl, strT_tx]
     exact kind_ask (by omega) (by omega)
    have hW : askW1 (wordsL r) = (q.map (fun t => strT (fieldT r t)), true) := by
     rw [askW1, if_pos hK, hw]; rfl
    have ht' : tagL (askK (wordsL r)) (askQ (wordsL r)) = some (1 :: q) := by rw [hK, hQ, <- h7, ht]
    have h0 : ({ zeroRq with kind := 7, what := r.what } : Rq) = copyT r (had0 r) 1 := by rw [<- h7]; rfl
    have hrun : runW (1 :: q) { zeroRq with kind := 7, what := r.what } (q.map (fun t => strT (fieldT r t)), true) = (r, ([], true)) := by
     rw [runW_on]
     have := run_words hr hf q { zeroRq with kind := 7, what := r.what } [] hq
     rw [List.append_nil] at this
     rw [show (stepW 1 { zeroRq with kind := 7, what := r.what } (q.map (fun t => strT (fieldT r t)), true)) = ({ zeroRq with kind := 7, what := r.what }, (q.map (fun t => strT (fieldT r t)), true)) from rfl, this, h0]
     rw [List.foldl_cons] at hs;rw [hs]
    rw [askW, ht', hK, hQ, hW];simp only [Option.getD_some, Option.isSome_some, Bool.and_true]
    rw [hrun]; rfl
  · have hK : askK (wordsL r) = r.kind := by
     rw [askK, hw, nextW]; exact kind_name (by omega) (by omega)
    have hQ : askQ (wordsL r) = 0 := by rw [askQ, if_neg (by rw [hK]; exact h7)]
    have hW : askW1 (wordsL r) = (l.map (fun t => strT (fieldT r t)), true) := by
     rw [askW1, if_neg (by rw [hK]; exact h7), hw]; rfl
    have hwz : r.what = 0 := by
     have key : ∀ (l : List Int) (h : Rq), (∀ t ∈ l, 2 <= t /\ t <= 11) -> (l.foldl (copyT r) h).what = h.what := by
      intro l
      induction l with
      | nil => intro h _; rfl
      | cons t l ih =>
       intro h hl
       rw [List.foldl_cons, ih _ fun s hs => hl s (by simp [hs])]
       have := hl t (by simp)
       unfold copyT
       rw [if_neg (by omega)]
       repeat' split
       all_goals rfl
     have := key l (had0 r) hl;rw [hs] at this;exact this
    have ht' : tagL (askK (wordsL r)) (askQ (wordsL r)) = some l := by rw [hK, hQ, <- hwz, ht]
    have hrun : runW l { zeroRq with kind := r.kind, what := 0 } (l.map (fun t => strT (fieldT r t)), true) = (r, ([], true)) := by
     have := run_words hr hf l { zeroRq with kind := r.kind, what := 0 } [] hl
     rw [List.append_nil] at this
     rw [this, show ({ zeroRq with kind := r.kind, what := 0 } : Rq) = had0 r from rfl, hs]
    rw [askW, ht', hK, hQ, hW];simp only [Option.getD_some, Option.isSome_some, Bool.and_true]
    rw [hrun]; rfl
theorem uint10_eq : ∀ (l : Tx) (acc : Nat), Lib.parseUint10 acc l = Lib.parseUintM 18446744073709551615 acc l
 | [], acc => rfl
 | c :: r, acc => by
  rw [Lib.parseUint10, Lib.parseUintM];split
  · split
    · rfl
    · split
      · rw [if_pos (by omega)]
      · rw [if_neg (by omega)]; exact uint10_eq r _
  · rfl
theorem atoi_eq (l : Tx) : Lib.atoiAll l = Lib.parseIntB 64 l := by
 cases l with
 | nil => rfl
 | cons c r =>
  have e1 : (2 : Nat) ^ 64 - 1 = 18446744073709551615 := by decide
  have e2 : (2 : Nat) ^ (64 - 1) = 9223372036854775808 := by decide
  have e3 : ∀ q, Lib.parseMag q = Lib.parseUintB 64 q := fun q => by rw [Lib.parseMag, Lib.parseUintB, e1, uint10_eq]
  rw [Lib.atoiAll, Lib.parseIntB, e2, e3];rfl
theorem numA_itoa {n : Int} (h : i64R n) : numA (tx (strT (Lib.itoa n))) = (n, true) := by
 rw [tx_strT, numA, atoi_eq, itoa_parse h]
theorem intB_rng {l : Tx} {v : Int} (h : Lib.parseIntB 64 l = .ok v) : i64R v := by
 cases l with
 | nil => cases h
 | cons c r =>
  have e2 : (2 : Nat) ^ (64 - 1) = 9223372036854775808 := by decide
  rw [Lib.parseIntB, e2] at h
  split at h
  · cases h
  · cases h
  · rename_i u hu
    split at h
    · cases h
    · rename_i h1
      split at h
      · cases h
      · rename_i h2
        simp only [Lib.NumEnd.ok.injEq] at h;subst h;unfold i64R
        by_cases hn : c.toNat = 45
        · rw [if_pos hn]
          have : ¬ 9223372036854775808 < u := fun h => h2 ⟨hn, h⟩;omega
        · rw [if_neg hn]
          have : ¬ 9223372036854775808 <= u := fun h => h1 ⟨hn, h⟩;omega
theorem numP_rng (t : Tx) : i64R (numP t).1 := by
 unfold numP;split
 · rename_i h; exact intB_rng h
 · simp only [Lib.intSat]
   split
   · exact ⟨by decide, by decide⟩
   · exact ⟨by decide, by decide⟩
 · exact ⟨by decide, by decide⟩
theorem numA_rng (t : Tx) : i64R (numA t).1 := by
 unfold numA;split
 · rename_i h; rw [atoi_eq] at h; exact intB_rng h
 · simp only [Lib.atoiSat]
   split
   · exact ⟨by decide, by decide⟩
   · exact ⟨by decide, by decide⟩
 · exact ⟨by decide, by decide⟩
theorem kind_rng (f : Int -> ByteArray) (s : ByteArray) : 0 <= kindS f s /\ kindS f s <= 255 := by
 have : ∀ (k : Nat) (n : Int), 0 <= n -> n + k <= 255 -> 0 <= kindGo f s k n /\ kindGo f s k n <= 255 := by
  intro k
  induction k with
  | zero => intro n h0 h1; rw [kindGo]; omega
  | succ k ih =>
   intro n h0 h1;rw [kindGo];split
   · omega
   · split
     · omega
     · exact ih (n + 1) (by omega) (by omega)
 exact this 19 1 (by decide) (by decide)
structure smRq (r : Rq) : Prop where
 ok : okRq r
 name : r.name.size <= 1000000
 fed : r.fed.length <= 1000000
theorem unw_len {w : ByteArray} (hs : w.size <= 1000000) : ((unwordT (tx w)).getD []).length <= 1000000 := by
 have := unw_size (o := unwordT (tx w)) rfl hs
 rwa [strB_len] at this
theorem step_sm {r : Rq} (h : smRq r) (t : Int) {w : WS} (hw : ∀ x ∈ w.1, x.size <= 1000000) : smRq (stepW t r w).1 /\ ∀ x ∈ (stepW t r w).2.1, x.size <= 1000000 := by
 obtain ⟨wl, b⟩ := w;have hn := next_size (b := b) hw;have hq := numP_rng (tx (nextW (wl, b)).1);obtain ⟨⟨k1, k2, k3, k4, k5, k6, k7, k8, k9, k10, k11⟩, h2, h3⟩ := h;unfold stepW;split
 · exact ⟨⟨⟨k1, k2, k3, k4, k5, k6, k7, k8, k9, k10, k11⟩, h2, h3⟩, hw⟩
 · split
   · split
     · exact ⟨⟨⟨k1, k2, k3, k4, k5, k6, k7, k8, k9, k10, k11⟩, hn.1, h3⟩, hn.2⟩
     · exact ⟨⟨⟨k1, k2, k3, k4, k5, k6, k7, k8, k9, k10, k11⟩, unw_size rfl hn.1, h3⟩, hn.2⟩
   · split
     · exact ⟨⟨⟨k1, k2, k3, k4, k5, k6, k7, k8, k9, hq, k11⟩, h2, h3⟩, hn.2⟩
     · split
       · exact ⟨⟨⟨k1, k2, k3, k4, k5, k6, k7, k8, k9, k10, unw_bytes rfl⟩, h2, unw_len hn.1⟩, hn.2⟩
       · refine ⟨?_, hn.2⟩
         unfold setN
         repeat' split
         · exact ⟨⟨k1, k2, hq, k4, k5, k6, k7, k8, k9, k10, k11⟩, h2, h3⟩
         · exact ⟨⟨k1, k2, k3, hq, k5, k6, k7, k8, k9, k10, k11⟩, h2, h3⟩
         · exact ⟨⟨k1, k2, k3, k4, hq, k6, k7, k8, k9, k10, k11⟩, h2, h3⟩
         · exact ⟨⟨k1, k2, k3, k4, k5, hq, k7, k8, k9, k10, k11⟩, h2, h3⟩
         · exact ⟨⟨k1, k2, k3, k4, k5, k6, hq, k8, k9, k10, k11⟩, h2, h3⟩
         · exact ⟨⟨k1, k2, k3, k4, k5, k6, k7, hq, k9, k10, k11⟩, h2, h3⟩
         · exact ⟨⟨k1, k2, k3, k4, k5, k6, k7, k8, hq, k10, k11⟩, h2, h3⟩
theorem run_sm : ∀ (ts : List Int) {r : Rq} (h : smRq r) {w : WS} (hw : ∀ x ∈ w.1, x.size <= 1000000), smRq (runW ts r w).1
 | [], r, h, w, hw => h
 | t :: ts, r, h, w, hw => by
  rw [runW];split
  · exact h
  · obtain ⟨h1, h2⟩ := step_sm h t hw
    exact run_sm ts h1 h2
theorem i64R_zero : i64R 0 := ⟨by decide, by decide⟩
theorem ask_sm {ws : List ByteArray} (hws : ∀ w ∈ ws, w.size <= 1000000) : smRq (askW ws).1 := by
 have h1 := next_size (b := true) hws
 have hw1 : ∀ x ∈ (askW1 ws).1, x.size <= 1000000 := by
  unfold askW1;split
  · exact (next_size h1.2).2
  · exact h1.2
 rw [askW];refine run_sm _ ⟨⟨?_, ?_, ?_, ?_, ?_, ?_, ?_, ?_, ?_, ?_, byteL_nil⟩, Nat.zero_le _, Nat.zero_le _⟩ hw1
 · exact kind_rng nameS (nextW (ws, true)).1
 · show 0 <= askQ ws /\ askQ ws <= 255
   unfold askQ;split
   · exact kind_rng _ _
   · omega
 all_goals exact i64R_zero
def wordAt (ws : List ByteArray) (j : Nat) : ByteArray := (ws[j]?).getD ⟨#[]⟩
def entAt (ws : List ByteArray) : Int := if wordAt ws 0 = strT pickB then 0 else 1
def entN (ws : List ByteArray) : Int := if ws.length > 1 then (numA (tx (wordAt ws 1))).1 else 0
def entryW (ws : List ByteArray) : En × Bool :=
 if wordAt ws 0 = strT tickB then (⟨2, 0, 0, []⟩, true)
 else if (ws.length : Int) < 2 + entAt ws then (zeroEn, false)
 else if wordAt ws 0 = strT pickB then (⟨3, 0, entN ws, []⟩, true)
 else if wordAt ws 0 = strT rawB then (⟨1, entN ws, 0, (unwordT (tx (wordAt ws 2))).getD []⟩, (unwordT (tx (wordAt ws 2))).isSome)
 else if wordAt ws 0 = strT askB then (if (askW (ws.drop 2)).2 then ((askE (entN ws) (askW (ws.drop 2)).1).1, decide ((askE (entN ws) (askW (ws.drop 2)).1).2 = 0)) else (zeroEn, false))
 else (zeroEn, false)
set_option maxHeartbeats 1000000 in
theorem ct82 (ws : List ByteArray) (hne : ws ≠ []) (hws : ∀ w ∈ ws, w.size <= 1000000) (v : Value) (I : Mem) (hG : Globs I) (hw : WsL I v ws) :
 Ct Tryz.prog (fnv 82) #[v] I (fun u I' => ∃ y, u = .tuple #[.agg (enV (entryW ws).1 y).toArray, .bool (entryW ws).2] /\ BySl I' y (entryW ws).1.bs) := by
 obtain ⟨p, n, c, rfl, hp, hpc, hpm⟩ := hw;obtain ⟨Q, hQ⟩ : ∃ q : Value -> Mem -> Prop, q = fun u I' => ∃ y, u = .tuple #[.agg (enV (entryW ws).1 y).toArray, .bool (entryW ws).2] /\ BySl I' y (entryW ws).1.bs := ⟨_, rfl⟩;obtain ⟨AT, hAT⟩ : ∃ a, a = entAt ws := ⟨_, rfl⟩;obtain ⟨NW, hNW⟩ : ∃ a, a = entN ws := ⟨_, rfl⟩;rw [<- hQ]
 refine viaR (ct_via (A := { cuts := [(4, ⟨[(0, .keep), (2, .keep), (3, .keep), (4, .sh (.int .i64))], [(0, .keep)], [], fun vals _ _ _ => match vals with | [.int .i64 a] => a = AT | _ => False, fun _ _ => 0⟩), (7, ⟨[(0, .keep), (2, .keep), (3, .keep), (4, .keep), (5, .sh (.int .i64))], [(0, .keep)], [], fun vals _ _ _ => match vals with | [.int .i64 a] => a = NW | _ => False, fun _ _ => 0⟩)] }) Tryz.func82 rfl Tryz.call82 rfl rfl) (let E1 := Ent.mk (.cells [.v (.int .u8 0), .v (.int .i64 0), .v (.int .i64 0), .v (.slice none 0 0)] 35) none
  ((0 : Int) <= 0 /\ 0 < (n : Int) /\ p.isSome = true /\ ∃ q, atI I p 0 = some (.string q) /\ Br (q.toList == (ByteArray.mk #[112, 105, 99, 107]).toList) (Rf E1 /\ Rf (SV.v (.slice p n c)) /\ Rf (SV.ptr 0 0) /\ Rf (SV.v (.bool false)) /\ 0 = AT) (Rf E1 /\ Rf (SV.v (.slice p n c)) /\ Rf (SV.ptr 0 0) /\ Rf (SV.v (.bool false)) /\ 1 = AT)) /\ ∀ (a : Mem), Mem -> I.le a -> ∀ (b : Int), b = AT -> Br (decide (1 < (n : Int))) ((0 : Int) <= 1 /\ 1 < (n : Int) /\ p.isSome = true /\ ∃ q, atI a p 1 = some (.string q) /\ Ct Tryz.prog (fnv 114) #[.string q] a fun v d => ∃ e x, v = .tuple #[.int .i64 e, x] /\ Rf E1 /\ Rf (SV.v (.slice p n c)) /\ Rf (SV.ptr 0 0) /\ Rf (SV.v (.bool false)) /\ Rf (SV.v (.int .i64 b)) /\ e = NW) (Rf E1 /\ Rf (SV.v (.slice p n c)) /\ Rf (SV.ptr 0 0) /\ Rf (SV.v (.bool false)) /\ Rf (SV.v (.int .i64 b)) /\ 0 = NW) /\ ∀ (d : Mem), Mem -> a.le d -> ∀ (e : Int), e = NW -> (0 : Int) <= 0 /\ 0 < (n : Int) /\ p.isSome = true /\ ∃ q, atI d p 0 = some (.string q) /\ Br (q.toList == (ByteArray.mk #[116, 105, 99, 107]).toList) (Q (.tuple #[.agg #[.int .u8 2, .int .i64 0, .int .i64 0, .slice none 0 0], .bool true]) d) (Wr .i64 (2 + b) (fun f => Br (decide ((n : Int) < f)) (Q (.tuple #[.agg #[.int .u8 0, .int .i64 0, .int .i64 0, .slice none 0 0], .bool false]) d) ((0 : Int) <= 0 /\ 0 < (n : Int) /\ p.isSome = true /\ ∃ g, atI d p 0 = some (.string g) /\ Br (g.toList == (ByteArray.mk #[112, 105, 99, 107]).toList) (Q (.tuple #[.agg #[.int .u8 3, .int .i64 0, .int .i64 e, .slice none 0 0], .bool true]) d) ((0 : Int) <= 0 /\ 0 < (n : Int) /\ p.isSome = true /\ ∃ h, atI d p 0 = some (.string h) /\ Br (h.toList == (ByteArray.mk #[114, 97, 119]).toList) ((0 : Int) <= 2 /\ 2 < (n : Int) /\ p.isSome = true /\ ∃ i, atI d p 2 = some (.string i) /\ Ct Tryz.prog (fnv 115) #[.string i] d fun v j => ∃ k l, v = .tuple #[.string k, .bool l] /\ k.size <= 4611686018427387904 /\ ∀ (m : Option Addr) (o : Nat) (r : Mem), j.le r -> m.isSome = true -> k.size <= o -> o <= 9223372036854775807 -> (∀ (s : Nat) (t : UInt8), k.data.toList[s]? = some t -> atI r m s = some (.int .u8 (t.toNat : Int))) -> Q (.tuple #[.agg #[.int .u8 1, .int .i64 e, .int .i64 0, .slice m k.size o], .bool l]) r) ((0 : Int) <= 0 /\ 0 < (n : Int) /\ p.isSome = true /\ ∃ i, atI d p 0 = some (.string i) /\ Br (i.toList == (ByteArray.mk #[97, 115, 107]).toList) ((0 : Int) <= 2 /\ 2 <= (n : Int) /\ Ct Tryz.prog (fnv 116) #[.slice (sladdr p c 2 1) (n - 2) (c - 2)] d fun v j => ∃ k l m o r s t u w x y z n1 c1 b1, v = .tuple #[.agg #[.int .u8 k, .int .u8 l, .string m, .int .i64 o, .int .i64 r, .int .i64 s, .int .i64 t, .int .i64 u, .int .i64 w, .int .i64 x, .int .i64 y, .slice z n1 c1], .bool b1] /\ Br (!b1) (Q (.tuple #[.agg #[.int .u8 0, .int .i64 0, .int .i64 0, .slice none 0 0], .bool false]) j) (Ct Tryz.prog (fnv 20) #[.int .i64 e, .agg #[.int .u8 k, .int .u8 l, .string m, .int .i64 o, .int .i64 r, .int .i64 s, .int .i64 t, .int .i64 u, .int .i64 w, .int .i64 x, .int .i64 y, .slice z n1 c1]] j (fun v1 I1 => ∃ n2 n3 n4 a1 n5 c2 n6, v1 = .tuple #[.agg #[.int .u8 n2, .int .i64 n3, .int .i64 n4, .slice a1 n5 c2], .int .i64 n6] /\ Q (.tuple #[.agg #[.int .u8 n2, .int .i64 n3, .int .i64 n4, .slice a1 n5 c2], .bool (n6 == 0)]) I1))) (Q (.tuple #[.agg #[.int .u8 0, .int .i64 0, .int .i64 0, .slice none 0 0], .bool false]) d))))))) (by kernel_rfl) ?_
 intro E1
 have hl : ws.length = n := by have := hp.len; rw [Nat.mul_one] at this; rw [<- this]; simp [strs]
 have hpos : 0 < ws.length := List.length_pos_iff.2 hne
 have wat : ∀ {J : Mem} (j : Nat), I.le J -> j < ws.length -> atI J p j = some (.string (wordAt ws j)) := fun {J} j hJ hj =>
  (hp.mono hJ).at_ j _ (strs_get (by rw [wordAt, List.getElem?_eq_getElem hj]; rfl))
 have wsz : ∀ j : Nat, (wordAt ws j).size <= 1000000 := fun j => by
  rw [wordAt]
  cases hq : ws[j]? with
  | none => exact Nat.zero_le _
  | some w => exact hws w (List.mem_of_getElem? hq)
 have hnp : 0 < n := by rw [<- hl]; exact hpos
 have hsome : p.isSome = true := hp.isSome hnp
 have hn0 : (0 : Int) < n := by omega
 have h01 : entAt ws = 0 \/ entAt ws = 1 := by rw [entAt]; split <;> simp
 refine ⟨⟨Int.le_refl 0, hn0, hsome, _, wat 0 (fun _ _ h => h) hpos, ?_⟩, fun a G1 la b hb => ⟨Br.mk (fun h => ⟨by omega, of_decide_eq_true h, hsome, _, wat 1 la (by have := of_decide_eq_true h; omega), (ct114 _ (wsz 1) a (hG.mono la)).mono fun v d ld ⟨e, hv, _⟩ => ⟨_, e, hv, rfl, rfl, rfl, rfl, rfl, ?_⟩⟩) (fun h => ⟨rfl, rfl, rfl, rfl, rfl, ?_⟩), fun d G2 ld e he => ?_⟩⟩
 · rw [str_eq]
   refine Br.mk (fun h => ⟨rfl, rfl, rfl, rfl, ?_⟩) (fun h => ⟨rfl, rfl, rfl, rfl, ?_⟩)
   · have h : wordAt ws 0 = strT pickB := of_decide_eq_true h
     rw [hAT, entAt, if_pos h]
   · have h : wordAt ws 0 ≠ strT pickB := of_decide_eq_false h
     rw [hAT, entAt, if_neg h]
 · have h := of_decide_eq_true h
   rw [hNW, entN, if_pos (by omega)]
 · have h := of_decide_eq_false h
   rw [hNW, entN, if_neg (by omega)]
 have hd := Mem.le_trans la ld;obtain rfl := hb.symm;obtain rfl := he.symm;refine ⟨Int.le_refl 0, hn0, hsome, _, wat 0 hd hpos, ?_⟩;rw [str_eq]
 refine Br.mk (fun h1 => ?_) (fun h1 => wr_i64 (by omega) (by omega) (Br.mk (fun h2 => ?_) (fun h2 => ⟨Int.le_refl 0, hn0, hsome, _, wat 0 hd hpos, ?_⟩)))
 · have h1 : wordAt ws 0 = strT tickB := of_decide_eq_true h1
   rw [hQ, entryW, if_pos h1];exact ⟨_, rfl, bysl_nil _⟩
 · have h1 : wordAt ws 0 ≠ strT tickB := of_decide_eq_false h1
   have h2 := of_decide_eq_true h2
   rw [hQ, entryW, if_neg h1, if_pos (by rw [<- hAT, hl]; exact h2)]
   exact ⟨_, rfl, bysl_nil _⟩
 have h1 : wordAt ws 0 ≠ strT tickB := of_decide_eq_false h1
 have h2 : ¬ (ws.length : Int) < 2 + entAt ws := by rw [<- hAT, hl]; exact of_decide_eq_false h2
 rw [str_eq];refine Br.mk (fun h3 => ?_) (fun h3 => ⟨Int.le_refl 0, hn0, hsome, _, wat 0 hd hpos, ?_⟩)
 · have h3 : wordAt ws 0 = strT pickB := of_decide_eq_true h3
   rw [hQ, entryW, if_neg h1, if_neg h2, if_pos h3, hNW];exact ⟨_, rfl, bysl_nil _⟩
 have h3 : wordAt ws 0 ≠ strT pickB := of_decide_eq_false h3
 have h22 : 2 < ws.length := by
  have : entAt ws = 1 := by rw [entAt, if_neg h3]
  omega
 rw [str_eq]
 refine Br.mk (fun h4 => ⟨by omega, by omega, hsome, _, wat 2 hd h22, (ct115 _ (wsz 2) d).mono fun v j lj hv => ?_⟩) (fun h4 => ⟨Int.le_refl 0, hn0, hsome, _, wat 0 hd hpos, ?_⟩)
 · have h4 : wordAt ws 0 = strT rawB := of_decide_eq_true h4
   obtain ⟨o, ho⟩ : ∃ o, o = unwordT (tx (wordAt ws 2)) := ⟨_, rfl⟩;rw [<- ho] at hv
   have hv : v = .tuple #[.string (strB (o.getD [])), .bool o.isSome] := by rw [hv]; cases o <;> rfl
   have hol := unw_size ho.symm (wsz 2)
   refine ⟨_, _, hv, by omega, fun m q r lr g1 g2 g3 g4 => ?_⟩
   rw [hQ, entryW, if_neg h1, if_neg h2, if_neg h3, if_pos h4, hNW, <- ho]
   exact ⟨_, rfl, bysl_str (unw_bytes ho.symm) g1 (by omega) g2 g3 g4⟩
 have h4 : wordAt ws 0 ≠ strT rawB := of_decide_eq_false h4;rw [str_eq]
 refine Br.mk (fun h5 => ⟨by omega, by omega, ?_⟩) (fun h5 => ?_)
 · have h5 : wordAt ws 0 = strT askB := of_decide_eq_true h5
   have hsm := ask_sm (ws := ws.drop 2) fun w hw => hws w (List.mem_of_mem_drop hw)
   have hdr : WsL d (.slice (sladdr p c 2 1) (n - 2) (c - 2)) (ws.drop 2) := ⟨_, _, _, rfl, by
    have := sl_drop (k := 2) (hp.mono hd) (by omega) hpc
    rwa [show (strs ws).drop 2 = strs (ws.drop 2) by simp [strs]] at this, by omega, Nat.le_trans (Nat.sub_le _ _) hpm⟩
   refine (ct116 (ws.drop 2) (fun w hw => hws w (List.mem_of_mem_drop hw)) _ d (hG.mono hd) hdr).mono fun v j lj ⟨y, hv, hy⟩ => ?_;have hy' := hy;obtain ⟨p2, n2, c2, rfl, _, _, _⟩ := hy';refine ⟨_, _, _, _, _, _, _, _, _, _, _, _, _, _, _, hv, Br.mk (fun h6 => ?_) (fun h6 => ?_)⟩
   · have h6 : (askW (ws.drop 2)).2 = false := by simpa using h6
     rw [hQ, entryW, if_neg h1, if_neg h2, if_neg h3, if_neg h4, if_pos h5, h6];exact ⟨_, rfl, bysl_nil _⟩
   · have h6 : (askW (ws.drop 2)).2 = true := by simpa using h6
     have hnr : i64R NW := by
      rw [hNW, entN];split
      · exact numA_rng _
      · exact i64R_zero
     refine (ct20 NW hnr _ hsm.ok hsm.name _ j hy hsm.fed).mono fun v k lk ⟨z, hv, hz⟩ => ?_;have hz' := hz;obtain ⟨p3, n3, c3, rfl, _, _, _⟩ := hz';refine ⟨_, _, _, _, _, _, _, hv, ?_⟩
     have e : entryW ws = ((askE NW (askW (ws.drop 2)).1).1, decide ((askE NW (askW (ws.drop 2)).1).2 = 0)) := by
      rw [entryW, if_neg h1, if_neg h2, if_neg h3, if_neg h4, if_pos h5, if_pos h6, hNW]
     rw [hQ, e];exact ⟨_, rfl, hz⟩
 · have h5 : wordAt ws 0 ≠ strT askB := of_decide_eq_false h5
   rw [hQ, entryW, if_neg h1, if_neg h2, if_neg h3, if_neg h4, if_neg h5];exact ⟨_, rfl, bysl_nil _⟩
theorem splitC_len (c : UInt8) : ∀ (s : Tx), ∀ x ∈ splitC c s, x.length <= s.length
 | [], x, hx => by simp [splitC] at hx; subst hx; simp
 | b :: r, x, hx => by
  have ih := splitC_len c r;rw [splitC] at hx
  split at hx
  · rcases List.mem_cons.1 hx with rfl | hx
    · simp
    · have := ih x hx; simp only [List.length_cons]; omega
  · split at hx
    · rename_i y ys e
      rw [e] at ih
      rcases List.mem_cons.1 hx with rfl | hx
      · have := ih y (by simp); simp only [List.length_cons]; omega
      · have := ih x (List.mem_cons_of_mem _ hx); simp only [List.length_cons]; omega
    · rename_i e
      exact absurd e (splitC_ne c r)
def pieces (t : Tx) : List ByteArray := (splitC 32 t).map strT
theorem pieces_of {l : List ByteArray} {t : Tx} (h : l.map tx = splitC 32 t) : l = pieces t := by
 rw [pieces, <- h, List.map_map]
 have : (strT ∘ tx) = id := by funext s; exact strT_tx s
 rw [this, List.map_id]
theorem pieces_ne (t : Tx) : pieces t ≠ [] := by
 rw [pieces];intro h;exact splitC_ne 32 t (List.map_eq_nil_iff.1 h)
theorem pieces_len {t : Tx} {n : Nat} (h : t.length <= n) : ∀ w ∈ pieces t, w.size <= n := fun w hw => by
 obtain ⟨x, hx, rfl⟩ := List.mem_map.1 hw;have := splitC_len 32 t x hx
 rw [strT_size]; omega
theorem k255 {k : Int} (h : k = 0 \/ k = 1 \/ k = 2 \/ k = 3) : 0 <= k /\ k <= 255 := by omega
theorem zero_okE : okEn zeroEn := ⟨⟨by decide, by decide⟩, i64R_zero, i64R_zero, byteL_nil⟩
theorem askE_ok {n : Int} (hn : i64R n) {r : Rq} (hr : okRq r) : okEn (askE n r).1 := by
 rw [askE]
 cases hR : rightR r with
 | false => exact zero_okE
 | true =>
  simp only [if_true];split
  · exact ⟨k255 (.inr (.inl rfl)), hn, i64R_zero, write_ok hr hR⟩
  · exact zero_okE
theorem entN_rng (ws : List ByteArray) : i64R (entN ws) := by
 rw [entN];split
 · exact numA_rng _
 · exact i64R_zero
theorem entry_ok {ws : List ByteArray} (hws : ∀ w ∈ ws, w.size <= 1000000) : okEn (entryW ws).1 := by
 have hn := entN_rng ws;have hsm := ask_sm (ws := ws.drop 2) fun w hw => hws w (List.mem_of_mem_drop hw);unfold entryW
 repeat' split
 · exact ⟨k255 (.inr (.inr (.inl rfl))), i64R_zero, i64R_zero, byteL_nil⟩
 · exact zero_okE
 · exact ⟨k255 (.inr (.inr (.inr rfl))), i64R_zero, hn, byteL_nil⟩
 · exact ⟨k255 (.inr (.inl rfl)), hn, i64R_zero, unw_bytes rfl⟩
 · exact askE_ok hn hsm.ok
 · exact zero_okE
 · exact zero_okE
def readL (t : Tx) : En × Int :=
 if t.length <= 32868 /\ (entryW (pieces t)).2 = true /\ cleanE (entryW (pieces t)).1 = true /\ lineT (entryW (pieces t)).1 = t then ((entryW (pieces t)).1, 0) else (zeroEn, 411)
theorem ct38 (s : ByteArray) (hs : s.size <= 1000000000) (I : Mem) (hG : Globs I) :
 Ct Tryz.prog (fnv 38) #[.string s] I (fun u I' => ∃ y, u = .tuple #[.agg (enV (readL (tx s)).1 y).toArray, .int .i64 (readL (tx s)).2] /\ BySl I' y (readL (tx s)).1.bs) := by
 obtain ⟨Q, hQ⟩ : ∃ q : Value -> Mem -> Prop, q = fun u I' => ∃ y, u = .tuple #[.agg (enV (readL (tx s)).1 y).toArray, .int .i64 (readL (tx s)).2] /\ BySl I' y (readL (tx s)).1.bs := ⟨_, rfl⟩;rw [<- hQ]
 refine viaR (ct_via (A := { }) Tryz.func38 rfl Tryz.call38 rfl rfl) (Br (decide (32868 < (s.size : Int))) (Q (.tuple #[.agg #[.int .u8 0, .int .i64 0, .int .i64 0, .slice none 0 0], .int .i64 411]) I) (Ct Tryz.prog (fnv 83) #[.string s, .string ⟨#[32]⟩] I (fun v a => ∃ b n c, v = .slice b n c /\ Ct Tryz.prog (fnv 82) #[.slice b n c] a fun d e => ∃ f g h i j k l, d = .tuple #[.agg #[.int .u8 f, .int .i64 g, .int .i64 h, .slice i j k], .bool l] /\ Br (!l) (Q (.tuple #[.agg #[.int .u8 0, .int .i64 0, .int .i64 0, .slice none 0 0], .int .i64 411]) e) (Ct Tryz.prog (fnv 22) #[.agg #[.int .u8 f, .int .i64 g, .int .i64 h, .slice i j k]] e (fun m o => ∃ q p, m = .tuple #[.string q, .int .i64 p] /\ Br (p != 0) (Q (.tuple #[.agg #[.int .u8 0, .int .i64 0, .int .i64 0, .slice none 0 0], .int .i64 411]) o) (Br (!(q.toList == s.toList)) (Q (.tuple #[.agg #[.int .u8 0, .int .i64 0, .int .i64 0, .slice none 0 0], .int .i64 411]) o) (Q (.tuple #[.agg #[.int .u8 f, .int .i64 g, .int .i64 h, .slice i j k], .int .i64 0]) o))))))) (by kernel_rfl) ?_
 have hl : (tx s).length = s.size := Array.length_toList
 have no : ∀ J : Mem, (¬ ((tx s).length <= 32868 /\ (entryW (pieces (tx s))).2 = true /\ cleanE (entryW (pieces (tx s))).1 = true /\ lineT (entryW (pieces (tx s))).1 = tx s)) -> Q (.tuple #[.agg #[.int .u8 0, .int .i64 0, .int .i64 0, .slice none 0 0], .int .i64 411]) J := fun J h => by
  rw [hQ, readL, if_neg h];exact ⟨_, rfl, bysl_nil _⟩
 refine Br.mk (fun h => no I fun hh => ?_) (fun h => ?_)
 · have h := of_decide_eq_true h
   have := hh.1;omega
 have h := of_decide_eq_false h
 have hls : (tx s).length <= 32868 := by omega
 refine (ct83 s (by omega) I hG).mono fun v a la ⟨ws, b, n, c, hv, hm, hsl, hnc, hcm⟩ => ⟨_, _, _, hv, ?_⟩
 obtain rfl := pieces_of hm
 have hp6 : ∀ w ∈ pieces (tx s), w.size <= 1000000 := pieces_len (by omega)
 refine (ct82 (pieces (tx s)) (pieces_ne _) hp6 _ a (hG.mono la) ⟨b, n, c, rfl, hsl, hnc, hcm⟩).mono fun d e le ⟨y, hv, hy⟩ => ?_;have hy' := hy;obtain ⟨p2, n2, c2, rfl, _, _, _⟩ := hy';have hok := entry_ok hp6;refine ⟨_, _, _, _, _, _, _, hv, Br.mk (fun h1 => no e fun hh => ?_) (fun h1 => ?_)⟩
 · rw [hh.2.1] at h1; cases h1
 have h1 : (entryW (pieces (tx s))).2 = true := by simpa using h1
 refine (ct22 _ hok _ e (hG.mono (Mem.le_trans la le)) hy).mono fun m o lo hv => ⟨_, _, hv, Br.mk (fun h2 => no o fun hh => ?_) (fun h2 => ?_)⟩
 · rw [lineE, if_pos hh.2.2.1] at h2; cases h2
 have h2 : cleanE (entryW (pieces (tx s))).1 = true := by
  cases hc : cleanE (entryW (pieces (tx s))).1 with
  | true => rfl
  | false => rw [lineE, hc] at h2; cases h2
 rw [str_eq];refine Br.mk (fun h3 => no o fun hh => ?_) (fun h3 => ?_)
 · rw [hh.2.2.2, strT_tx, decide_eq_true rfl] at h3; cases h3
 have h3 : strT (lineT (entryW (pieces (tx s))).1) = s := by simpa using h3
 have h4 : lineT (entryW (pieces (tx s))).1 = tx s := by have := congrArg tx h3; rwa [tx_strT] at this
 rw [hQ, readL, if_pos ⟨hls, h1, h2, by rw [h4]⟩]
 exact ⟨_, rfl, hy.mono lo⟩
theorem readL_okE {t : Tx} (ht : t.length <= 1000000) : okEn (readL t).1 := by
 rw [readL];split
 · exact entry_ok (pieces_len ht)
 · exact zero_okE
theorem readL_spec {t : Tx} (h : (readL t).2 = 0) : cleanE (readL t).1 = true /\ lineT (readL t).1 = t /\ t.length <= 32868 := by
 rw [readL] at h ⊢;split
 · rename_i hh
   exact ⟨hh.2.2.1, hh.2.2.2, hh.1⟩
 · rename_i hh
   rw [if_neg hh] at h; cases h
def okLs : List ByteArray := [⟨#[116, 105, 99, 107]⟩, ⟨#[112, 105, 99, 107, 32, 51]⟩, ⟨#[97, 115, 107, 32, 48, 32, 115, 116, 101, 112, 32, 53]⟩, ⟨#[97, 115, 107, 32, 50, 32, 111, 112, 101, 110, 32, 97, 46, 98, 32, 49]⟩, ⟨#[97, 115, 107, 32, 50, 32, 111, 112, 101, 110, 32, 37, 52, 49, 32, 49]⟩, ⟨#[97, 115, 107, 32, 48, 32, 115, 117, 98, 109, 105, 116, 32, 51, 48, 48, 32, 55, 32, 45, 49]⟩, ⟨#[97, 115, 107, 32, 48, 32, 113, 117, 101, 114, 121, 32, 101, 118, 101, 110, 116, 115, 32, 48, 32, 48, 32, 48]⟩, ⟨#[97, 115, 107, 32, 49, 32, 99, 114, 101, 97, 116, 101, 32, 37, 48, 49, 48, 50]⟩, ⟨#[97, 115, 107, 32, 48, 32, 100, 101, 115, 116, 114, 111, 121]⟩, ⟨#[114, 97, 119, 32, 48, 32, 37, 102, 102]⟩, ⟨#[114, 97, 119, 32, 48, 32, 37]⟩]
def noLs : List ByteArray := [⟨#[114, 97, 119, 32, 48, 32, 37, 48, 49, 48, 54, 48, 55, 48, 49, 48, 53]⟩, ⟨#[112, 105, 99, 107, 32, 48, 51]⟩, ⟨#[116, 105, 99, 107, 32, 49]⟩, ⟨#[97, 115, 107, 32, 48, 32, 115, 116, 101, 112]⟩, ⟨#[97, 115, 107, 32, 48, 32, 111, 112, 101, 110, 32, 37, 54, 49, 50, 101, 54, 50, 32, 49]⟩, ⟨#[114, 97, 119, 32, 48, 32, 37, 70, 70]⟩]
theorem okLs_read : ∀ q ∈ okLs, q.size <= 100 /\ (readL (tx q)).2 = 0 := by decide +kernel
theorem noLs_read : ∀ q ∈ noLs, q.size <= 100 /\ (readL (tx q)).2 = 411 := by decide +kernel
theorem step5_read : readL (tx ⟨#[97, 115, 107, 32, 48, 32, 115, 116, 101, 112, 32, 53]⟩) = (⟨1, 0, 0, [1, 6, 7, 1, 5]⟩, 0) := by decide +kernel
theorem lit_at {I : Mem} {b : Nat} {cs : Array Value} {el : TypeId} {l : List ByteArray} (h : I b = some (.cells cs el)) (hx : cs = (strs l).toArray) {n : Int} (h0 : 0 <= n) (h1 : n < l.length) : ∃ q, q ∈ l /\ atI I (some ⟨b, 0, none⟩) (n.toNat * 1 + 0) = some (.string q) := by
 have hlt : n.toNat < l.length := by omega
 refine ⟨l[n.toNat], List.getElem_mem _, ?_⟩;simp only [atI, Option.bind_some, Addr.add_lit, cellM, h, Option.isSome_none, Bool.false_eq_true, if_false];subst hx;simp [strs, hlt]
theorem bysl_lit {I : Mem} {b n : Nat} {cs : Array Value} {el : TypeId} {bs : List Int} (h : I b = some (.cells cs el)) (hx : cs = (ints .u8 bs).toArray) (hn : n = bs.length) (hm : n <= 100) : SlM I (some ⟨b, 0, none⟩) n 1 (ints .u8 bs) := by
 subst hx
 have := sl_cells (n := n) (sz := 1) h (by simp [ints]; omega) (by simp only [maxLen]; omega)
 simpa using this
theorem ct14 (I : Mem) (hG : Globs I) : Ct Tryz.prog (fnv 14) #[] I (fun v I' => v = .bool true) := by
 refine viaR (ct_via (A := { befores := [(2, [0]), (10, [1])], loops := [(2, ⟨[(13, .keep), (14, .keep), (15, .sh (.int .i64))], [], [], fun vals _ _ _ => match vals with | [.int .i64 j] => 0 <= j /\ j <= 11 | _ => False, fun vals _ => match vals with | [.int .i64 j] => (11 - j).toNat | _ => 0⟩), (10, ⟨[(39, .keep), (40, .keep), (41, .sh (.int .i64))], [], [], fun vals _ _ _ => match vals with | [.int .i64 j] => 0 <= j /\ j <= 6 | _ => False, fun vals _ => match vals with | [.int .i64 j] => (6 - j).toNat | _ => 0⟩)] }) Tryz.func14 rfl Tryz.call14 rfl rfl) (∀ (b : Nat) (a : Mem), I.le a -> a b = some (.cells #[.string ⟨#[116, 105, 99, 107]⟩, .string ⟨#[112, 105, 99, 107, 32, 51]⟩, .string ⟨#[97, 115, 107, 32, 48, 32, 115, 116, 101, 112, 32, 53]⟩, .string ⟨#[97, 115, 107, 32, 50, 32, 111, 112, 101, 110, 32, 97, 46, 98, 32, 49]⟩, .string ⟨#[97, 115, 107, 32, 50, 32, 111, 112, 101, 110, 32, 37, 52, 49, 32, 49]⟩, .string ⟨#[97, 115, 107, 32, 48, 32, 115, 117, 98, 109, 105, 116, 32, 51, 48, 48, 32, 55, 32, 45, 49]⟩, .string ⟨#[97, 115, 107, 32, 48, 32, 113, 117, 101, 114, 121, 32, 101, 118, 101, 110, 116, 115, 32, 48, 32, 48, 32, 48]⟩, .string ⟨#[97, 115, 107, 32, 49, 32, 99, 114, 101, 97, 116, 101, 32, 37, 48, 49, 48, 50]⟩, .string ⟨#[97, 115, 107, 32, 48, 32, 100, 101, 115, 116, 114, 111, 121]⟩, .string ⟨#[114, 97, 119, 32, 48, 32, 37, 102, 102]⟩, .string ⟨#[114, 97, 119, 32, 48, 32, 37]⟩] 9 (0, 0)) -> (Rf (SV.v (.slice (some ⟨b, 0, none⟩) 11 11)) /\ Rf (SV.v (.int .i64 11)) /\ (0 : Int) <= 0 /\ (0 : Int) <= 11) /\ ∀ (c : Mem), Mem -> a.le c -> ∀ (n : Int), 0 <= n /\ n <= 11 -> Br (decide (n < 11)) (0 <= n /\ n < 11 /\ true = true /\ ∃ q, atI c (some ⟨b, 0, none⟩) (n.toNat * 1 + 0) = some (.string q) /\ Ct Tryz.prog (fnv 38) #[.string q] c fun v d => ∃ e f g h i j k, v = .tuple #[.agg #[.int .u8 e, .int .i64 f, .int .i64 g, .slice h i j], .int .i64 k] /\ Ct Tryz.prog (fnv 22) #[.agg #[.int .u8 e, .int .i64 f, .int .i64 g, .slice h i j]] d fun l m => ∃ o p, l = .tuple #[.string o, .int .i64 p] /\ Wr .i64 (k + p) fun r => Br (r != 0) (Value.bool false = .bool true) (Br (!(o.toList == q.toList)) (Value.bool false = .bool true) (Wr .i64 (n + 1) (fun s => Rf (SV.v (.slice (some ⟨b, 0, none⟩) 11 11)) /\ Rf (SV.v (.int .i64 11)) /\ (0 <= s /\ s <= 11) /\ Int.toNat (11 - s) < Int.toNat (11 - n))))) (∀ (d : Nat) (e : Mem), c.le e -> e d = some (.cells #[.string ⟨#[114, 97, 119, 32, 48, 32, 37, 48, 49, 48, 54, 48, 55, 48, 49, 48, 53]⟩, .string ⟨#[112, 105, 99, 107, 32, 48, 51]⟩, .string ⟨#[116, 105, 99, 107, 32, 49]⟩, .string ⟨#[97, 115, 107, 32, 48, 32, 115, 116, 101, 112]⟩, .string ⟨#[97, 115, 107, 32, 48, 32, 111, 112, 101, 110, 32, 37, 54, 49, 50, 101, 54, 50, 32, 49]⟩, .string ⟨#[114, 97, 119, 32, 48, 32, 37, 70, 70]⟩] 9 (0, 0)) -> (Rf (SV.v (.slice (some ⟨d, 0, none⟩) 6 6)) /\ Rf (SV.v (.int .i64 6)) /\ (0 : Int) <= 0 /\ (0 : Int) <= 6) /\ ∀ (f : Mem), Mem -> e.le f -> ∀ (g : Int), 0 <= g /\ g <= 6 -> Br (decide (g < 6)) (0 <= g /\ g < 6 /\ true = true /\ ∃ q, atI f (some ⟨d, 0, none⟩) (g.toNat * 1 + 0) = some (.string q) /\ Ct Tryz.prog (fnv 38) #[.string q] f fun v h => ∃ i j k l m o p, v = .tuple #[.agg #[.int .u8 i, .int .i64 j, .int .i64 k, .slice l m o], .int .i64 p] /\ Br (p != 411) (Value.bool false = .bool true) (Wr .i64 (g + 1) (fun r => Rf (SV.v (.slice (some ⟨d, 0, none⟩) 6 6)) /\ Rf (SV.v (.int .i64 6)) /\ (0 <= r /\ r <= 6) /\ Int.toNat (6 - r) < Int.toNat (6 - g)))) (Ct Tryz.prog (fnv 38) #[.string ⟨#[97, 115, 107, 32, 48, 32, 115, 116, 101, 112, 32, 53]⟩] f (fun v h => ∃ i j k l m o p, v = .tuple #[.agg #[.int .u8 i, .int .i64 j, .int .i64 k, .slice l m o], .int .i64 p] /\ Br (p == 0) (Br (i == 1) (Br (j == 0) (∀ (q : Nat) (r : Mem), h.le r -> r q = some (.cells #[.int .u8 1, .int .u8 6, .int .u8 7, .int .u8 1, .int .u8 5] 5 (0, 0)) -> Ct Tryz.prog (fnv 43) #[.slice l m o, .slice (some ⟨q, 0, none⟩) 5 5] r fun s t => ∃ u, s = .bool u /\ Value.bool u = .bool true) (Value.bool false = .bool true)) (Value.bool false = .bool true)) (Value.bool false = .bool true))))) (by kernel_rfl) ?_
 intro b a la hb
 refine ⟨⟨rfl, rfl, by omega, by omega⟩, fun c G1 lc n ⟨n0, n1⟩ => Br.mk (fun hlt => ?_) (fun _ d e le hd => ⟨⟨rfl, rfl, by omega, by omega⟩, fun f G2 lf g ⟨g0, g1⟩ => Br.mk (fun hlt => ?_) (fun _ => ?_)⟩)⟩
 · have hlt := of_decide_eq_true hlt
   obtain ⟨q, hq, hat⟩ := lit_at (l := okLs) (lc _ _ hb) rfl n0 (by simpa [okLs] using hlt)
   obtain ⟨hs, hr⟩ := okLs_read q hq;have hl : (tx q).length = q.size := Array.length_toList;obtain ⟨r1, r2, r3⟩ := readL_spec hr
   have hok := readL_okE (t := tx q) (by omega)
   have hGc := hG.mono (Mem.le_trans la lc)
   refine ⟨n0, hlt, rfl, q, hat, (ct38 q (by omega) c hGc).mono fun v d ld ⟨y, hv, hy⟩ => ?_⟩
   have hy' := hy;obtain ⟨p2, n2, c2, rfl, _, _, _⟩ := hy';refine ⟨_, _, _, _, _, _, _, hv, (ct22 _ hok _ d (hGc.mono ld) hy).mono fun v m lm hv => ⟨_, _, hv, ?_⟩⟩;rw [hr, lineE, r1, r2, strT_tx]
   refine wr_i64 (by decide) (by decide) (Br.f rfl (Br.f ?_ (wr_i64 (by omega) (by omega) ⟨rfl, rfl, ⟨by omega, by omega⟩, by omega⟩)))
   rw [str_eq, decide_eq_true rfl]; rfl
 · have hlt := of_decide_eq_true hlt
   obtain ⟨q, hq, hat⟩ := lit_at (l := noLs) (lf _ _ hd) rfl g0 (by simpa [noLs] using hlt)
   obtain ⟨hs, hr⟩ := noLs_read q hq;have hGf := hG.mono (Mem.le_trans la (Mem.le_trans lc (Mem.le_trans le lf)))
   refine ⟨g0, hlt, rfl, q, hat, (ct38 q (by omega) f hGf).mono fun v d ld ⟨y, hv, hy⟩ => ?_⟩
   obtain ⟨p2, n2, c2, rfl, _, _, _⟩ := hy
   refine ⟨_, _, _, _, _, _, _, hv, Br.f (by rw [hr]; rfl) (wr_i64 (by omega) (by omega) ⟨rfl, rfl, ⟨by omega, by omega⟩, by omega⟩)⟩
 · have hGf := hG.mono (Mem.le_trans la (Mem.le_trans lc (Mem.le_trans le lf)))
   refine (ct38 _ (by decide) f hGf).mono fun v h lh ⟨y, hv, hy⟩ => ?_
   rw [step5_read] at hv hy;obtain ⟨p2, n2, c2, rfl, hp2, hpc2, hpm2⟩ := hy;refine ⟨_, _, _, _, _, _, _, hv, Br.t rfl (Br.t rfl (Br.t rfl fun q r lr hq => ?_))⟩
   exact (ct43 [1, 6, 7, 1, 5] [1, 6, 7, 1, 5] (by simp [byteL]) (by simp [byteL]) _ _ _ _ _ _ r (hp2.mono lr) (bysl_lit hq rfl rfl (by decide))).mono fun v J l hv => ⟨_, hv, rfl⟩
theorem wr_u8 {x : Int} {P : Int -> Prop} (h0 : 0 <= x) (h1 : x <= 255) (h : P x) : Wr .u8 x P := by
 unfold Wr
 rw [IntKind.wrap_u8, Int.emod_eq_of_lt h0 (by omega)]; exact ⟨x, rfl, h⟩
theorem line_right {r : Rq} (hr : okRq r) (h : rightR r = true) {slot : Int} (hc : cleanE ⟨1, slot, 0, writeR r⟩ = true) : lineT ⟨1, slot, 0, writeR r⟩ = askB ++ 32 :: (Lib.itoa slot ++ 32 :: tx (wordsB r)) := by
 obtain ⟨_, h2⟩ := read_writeR hr h
 rw [lineT, if_neg (by rw [hc]; decide), if_neg (fun e => absurd (show (1 : Int) = 2 from e) (by decide)), if_neg (fun e => absurd (show (1 : Int) = 3 from e) (by decide)), h2, if_pos rfl]
def freeT (t : Tx) : Prop := ∀ c ∈ t, c ≠ 32 /\ c ≠ 10
theorem nameGo_in : ∀ (l : List Int) (b : Int) {x : Int}, nameGo l b = some x -> ∀ c ∈ l, c ≠ 32 /\ c ≠ 10
 | [], b, x, _, c, hc => by cases hc
 | d :: r, b, x, h, c, hc => by
  rw [nameGo] at h
  split at h
  · rename_i hs
    rcases List.mem_cons.1 hc with rfl | hc
    · refine ⟨?_, ?_⟩ <;> (rintro rfl; revert hs; simp [nameStep])
    · exact nameGo_in r d h c hc
  · cases h
theorem name_free {s : ByteArray} (h : nameB (strL s) = true) : freeT (tx s) := fun c hc => by
 simp only [nameB, Bool.and_eq_true] at h;have h4 := h.2.2.2
 cases hg : nameGo (strL s) 46 with
 | none => rw [hg] at h4; cases h4
 | some x =>
  have := nameGo_in _ _ hg (c.toNat : Int) (List.mem_map.2 ⟨c, hc, rfl⟩);refine ⟨?_, ?_⟩
  · rintro rfl; exact this.1 rfl
  · rintro rfl; exact this.2 rfl
theorem nameS_free (k : Int) : freeT (tx (nameS k)) := by
 rw [nameS]
 cases h : namesL[k.toNat]? with
 | none => intro c hc; simp [tx] at hc
 | some x =>
  have := List.mem_of_getElem? h;simp only [namesL, List.mem_cons, List.not_mem_nil, or_false] at this
  rcases this with rfl | rfl | rfl | rfl | rfl | rfl | rfl | rfl | rfl | rfl <;> (simp only [Option.getD_some]; unfold freeT; decide)
theorem askS_free (k : Int) : freeT (tx (askS k)) := by
 rw [askS]
 cases h : asksL[k.toNat]? with
 | none => intro c hc; simp [tx] at hc
 | some x =>
  have := List.mem_of_getElem? h;simp only [asksL, List.mem_cons, List.not_mem_nil, or_false] at this
  rcases this with rfl | rfl | rfl | rfl | rfl | rfl <;> (simp only [Option.getD_some]; unfold freeT; decide)
theorem itoa_free (n : Int) : freeT (Lib.itoa n) := fun c hc => ⟨(itoa_ok n c hc).1, (itoa_ok n c hc).2.1⟩
theorem word_free {bs : List Int} (h : byteL bs) : freeT (wordT bs) := fun c hc => word_ok h c hc
theorem field_free {r : Rq} (hf : byteL r.fed) (t : Int) : freeT (fieldT r t) := by
 unfold fieldT
 repeat' split
 · exact askS_free _
 · rename_i h; exact name_free h
 · exact word_free (strL_bytes _)
 · exact itoa_free _
 · exact word_free hf
 · exact itoa_free _
theorem words_free {r : Rq} (hf : byteL r.fed) : ∀ x ∈ (wordsL r).map tx, freeT x := fun x hx => by
 obtain ⟨w, hw, rfl⟩ := List.mem_map.1 hx;rw [wordsL] at hw
 rcases List.mem_cons.1 hw with rfl | hw
 · exact nameS_free _
 · obtain ⟨t, _, rfl⟩ := List.mem_map.1 hw
   rw [tx_strT]; exact field_free hf t
theorem free_no {t : Tx} (h : freeT t) : (32 : UInt8) ∉ t /\ (10 : UInt8) ∉ t := ⟨fun hc => (h 32 hc).1 rfl, fun hc => (h 10 hc).2 rfl⟩
theorem words_split {r : Rq} (hf : byteL r.fed) : splitC 32 (tx (wordsB r)) = (wordsL r).map tx := by
 rw [wordsB, joinB, tx_strT]
 exact split_join (by simp [wordsL]) fun x hx => (free_no (words_free hf x hx)).1
theorem readL_line {e : En} (hk : okEn e) (hc : cleanE e = true) (hl : (lineT e).length <= 32868) : readL (lineT e) = (e, 0) := by
 have key : entryW (pieces (lineT e)) = (e, true) := by
  obtain ⟨_, h3⟩ := clean_len hc;obtain ⟨kd, sl, n, bs⟩ := e
  simp only at h3
  rcases h3 with rfl | rfl | rfl
  · have hn : n = 0 := by
     simp only [cleanE, if_true, Bool.and_eq_true, decide_eq_true_eq] at hc;exact hc.2.1
    subst hn
    cases ha : accB bs with
    | true =>
     obtain ⟨ho, hr, hw, h0⟩ := read_back hk.bs ha
     have hlt : lineT ⟨1, sl, 0, bs⟩ = askB ++ 32 :: (Lib.itoa sl ++ 32 :: tx (wordsB (readR bs).1)) := by
      have := line_right ho hr (slot := sl) (by rw [hw]; exact hc)
      rwa [hw] at this
     have hsp : pieces (lineT ⟨1, sl, 0, bs⟩) = strT askB :: strT (Lib.itoa sl) :: wordsL (readR bs).1 := by
      rw [hlt, pieces, split_app (by decide), split_app (free_no (itoa_free sl)).1, words_split ho.fed, List.map_cons, List.map_cons, List.map_map]
      have : (strT ∘ tx) = id := by funext s; exact strT_tx s
      rw [this, List.map_id]
     have hwl : 0 < (wordsL (readR bs).1).length := by simp [wordsL]
     have e0 : ∀ (a b : ByteArray) (l : List ByteArray), wordAt (a :: b :: l) 0 = a := fun _ _ _ => rfl
     have hN : entN (strT askB :: strT (Lib.itoa sl) :: wordsL (readR bs).1) = sl := by
      rw [entN, if_pos (by simp)]
      show (numA (tx (strT (Lib.itoa sl)))).1 = sl
      rw [numA_itoa hk.slot]
     have hA : entAt (strT askB :: strT (Lib.itoa sl) :: wordsL (readR bs).1) = 1 := by
      rw [entAt, e0, if_neg (by decide)]
     have hE : askE sl (readR bs).1 = (⟨1, sl, 0, bs⟩, 0) := by
      rw [askE, if_pos hr, hw, if_pos hc]
     rw [hsp, entryW, e0, if_neg (by decide), hA, if_neg (by simp only [List.length_cons]; omega), if_neg (by decide), if_neg (by decide), if_pos rfl, hN]
     rw [show (strT askB :: strT (Lib.itoa sl) :: wordsL (readR bs).1).drop 2 = wordsL (readR bs).1 from rfl, ask_words ho ho.fed hr, if_pos rfl, hE]; rfl
    | false =>
     have hlt : lineT ⟨1, sl, 0, bs⟩ = rawB ++ 32 :: (Lib.itoa sl ++ 32 :: wordT bs) := by
      rw [lineT, if_neg (by rw [hc]; decide), if_neg (fun e => absurd (show (1 : Int) = 2 from e) (by decide)), if_neg (fun e => absurd (show (1 : Int) = 3 from e) (by decide)), read_bad ha, if_neg (by decide)]
     have hsp : pieces (lineT ⟨1, sl, 0, bs⟩) = [strT rawB, strT (Lib.itoa sl), strT (wordT bs)] := by
      rw [hlt, pieces, split_app (by decide), split_app (free_no (itoa_free sl)).1, split_free (free_no (word_free hk.bs)).1]; rfl
     have hN : entN [strT rawB, strT (Lib.itoa sl), strT (wordT bs)] = sl := by
      rw [entN, if_pos (by simp)]
      show (numA (tx (strT (Lib.itoa sl)))).1 = sl
      rw [numA_itoa hk.slot]
     have hA : entAt [strT rawB, strT (Lib.itoa sl), strT (wordT bs)] = 1 := by
      rw [entAt]; exact if_neg (by show ¬ strT rawB = strT pickB; decide)
     have e0 : wordAt [strT rawB, strT (Lib.itoa sl), strT (wordT bs)] 0 = strT rawB := rfl;have e2 : wordAt [strT rawB, strT (Lib.itoa sl), strT (wordT bs)] 2 = strT (wordT bs) := rfl
     rw [hsp, entryW, e0, if_neg (by decide), hA, if_neg (by simp), if_neg (by decide), if_pos rfl, hN, e2, tx_strT, unword_word hk.bs]; rfl
  · have he : (⟨2, sl, n, bs⟩ : En) = ⟨2, 0, 0, []⟩ := by
     rw [cleanE] at hc
     exact of_decide_eq_true (by simpa using hc)
    rw [he]
    decide +kernel
  · have he : (⟨3, sl, n, bs⟩ : En) = ⟨3, 0, n, []⟩ := by
     rw [cleanE] at hc
     simp only [show ¬ (3 : Int) = 1 by decide, show ¬ (3 : Int) = 2 by decide, if_false, if_true, Bool.and_eq_true, decide_eq_true_eq] at hc
     exact hc.2
    rw [he] at hc ⊢
    have hlt : lineT ⟨3, 0, n, []⟩ = pickB ++ 32 :: Lib.itoa n := by
     rw [lineT, if_neg (by rw [hc]; decide), if_neg (fun e => absurd (show (3 : Int) = 2 from e) (by decide)), if_pos rfl]
    have hsp : pieces (lineT ⟨3, 0, n, []⟩) = [strT pickB, strT (Lib.itoa n)] := by
     rw [hlt, pieces, split_app (by decide), split_free (free_no (itoa_free n)).1]; rfl
    have hN : entN [strT pickB, strT (Lib.itoa n)] = n := by
     rw [entN, if_pos (by simp)]
     show (numA (tx (strT (Lib.itoa n)))).1 = n
     rw [numA_itoa hk.n]
    have hA : entAt [strT pickB, strT (Lib.itoa n)] = 0 := by
     rw [entAt]; exact if_pos rfl
    have e0 : wordAt [strT pickB, strT (Lib.itoa n)] 0 = strT pickB := rfl
    rw [hsp, entryW, e0, if_neg (by decide), hA, if_neg (by simp), if_pos rfl, hN]
 rw [readL, key, if_pos ⟨hl, rfl, hc, rfl⟩]
def laidL : List (String × DataW Unit) := [("math/bits.deBruijn32tab", YthfgpdjplknleaaGreatDoor.Rows.laid_math_bits_deBruijn32tab), ("math/bits.deBruijn64tab", YthfgpdjplknleaaGreatDoor.Rows.laid_math_bits_deBruijn64tab), ("internal/strconv.uint64pow10", YthfgpdjplknleaaGreatDoor.Rows.laid_internal_strconv_uint64pow10), ("unicode/utf8.acceptRanges", YthfgpdjplknleaaGreatDoor.Rows.laid_unicode_utf8_acceptRanges), ("strconv.ErrRange", YthfgpdjplknleaaGreatDoor.Rows.laid_strconv_ErrRange), ("strconv.ErrSyntax", YthfgpdjplknleaaGreatDoor.Rows.laid_strconv_ErrSyntax), ("unicode/utf8.first", YthfgpdjplknleaaGreatDoor.Rows.laid_unicode_utf8_first)]
theorem gPow : Tryz.prog.globalNamed "internal/strconv.uint64pow10" = some 1 := by kernel_rfl
theorem gSyn : Tryz.prog.globalNamed "strconv.ErrSyntax" = some 2 := by kernel_rfl
theorem gRng : Tryz.prog.globalNamed "strconv.ErrRange" = some 3 := by kernel_rfl
theorem cell_to {W w : World} (hw : (memW W).inW w) {a : Addr} {v : Value} (h : W.cell? a = some v) (hs : a.spot = none) : w.cell? a = some v := by
 refine cellM_world hw ?_;unfold World.cell? at h;unfold cellM memW;rw [hs] at h ⊢
 cases hb : W.heap[a.block]? with
 | none => rw [hb] at h; simp at h
 | some o =>
  rw [hb] at h
  cases o <;> simp_all
theorem var_to {W w : World} (hw : (memW W).inW w) {n : String} {cs : Array Value} (h : W.var? Tryz.prog n = some cs) : w.var? Tryz.prog n = some cs := by
 unfold World.var? at h ⊢
 cases hg : Tryz.prog.globalNamed n with
 | none => rw [hg] at h; cases h
 | some g =>
  rw [hg] at h;simp only [Option.bind_some] at h ⊢
  cases hb : W.heap[g]? with
  | none => rw [hb] at h; cases h
  | some o =>
   have := hw g o hb;rw [hb] at h
   rw [this]; exact h
theorem starS : "*errors.errorString" = "*" ++ "errors.errorString" := by decide +kernel
theorem rowS : ∀ u, Tryz.prog.typeName? 3 u = some "*errors.errorString" -> u = 244 := fun u h =>
 typeName_ptr_named (nm := "errors.errorString") (by rw [<- starS]; kernel_rfl) (by kernel_rfl) (by decide) u (by rw [<- starS]; exact h)
theorem sent {W : World} {n : String} {text : List UInt8} {r : List (String × DataW Unit)} {g : Nat} (hg : Tryz.prog.globalNamed n = some g) (ht : (Tryz.prog.globals[g]?).map (·.type) = some 119)
 (h : laidMet Tryz.prog ((n, .iface "*errors.errorString" (.ptr (.agg [.lit (.string text)]))) :: r) W) : ∃ tp p, W.cell? ⟨g, 0, none⟩ = some (.iface tp p) := by
 obtain ⟨a, s, hv, _⟩ := laid_sentinel h hg ht Tryz.underlying119 rowS Tryz.underlying244 Tryz.underlying246 rfl rfl Tryz.underlying9 (by kernel_rfl) (by kernel_rfl)
 have := World.var?_cell hg hv 0;exact ⟨_, _, this⟩
theorem globs_of {W : World} (hsh : W.ShapedOpen Tryz.prog) (hL : laidMetH Tryz.prog laidL W) : Globs (memW W) := by
 rw [MakeChecks.laidMetH_plain _ _ _ (by kernel_rfl)] at hL
 obtain ⟨m, hm⟩ := cell_of_shapedOpen_int (P := Tryz.prog) (g := 0) (t := 3) (zero := #[.int .i64 0]) (k := .i64) hsh (of_decide_eq_true (by kernel_rfl)) (by kernel_rfl) rfl (by kernel_rfl) (by kernel_rfl) Tryz.underlying3
 have h1 : laidMet Tryz.prog (laidL.drop 2) W := hL.tail.tail
 have hT : Lib.TabIs Tryz.prog W "internal/strconv.uint64pow10" .u64 Lib.pow10Tab := Lib.tabIs_of_head (t := 224) (e := 100) (n := 20) gPow (by kernel_rfl) (by kernel_rfl) (by kernel_rfl) (by kernel_rfl) (by kernel_rfl) h1
 have h2 : laidMet Tryz.prog (laidL.drop 4) W := hL.tail.tail.tail.tail
 obtain ⟨t1, p1, hr⟩ := sent gRng (by kernel_rfl) h2
 obtain ⟨t2, p2, hs⟩ := sent gSyn (by kernel_rfl) h2.tail
 intro w hw;exact ⟨⟨m, cell_to hw hm rfl⟩, var_to hw hT, ⟨t2, p2, cell_to hw hs rfl⟩, ⟨t1, p1, cell_to hw hr rfl⟩⟩
section
variable {H : Type} {enc : TypeId × Value -> H} {W : World} {r : Reach} {b0 : Nat} {v : Value} {d : DataW H} {ps : List MemPlace}
end
def EnC (I : Mem) (c : List Value) (e : En) : Prop := okEn e /\ ∃ y, c = enV e y /\ BySl I y e.bs
theorem enC_mono (I J : Mem) (c : List Value) (e : En) (hle : I.le J) (h : EnC I c e) : EnC J c e := by
 obtain ⟨h1, y, h2, h3⟩ := h;exact ⟨h1, y, h2, h3.mono hle⟩
abbrev EnM (I : Mem) (a : Option Addr) (n : Nat) (l : List En) : Prop := SlR 4 EnC I a n l
theorem EnM.mono {I J : Mem} {a : Option Addr} {n : Nat} {l : List En} (h : EnM I a n l) (hle : I.le J) : EnM J a n l := SlR.mono enC_mono h hle
theorem EnM.ok {I : Mem} {a : Option Addr} {n : Nat} {l : List En} (h : EnM I a n l) : ∀ e ∈ l, okEn e := by
 obtain ⟨xs, _, hr⟩ := h;exact hr.all fun h => h.1
theorem EnM.get {I : Mem} {a : Option Addr} {n : Nat} {l : List En} (h : EnM I a n l) {j : Int} (h0 : 0 <= j) (h1 : j < n) :
 ∃ e b m c, l[j.toNat]? = some e /\ okEn e /\ BySl I (.slice b m c) e.bs /\ atI I a (j.toNat * 4 + 0) = some (.int .u8 e.kind) /\ atI I a (j.toNat * 4 + 1) = some (.int .i64 e.slot) /\ atI I a (j.toNat * 4 + 2) = some (.int .i64 e.n) /\ atI I a (j.toNat * 4 + 3) = some (.slice b m c) := by
 obtain ⟨e, c, g1, g2, ⟨g3, y, rfl, g4⟩, g5⟩ := SlR.at_ (by decide) h h0 h1
 have hb := g4;obtain ⟨b, m, cp, rfl, _⟩ := hb;exact ⟨e, b, m, cp, g1, g3, g4, g5 0 _ rfl, g5 1 _ rfl, g5 2 _ rfl, g5 3 _ rfl⟩
theorem joinC_sum (c : UInt8) : ∀ ws : List Tx, (joinC c ws).length <= (ws.map fun w => w.length + 1).sum
 | [] => by simp [joinC]
 | [x] => by simp [joinC]
 | x :: y :: r => by
  have := joinC_sum c (y :: r);rw [List.map_cons, List.sum_cons, joinC, List.length_append, List.length_cons];omega
theorem nameS_len (k : Int) : (nameS k).size <= 7 := by
 rw [nameS]
 cases h : namesL[k.toNat]? with
 | none => decide
 | some x =>
  have := List.mem_of_getElem? h;simp only [namesL, List.mem_cons, List.not_mem_nil, or_false] at this
  rcases this with rfl | rfl | rfl | rfl | rfl | rfl | rfl | rfl | rfl | rfl <;> decide
theorem askS_len (k : Int) : (askS k).size <= 7 := by
 rw [askS]
 cases h : asksL[k.toNat]? with
 | none => decide
 | some x =>
  have := List.mem_of_getElem? h;simp only [asksL, List.mem_cons, List.not_mem_nil, or_false] at this
  rcases this with rfl | rfl | rfl | rfl | rfl | rfl <;> decide
theorem field_sz {r : Rq} (hr : okRq r) (h : rightR r = true) {t : Int} (ht : t ≠ 11) : (fieldT r t).length <= 511 := by
 obtain ⟨_, hn, _, _⟩ := right_tag h;have h1 : (tx r.name).length = r.name.size := Array.length_toList;have h2 := strL_len r.name;have h3 := askS_len r.what;have h4 : (tx (askS r.what)).length = (askS r.what).size := Array.length_toList;have h5 := itoa_len hr.val;have h6 := itoa_len (num_ok hr t);unfold fieldT;split
 · omega
 · split
   · split
     · omega
     · rw [word_len]; omega
   · split
     · omega
     · first
       | (rw [if_neg ht]; omega)
       | omega
theorem wordsB_len {r : Rq} (hr : okRq r) (h : rightR r = true) : (wordsB r).size <= 31000 := by
 obtain ⟨h1, hn, hf, _⟩ := right_tag h;have hs := tagL_shape h1;have hnm := nameS_len r.kind;have hnm' : (tx (nameS r.kind)).length = (nameS r.kind).size := Array.length_toList;rw [wordsB, joinB, strT_size];refine Nat.le_trans (joinC_sum _ _) ?_;rw [wordsL, List.map_cons, List.map_cons, List.sum_cons, List.map_map, List.map_map]
 have key : ∀ ts : List Int, (11 : Int) ∉ ts -> (ts.map (((fun w : Tx => w.length + 1) ∘ tx) ∘ fun t => strT (fieldT r t))).sum <= 512 * ts.length := by
  intro ts
  induction ts with
  | nil => intro _; simp
  | cons t ts ih =>
   intro hn;simp only [List.mem_cons, not_or] at hn;have := ih hn.2;have hb := field_sz hr h (t := t) (fun e => hn.1 e.symm);rw [List.map_cons, List.sum_cons, List.length_cons];simp only [Function.comp, tx_strT] at this ⊢;omega
 simp only [shapesL, List.mem_cons, List.not_mem_nil, or_false] at hs
 by_cases hq : tagsR r = [11]
 · rw [hq]
   have : (fieldT r 11).length = 1 + 2 * r.fed.length := word_len _;simp only [List.map_cons, List.map_nil, List.sum_cons, List.sum_nil, Function.comp, tx_strT, this];omega
 · have hk : (11 : Int) ∉ tagsR r /\ (tagsR r).length <= 4 := by
    rcases hs with hs | hs | hs | hs | hs | hs | hs | hs | hs | hs | hs | hs
    · exact absurd hs hq
    all_goals (rw [hs]; decide)
   have := key _ hk.1;omega
theorem lineT_len {e : En} (hk : okEn e) (hc : cleanE e = true) : (lineT e).length <= 32868 := by
 obtain ⟨hl, _⟩ := clean_len hc;have h1 := itoa_len hk.slot;have h2 := itoa_len hk.n;unfold lineT;split
 · simp
 · split
   · decide
   · split
     · simp only [List.length_append, List.length_cons, pickB, List.length_nil]; omega
     · split
       · rename_i h0
         have ha : accB e.bs = true := by
          cases ha : accB e.bs with
          | true => rfl
          | false => rw [read_bad ha] at h0; cases h0
         obtain ⟨ho, hr, _, _⟩ := read_back hk.bs ha;have := wordsB_len ho hr;have h3 : (tx (wordsB (readR e.bs).1)).length = (wordsB (readR e.bs).1).size := Array.length_toList
         simp only [List.length_append, List.length_cons, askB, List.length_nil]; omega
       · simp only [List.length_append, List.length_cons, rawB, List.length_nil, word_len]; omega
theorem read_line {e : En} (hk : okEn e) (hc : cleanE e = true) : readL (lineT e) = (e, 0) := readL_line hk hc (lineT_len hk hc)
def linesT : Tx -> List Tx
 | [] => []
 | b :: r => if b = 10 then [] :: linesT r else match linesT r with
  | [] => [[b]]
  | x :: xs => (b :: x) :: xs
theorem idx10_hit : ∀ (x r : Tx), (10 : UInt8) ∉ x -> Lib.indexByte (x ++ 10 :: r) 10 = x.length
 | [], r, _ => by simp [Lib.indexByte]
 | b :: x, r, h => by
  simp only [List.mem_cons, not_or] at h
  rw [List.cons_append, Lib.indexByte, idx10_hit x r h.2, if_neg (by simpa using fun e => h.1 e.symm), if_neg (by simp)]
  simp
theorem idx10_miss : ∀ (x : Tx), (10 : UInt8) ∉ x -> Lib.indexByte x 10 = -1
 | [], _ => rfl
 | b :: x, h => by
  simp only [List.mem_cons, not_or] at h
  rw [Lib.indexByte, idx10_miss x h.2, if_neg (by simpa using fun e => h.1 e.symm)]
  simp
theorem cut_hit (x r : Tx) (h : (10 : UInt8) ∉ x) : cutT (x ++ 10 :: r) = (x, r, true) := by
 rw [cutT, Lib.cut, Lib.index_one, idx10_hit x r h, if_pos (by omega)]
 simp only [Int.toNat_natCast, List.length_singleton]
 rw [List.take_left', List.drop_append, List.drop_of_length_le (by omega), show x.length + 1 - x.length = 1 by omega]
 · rfl
 · rfl
theorem cut_miss (x : Tx) (h : (10 : UInt8) ∉ x) : cutT x = (x, [], false) := by
 rw [cutT, Lib.cut, Lib.index_one, idx10_miss x h, if_neg (by omega)]
theorem lines_hit (x r : Tx) (h : (10 : UInt8) ∉ x) : linesT (x ++ 10 :: r) = x :: linesT r := by
 induction x with
 | nil => rw [List.nil_append, linesT, if_pos rfl]
 | cons b x ih =>
  simp only [List.mem_cons, not_or] at h;rw [List.cons_append, linesT, if_neg (fun e => h.1 e.symm), ih h.2]
theorem lines_miss {x : Tx} (h : (10 : UInt8) ∉ x) (hne : x ≠ []) : linesT x = [x] := by
 induction x with
 | nil => exact absurd rfl hne
 | cons b x ih =>
  simp only [List.mem_cons, not_or] at h;rw [linesT, if_neg (fun e => h.1 e.symm)]
  by_cases hx : x = []
  · subst hx; rfl
  · rw [ih h.2 hx]
theorem lines_cut {t : Tx} (h : t ≠ []) : linesT t = (cutT t).1 :: linesT (cutT t).2.1 /\ (cutT t).2.1.length < t.length /\ (cutT t).1.length <= t.length := by
 by_cases hc : (10 : UInt8) ∈ t
 · obtain ⟨x, r, rfl, hx⟩ := List.eq_append_cons_of_mem hc
   rw [cut_hit x r hx, lines_hit x r hx];simp only [List.length_append, List.length_cons]
   exact ⟨trivial, by omega, by omega⟩
 · rw [cut_miss t hc, lines_miss hc h]
   refine ⟨rfl, ?_, Nat.le_refl _⟩
   show 0 < t.length
   exact List.length_pos_iff.2 h
theorem lines_len : ∀ (n : Nat) (t : Tx), t.length <= n -> (linesT t).length <= t.length /\ ∀ x ∈ linesT t, x.length <= t.length
 | 0, t, h => by
  have : t = [] := List.eq_nil_of_length_eq_zero (by omega)
  subst this; exact ⟨Nat.le_refl _, fun x hx => by cases hx⟩
 | n + 1, t, h => by
  by_cases ht : t = []
  · subst ht; exact ⟨Nat.le_refl _, fun x hx => by cases hx⟩
  · obtain ⟨h1, h2, h3⟩ := lines_cut ht
    obtain ⟨g1, g2⟩ := lines_len n (cutT t).2.1 (by omega)
    rw [h1]
    refine ⟨by rw [List.length_cons]; omega, fun x hx => ?_⟩
    rcases List.mem_cons.1 hx with rfl | hx
    · exact h3
    · exact Nat.le_trans (g2 x hx) (by omega)
def skipT (s : Tx) : Bool := decide (s = []) || decide (s.head? = some 35)
def parseGo : List Tx -> Int -> List En -> List En × Int × Int
 | [], _, out => (out, 0, 0)
 | s :: r, n, out => if skipT s then parseGo r (n + 1) out
  else if (readL s).2 ≠ 0 then ([], n, (readL s).2)
  else if 4000 <= out.length then ([], n, 5)
  else parseGo r (n + 1) (out ++ [(readL s).1])
def parseL (t : Tx) : List En × Int × Int := if 1048576 < t.length then ([], 0, 3) else parseGo (linesT t) 1 []
def ownL (text : ByteArray) (fv : Value) (G : Mem) : Prop := ∃ b, fv = .func (.func 112) #[] #[.pointer (some ⟨b, 0, none⟩)] /\ G b = some (.cells #[.string text] 9 (0, 0)) /\ ∀ k, k ≠ b -> G k = none
theorem cs80 (text : ByteArray) (I : Mem) : CtS Tryz.prog (.v (fnv 80)) [.v (.string text)] [] I (fun sv H' _ => sv = .fn (.func 112) [] [.ptr 0 0] /\ H' = [⟨.cells [.v (.string text)] 9, none⟩]) := by
 refine viaR (ctS_via (A := { }) Tryz.func80 rfl Tryz.call80 [0] rfl) (Rf (SV.fn (.func 112) [] [.ptr 0 0]) /\ Rf [Ent.mk (.cells [.v (.string text)] 9) none]) (by kernel_rfl) ?_
 exact ⟨rfl, rfl⟩
theorem ch80 (text : ByteArray) (I : Mem) : CtH Tryz.prog (fnv 80) #[.string text] I Mem.emp (fun v _ G' => ownL text v G') := by
 have h := cs80 text I ⟨fun _ => 0, fun _ => 0, fun _ => false⟩ Mem.emp ⟨fun id x hx => by simp at hx, fun i j x y hx => by simp at hx, fun b hb => absurd rfl hb, fun id x b hx => by simp at hx⟩
 simp only [denL, den] at h;refine CtH.mono h fun v I' G' _ ⟨e', sv, H', hv, hO, hsv, hH⟩ => ?_;subst hsv hH;obtain ⟨hn, c, hc, hcs, hcv⟩ := hO.hold 0 _ rfl rfl
 have e0 : c[0]? = some (.string text) := by have := hcv 0 (.v (.string text)) rfl rfl; simpa [den] using this
 have hsz : c.size = 1 := hcs
 have hceq : c = #[.string text] := by
  apply Array.ext_getElem?;intro i
  match i with
  | 0 => simpa using e0
  | i + 1 => rw [Array.getElem?_eq_none (by omega), Array.getElem?_eq_none (by simp)]
 refine ⟨e'.blk 0, by rw [hv]; simp [den, denL], by rw [hc, hceq], fun k hk => ?_⟩
 cases hq : G' k with
 | none => rfl
 | some o =>
  obtain ⟨id, x, hx, _, _, hb⟩ := hO.dom k (by rw [hq]; simp)
  match id, hx with
  | 0, _ => exact absurd hb.symm hk
def encL (L : List Tx) (k : Nat) (args : Array Value) (_ : Mem) : Prop := ∃ s, L[k]? = some s /\ args = #[.int .i64 ((k : Int) + 1), .string (strT s)]
theorem join_emp (G : Mem) : join G Mem.emp = G := by
 funext b
 cases h : G b with
 | some o => rw [join_some h]
 | none => rw [join_none h]; rfl
set_option maxHeartbeats 1000000 in
theorem gives112 (text : ByteArray) (ht : text.size <= 10000000) (fv : Value) (I G0 : Mem) (hG : Globs I) (h0 : ownL text fv G0) :
 GivesR Tryz.prog fv I (linesT (tx text)).length (encL (linesT (tx text))) (ownL text fv) (fun _ _ => True) := by
 obtain ⟨b0, hfv, _, _⟩ := h0;subst hfv;refine ⟨fun Y W => ⟨112, _, run_semV_func.trans (Tryz.call112 _ _)⟩, fun Y J D I0 Gc Gr hI0 hJ0 hR0 hap hJ hD hY => ?_⟩;obtain ⟨b, hb, hGb, hGk⟩ := hR0;simp only [Value.func.injEq, true_and] at hb
 have hbb : b0 = b := by simpa using hb
 subst hbb;obtain ⟨WI, hWI⟩ : ∃ f : Mem -> Mem -> Int -> ByteArray -> Prop, f = fun I' G' n s => ∃ k : Nat, n = (k : Int) + 1 /\ k <= (linesT (tx text)).length /\ linesT (tx s) = (linesT (tx text)).drop k /\ s.size <= text.size /\ J k I' G' := ⟨_, rfl⟩
 have hO : OwnE ⟨fun _ => b0, fun _ => 0, fun _ => false⟩ [⟨.cells [.v (.string text)] 9, some b0⟩] Gr := by
  refine ⟨fun id x hx hal => ?_, fun i j x y hi hj _ _ _ _ hij => ?_, fun k hk => ?_, fun id x k hx hnm => ?_⟩
  · match id, hx with
    | 0, hx =>
     cases hx;refine ⟨rfl, _, hGb, rfl, fun k sv hk hj => ?_⟩
     match k, hk with
     | 0, hk => cases hk; simp [den]
  · match i, j, hi, hj with
    | 0, 0, _, _ => exact absurd rfl hij
  · by_cases hkb : k = b0
    · exact ⟨0, _, rfl, rfl, rfl, hkb.symm⟩
    · exact absurd (hGk k hkb) hk
  · match id, hx with
    | 0, hx => cases hx; cases hnm; exact ⟨rfl, rfl⟩
 refine viaR (ctGS_via (A := { loops := [(1, ⟨[(0, .keep), (1, .keep), (3, .sh (.int .i64))], [(0, .cells [.sh .str])], [], fun vals _ I' G' => match vals with | [.int .i64 n, .string s] => WI I' G' n s | _ => False, fun vals _ => match vals with | [_, .string s] => s.size | _ => 0⟩)], calls := [(20, .g)] }) Tryz.func112 rfl Tryz.call112 (sargs := [.v Y, .ptr 0 0]) hO hap (by simp [denL, den]) rfl) ((Rf (SV.v Y) /\ Rf (SV.ptr 0 0) /\ Rf (some b0) /\ WI I0 Gc 1 text) /\ ∀ (a G : Mem), Mem.le I0 a -> ∀ (n : Int) (q : ByteArray), WI a G n q -> Br (!(q.toList == (ByteArray.mk #[]).toList)) (Ct Tryz.prog (fnv 113) #[.string q, .string ⟨#[10]⟩] a (fun v b => ∃ c d e, v = .tuple #[.string c, .string d, .bool e] /\ CtH Tryz.prog Y #[.int .i64 n, .string c] b G fun f g h => ∃ i, f = .bool i /\ Br (!i) (∃ j k, h = join j k /\ (∀ (l : Nat), j l = none \/ k l = none) /\ (J (linesT (tx text)).length g j /\ True \/ D g j)) (Wr .i64 (n + 1) (fun j => Rf (SV.v Y) /\ Rf (SV.ptr 0 0) /\ Rf (some b0) /\ WI g h j d /\ d.size < q.size)))) (∃ b c, G = join b c /\ (∀ (d : Nat), b d = none \/ c d = none) /\ (J (linesT (tx text)).length a b /\ True \/ D a b))) (by kernel_rfl) ?_
 refine ⟨⟨rfl, rfl, rfl, by rw [hWI]; exact ⟨0, rfl, by omega, by simp, Nat.le_refl _, hJ0⟩⟩, fun a G la n q hq => ?_⟩
 rw [hWI] at hq;obtain ⟨k, hn, hk, hl, hsz, hJk⟩ := hq;have hle := (lines_len _ (tx text) (Nat.le_refl _)).1;have htl : (tx text).length = text.size := Array.length_toList;rw [str_eq];refine Br.mk (fun h => ?_) (fun h => ?_)
 · have hne : tx q ≠ [] := fun e => by
    have : q = ⟨#[]⟩ := by rw [<- strT_tx q, e]; rfl
    rw [decide_eq_true this] at h; cases h
   obtain ⟨h1, h2, h3⟩ := lines_cut hne;have hql : (tx q).length = q.size := Array.length_toList
   refine (ct113 q (by omega) a (hG.mono (Mem.le_trans hI0 la))).mono fun v b lb hv => ⟨_, _, _, hv, ?_⟩
   rw [h1] at hl
   have hlt : k < (linesT (tx text)).length := by
    rcases Nat.lt_or_ge k (linesT (tx text)).length with hk2 | hk2
    · exact hk2
    · rw [List.drop_eq_nil_of_le hk2] at hl; cases hl
   have hdrop := List.drop_eq_getElem_cons hlt;rw [hdrop] at hl;simp only [List.cons.injEq] at hl
   have hg : (linesT (tx text))[k]? = some (cutT (tx q)).1 := by rw [List.getElem?_eq_getElem hlt, hl.1]
   refine CtH.mono (hY k b G _ hlt (Mem.le_trans la lb) (hJ k _ _ G hJk lb) ⟨_, hg, by rw [hn]⟩) fun f g h2' lg hf => ?_
   rcases hf with ⟨hv, hJ2⟩ | ⟨hv, hD2⟩
   · refine ⟨true, hv, Br.f rfl (wr_i64 (by omega) (by omega) ⟨rfl, rfl, rfl, ?_, by rw [strT_size]; omega⟩)⟩
     rw [hWI]
     exact ⟨k + 1, by omega, by omega, by rw [tx_strT]; exact hl.2, by rw [strT_size]; omega, hJ2⟩
   · exact ⟨false, hv, Br.t rfl ⟨h2', Mem.emp, (join_emp _).symm, fun l => .inr rfl, .inr hD2⟩⟩
 · have he : q = ⟨#[]⟩ := by simpa using h
   have ht0 : tx q = [] := by rw [he]; rfl
   rw [ht0] at hl
   have hk2 : (linesT (tx text)).length <= k := by
    rcases Nat.lt_or_ge k (linesT (tx text)).length with hk2 | hk2
    · rw [List.drop_eq_getElem_cons hk2] at hl; cases hl
    · exact hk2
   have : k = (linesT (tx text)).length := by omega
   rw [this] at hJk;exact ⟨G, Mem.emp, (join_emp _).symm, fun l => .inr rfl, .inl ⟨hJk, trivial⟩⟩
def ParsI (t : Tx) (I : Mem) (k : Nat) (xs : List Value) : Prop := ∃ out : List En, RowR 4 EnC I xs out /\ out.length <= 4000 /\ parseGo (linesT t) 1 [] = parseGo ((linesT t).drop k) ((k : Int) + 1) out
set_option maxHeartbeats 2000000 in
theorem ct36 (text : ByteArray) (ht : text.size <= 10000000) (I : Mem) (hG : Globs I) :
 Ct Tryz.prog (fnv 36) #[.string text] I (fun v I' => ∃ a n c, v = .tuple #[.slice a n c, .int .i64 (parseL (tx text)).2.1, .int .i64 (parseL (tx text)).2.2] /\ EnM I' a n (parseL (tx text)).1 /\ n <= c /\ c <= maxLen) := by
 obtain ⟨Q, hQ⟩ : ∃ q : Value -> Mem -> Prop, q = fun v I' => ∃ a n c, v = .tuple #[.slice a n c, .int .i64 (parseL (tx text)).2.1, .int .i64 (parseL (tx text)).2.2] /\ EnM I' a n (parseL (tx text)).1 /\ n <= c /\ c <= maxLen := ⟨_, rfl⟩;obtain ⟨XI, hXI⟩ : ∃ f, f = ParsI (tx text) := ⟨_, rfl⟩;obtain ⟨ZI, hZI⟩ : ∃ f : Option Addr -> Nat -> Nat -> Int -> Int -> Prop, f = fun a m d n f => a = none /\ m = 0 /\ d = 0 /\ parseL (tx text) = ([], n, f) := ⟨_, rfl⟩;obtain ⟨L, hL⟩ : ∃ q, q = linesT (tx text) := ⟨_, rfl⟩;obtain ⟨R0, hR0⟩ : ∃ f, f = ownL text := ⟨_, rfl⟩
 obtain ⟨R1, hR1⟩ : ∃ f : Value -> Mem -> Mem -> Prop, f = fun _ _ _ => True := ⟨_, rfl⟩;rw [<- hQ]
 refine viaR (ct_via (A := { calls := [(14, .g)], rfs := [(7, { n := L.length, enc := encL L, ps := [.sh (.int .i64), .sh .str], pre := [(5, 4, 35)], ents := [(0, .keep), (1, .keep), (2, .keep), (3, .cells [.row 4]), (4, .row)], inv := (fun k vals xss I' _ => match xss with | [xs] => XI I' k xs | _ => False), jumps := [(.ret, [(0, .cells [.sh .sl]), (1, .cells [.sh (.int .i64)]), (2, .cells [.sh (.int .i64)])], fun vals _ _ _ => match vals with | [.slice a m d, .int .i64 n, .int .i64 f] => ZI a m d n f | _ => False)], gst := some (R0, R1) })] }) Tryz.func36 rfl Tryz.call36 rfl rfl) (let E1 := fun (x : Loop) => .loop ⟨.ready, none, x.fn, x.tmps, x.params, x.assign, x.body, x.defers⟩
  Br (decide (1048576 < (text.size : Int))) (Q (.tuple #[.slice none 0 0, .int .i64 0, .int .i64 3]) I) (CtH Tryz.prog (fnv 80) #[.string text] I Mem.emp (fun v a G => ∃ x, v = x /\ ∀ (b c d e f g : Nat) (r : Loop), GivesR Tryz.prog x a L.length (encL L) (R0 x) (R1 x) /\ R0 x G /\ (∀ (k : Nat) (h : Array Value) (i : Mem), encL L k h i -> psOk [.sh (.int .i64), .sh .str] h.toList = true) /\ (Rf (Ent.mk (.cells [.v (.slice none 0 0)] 29) (some b)) /\ Rf (Ent.mk (.cells [.v (.int .i64 0)] 3) (some c)) /\ Rf (Ent.mk (.cells [.v (.int .i64 0)] 41) (some d)) /\ Rf (Ent.mk (.raw (.deferred (some []))) (some f)) /\ Rf (Ent.mk (.raw (E1 r)) (some g)) /\ Rf (some e) /\ (0 : Nat) = 0 /\ ((b = b /\ c = c /\ d = d /\ e = e /\ f = f /\ g = g /\ True) /\ Rf (E1 r)) /\ XI a 0 []) /\ (∀ (k : Nat) (h : Mem), k < L.length -> a.le h -> ∀ (i : List Value), XI h k i -> ∀ (j : Mem), h.le j -> ∀ (n : Int) (q : ByteArray), encL L k #[.int .i64 n, .string q] j -> Rf (E1 r) /\ Rf (some g) /\ Br (q.toList == (ByteArray.mk #[]).toList) (Rf (Obj.loop ⟨.busy, none, r.fn, r.tmps, r.params, r.assign, r.body, r.defers⟩) /\ Rf (some g) /\ Mem.emp = Mem.emp /\ Rf (Ent.mk (.cells [.v (.slice none 0 0)] 29) (some b)) /\ Rf (Ent.mk (.cells [.v (.int .i64 0)] 3) (some c)) /\ Rf (Ent.mk (.cells [.v (.int .i64 0)] 41) (some d)) /\ Rf (Ent.mk (.raw (.deferred (some []))) (some f)) /\ Rf (Ent.mk (.raw (E1 r)) (some g)) /\ Rf (some e) /\ Rf (i.length / 4) /\ ((b = b /\ c = c /\ d = d /\ e = e /\ f = f /\ g = g /\ True) /\ Rf (E1 r)) /\ XI j (k + 1) i) (∃ l, q.data.toList[0]? = some l /\ (0 : Int) <= 0 /\ Br ((l.toNat : Int) == 35) (Rf (Obj.loop ⟨.busy, none, r.fn, r.tmps, r.params, r.assign, r.body, r.defers⟩) /\ Rf (some g) /\ Mem.emp = Mem.emp /\ Rf (Ent.mk (.cells [.v (.slice none 0 0)] 29) (some b)) /\ Rf (Ent.mk (.cells [.v (.int .i64 0)] 3) (some c)) /\ Rf (Ent.mk (.cells [.v (.int .i64 0)] 41) (some d)) /\ Rf (Ent.mk (.raw (.deferred (some []))) (some f)) /\ Rf (Ent.mk (.raw (E1 r)) (some g)) /\ Rf (some e) /\ Rf (i.length / 4) /\ ((b = b /\ c = c /\ d = d /\ e = e /\ f = f /\ g = g /\ True) /\ Rf (E1 r)) /\ XI j (k + 1) i) (Ct Tryz.prog (fnv 38) #[.string q] j (fun m o => ∃ p s t u w y z, m = .tuple #[.agg #[.int .u8 p, .int .i64 s, .int .i64 t, .slice u w y], .int .i64 z] /\ Br (z == 0) (Br (decide (4000 <= ((i.length / 4 : Nat) : Int))) (Rf (Obj.loop ⟨.busy, none, r.fn, r.tmps, r.params, r.assign, r.body, r.defers⟩) /\ Rf (some g) /\ Mem.emp = Mem.emp /\ Rf (Ent.mk (.raw (.deferred (some []))) (some f)) /\ Rf (Ent.mk (.raw (.loop ⟨.done, some .ret, r.fn, r.tmps, r.params, r.assign, r.body, r.defers⟩)) (some g)) /\ Rf (some b) /\ Rf (some c) /\ Rf (some d) /\ ((b = b /\ c = c /\ d = d /\ f = f /\ g = g /\ True) /\ Rf (Obj.loop ⟨.done, some .ret, r.fn, r.tmps, r.params, r.assign, r.body, r.defers⟩)) /\ ZI none 0 0 n 5) (Br (z != 0) (Rf (Obj.loop ⟨.busy, none, r.fn, r.tmps, r.params, r.assign, r.body, r.defers⟩) /\ Rf (some g) /\ Mem.emp = Mem.emp /\ Rf (Ent.mk (.raw (.deferred (some []))) (some f)) /\ Rf (Ent.mk (.raw (.loop ⟨.done, some .ret, r.fn, r.tmps, r.params, r.assign, r.body, r.defers⟩)) (some g)) /\ Rf (some b) /\ Rf (some c) /\ Rf (some d) /\ ((b = b /\ c = c /\ d = d /\ f = f /\ g = g /\ True) /\ Rf (Obj.loop ⟨.done, some .ret, r.fn, r.tmps, r.params, r.assign, r.body, r.defers⟩)) /\ ZI none 0 0 n z) (i.length = i.length / 4 * 4 /\ i.length / 4 + 1 <= 9223372036854775807 /\ (i.length / 4 + 1) * 48 <= 140737488355328 /\ Rf (Obj.loop ⟨.busy, none, r.fn, r.tmps, r.params, r.assign, r.body, r.defers⟩) /\ Rf (some g) /\ Mem.emp = Mem.emp /\ Rf (Ent.mk (.cells [.v (.slice none 0 0)] 29) (some b)) /\ Rf (Ent.mk (.cells [.v (.int .i64 0)] 3) (some c)) /\ Rf (Ent.mk (.cells [.v (.int .i64 0)] 41) (some d)) /\ Rf (Ent.mk (.raw (.deferred (some []))) (some f)) /\ Rf (Ent.mk (.raw (E1 r)) (some g)) /\ Rf (some e) /\ i.length / 4 + 1 = List.length (i ++ [.int .u8 p, .int .i64 s, .int .i64 t, .slice u w y]) / 4 /\ ((b = b /\ c = c /\ d = d /\ e = e /\ f = f /\ g = g /\ True) /\ Rf (E1 r)) /\ XI o (k + 1) (i ++ [.int .u8 p, .int .i64 s, .int .i64 t, .slice u w y])))) (Br (z != 0) (Rf (Obj.loop ⟨.busy, none, r.fn, r.tmps, r.params, r.assign, r.body, r.defers⟩) /\ Rf (some g) /\ Mem.emp = Mem.emp /\ Rf (Ent.mk (.raw (.deferred (some []))) (some f)) /\ Rf (Ent.mk (.raw (.loop ⟨.done, some .ret, r.fn, r.tmps, r.params, r.assign, r.body, r.defers⟩)) (some g)) /\ Rf (some b) /\ Rf (some c) /\ Rf (some d) /\ ((b = b /\ c = c /\ d = d /\ f = f /\ g = g /\ True) /\ Rf (Obj.loop ⟨.done, some .ret, r.fn, r.tmps, r.params, r.assign, r.body, r.defers⟩)) /\ ZI none 0 0 n z) (i.length = i.length / 4 * 4 /\ i.length / 4 + 1 <= 9223372036854775807 /\ (i.length / 4 + 1) * 48 <= 140737488355328 /\ Rf (Obj.loop ⟨.busy, none, r.fn, r.tmps, r.params, r.assign, r.body, r.defers⟩) /\ Rf (some g) /\ Mem.emp = Mem.emp /\ Rf (Ent.mk (.cells [.v (.slice none 0 0)] 29) (some b)) /\ Rf (Ent.mk (.cells [.v (.int .i64 0)] 3) (some c)) /\ Rf (Ent.mk (.cells [.v (.int .i64 0)] 41) (some d)) /\ Rf (Ent.mk (.raw (.deferred (some []))) (some f)) /\ Rf (Ent.mk (.raw (E1 r)) (some g)) /\ Rf (some e) /\ i.length / 4 + 1 = List.length (i ++ [.int .u8 p, .int .i64 s, .int .i64 t, .slice u w y]) / 4 /\ ((b = b /\ c = c /\ d = d /\ e = e /\ f = f /\ g = g /\ True) /\ Rf (E1 r)) /\ XI o (k + 1) (i ++ [.int .u8 p, .int .i64 s, .int .i64 t, .slice u w y]))))))) /\ (∀ (h : Mem), a.le h -> ∀ (i : List Value), XI h L.length i -> ∀ (j k : Mem), h.le j -> R1 x j k -> ∀ (l : Option Addr) (m : Nat) (n : Mem), j.le n -> RowM n l m 4 i -> Q (.tuple #[.slice l (i.length / 4) m, .int .i64 0, .int .i64 0]) n) /\ ∀ (h : Mem), a.le h -> ∀ (i : Option Addr) (n j : Nat) (k l : Int), ZI i n j k l -> ∀ (m : Mem), Mem -> h.le m -> Q (.tuple #[.slice i n j, .int .i64 k, .int .i64 l]) m))) (by kernel_rfl) ?_
 intro E1;simp only [Rf, eq_self, true_and, and_true];have htl : (tx text).length = text.size := Array.length_toList
 refine Br.mk (fun h => ?_) (fun h => CtH.mono (ch80 text I) fun v a G la hv => ⟨v, rfl, fun b c d e f g r => ⟨by rw [hL, hR0, hR1]; exact gives112 text ht v a G (hG.mono la) hv, by rw [hR0]; exact hv, ?_, ?_, ?_, ?_, ?_⟩⟩)
 · have h := of_decide_eq_true h
   have : parseL (tx text) = ([], 0, 3) := by rw [parseL, if_pos (by omega)]
   rw [hQ, this];exact ⟨none, 0, 0, rfl, SlR.nil, Nat.le_refl _, Nat.zero_le _⟩
 · rintro k args J ⟨s, _, rfl⟩; rfl
 · rw [hXI]; exact ⟨[], rfl, Nat.zero_le _, by simp⟩
 all_goals have h := of_decide_eq_false h
 all_goals have hpl : parseL (tx text) = parseGo (linesT (tx text)) 1 [] := by rw [parseL, if_neg (by omega)]
 all_goals have hlen := lines_len _ (tx text) (Nat.le_refl _)
 · intro k J hk lJ xs hxs K lK n q hq
   obtain ⟨s, hs, hnq⟩ := hq;simp only [Array.mk.injEq, List.cons.injEq, Value.int.injEq, Value.string.injEq, true_and, and_true] at hnq;obtain ⟨rfl, rfl⟩ := hnq;rw [hXI] at hxs;obtain ⟨out, hr, ho, hp⟩ := hxs;rw [hL] at hs hk;have hdrop := List.drop_eq_getElem_cons hk
   have hsk : (linesT (tx text))[k] = s := by rw [List.getElem?_eq_getElem hk] at hs; exact Option.some.inj hs
   rw [hdrop, hsk, parseGo] at hp
   have hsl : s.length <= text.size := by rw [<- htl]; exact hlen.2 s (by rw [<- hsk]; exact List.getElem_mem _)
   have hxl : xs.length / 4 = out.length := by rw [hr.len]; omega
   have skip : skipT s = true -> XI K (k + 1) xs := fun hsk => by
    rw [hXI];refine ⟨out, hr.mono enC_mono lK, ho, ?_⟩;rw [hp, hsk, if_pos rfl]
    congr 1
   rw [str_eq];refine Br.mk (fun h1 => ?_) (fun h1 => ?_)
   · have h1 : strT s = ⟨#[]⟩ := of_decide_eq_true h1
     have hs0 : s = [] := by have := congrArg tx h1; rwa [tx_strT] at this
     have := skip (by rw [skipT, hs0]; rfl)
     simpa using this
   have h1 : strT s ≠ ⟨#[]⟩ := of_decide_eq_false h1
   have hs0 : s ≠ [] := fun e => h1 (by rw [e]; rfl)
   obtain ⟨c0, r0, hsc⟩ : ∃ c r, s = c :: r := by
    cases s with
    | nil => exact absurd rfl hs0
    | cons c r => exact ⟨c, r, rfl⟩
   refine ⟨c0, by rw [hsc]; rfl, by omega, Br.mk (fun h2 => ?_) (fun h2 => ?_)⟩
   · have h2 : c0 = 35 := by
      have : (c0.toNat : Int) = 35 := by simpa using h2
      exact UInt8.toNat_inj.1 (by rw [show (35 : UInt8).toNat = 35 by decide]; omega)
     have := skip (by rw [skipT, hsc, h2]; simp)
     simpa using this
   have h2 : c0 ≠ 35 := fun e => by subst e; simp at h2
   have hsk2 : skipT s = false := by rw [skipT, hsc]; simp [h2]
   rw [hsk2] at hp;simp only [Bool.false_eq_true, if_false] at hp
   refine (ct38 (strT s) (by rw [strT_size]; omega) K (hG.mono (Mem.le_trans la (Mem.le_trans lJ lK)))).mono fun m o lo ⟨y, hv, hy⟩ => ?_
   rw [tx_strT] at hv hy;have hy' := hy;obtain ⟨u, w, z, rfl, _, _, _⟩ := hy'
   have fin : (readL s).2 = 0 -> out.length < 4000 -> XI o (k + 1) (xs ++ [.int .u8 (readL s).1.kind, .int .i64 (readL s).1.slot, .int .i64 (readL s).1.n, .slice u w z]) := fun h3 h4 => by
    rw [hXI]
    refine ⟨out ++ [(readL s).1], (hr.mono enC_mono (Mem.le_trans lK lo)).snoc rfl ⟨?_, _, rfl, hy⟩, by simp; omega, ?_⟩
    · rcases Nat.lt_or_ge 32868 s.length with hbig | hsmall
      · rw [readL, if_neg (fun hh => by omega)]; exact zero_okE
      · exact readL_okE (by omega)
    · rw [hp, h3, if_neg (by decide), if_neg (by omega)]
      congr 1
   refine ⟨_, _, _, _, _, _, _, hv, Br.mk (fun h3 => ?_) (fun h3 => ?_)⟩
   · have h3 : (readL s).2 = 0 := by simpa using h3
     refine Br.mk (fun h4 => ?_) (fun h4 => ?_)
     · have h4 := of_decide_eq_true h4
       rw [hZI]
       rw [h3, if_neg (by decide), if_pos (by omega)] at hp
       simp only [true_and];rw [hpl, hp]
     · have h4 := of_decide_eq_false h4
       rw [h3];refine Br.f rfl ?_
       have := fin h3 (by omega)
       exact ⟨by rw [hr.len]; omega, by omega, by omega, by simp, this⟩
   · have h3 : (readL s).2 ≠ 0 := by simpa using h3
     refine Br.mk (fun h4 => ?_) (fun h4 => absurd (by simpa using h4) h3)
     rw [hZI];rw [if_pos h3] at hp;simp only [true_and];rw [hpl, hp]
 · intro J lJ xs hxs K M lK _ lo cp N lN hrow
   rw [hXI] at hxs;obtain ⟨out, hr, ho, hp⟩ := hxs;rw [hL, List.drop_length, parseGo] at hp
   have hxl : xs.length / 4 = out.length := by rw [hr.len]; omega
   rw [hQ, hpl, hp, hxl]
   have hrm := SlR.row (by decide) hrow (hr.mono enC_mono (Mem.le_trans lK lN))
   have hx4 := hr.len;obtain ⟨r1, r2, _⟩ := hrow
   exact ⟨_, _, _, rfl, hrm, by omega, r2⟩
 · intro J lJ x y z k f hz M _ lM
   rw [hZI] at hz;obtain ⟨rfl, rfl, rfl, hz⟩ := hz;rw [hQ, hz];exact ⟨none, 0, 0, rfl, SlR.nil, Nat.le_refl _, Nat.zero_le _⟩
theorem clean_iff (e : En) : cleanE e = true ↔ (0 <= e.slot /\ e.slot <= 4294967295) /\ (0 <= e.n /\ e.n <= 4294967295) /\ ((e.kind = 1 /\ e.n = 0 /\ e.bs.length <= 16384) \/ (e.kind = 2 /\ e.n = 0 /\ e.slot = 0 /\ e.bs.length = 0) \/ (e.kind = 3 /\ e.slot = 0 /\ e.bs.length = 0)) := by
 obtain ⟨k, s, n, bs⟩ := e;simp only [cleanE, withinB]
 by_cases h1 : k = 1
 · subst h1
   rw [if_pos rfl]
   simp only [Bool.and_eq_true, decide_eq_true_eq, true_and, show ¬ ((1 : Int) = 2) by decide, show ¬ ((1 : Int) = 3) by decide, false_and, or_false]
   omega
 · rw [if_neg h1]
   by_cases h2 : k = 2
   · subst h2
     simp only [if_pos, decide_eq_true_eq, En.mk.injEq, true_and, <- List.length_eq_zero_iff];omega
   · rw [if_neg h2]
     by_cases h3 : k = 3
     · subst h3
       simp only [if_pos, Bool.and_eq_true, decide_eq_true_eq, En.mk.injEq, true_and, <- List.length_eq_zero_iff];omega
     · rw [if_neg h3]
       simp only [Bool.false_eq_true, false_iff];omega
theorem ct75 (e : En) (y : Value) (I : Mem) (hy : BySl I y e.bs) : Ct Tryz.prog (fnv 75) #[.agg (enV e y).toArray] I (fun v _ => v = .bool (cleanE e)) := by
 obtain ⟨p, n, c, rfl, hp, hpc, hpm⟩ := hy;obtain ⟨D, hD⟩ : ∃ D, D = cleanE e := ⟨_, rfl⟩;rw [<- hD]
 refine viaR (ct_via (A := { }) Tryz.func75 rfl Tryz.call75 rfl rfl) (Br (decide (e.slot < 0)) (Value.bool false = .bool D) (Br (decide (4294967295 < e.slot)) (Value.bool false = .bool D) (Br (decide (e.n < 0)) (Value.bool false = .bool D) (Br (decide (4294967295 < e.n)) (Value.bool false = .bool D) (Br (e.kind == 1) (Br (e.n == 0) (Value.bool (decide ((n : Int) <= 16384)) = .bool D) (Value.bool false = .bool D)) (Br (e.kind == 2) (Br (e.n == 0) (Br (e.slot == 0) (Value.bool ((n : Int) == 0) = .bool D) (Value.bool false = .bool D)) (Value.bool false = .bool D)) (Br (e.kind == 3) (Br (e.slot == 0) (Value.bool ((n : Int) == 0) = .bool D) (Value.bool false = .bool D)) (Value.bool false = .bool D)))))))) (by kernel_rfl) ?_
 have hn := hp.numLen;have hc := clean_iff e;rw [<- hD] at hc;have go : ∀ {b : Bool}, (b = true ↔ D = true) -> Value.bool b = Value.bool D := fun h => congrArg Value.bool (Bool.eq_iff_iff.2 h);refine Br.mk (fun h => go ?_) (fun h => Br.mk (fun h2 => go ?_) (fun h2 => Br.mk (fun h3 => go ?_) (fun h3 => Br.mk (fun h4 => go ?_) (fun h4 => Br.mk (fun h5 => Br.mk (fun h6 => go ?_) (fun h6 => go ?_)) (fun h5 => Br.mk (fun h6 => Br.mk (fun h7 => Br.mk (fun h8 => go ?_) (fun h8 => go ?_)) (fun h7 => go ?_)) (fun h6 => Br.mk (fun h7 => Br.mk (fun h8 => go ?_) (fun h8 => go ?_)) (fun h7 => go ?_)))))))
 all_goals
  rw [hc];simp only [decide_eq_true_eq, decide_eq_false_iff_not, beq_iff_eq, beq_eq_false_iff_ne, ne_eq, Bool.false_eq_true, false_iff, Bool.not_eq_true] at *;omega
theorem ct128 (x : Int) (I : Mem) (h : 0 <= x /\ x <= 15) : Ct Tryz.prog (fnv 128) #[.int .u8 x] I (fun v _ => v = .int .u8 (hexC x.toNat).toNat) := by
 obtain ⟨D, hD⟩ : ∃ D : Int, D = (hexC x.toNat).toNat := ⟨_, rfl⟩;rw [<- hD]
 refine viaR (ct_via (A := { }) Tryz.func128 rfl Tryz.call128 rfl rfl) (Br (decide (x < 10)) (Wr .u8 (48 + x) (fun c => Value.int .u8 c = .int .u8 D)) (Wr .u8 (97 + x) (fun c => Wr .u8 (c - 10) fun a => Value.int .u8 a = .int .u8 D))) (by kernel_rfl) ?_
 have hx : D = if x < 10 then 48 + x else 87 + x := by
  rw [hD]
  rcases (by omega : x = 0 \/ x = 1 \/ x = 2 \/ x = 3 \/ x = 4 \/ x = 5 \/ x = 6 \/ x = 7 \/ x = 8 \/ x = 9 \/ x = 10 \/ x = 11 \/ x = 12 \/ x = 13 \/ x = 14 \/ x = 15) with h | h | h | h | h | h | h | h | h | h | h | h | h | h | h | h <;> subst h <;> decide
 refine Br.mk (fun h1 => ?_) (fun h1 => ?_)
 · have h1 := of_decide_eq_true h1
   rw [if_pos h1] at hx
   exact wr_u8 (by omega) (by omega) (by rw [hx])
 · have h1 := of_decide_eq_false h1
   rw [if_neg h1] at hx
   refine wr_u8 (by omega) (by omega) (wr_u8 (by omega) (by omega) ?_)
   rw [hx]; congr 1; omega
theorem ct119 (x : Int) (I : Mem) (h : 0 <= x /\ x <= 255) : Ct Tryz.prog (fnv 119) #[.int .u8 x] I (fun v _ => v = .int .u8 (if 48 <= x /\ x <= 57 then x - 48 else if 97 <= x /\ x <= 102 then x - 87 else 0)) := by
 obtain ⟨D, hD⟩ : ∃ D : Int, D = if 48 <= x /\ x <= 57 then x - 48 else if 97 <= x /\ x <= 102 then x - 87 else 0 := ⟨_, rfl⟩
 rw [<- hD]
 refine viaR (ct_via (A := { }) Tryz.func119 rfl Tryz.call119 rfl rfl) (Br (decide (48 <= x)) (Br (decide (x <= 57)) (Wr .u8 (x - 48) (fun c => Value.int .u8 c = .int .u8 D)) (Br (decide (97 <= x)) (Br (decide (x <= 102)) (Wr .u8 (x - 97) (fun c => Wr .u8 (c + 10) fun a => Value.int .u8 a = .int .u8 D)) (Value.int .u8 0 = .int .u8 D)) (Value.int .u8 0 = .int .u8 D))) (Br (decide (97 <= x)) (Br (decide (x <= 102)) (Wr .u8 (x - 97) (fun c => Wr .u8 (c + 10) fun a => Value.int .u8 a = .int .u8 D)) (Value.int .u8 0 = .int .u8 D)) (Value.int .u8 0 = .int .u8 D))) (by kernel_rfl) ?_
 have b2 : Br (decide (97 <= x)) (Br (decide (x <= 102)) (Wr .u8 (x - 97) fun c => Wr .u8 (c + 10) fun d => Value.int .u8 d = .int .u8 (if 97 <= x /\ x <= 102 then x - 87 else 0)) (Value.int .u8 0 = .int .u8 (if 97 <= x /\ x <= 102 then x - 87 else 0))) (Value.int .u8 0 = .int .u8 (if 97 <= x /\ x <= 102 then x - 87 else 0)) := by
  refine Br.mk (fun h1 => Br.mk (fun h2 => ?_) (fun h2 => ?_)) (fun h1 => ?_)
  · have h1 := of_decide_eq_true h1
    have h2 := of_decide_eq_true h2;rw [if_pos ⟨h1, h2⟩]
    refine wr_u8 (by omega) (by omega) (wr_u8 (by omega) (by omega) ?_)
    congr 1; omega
  · rw [if_neg (fun hh => of_decide_eq_false h2 hh.2)]
  · rw [if_neg (fun hh => of_decide_eq_false h1 hh.1)]
 refine Br.mk (fun h1 => Br.mk (fun h2 => ?_) (fun h2 => ?_)) (fun h1 => ?_)
 · rw [if_pos ⟨of_decide_eq_true h1, of_decide_eq_true h2⟩] at hD
   have h1 := of_decide_eq_true h1;have h2 := of_decide_eq_true h2
   exact wr_u8 (by omega) (by omega) (by rw [hD])
 · rw [hD, if_neg (fun hh => of_decide_eq_false h2 hh.2)]; exact b2
 · rw [hD, if_neg (fun hh => of_decide_eq_false h1 hh.1)]; exact b2
theorem wordT_snoc (bs : List Int) (z : Int) : intT (wordT (bs ++ [z])) = intT (wordT bs) ++ intT (hex2 z) := by
 simp [wordT, intT]
set_option maxHeartbeats 1000000 in
theorem ct96 (bs : List Int) (hb : byteL bs) (a : Option Addr) (n c : Nat) (I : Mem) (h : SlM I a n 1 (ints .u8 bs)) (hn : n <= 1000000) :
 Ct Tryz.prog (fnv 96) #[.slice a n c] I (fun v I' => BySl I' v (intT (wordT bs))) := by
 obtain ⟨WI, hWI⟩ : ∃ f : Int -> List Value -> Prop, f = fun (j : Int) xs => 0 <= j /\ j <= n /\ xs.length = 1 + 2 * j.toNat /\ xs = ints .u8 (intT (wordT (bs.take j.toNat))) := ⟨_, rfl⟩;obtain ⟨W, hW⟩ : ∃ W, W = intT (wordT bs) := ⟨_, rfl⟩;rw [<- hW]
 refine viaR (ct_via (A := { loops := [(3, ⟨[(0, .keep), (3, .row 0), (4, .sh (.int .i64))], [(0, .row)], [(3, 1, 5)], fun vals xss _ _ => match vals, xss with | [.int .i64 j], [xs] => WI j xs | _, _ => False, fun vals _ => match vals with | [.int .i64 j] => (n - j).toNat | _ => 0⟩)] }) Tryz.func96 rfl Tryz.call96 rfl rfl) ((Rf (SV.v (.slice a n c)) /\ (1 : Nat) = 1 /\ WI 0 [.int .u8 37]) /\ ∀ (b : Mem), Mem -> I.le b -> ∀ (x : List Value) (d : Int), WI d x -> Br (decide (d < (n : Int))) (0 <= d /\ d < (n : Int) /\ a.isSome = true /\ ∃ e, atI b a (d.toNat * 1 + 0) = some (.int .u8 e) /\ (16 : Int) ≠ 0 /\ Wr .u8 (e.tdiv 16) fun f => 0 <= d /\ d < (n : Int) /\ a.isSome = true /\ ∃ g, atI b a (d.toNat * 1 + 0) = some (.int .u8 g) /\ (16 : Int) ≠ 0 /\ Ct Tryz.prog (fnv 128) #[.int .u8 f] b fun v i => ∃ j, v = .int .u8 j /\ Ct Tryz.prog (fnv 128) #[.int .u8 (g.tmod 16)] i fun k l => ∃ m, k = .int .u8 m /\ x.length = x.length * 1 /\ x.length + 2 <= 9223372036854775807 /\ (x.length + 2) * 1 <= 140737488355328 /\ Wr .i64 (d + 1) fun o => Rf (SV.v (.slice a n c)) /\ x.length + 2 = List.length (x ++ [.int .u8 j, .int .u8 m]) /\ WI o (x ++ [.int .u8 j, .int .u8 m]) /\ Int.toNat ((n : Int) - o) < Int.toNat ((n : Int) - d)) (∀ (e : Option Addr) (f : Nat) (g : Mem), b.le g -> RowM g e f 1 x -> ∃ i m j, Value.slice e x.length f = .slice i m j /\ SlM g i m 1 (List.map (Value.int .u8) W) /\ m <= j /\ j <= 9223372036854775807)) (by kernel_rfl) ?_
 simp only [Rf, eq_self, true_and];have hnl := h.numLen
 refine ⟨by rw [hWI]; exact ⟨by omega, by omega, rfl, rfl⟩, fun I1 _ l1 xs j hx => Br.mk (fun hlt => ?_) (fun hge a2 cp I2 l2 hr => ?_)⟩
 · have hlt := of_decide_eq_true hlt
   rw [hWI] at hx;obtain ⟨h0, h1, hx0, hx1⟩ := hx;have hs := h.mono l1;obtain ⟨z, hz, hat⟩ := hs.intAt h0 hlt;have hzr := hb z (List.mem_of_getElem? hz);have q1 : z.tdiv 16 = z / 16 := Int.tdiv_eq_ediv_of_nonneg hzr.1;have q2 : z.tmod 16 = z % 16 := Int.tmod_eq_emod_of_nonneg hzr.1;rw [hWI]
   refine ⟨h0, hlt, hs.isSome (by omega), z, hat, by decide, wr_u8 (by rw [q1]; omega) (by rw [q1]; omega) ⟨h0, hlt, hs.isSome (by omega), z, hat, by decide, (ct128 _ _ (by rw [q1]; omega)).mono fun v I2 l2 hv => ⟨_, hv, (ct128 _ _ (by rw [q2]; omega)).mono fun v I3 l3 hv => ⟨_, hv, by omega, by omega, by omega, wr_i64 (by omega) (by omega) ⟨by simp, ⟨by omega, by omega, by simp; omega, ?_⟩, by omega⟩⟩⟩⟩⟩
   rw [show (j + 1).toNat = j.toNat + 1 by omega, List.take_add_one, hz, Option.toList_some, wordT_snoc, hx1, q1, q2]
   have e1 : (z / 16).toNat = z.toNat / 16 := by omega
   have e2 : (z % 16).toNat = z.toNat % 16 := by omega
   rw [e1, e2];simp [ints, intT, hex2]
 · have hge := of_decide_eq_false hge
   rw [hWI] at hx;obtain ⟨h0, h1, hx0, hx1⟩ := hx
   have hj : j.toNat = n := by omega
   rw [hj, hnl, List.take_length, <- hW] at hx1;have hr' := hr;rw [hx1] at hr'
   obtain ⟨a', n', c', e, g1, g2, g3⟩ := row_bysl (n := xs.length) hr' (by rw [hx1]; simp [ints])
   exact ⟨_, _, _, e, g1, g2, g3⟩
def idxL (l : List ByteArray) (s : ByteArray) : Int := match (l.drop 1).findIdx? fun x => decide (x = s) with
 | some i => (i : Int) + 1
 | none => 0
theorem idx_some {l : List ByteArray} {s : ByteArray} {i : Nat} (h0 : 1 <= i) (h1 : l[i]? = some s) (h2 : ∀ k, 1 <= k -> k < i -> l[k]? ≠ some s) : idxL l s = i := by
 have hlt := (List.getElem?_eq_some_iff.1 h1).1
 have : (l.drop 1).findIdx? (fun x => decide (x = s)) = some (i - 1) := by
  rw [List.findIdx?_eq_some_iff_getElem]
  refine ⟨by rw [List.length_drop]; omega, ?_, fun k hk => ?_⟩
  · have e : l[1 + (i - 1)]? = some s := by rw [show 1 + (i - 1) = i by omega]; exact h1
    have := (List.getElem?_eq_some_iff.1 e).2;simp only [List.getElem_drop];exact decide_eq_true this
  · have := h2 (1 + k) (by omega) (by omega)
    simp only [List.getElem_drop, decide_eq_true_eq];intro hh
    exact this (by rw [List.getElem?_eq_getElem (by omega), hh])
 rw [idxL, this]
 simp only
 omega
theorem idx_none {l : List ByteArray} {s : ByteArray} (h2 : ∀ k, 1 <= k -> k < l.length -> l[k]? ≠ some s) : idxL l s = 0 := by
 have : (l.drop 1).findIdx? (fun x => decide (x = s)) = none := by
  rw [List.findIdx?_eq_none_iff];intro x hx;obtain ⟨k, hk, rfl⟩ := List.mem_iff_getElem.1 hx;rw [List.length_drop] at hk;rw [List.getElem_drop, decide_eq_false];intro hh
  exact h2 (1 + k) (by omega) (by omega) (by rw [List.getElem?_eq_getElem (by omega), hh])
 rw [idxL, this]
set_option maxHeartbeats 1000000 in
theorem ct120 (l : List ByteArray) (a : Option Addr) (n c : Nat) (I : Mem) (h : SlM I a n 1 (strs l)) (hn : n <= 100) (s : ByteArray) :
 Ct Tryz.prog (fnv 120) #[.slice a n c, .string s] I (fun v _ => v = .int .u8 (idxL l s)) := by
 obtain ⟨D, hD⟩ : ∃ D, D = idxL l s := ⟨_, rfl⟩;rw [<- hD];obtain ⟨WI, hWI⟩ : ∃ f : Int -> Prop, f = fun (j : Int) => 1 <= j /\ j <= n + 1 /\ ∀ k : Nat, 1 <= k -> (k : Int) < j -> l[k]? ≠ some s := ⟨_, rfl⟩
 refine viaR (ct_via (A := { loops := [(2, ⟨[(0, .keep), (1, .keep), (5, .sh (.int .i64))], [], [], fun vals _ _ _ => match vals with | [.int .i64 j] => WI j | _ => False, fun vals _ => match vals with | [.int .i64 j] => (n + 1 - j).toNat | _ => 0⟩)] }) Tryz.func120 rfl Tryz.call120 rfl rfl) ((Rf (SV.v (.slice a n c)) /\ Rf (SV.v (.string s)) /\ WI 1) /\ ∀ (b : Mem), Mem -> I.le b -> ∀ (d : Int), WI d -> Br (decide (d < (n : Int))) (0 <= d /\ d < (n : Int) /\ a.isSome = true /\ ∃ q, atI b a (d.toNat * 1 + 0) = some (.string q) /\ Br (q.toList == s.toList) (Wr .u8 d (fun e => Value.int .u8 e = .int .u8 D)) (Wr .i64 (d + 1) (fun e => Rf (SV.v (.slice a n c)) /\ Rf (SV.v (.string s)) /\ WI e /\ Int.toNat ((n : Int) + 1 - e) < Int.toNat ((n : Int) + 1 - d)))) (Value.int .u8 0 = .int .u8 D)) (by kernel_rfl) ?_
 simp only [Rf, eq_self, true_and]
 have hl : l.length = n := by have := h.len; simp [strs] at this; omega
 refine ⟨by rw [hWI]; exact ⟨by omega, by omega, fun k h0 h1 => by omega⟩, fun J _ lJ j hj => Br.mk (fun hlt => ?_) (fun hge => ?_)⟩
 · have hlt := of_decide_eq_true hlt
   rw [hWI] at hj;obtain ⟨h0, h1, h2⟩ := hj
   obtain ⟨x, hx⟩ : ∃ x, l[j.toNat]? = some x := ⟨_, List.getElem?_eq_getElem (by omega)⟩
   have hat := (h.mono lJ).at_ _ _ (strs_get hx)
   refine ⟨by omega, hlt, h.isSome (by omega), x, by rw [Nat.mul_one, Nat.add_zero]; exact hat, Br.mk (fun h3 => ?_) (fun h3 => ?_)⟩
   · rw [str_eq] at h3
     have h3 := of_decide_eq_true h3;subst h3
     have := idx_some (by omega) hx fun k h0 h1 => h2 k h0 (by omega)
     rw [<- hD] at this
     exact wr_u8 (by omega) (by omega) (by rw [this]; congr 1; omega)
   · rw [str_eq] at h3
     have h3 := of_decide_eq_false h3
     refine wr_i64 (by omega) (by omega) ⟨?_, by omega⟩
     rw [hWI]
     refine ⟨by omega, by omega, fun k h4 h5 => ?_⟩
     by_cases hk : k = j.toNat
     · rw [hk, hx]; exact fun hh => h3 (Option.some.inj hh)
     · exact h2 k h4 (by omega)
 · have hge := of_decide_eq_false hge
   rw [hWI] at hj
   rw [hD, idx_none fun k h0 h1 => hj.2.2 k h0 (by omega)]
def kindsN : List ByteArray := [⟨#[]⟩, ⟨#[99, 114, 101, 97, 116, 101]⟩, ⟨#[111, 112, 101, 110]⟩, ⟨#[103, 114, 97, 110, 116]⟩, ⟨#[114, 101, 118, 111, 107, 101]⟩, ⟨#[115, 117, 98, 109, 105, 116]⟩, ⟨#[115, 116, 101, 112]⟩, ⟨#[113, 117, 101, 114, 121]⟩, ⟨#[99, 97, 110, 99, 101, 108]⟩, ⟨#[100, 101, 115, 116, 114, 111, 121]⟩]
def asksN : List ByteArray := [⟨#[]⟩, ⟨#[115, 116, 97, 116, 117, 115]⟩, ⟨#[99, 101, 108, 108, 115]⟩, ⟨#[101, 118, 101, 110, 116, 115]⟩, ⟨#[112, 111, 114, 116, 115]⟩, ⟨#[104, 97, 110, 100, 108, 101, 115]⟩]
theorem strs_lit {I : Mem} {b n : Nat} {cs : Array Value} {el : TypeId} {l : List ByteArray} (h : I b = some (.cells cs el)) (hx : cs = (strs l).toArray) (hn : n = l.length) (hm : n <= 100) : WsL I (.slice (some ⟨b, 0, none⟩) n n) l := by
 subst hx
 have := sl_cells (n := n) (sz := 1) h (by simp [strs]; omega) (by simp only [maxLen]; omega)
 exact ⟨_, _, _, rfl, by simpa using this, Nat.le_refl _, by simp only [maxLen]; omega⟩
theorem ct92 (I : Mem) : Ct Tryz.prog (fnv 92) #[] I (fun v I' => WsL I' v kindsN) := by
 have go : ∀ (b : Nat) (J : Mem), J b = some (.cells (strs kindsN).toArray 9) -> WsL J (.slice (some ⟨b, 0, none⟩) 10 10) kindsN := fun b J h => strs_lit h rfl rfl (by decide)
 refine viaR (ct_via (A := { }) Tryz.func92 rfl Tryz.call92 rfl rfl) (∀ (b : Nat) (a : Mem), I.le a -> a b = some (.cells #[.string ⟨#[]⟩, .string ⟨#[99, 114, 101, 97, 116, 101]⟩, .string ⟨#[111, 112, 101, 110]⟩, .string ⟨#[103, 114, 97, 110, 116]⟩, .string ⟨#[114, 101, 118, 111, 107, 101]⟩, .string ⟨#[115, 117, 98, 109, 105, 116]⟩, .string ⟨#[115, 116, 101, 112]⟩, .string ⟨#[113, 117, 101, 114, 121]⟩, .string ⟨#[99, 97, 110, 99, 101, 108]⟩, .string ⟨#[100, 101, 115, 116, 114, 111, 121]⟩] 9 (0, 0)) -> WsL a (.slice (some ⟨b, 0, none⟩) 10 10) [⟨#[]⟩, ⟨#[99, 114, 101, 97, 116, 101]⟩, ⟨#[111, 112, 101, 110]⟩, ⟨#[103, 114, 97, 110, 116]⟩, ⟨#[114, 101, 118, 111, 107, 101]⟩, ⟨#[115, 117, 98, 109, 105, 116]⟩, ⟨#[115, 116, 101, 112]⟩, ⟨#[113, 117, 101, 114, 121]⟩, ⟨#[99, 97, 110, 99, 101, 108]⟩, ⟨#[100, 101, 115, 116, 114, 111, 121]⟩]) (by kernel_rfl) ?_
 exact fun b J _ hb => go b J hb
theorem ct94 (I : Mem) : Ct Tryz.prog (fnv 94) #[] I (fun v I' => WsL I' v asksN) := by
 have go : ∀ (b : Nat) (J : Mem), J b = some (.cells (strs asksN).toArray 9) -> WsL J (.slice (some ⟨b, 0, none⟩) 6 6) asksN := fun b J h => strs_lit h rfl rfl (by decide)
 refine viaR (ct_via (A := { }) Tryz.func94 rfl Tryz.call94 rfl rfl) (∀ (b : Nat) (a : Mem), I.le a -> a b = some (.cells #[.string ⟨#[]⟩, .string ⟨#[115, 116, 97, 116, 117, 115]⟩, .string ⟨#[99, 101, 108, 108, 115]⟩, .string ⟨#[101, 118, 101, 110, 116, 115]⟩, .string ⟨#[112, 111, 114, 116, 115]⟩, .string ⟨#[104, 97, 110, 100, 108, 101, 115]⟩] 9 (0, 0)) -> WsL a (.slice (some ⟨b, 0, none⟩) 6 6) [⟨#[]⟩, ⟨#[115, 116, 97, 116, 117, 115]⟩, ⟨#[99, 101, 108, 108, 115]⟩, ⟨#[101, 118, 101, 110, 116, 115]⟩, ⟨#[112, 111, 114, 116, 115]⟩, ⟨#[104, 97, 110, 100, 108, 101, 115]⟩]) (by kernel_rfl) ?_
 exact fun b J _ hb => go b J hb
set_option maxHeartbeats 1000000 in
theorem ct76 (a b : En) (y z : Value) (I : Mem) (hy : BySl I y a.bs) (hz : BySl I z b.bs) :
 Ct Tryz.prog (fnv 76) #[.agg (enV a y).toArray, .agg (enV b z).toArray] I (fun v _ => v = .bool (decide (a = b))) := by
 obtain ⟨p, n, c, rfl, hp, _⟩ := hy;obtain ⟨q, m, d, rfl, hq, _⟩ := hz;obtain ⟨D, hD⟩ : ∃ D, D = decide (a = b) := ⟨_, rfl⟩;rw [<- hD];obtain ⟨WI, hWI⟩ : ∃ f : Int -> Prop, f = fun (j : Int) => 0 <= j /\ j <= n /\ n = m /\ a.kind = b.kind /\ a.slot = b.slot /\ a.n = b.n /\ a.bs.take j.toNat = b.bs.take j.toNat := ⟨_, rfl⟩
 refine viaR (ct_via (A := { loops := [(4, ⟨[(2, .keep), (3, .keep), (5, .sh (.int .i64))], [(0, .keep), (1, .keep)], [], fun vals _ _ _ => match vals with | [.int .i64 j] => WI j | _ => False, fun vals _ => match vals with | [.int .i64 j] => (n - j).toNat | _ => 0⟩)] }) Tryz.func76 rfl Tryz.call76 rfl rfl) (Br (a.kind != b.kind) (Value.bool false = .bool D) (Br (a.slot != b.slot) (Value.bool false = .bool D) (Br (a.n != b.n) (Value.bool false = .bool D) (Br ((n : Int) != (m : Int)) (Value.bool false = .bool D) ((Rf (Ent.mk (.cells [.v (.int .u8 a.kind), .v (.int .i64 a.slot), .v (.int .i64 a.n), .v (.slice p n c)] 72) none) /\ Rf (Ent.mk (.cells [.v (.int .u8 b.kind), .v (.int .i64 b.slot), .v (.int .i64 b.n), .v (.slice q m d)] 72) none) /\ Rf (SV.ptr 0 0) /\ Rf (SV.ptr 1 0) /\ WI 0) /\ ∀ (e : Mem), Mem -> I.le e -> ∀ (f : Int), WI f -> Br (decide (f < (n : Int))) (0 <= f /\ f < (n : Int) /\ p.isSome = true /\ ∃ g, atI e p (f.toNat * 1 + 0) = some (.int .u8 g) /\ 0 <= f /\ f < (m : Int) /\ q.isSome = true /\ ∃ h, atI e q (f.toNat * 1 + 0) = some (.int .u8 h) /\ Br (g != h) (Value.bool false = .bool D) (Wr .i64 (f + 1) (fun i => Rf (Ent.mk (.cells [.v (.int .u8 a.kind), .v (.int .i64 a.slot), .v (.int .i64 a.n), .v (.slice p n c)] 72) none) /\ Rf (Ent.mk (.cells [.v (.int .u8 b.kind), .v (.int .i64 b.slot), .v (.int .i64 b.n), .v (.slice q m d)] 72) none) /\ Rf (SV.ptr 0 0) /\ Rf (SV.ptr 1 0) /\ WI i /\ Int.toNat ((n : Int) - i) < Int.toNat ((n : Int) - f)))) (Value.bool true = .bool D)))))) (by kernel_rfl) ?_
 simp only [Rf, eq_self, true_and];have hpn := hp.numLen;have hmx := hp.max;simp only [maxLen] at hmx;have hqn := hq.numLen
 have no : a ≠ b -> Value.bool false = Value.bool D := fun hh => by rw [hD, decide_eq_false hh]
 refine Br.mk (fun h => no fun e => by rw [e] at h; simp at h) (fun h1 => Br.mk (fun h => no fun e => by rw [e] at h; simp at h) (fun h2 => Br.mk (fun h => no fun e => by rw [e] at h; simp at h) (fun h3 => Br.mk (fun h => no fun e => ?_) (fun h4 => ?_))))
 · have h : (n : Int) ≠ m := by simpa using h
   rw [e] at hpn;omega
 · have h1 : a.kind = b.kind := by simpa using h1
   have h2 : a.slot = b.slot := by simpa using h2
   have h3 : a.n = b.n := by simpa using h3
   have h4 : n = m := by
    have : (n : Int) = m := by simpa using h4
    omega
   refine ⟨by rw [hWI]; exact ⟨by omega, by omega, h4, h1, h2, h3, rfl⟩, fun J _ lJ j hj => ?_⟩
   rw [hWI] at hj;obtain ⟨g0, g1, _, _, _, _, g2⟩ := hj;refine Br.mk (fun hlt => ?_) (fun hge => ?_)
   · have hlt := of_decide_eq_true hlt
     obtain ⟨x, hx, hx1⟩ := (hp.mono lJ).intAt g0 hlt
     obtain ⟨y, hy, hy1⟩ := (hq.mono lJ).intAt g0 (by omega)
     refine ⟨g0, hlt, hp.isSome (by omega), x, hx1, g0, by omega, hq.isSome (by omega), y, hy1, Br.mk (fun h5 => no fun e => ?_) (fun h5 => ?_)⟩
     · have h5 : x ≠ y := by simpa using h5
       rw [e, hy] at hx;cases hx;exact h5 rfl
     · have h5 : x = y := by simpa using h5
       refine wr_i64 (by omega) (by omega) ⟨?_, by omega⟩
       rw [hWI]
       refine ⟨by omega, by omega, h4, h1, h2, h3, ?_⟩
       rw [show (j + 1).toNat = j.toNat + 1 by omega, List.take_add_one, List.take_add_one, g2, hx, hy, h5]
   · have hge := of_decide_eq_false hge
     rw [hD, decide_eq_true]
     have e1 : a.bs = b.bs := by
      have ha : a.bs.take j.toNat = a.bs := List.take_of_length_le (by omega)
      have hb : b.bs.take j.toNat = b.bs := List.take_of_length_le (by omega)
      rw [<- ha, <- hb]; exact g2
     obtain ⟨k1, s1, n1, b1⟩ := a;obtain ⟨k2, s2, n2, b2⟩ := b
     simp only at h1 h2 h3 e1
     rw [h1, h2, h3, e1]
def nibI (x : Int) : Int := if 48 <= x /\ x <= 57 then x - 48 else if 97 <= x /\ x <= 102 then x - 87 else 0
def pairI : List Int -> List Int
 | x :: y :: r => (16 * nibI x + nibI y) :: pairI r
 | _ => []
theorem nibI_rng (x : Int) : 0 <= nibI x /\ nibI x <= 15 := by
 unfold nibI;split
 · omega
 · split <;> omega
theorem pairI_end {l : List Int} (h : l.length <= 1) : pairI l = [] := by
 match l, h with
 | [], _ => rfl
 | [_], _ => rfl
set_option maxHeartbeats 1000000 in
theorem ct87 (s : ByteArray) (hs : s.size <= 1000000) (I : Mem) :
 Ct Tryz.prog (fnv 87) #[.string s] I (fun v I' => BySl I' v (pairI ((strL s).drop 1))) := by
 obtain ⟨D, hD⟩ : ∃ D, D = pairI ((strL s).drop 1) := ⟨_, rfl⟩;rw [<- hD];obtain ⟨WI, hWI⟩ : ∃ f : Int -> List Value -> Prop, f = fun (j : Int) xs => 1 <= j /\ j <= s.size + 1 /\ (xs.length : Int) <= j /\ ∃ L, xs = ints .u8 L /\ pairI ((strL s).drop 1) = L ++ pairI ((strL s).drop j.toNat) := ⟨_, rfl⟩
 refine viaR (ct_via (A := { loops := [(3, ⟨[(0, .keep), (3, .row 0), (4, .sh (.int .i64))], [(0, .row)], [(3, 1, 5)], fun vals xss _ _ => match vals, xss with | [.int .i64 j], [xs] => WI j xs | _, _ => False, fun vals _ => match vals with | [.int .i64 j] => (s.size + 2 - j).toNat | _ => 0⟩)] }) Tryz.func87 rfl Tryz.call87 rfl rfl) ((Rf (SV.v (.string s)) /\ (0 : Nat) = 0 /\ WI 1 []) /\ ∀ (a : Mem), Mem -> I.le a -> ∀ (x : List Value) (n : Int), WI n x -> Wr .i64 (n + 1) fun c => Br (decide (c < (s.size : Int))) (∃ b, s.data.toList[n.toNat]? = some b /\ 0 <= n /\ Wr .i64 (n + 1) fun d => ∃ e, s.data.toList[d.toNat]? = some e /\ 0 <= d /\ Ct Tryz.prog (fnv 119) #[.int .u8 (b.toNat : Int)] a fun v f => ∃ g, v = .int .u8 g /\ Wr .u8 (16 * g) fun h => Ct Tryz.prog (fnv 119) #[.int .u8 (e.toNat : Int)] f fun i j => ∃ k, i = .int .u8 k /\ Wr .u8 (h + k) fun l => x.length = x.length * 1 /\ x.length + 1 <= 9223372036854775807 /\ (x.length + 1) * 1 <= 140737488355328 /\ Wr .i64 (n + 2) fun m => Rf (SV.v (.string s)) /\ x.length + 1 = List.length (x ++ [.int .u8 l]) /\ WI m (x ++ [.int .u8 l]) /\ Int.toNat ((s.size : Int) + 2 - m) < Int.toNat ((s.size : Int) + 2 - n)) (∀ (b : Option Addr) (d : Nat) (e : Mem), a.le e -> RowM e b d 1 x -> ∃ f m g, Value.slice b x.length d = .slice f m g /\ SlM e f m 1 (List.map (Value.int .u8) D) /\ m <= g /\ g <= 9223372036854775807)) (by kernel_rfl) ?_
 simp only [Rf, eq_self, true_and]
 have hsl : (strL s).length = s.size := by simp [strL]
 refine ⟨by rw [hWI]; exact ⟨by omega, by omega, by simp, [], rfl, rfl⟩, fun J _ lJ xs j hj => ?_⟩
 rw [hWI] at hj;obtain ⟨h0, h1, h2, L, rfl, hL⟩ := hj
 refine wr_i64 (by omega) (by omega) (Br.mk (fun hlt => ?_) (fun hge a cp I2 l2 hr => ?_))
 · have hlt := of_decide_eq_true hlt
   have hsd : s.data.toList.length = s.size := Array.length_toList
   obtain ⟨x, hx⟩ : ∃ x, s.data.toList[j.toNat]? = some x := ⟨_, List.getElem?_eq_getElem (by omega)⟩
   obtain ⟨y, hy⟩ : ∃ y, s.data.toList[(j + 1).toNat]? = some y := ⟨_, List.getElem?_eq_getElem (by omega)⟩
   have hx255 : x.toNat < 256 := x.toNat_lt;have hy255 : y.toNat < 256 := y.toNat_lt;have g1 := nibI_rng x.toNat;have g2 := nibI_rng y.toNat
   refine ⟨x, hx, by omega, wr_i64 (by omega) (by omega) ⟨y, hy, by omega, (ct119 _ J (by omega)).mono fun v I2 l2 hv => ⟨_, hv, wr_u8 (by show 0 <= 16 * nibI _; omega) (by show 16 * nibI _ <= 255; omega) ((ct119 _ I2 (by omega)).mono fun v I3 l3 hv => ⟨_, hv, wr_u8 (by show 0 <= 16 * nibI _ + nibI _; omega) (by show 16 * nibI _ + nibI _ <= 255; omega) ⟨by omega, by omega, by omega, wr_i64 (by omega) (by omega) ⟨by simp, ?_, by omega⟩⟩⟩)⟩⟩⟩
   rw [hWI]
   refine ⟨by omega, by omega, by simp only [List.length_append, List.length_cons, List.length_nil]; omega, L ++ [16 * nibI x.toNat + nibI y.toNat], by simp [ints, nibI], ?_⟩
   have ex : (strL s)[j.toNat]? = some (x.toNat : Int) := by simp [strL, List.getElem?_map, hx]
   have ey : (strL s)[j.toNat + 1]? = some (y.toNat : Int) := by rw [show j.toNat + 1 = (j + 1).toNat by omega]; simp [strL, List.getElem?_map, hy]
   have e1 : (strL s).drop j.toNat = (x.toNat : Int) :: (y.toNat : Int) :: (strL s).drop (j + 2).toNat := by
    rw [List.drop_eq_getElem_cons (by omega), List.drop_eq_getElem_cons (by omega), show j.toNat + 1 + 1 = (j + 2).toNat by omega]
    rw [List.getElem?_eq_getElem (by omega)] at ex ey
    rw [Option.some.inj ex, Option.some.inj ey]
   rw [hL, e1, pairI, List.append_assoc]; rfl
 · have hge := of_decide_eq_false hge
   rw [pairI_end (l := (strL s).drop j.toNat) (by rw [List.length_drop]; omega), List.append_nil] at hL
   rw [hD, hL]
   obtain ⟨a', n', c', e, g1, g2, g3⟩ := row_bysl (n := (ints .u8 L).length) hr (by simp [ints])
   exact ⟨_, _, _, e, g1, g2, g3⟩
