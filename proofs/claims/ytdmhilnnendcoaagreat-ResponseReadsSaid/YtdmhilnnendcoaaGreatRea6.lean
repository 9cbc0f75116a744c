/- Part of a proof by the rules of the symbolic walk (see the law's own text): contracts of functions of the program. -/
import Derived.Test.YtdmhilnnendcoaaGreatRea5
set_option linter.unusedVariables false
set_option linter.unusedSimpArgs false
open Go Go.Proofs Go.SE Go.RowKit
set_option linter.unusedVariables false
set_option maxRecDepth 100000
set_option maxHeartbeats 1000000
def u64R (x : Int) : Prop := 0 <= x /\ x <= 18446744073709551615
theorem ct54 (x : Int) (hx : u64R x) (I : Mem) : Ct Tryz.prog (fnv 54) #[.int .u64 x] I (fun v _ => v = .int .i64 (unfoldZ x)) := by
 refine viaR (ct_via (A := { }) Tryz.func54 rfl Tryz.call54 rfl rfl) ((2 : Int) ≠ 0 /\ Br (x.tmod 2 == 0) ((2 : Int) ≠ 0 /\ Wr .u64 (x.tdiv 2) fun c => Wr .i64 c fun a => Value.int .i64 a = .int .i64 (unfoldZ x)) ((2 : Int) ≠ 0 /\ Wr .u64 (x.tdiv 2) fun c => Wr .i64 c fun a => Wr .i64 (0 - a) fun b => Wr .i64 (b - 1) fun d => Value.int .i64 d = .int .i64 (unfoldZ x))) (by kernel_rfl) ?_
 obtain ⟨h0, h1⟩ := hx;have e2 : x.tmod 2 = x % 2 := Int.tmod_eq_emod_of_nonneg h0;have e3 : x.tdiv 2 = x / 2 := Int.tdiv_eq_ediv_of_nonneg h0;have wu : ∀ {m : Int} {K : Int -> Prop}, 0 <= m -> m <= 18446744073709551615 -> K m -> Wr .u64 m K := fun {m K} a b k => ⟨m, IntWalk.u64_in m ⟨a, b⟩, k⟩;rw [e2, e3]
 refine ⟨by decide, Br.mk (fun h => ?_) (fun h => ?_)⟩
 · have h : x % 2 = 0 := by simpa using h
   exact ⟨by decide, wu (by omega) (by omega) (wr_i64 (by omega) (by omega) (by rw [unfoldZ, if_pos h]))⟩
 · have h : ¬ x % 2 = 0 := by simpa using h
   exact ⟨by decide, wu (by omega) (by omega) (wr_i64 (by omega) (by omega) (wr_i64 (by omega) (by omega) (wr_i64 (by omega) (by omega) (by rw [unfoldZ, if_neg h, Int.zero_sub]))))⟩
theorem ct83 (x : Int) (hx : i64R x) (I : Mem) : Ct Tryz.prog (fnv 83) #[.int .i64 x] I (fun v _ => v = .int .u64 (foldZ x)) := by
 refine viaR (ct_via (A := { }) Tryz.func83 rfl Tryz.call83 rfl rfl) (Br (decide (0 <= x)) (Wr .u64 x (fun c => Wr .u64 (2 * c) fun a => Value.int .u64 a = .int .u64 (foldZ x))) (Wr .i64 (x + 1) (fun c => Wr .i64 (0 - c) fun a => Wr .u64 a fun b => Wr .u64 (2 * b) fun d => Wr .u64 (d + 1) fun e => Value.int .u64 e = .int .u64 (foldZ x)))) (by kernel_rfl) ?_
 obtain ⟨h0, h1⟩ := hx;have wu : ∀ {m : Int} {K : Int -> Prop}, 0 <= m -> m <= 18446744073709551615 -> K m -> Wr .u64 m K := fun {m K} a b k => ⟨m, IntWalk.u64_in m ⟨a, b⟩, k⟩;refine Br.mk (fun h => ?_) (fun h => ?_)
 · have h := of_decide_eq_true h
   exact wu (by omega) (by omega) (wu (by omega) (by omega) (by rw [foldZ, if_pos h]))
 · have h := of_decide_eq_false h
   exact wr_i64 (by omega) (by omega) (wr_i64 (by omega) (by omega) (wu (by omega) (by omega) (wu (by omega) (by omega) (wu (by omega) (by omega) (by rw [foldZ, if_neg h]; congr 1; omega)))))
def numsF (L : List Int) : List Int := L.flatMap fun x => formN x.toNat
def SplP (bs : List Int) (xs : List Value) (k : Nat) (w : Value) : Prop := ∃ (l : List Int) (e : Int), xs = ints .u64 l /\ w = .int .i64 e /\ l.length <= bs.length /\ (∀ x ∈ l, u64R x) /\ ∀ L, (∀ x ∈ L, u64R x) -> bs = numsF L -> e = 0 /\ l = L
def SplI (bs : List Int) (at_ : Int) (ys : List Value) : Prop := 0 <= at_ /\ at_ <= bs.length /\ ∃ l : List Int, ys = ints .u64 l /\ (l.length : Int) <= at_ /\ (∀ x ∈ l, u64R x) /\ ∀ L, (∀ x ∈ L, u64R x) -> bs = numsF L -> ∃ R, L = l ++ R /\ bs.drop at_.toNat = numsF R
theorem nums_cons (x : Int) (L : List Int) : numsF (x :: L) = formN x.toNat ++ numsF L := by simp [numsF]
theorem spl_hit {bs : List Int} {d : Int} (h0 : 0 <= d) (hd : d < bs.length) {R : List Int} (hR : ∀ x ∈ R, u64R x) (e : bs.drop d.toNat = numsF R) : ∃ x R', R = x :: R' /\ readN bs d = (x, ((formN x.toNat).length : Int), 0) /\ bs.drop (d + (formN x.toNat).length).toNat = numsF R' := by
 cases R with
 | nil =>
   have := congrArg List.length e;simp [numsF] at this;omega
 | cons x R' =>
   have hx := hR x (by simp)
   rw [nums_cons] at e
   have hb : bs = bs.take d.toNat ++ (formN x.toNat ++ numsF R') := by rw [<- e, List.take_append_drop]
   have hl : (bs.take d.toNat).length = d.toNat := by rw [List.length_take]; omega
   have hr := readN_form (bs.take d.toNat) (numsF R') x.toNat (by have := hx.2; omega)
   rw [<- hb, hl, Int.toNat_of_nonneg h0, Int.toNat_of_nonneg hx.1] at hr;refine ⟨x, R', rfl, hr, ?_⟩
   have : bs.drop (d.toNat + (formN x.toNat).length) = numsF R' := by
    rw [<- List.drop_drop, e, List.drop_left'];rfl
   rw [<- this]
   congr 1
   omega
theorem rowF_anti {I J K : Mem} {a : Option Addr} {cp sz : Nat} {xs : List Value} {el : TypeId} (h : RowF J K a cp sz xs el) (hle : I.le J) : RowF I K a cp sz xs el :=
 ⟨h.row, fun ad ha => by obtain ⟨h1, h2⟩ := h.new ad ha; exact ⟨Mem.none_of_le hle h1, h2⟩⟩
theorem ints_snoc {k : IntKind} {l : List Int} {x : Int} : ints k l ++ [.int k x] = ints k (l ++ [x]) := by simp [ints]
theorem ct53 (bs : List Int) (hbs : byteL bs) (a : Option Addr) (n c : Nat) (I : Mem) (h : SlM I a n 1 (ints .u8 bs)) (hn : n <= 1000000) (hc : n <= c) :
 Ct Tryz.prog (fnv 53) #[.slice a n c] I (fun v I' => ∃ xs k w sl, v = .tuple #[sl, w] /\ xs.length = k * 1 /\ RowN 1 85 I I' sl xs /\ SplP bs xs k w) := by
 obtain ⟨WI, hWI⟩ : ∃ f, f = SplI bs := ⟨_, rfl⟩;obtain ⟨PI, hPI⟩ : ∃ f : Value -> Mem -> Prop, f = fun v I' => ∃ xs k w sl, v = .tuple #[sl, w] /\ xs.length = k * 1 /\ RowN 1 85 I I' sl xs /\ SplP bs xs k w := ⟨_, rfl⟩;rw [<- hPI]
 refine viaR (ctF_via (A := { loops := [(3, ⟨[(0, .keep), (4, .row 0), (5, .sh (.int .i64))], [(0, .row)], [(4, 1, 85)], fun vals xss _ _ => match vals, xss with | [.int .i64 j], [ys] => WI j ys | _, _ => False, fun vals _ => match vals with | [.int .i64 j] => (n - j).toNat | _ => 0⟩)] }) Tryz.func53 rfl Tryz.call53 rfl rfl) ((Rf (SV.v (.slice a n c)) /\ (0 : Nat) = 0 /\ WI 0 []) /\ ∀ (b : Mem), Mem -> I.le b -> ∀ (x : List Value) (d : Int), WI d x -> Br (decide (d < (n : Int))) (Ct Tryz.prog (fnv 49) #[.slice a n c, .int .i64 d] b (fun v e => ∃ f g i, v = .tuple #[.int .u64 f, .int .i64 g, .int .i64 i] /\ Br (i != 0) (PI (.tuple #[.slice none 0 0, .int .i64 i]) e) (x.length = x.length * 1 /\ x.length + 1 <= 9223372036854775807 /\ (x.length + 1) * 8 <= 140737488355328 /\ Wr .i64 (d + g) fun j => Rf (SV.v (.slice a n c)) /\ x.length + 1 = List.length (x ++ [.int .u64 f]) /\ WI j (x ++ [.int .u64 f]) /\ Int.toNat ((n : Int) - j) < Int.toNat ((n : Int) - d)))) (∀ (e : Option Addr) (f : Nat) (g : Mem), b.le g -> RowF b g e f 1 x 85 -> PI (.tuple #[.slice e x.length f, .int .i64 0]) g)) (by kernel_rfl) ?_
 simp only [Rf, eq_self, true_and];have hnl := h.numLen
 refine ⟨by rw [hWI]; exact ⟨by omega, by omega, [], rfl, by simp, fun x hx => (by cases hx), fun L _ e => ⟨L, rfl, by simpa using e⟩⟩, fun J _ lJ ys d hd => ?_⟩
 rw [hWI] at hd;obtain ⟨d0, d1, l, rfl, hll, hlr, hL⟩ := hd;refine Br.mk (fun hlt => ?_) (fun hge => ?_)
 · have hlt := of_decide_eq_true hlt
   refine (ct49 bs hbs a n c d (by omega) J (h.mono lJ) (by omega) hc).mono fun v J1 l1 hv => ⟨_, _, _, hv, Br.mk (fun hi => ?_) (fun hi => ?_)⟩
   · have hi : (readN bs d).2.2 ≠ 0 := by simpa using hi
     rw [hPI]
     refine ⟨[], 0, _, _, rfl, rfl, ⟨none, 0, 0, rfl, rfl, .inl ⟨rfl, rfl, rfl⟩⟩, [], _, rfl, rfl, by simp, fun x hx => (by cases hx), fun L hLr e => ?_⟩
     obtain ⟨R, rfl, hR⟩ := hL L hLr e
     obtain ⟨x, R', _, hr, _⟩ := spl_hit d0 (by omega) (fun x hx => hLr x (by simp [hx])) hR
     rw [hr] at hi;exact absurd rfl hi
   · have hi : (readN bs d).2.2 = 0 := by simpa using hi
     obtain ⟨g1, g2, g3, g4, g5, g6, g7⟩ := readN_back hbs (x := (readN bs d).1) (n := (readN bs d).2.1) (at_ := d) (Prod.ext rfl (Prod.ext rfl hi));have hfl := (formN_le _ g4).2;have hil : (ints .u64 l).length = l.length := ints_len
     refine ⟨by omega, by omega, by omega, wr_i64 (by omega) (by omega) ⟨by rw [List.length_append]; rfl, ?_, by omega⟩⟩
     rw [hWI]
     refine ⟨by omega, by omega, l ++ [(readN bs d).1], ints_snoc, by rw [List.length_append, List.length_singleton]; omega, fun x hx => ?_, fun L hLr e => ?_⟩
     · rcases List.mem_append.1 hx with hx | hx
       · exact hlr x hx
       · rw [List.mem_singleton.1 hx]; exact ⟨g3, by omega⟩
     · obtain ⟨R, rfl, hR⟩ := hL L hLr e
       obtain ⟨x, R', rfl, hr, hd'⟩ := spl_hit d0 (by omega) (fun x hx => hLr x (by simp [hx])) hR
       rw [hr]
       exact ⟨R', by simp, hd'⟩
 · have hge := of_decide_eq_false hge
   intro e f J1 l1 hrow;rw [hPI]
   refine ⟨_, l.length, _, _, rfl, by rw [ints_len]; omega, ⟨_, _, _, rfl, by rw [ints_len]; omega, .inr (rowF_anti hrow lJ)⟩, l, 0, rfl, rfl, by omega, hlr, fun L hLr e => ⟨rfl, ?_⟩⟩
   obtain ⟨R, rfl, hR⟩ := hL L hLr e
   cases R with
   | nil => simp
   | cons x R' =>
     have hb := congrArg List.length hR;rw [nums_cons] at hb
     have hx := hLr x (by simp)
     have hfl := (formN_le x.toNat (by have := hx.2; omega)).2
     simp only [List.length_drop, List.length_append] at hb;omega
def IntP (l : List Int) (I I' : Mem) (v : Value) : Prop := ∃ (sl : Value) (b : Bool), v = .tuple #[sl, .bool b] /\ (∃ m, RowN 1 3 I I' sl (ints .i64 m) /\ (b = true -> m = l /\ ∀ x ∈ l, x <= 9223372036854775807)) /\ ((∀ x ∈ l, x <= 9223372036854775807) -> b = true)
theorem ct55 (l : List Int) (hl : ∀ x ∈ l, u64R x) (a : Option Addr) (n c : Nat) (I : Mem) (h : SlM I a n 1 (ints .u64 l)) (hn : n <= 1000000) :
 Ct Tryz.prog (fnv 55) #[.slice a n c] I (fun v I' => IntP l I I' v) := by
 refine viaR (ctF_via (A := { loops := [(3, ⟨[(0, .keep), (4, .row 0), (5, .sh (.int .i64))], [(0, .row)], [(4, 1, 3)], fun vals xss _ _ => match vals, xss with | [.int .i64 j], [ys] => 0 <= j /\ j <= n /\ ys = ints .i64 (l.take j.toNat) /\ ∀ x ∈ l.take j.toNat, x <= 9223372036854775807 | _, _ => False, fun vals _ => match vals with | [.int .i64 j] => (n - j).toNat | _ => 0⟩)] }) Tryz.func55 rfl Tryz.call55 rfl rfl) ((Rf (SV.v (.slice a n c)) /\ (0 : Nat) = 0 /\ (0 : Int) <= 0 /\ 0 <= (n : Int) /\ Rf ([] : List Value) /\ ∀ (x : Int), Membership.mem ([] : List Int) x -> x <= 9223372036854775807) /\ ∀ (b : Mem), Mem -> I.le b -> ∀ (x : List Value) (d : Int), 0 <= d /\ d <= (n : Int) /\ x = List.map (Value.int .i64) (List.take d.toNat l) /\ (∀ (e : Int), Membership.mem (List.take d.toNat l) e -> e <= 9223372036854775807) -> Br (decide (d < (n : Int))) (0 <= d /\ d < (n : Int) /\ a.isSome = true /\ ∃ e, atI b a (d.toNat * 1 + 0) = some (.int .u64 e) /\ Br (decide (9223372036854775807 < e)) (IntP l I b (.tuple #[.slice none 0 0, .bool false])) (0 <= d /\ d < (n : Int) /\ a.isSome = true /\ ∃ f, atI b a (d.toNat * 1 + 0) = some (.int .u64 f) /\ Wr .i64 f fun g => x.length = x.length * 1 /\ x.length + 1 <= 9223372036854775807 /\ (x.length + 1) * 8 <= 140737488355328 /\ Wr .i64 (d + 1) fun i => Rf (SV.v (.slice a n c)) /\ x.length + 1 = List.length (x ++ [.int .i64 g]) /\ (0 <= i /\ i <= (n : Int) /\ x ++ [.int .i64 g] = List.map (Value.int .i64) (List.take i.toNat l) /\ ∀ (j : Int), Membership.mem (List.take i.toNat l) j -> j <= 9223372036854775807) /\ Int.toNat ((n : Int) - i) < Int.toNat ((n : Int) - d))) (∀ (e : Option Addr) (f : Nat) (g : Mem), b.le g -> RowF b g e f 1 x 3 -> IntP l I g (.tuple #[.slice e x.length f, .bool true]))) (by kernel_rfl) ?_
 simp only [Rf, eq_self, true_and];have hnl := h.numLen
 refine ⟨⟨by omega, by omega, fun x hx => by cases hx⟩, fun J _ lJ ys d ⟨d0, d1, hy, hb⟩ => ?_⟩
 refine Br.mk (fun hlt => ?_) (fun hge => ?_)
 · have hlt := of_decide_eq_true hlt
   obtain ⟨x, hx, e⟩ := (h.mono lJ).intAt d0 hlt;have hxr := hl x (List.mem_of_getElem? hx)
   have hs := h.isSome (by omega)
   refine ⟨d0, hlt, hs, x, e, Br.mk (fun hi => ?_) (fun hi => ?_)⟩
   · have hi := of_decide_eq_true hi
     exact ⟨_, false, rfl, ⟨[], ⟨none, 0, 0, rfl, rfl, .inl ⟨rfl, rfl, rfl⟩⟩, fun h => by cases h⟩, fun h => by have := h x (List.mem_of_getElem? hx); omega⟩
   · have hi := of_decide_eq_false hi
     have hyl : ys.length = d.toNat := by rw [hy, List.length_map, List.length_take]; omega
     have htk : l.take (d + 1).toNat = l.take d.toNat ++ [x] := by
      rw [show (d + 1).toNat = d.toNat + 1 by omega, List.take_add_one, hx]; rfl
     refine ⟨d0, hlt, hs, x, e, wr_i64 (by have := hxr.1; omega) (by omega) ⟨by omega, by omega, by omega, wr_i64 (by omega) (by omega) ⟨by rw [List.length_append]; rfl, ⟨by omega, by omega, by rw [htk, hy]; simp, fun y hy' => ?_⟩, by omega⟩⟩⟩
     rw [htk] at hy'
     rcases List.mem_append.1 hy' with hy' | hy'
     · exact hb y hy'
     · rw [List.mem_singleton.1 hy']; omega
 · have hge := of_decide_eq_false hge
   intro e f J1 l1 hrow
   have hd : l.take d.toNat = l := List.take_of_length_le (by omega)
   rw [hd] at hy hb
   have hyl : ys.length = l.length := by rw [hy, List.length_map]
   subst hy
   exact ⟨_, true, rfl, ⟨l, ⟨_, _, _, rfl, by rw [ints_len]; omega, .inr (rowF_anti hrow lJ)⟩, fun _ => ⟨rfl, hb⟩⟩, fun _ => rfl⟩
set_option maxHeartbeats 1000000
def cG (x : HdT) : List Value := [.int .i64 x.1, .int .i64 x.2.1, .int .i64 x.2.2.1, .int .i64 x.2.2.2.1, .int .i64 x.2.2.2.2]
def rfV (r : Rs) (y : Ys) : List Value := [.int .i64 r.num, .int .i64 r.code, .int .i64 r.ser, .int .i64 r.port, .int .i64 r.time, .int .i64 r.kind, .bool r.more, .int .i64 r.key.1, .int .i64 r.key.2.1, .int .i64 r.key.2.2, y.c, y.l, y.e, y.p, y.h]
structure RfM (I : Mem) (r : Rs) (y : Ys) : Prop where
 c : LstM 1 I y.c (r.counts.flatMap cI)
 l : LstM 1 I y.l (r.cells.flatMap cI)
 e : LstM 5 I y.e (r.events.flatMap cE)
 p : LstM 3 I y.p (r.ports.flatMap cP)
 h : LstM 5 I y.h (r.handles.flatMap cG)
theorem RfM.mono {I J : Mem} {r : Rs} {y : Ys} (h : RfM I r y) (hle : I.le J) : RfM J r y := ⟨h.c.mono hle, h.l.mono hle, h.e.mono hle, h.p.mono hle, h.h.mono hle⟩
structure okRf (r : Rs) : Prop where
 num : i64R r.num
 code : i64R r.code
 ser : i64R r.ser
 port : i64R r.port
 time : i64R r.time
 kind : i64R r.kind
 key : i64R r.key.1 /\ i64R r.key.2.1 /\ i64R r.key.2.2
 counts : ∀ x ∈ r.counts, i64R x
 cells : ∀ x ∈ r.cells, i64R x
 events : ∀ x ∈ r.events, (i64R x.1.1 /\ i64R x.1.2.1 /\ i64R x.1.2.2) /\ i64R x.2.1 /\ i64R x.2.2
 ports : ∀ x ∈ r.ports, i64R x.1 /\ byteL x.2.1 /\ i64R x.2.2
 handles : ∀ x ∈ r.handles, (i64R x.1 /\ i64R x.2.1 /\ i64R x.2.2.1 /\ i64R x.2.2.2.1) /\ 0 <= x.2.2.2.2 /\ x.2.2.2.2 <= 9223372036854775807
structure smallF (r : Rs) : Prop where
 counts : r.counts.length <= 1000000
 cells : r.cells.length <= 1000000
 events : r.events.length <= 1000000
 ports : r.ports.length <= 1000000
 handles : r.handles.length <= 1000000
 names : ∀ x ∈ r.ports, x.2.1.length <= 1000000
theorem lstM_nil {sz : Nat} {I : Mem} : LstM sz I (.slice none 0 0) [] := ⟨none, 0, 0, rfl, sl_nil _ _, by omega, by omega⟩
theorem row_lst {I : Mem} {a : Option Addr} {cp sz n : Nat} {xs : List Value} (h : RowM I a cp sz xs) (hz : 0 < sz) (hl : xs.length = n * sz) : LstM sz I (.slice a n cp) xs := by
 refine ⟨a, n, cp, rfl, h.sl hz hl, ?_, h.2.1⟩;have := h.1;rw [hl] at this;exact Nat.le_of_mul_le_mul_right this hz
theorem ct22 (l : List Int) (a : Option Addr) (n c : Nat) (I : Mem) (h : SlM I a n 1 (l.flatMap cI)) (hn : n <= 1000000) : Ct Tryz.prog (fnv 22) #[.slice a n c] I (fun v I' => LstM 1 I' v (l.flatMap cI)) := by
 obtain ⟨L, hL⟩ : ∃ L, L = l.flatMap cI := ⟨_, rfl⟩;rw [<- hL] at h ⊢
 have h1 : ∀ v ∈ L, v.oneCell' = true := by rw [hL]; exact oneI l
 refine viaR (ct_via (A := { }) Tryz.func22 rfl Tryz.call22 rfl rfl) (∃ y, y.length = n * 1 /\ (a = none -> n = 0) /\ (∀ (j : Nat) (v : Value), y[j]? = some v -> atI I a j = some v) /\ (∀ (v : Value), Membership.mem y v -> v.oneCell' = true) /\ n <= 9223372036854775807 /\ n * 8 <= 140737488355328 /\ ∀ (b : Option Addr) (d : Nat) (e : Mem), I.le e -> RowM e b d 1 y -> LstM 1 e (.slice b n d) L) (by kernel_rfl) ?_
 exact ⟨L, h.len, h.nil, h.at_, h1, by omega, by omega, fun b d e _ hrow => row_lst hrow (by omega) h.len⟩
theorem ct24 (l : List EvT) (a : Option Addr) (n c : Nat) (I : Mem) (h : SlM I a n 5 (l.flatMap cE)) (hn : n <= 1000000) : Ct Tryz.prog (fnv 24) #[.slice a n c] I (fun v I' => LstM 5 I' v (l.flatMap cE)) := by
 obtain ⟨L, hL⟩ : ∃ L, L = l.flatMap cE := ⟨_, rfl⟩;rw [<- hL] at h ⊢
 have h1 : ∀ v ∈ L, v.oneCell' = true := by rw [hL]; exact oneE l
 refine viaR (ct_via (A := { }) Tryz.func24 rfl Tryz.call24 rfl rfl) (∃ y, y.length = n * 5 /\ (a = none -> n = 0) /\ (∀ (j : Nat) (v : Value), y[j]? = some v -> atI I a j = some v) /\ (∀ (v : Value), Membership.mem y v -> v.oneCell' = true) /\ n <= 9223372036854775807 /\ n * 40 <= 140737488355328 /\ ∀ (b : Option Addr) (d : Nat) (e : Mem), I.le e -> RowM e b d 5 y -> LstM 5 e (.slice b n d) L) (by kernel_rfl) ?_
 exact ⟨L, h.len, h.nil, h.at_, h1, by omega, by omega, fun b d e _ hrow => row_lst hrow (by omega) h.len⟩
theorem cP_lenT (l : List PtT) : (l.flatMap cP).length = l.length * 3   := fm_len (c := cP) (k := 3) (fun _ => rfl) l
theorem cG_lenT (l : List HdT) : (l.flatMap cG).length = l.length * 5 := fm_len (c := cG) (k := 5) (fun _ => rfl) l
theorem ct10 (r : Rs) (hr : okRs r) (hs : smallF r) (y : Ys) (I : Mem) (hM : RsM I r y) : Ct Tryz.prog (fnv 10) #[.agg (rsV r y).toArray] I (fun v I' => ∃ y', v = .agg (rfV r y').toArray /\ RfM I' r y') := by
 obtain ⟨⟨ac, nc, cc, hyc, hc, hcc, hcm⟩, ⟨al, nl, cl, hyl, hl, hlc, hlm⟩, ⟨ae, ne, ce, hye, he, hec, hem⟩, ⟨ap, np, cp, hyp, hp, hpc, hpm⟩, ⟨ah, nh, ch, hyh, hh, hhc, hhm⟩⟩ := hM;obtain ⟨yc, yl, ye, yp, yh⟩ := y
 simp only at hyc hyl hye hyp hyh
 subst hyc hyl hye hyp hyh;obtain ⟨PI, hPI⟩ : ∃ f : Int -> List Value -> Prop, f = fun (j : Int) xs => 0 <= j /\ j <= np /\ xs = (r.ports.take j.toNat).flatMap cP := ⟨_, rfl⟩;obtain ⟨HI, hHI⟩ : ∃ f : Int -> List Value -> Prop, f = fun (j : Int) xs => 0 <= j /\ j <= nh /\ xs = (r.handles.take j.toNat).flatMap cG := ⟨_, rfl⟩
 refine viaR (ct_via (A := { loops := [(3, ⟨[(1, .keep), (2, .keep), (3, .keep), (36, .keep), (37, .keep), (38, .sh (.int .i64))], [(0, .keep), (1, .keep), (2, .cells [.keep, .keep, .keep, .keep, .keep, .keep, .keep, .keep, .keep, .keep, .keep, .keep, .keep, .row 3, .keep]), (3, .row)], [(3, 13003, 71)], fun vals xss _ _ => match vals, xss with | [.int .i64 j], [xs] => PI j xs | _, _ => False, fun vals _ => match vals with | [.int .i64 j] => (np - j).toNat | _ => 0⟩), (8, ⟨[(1, .keep), (2, .keep), (3, .keep), (50, .keep), (51, .keep), (52, .sh (.int .i64))], [(0, .keep), (1, .keep), (2, .cells [.keep, .keep, .keep, .keep, .keep, .keep, .keep, .keep, .keep, .keep, .keep, .keep, .keep, .keep, .row 4]), (3, .keep), (4, .row)], [(3, 14005, 73)], fun vals xss _ _ => match vals, xss with | [.int .i64 j], [xs] => HI j xs | _, _ => False, fun vals _ => match vals with | [.int .i64 j] => (nh - j).toNat | _ => 0⟩)] }) Tryz.func10 rfl Tryz.call10 rfl rfl) (let E3 := SV.v (.int .i64 r.key.2.2)
  let E4 := SV.v (.int .i64 r.key.2.1)
  let E5 := SV.v (.slice none 0 0)
  let E6 := SV.v (.int .i64 r.key.1)
  let E1 := Ent.mk (.cells [.v (.int .i64 0), .v (.int .i64 0), .v (.int .i64 0), .v (.int .i64 0), .v (.int .i64 0), .v (.int .i64 0), .v (.bool false), .v (.int .i64 0), .v (.int .i64 0), .v (.int .i64 0), E5, E5, E5, E5, E5] 41) none
  let E2 := Ent.mk (.cells [.v (.int .i64 r.num), .v (.int .i64 r.code), .v (.int .i64 r.ser), .v (.int .i64 r.port), .v (.int .i64 r.time), .v (.int .u8 r.kind), .v (.bool r.more), E6, E4, E3, .v (.slice ac nc cc), .v (.slice al nl cl), .v (.slice ae ne ce), .v (.slice ap np cp), .v (.slice ah nh ch)] 34) none
  Wr .i64 r.kind fun c => Ct Tryz.prog (fnv 22) #[.slice ac nc cc] I (fun v a => ∃ b n d, v = .slice b n d /\ Ct Tryz.prog (fnv 23) #[.slice al nl cl] a (fun e f => ∃ g h i, e = .slice g h i /\ Ct Tryz.prog (fnv 24) #[.slice ae ne ce] f (fun j k => ∃ l m o, j = .slice l m o /\ (Rf E2 /\ Rf E1 /\ Rf (SV.ptr 0 0) /\ Rf (SV.ptr 1 0) /\ Rf (SV.ptr 2 0) /\ Rf (SV.v (.slice ap np cp)) /\ Rf (SV.v (.int .i64 (np : Int))) /\ Rf (none : Option Nat) /\ Rf (SV.v (.int .i64 r.num)) /\ Rf (SV.v (.int .i64 r.code)) /\ Rf (SV.v (.int .i64 r.ser)) /\ Rf (SV.v (.int .i64 r.port)) /\ Rf (SV.v (.int .i64 r.time)) /\ Rf (SV.v (.int .i64 c)) /\ Rf (SV.v (.bool r.more)) /\ Rf E6 /\ Rf E4 /\ Rf E3 /\ Rf (SV.v (.slice b n d)) /\ Rf (SV.v (.slice g h i)) /\ Rf (SV.v (.slice l m o)) /\ (0 : Nat) = 0 /\ Rf E5 /\ PI 0 []) /\ ∀ (p : Mem), Mem -> k.le p -> ∀ (x : List Value) (q : Int), PI q x -> Br (decide (q < (np : Int))) (0 <= q /\ q < (np : Int) /\ ap.isSome = true /\ (3 : Nat) = 3 /\ ∃ s, atI p ap (q.toNat * 3 + 0) = some (.int .i64 s) /\ ∃ t, atI p ap (q.toNat * 3 + 1) = some (.string t) /\ ∃ u, atI p ap (q.toNat * 3 + 2) = some (.int .i64 u) /\ x.length = x.length / 3 * 3 /\ x.length / 3 + 1 <= 9223372036854775807 /\ (x.length / 3 + 1) * 32 <= 140737488355328 /\ Wr .i64 (q + 1) fun w => Rf E2 /\ Rf E1 /\ Rf (SV.ptr 0 0) /\ Rf (SV.ptr 1 0) /\ Rf (SV.ptr 2 0) /\ Rf (SV.v (.slice ap np cp)) /\ Rf (SV.v (.int .i64 (np : Int))) /\ Rf (none : Option Nat) /\ Rf (SV.v (.int .i64 r.num)) /\ Rf (SV.v (.int .i64 r.code)) /\ Rf (SV.v (.int .i64 r.ser)) /\ Rf (SV.v (.int .i64 r.port)) /\ Rf (SV.v (.int .i64 r.time)) /\ Rf (SV.v (.int .i64 c)) /\ Rf (SV.v (.bool r.more)) /\ Rf E6 /\ Rf E4 /\ Rf E3 /\ Rf (SV.v (.slice b n d)) /\ Rf (SV.v (.slice g h i)) /\ Rf (SV.v (.slice l m o)) /\ x.length / 3 + 1 = List.length (x ++ [.int .i64 s, .string t, .int .i64 u]) / 3 /\ Rf E5 /\ PI w (x ++ [.int .i64 s, .string t, .int .i64 u]) /\ Int.toNat ((np : Int) - w) < Int.toNat ((np : Int) - q)) ((Rf E2 /\ Rf E1 /\ Rf (Ent.mk (.row x 3 71) none) /\ Rf (SV.ptr 0 0) /\ Rf (SV.ptr 1 0) /\ Rf (SV.ptr 2 0) /\ Rf (SV.v (.slice ah nh ch)) /\ Rf (SV.v (.int .i64 (nh : Int))) /\ Rf (none : Option Nat) /\ Rf (SV.v (.int .i64 r.num)) /\ Rf (SV.v (.int .i64 r.code)) /\ Rf (SV.v (.int .i64 r.ser)) /\ Rf (SV.v (.int .i64 r.port)) /\ Rf (SV.v (.int .i64 r.time)) /\ Rf (SV.v (.int .i64 c)) /\ Rf (SV.v (.bool r.more)) /\ Rf E6 /\ Rf E4 /\ Rf E3 /\ Rf (SV.v (.slice b n d)) /\ Rf (SV.v (.slice g h i)) /\ Rf (SV.v (.slice l m o)) /\ Rf (SV.rsl 3 (x.length / 3)) /\ (0 : Nat) = 0 /\ HI 0 []) /\ ∀ (s : Mem), Mem -> p.le s -> ∀ (t : List Value) (u : Int), HI u t -> Br (decide (u < (nh : Int))) (0 <= u /\ u < (nh : Int) /\ ah.isSome = true /\ (5 : Nat) = 5 /\ ∃ w, atI s ah (u.toNat * 5 + 0) = some (.int .i64 w) /\ ∃ y, atI s ah (u.toNat * 5 + 1) = some (.int .i64 y) /\ ∃ z, atI s ah (u.toNat * 5 + 2) = some (.int .i64 z) /\ ∃ n1, atI s ah (u.toNat * 5 + 3) = some (.int .i64 n1) /\ ∃ n2, atI s ah (u.toNat * 5 + 4) = some (.int .u8 n2) /\ Wr .i64 n2 fun c1 => t.length = t.length / 5 * 5 /\ t.length / 5 + 1 <= 9223372036854775807 /\ (t.length / 5 + 1) * 40 <= 140737488355328 /\ Wr .i64 (u + 1) fun c2 => Rf E2 /\ Rf E1 /\ Rf (Ent.mk (.row x 3 71) none) /\ Rf (SV.ptr 0 0) /\ Rf (SV.ptr 1 0) /\ Rf (SV.ptr 2 0) /\ Rf (SV.v (.slice ah nh ch)) /\ Rf (SV.v (.int .i64 (nh : Int))) /\ Rf (none : Option Nat) /\ Rf (SV.v (.int .i64 r.num)) /\ Rf (SV.v (.int .i64 r.code)) /\ Rf (SV.v (.int .i64 r.ser)) /\ Rf (SV.v (.int .i64 r.port)) /\ Rf (SV.v (.int .i64 r.time)) /\ Rf (SV.v (.int .i64 c)) /\ Rf (SV.v (.bool r.more)) /\ Rf E6 /\ Rf E4 /\ Rf E3 /\ Rf (SV.v (.slice b n d)) /\ Rf (SV.v (.slice g h i)) /\ Rf (SV.v (.slice l m o)) /\ Rf (SV.rsl 3 (x.length / 3)) /\ t.length / 5 + 1 = List.length (t ++ [.int .i64 w, .int .i64 y, .int .i64 z, .int .i64 n1, .int .i64 c1]) / 5 /\ HI c2 (t ++ [.int .i64 w, .int .i64 y, .int .i64 z, .int .i64 n1, .int .i64 c1]) /\ Int.toNat ((nh : Int) - c2) < Int.toNat ((nh : Int) - u)) (∀ (w : Option Addr) (y : Nat) (z : Mem), s.le z -> RowM z w y 3 x -> ∀ (a1 : Option Addr) (c1 : Nat) (I1 : Mem), z.le I1 -> RowM I1 a1 c1 5 t -> ∃ y1, Value.agg #[.int .i64 r.num, .int .i64 r.code, .int .i64 r.ser, .int .i64 r.port, .int .i64 r.time, .int .i64 c, .bool r.more, .int .i64 r.key.1, .int .i64 r.key.2.1, .int .i64 r.key.2.2, .slice b n d, .slice g h i, .slice l m o, .slice w (x.length / 3) y, .slice a1 (t.length / 5) c1] = .agg #[.int .i64 r.num, .int .i64 r.code, .int .i64 r.ser, .int .i64 r.port, .int .i64 r.time, .int .i64 r.kind, .bool r.more, .int .i64 r.key.1, .int .i64 r.key.2.1, .int .i64 r.key.2.2, y1.c, y1.l, y1.e, y1.p, y1.h] /\ RfM I1 r y1))) /\ Ct Tryz.prog (fnv 24) #[.slice ae ne ce] f fun j k => ∃ l m o, j = .slice l m o /\ (Rf E2 /\ Rf E1 /\ Rf (SV.ptr 0 0) /\ Rf (SV.ptr 1 0) /\ Rf (SV.ptr 2 0) /\ Rf (SV.v (.slice ap np cp)) /\ Rf (SV.v (.int .i64 (np : Int))) /\ Rf (none : Option Nat) /\ Rf (SV.v (.int .i64 r.num)) /\ Rf (SV.v (.int .i64 r.code)) /\ Rf (SV.v (.int .i64 r.ser)) /\ Rf (SV.v (.int .i64 r.port)) /\ Rf (SV.v (.int .i64 r.time)) /\ Rf (SV.v (.int .i64 c)) /\ Rf (SV.v (.bool r.more)) /\ Rf E6 /\ Rf E4 /\ Rf E3 /\ Rf (SV.v (.slice b n d)) /\ Rf (SV.v (.slice g h i)) /\ Rf (SV.v (.slice l m o)) /\ (0 : Nat) = 0 /\ Rf E5 /\ PI 0 []) /\ ∀ (p : Mem), Mem -> k.le p -> ∀ (x : List Value) (q : Int), PI q x -> Br (decide (q < (np : Int))) (0 <= q /\ q < (np : Int) /\ ap.isSome = true /\ (3 : Nat) = 3 /\ ∃ s, atI p ap (q.toNat * 3 + 0) = some (.int .i64 s) /\ ∃ t, atI p ap (q.toNat * 3 + 1) = some (.string t) /\ ∃ u, atI p ap (q.toNat * 3 + 2) = some (.int .i64 u) /\ x.length = x.length / 3 * 3 /\ x.length / 3 + 1 <= 9223372036854775807 /\ (x.length / 3 + 1) * 32 <= 140737488355328 /\ Wr .i64 (q + 1) fun w => Rf E2 /\ Rf E1 /\ Rf (SV.ptr 0 0) /\ Rf (SV.ptr 1 0) /\ Rf (SV.ptr 2 0) /\ Rf (SV.v (.slice ap np cp)) /\ Rf (SV.v (.int .i64 (np : Int))) /\ Rf (none : Option Nat) /\ Rf (SV.v (.int .i64 r.num)) /\ Rf (SV.v (.int .i64 r.code)) /\ Rf (SV.v (.int .i64 r.ser)) /\ Rf (SV.v (.int .i64 r.port)) /\ Rf (SV.v (.int .i64 r.time)) /\ Rf (SV.v (.int .i64 c)) /\ Rf (SV.v (.bool r.more)) /\ Rf E6 /\ Rf E4 /\ Rf E3 /\ Rf (SV.v (.slice b n d)) /\ Rf (SV.v (.slice g h i)) /\ Rf (SV.v (.slice l m o)) /\ x.length / 3 + 1 = List.length (x ++ [.int .i64 s, .string t, .int .i64 u]) / 3 /\ Rf E5 /\ PI w (x ++ [.int .i64 s, .string t, .int .i64 u]) /\ Int.toNat ((np : Int) - w) < Int.toNat ((np : Int) - q)) ((Rf E2 /\ Rf E1 /\ Rf (Ent.mk (.row x 3 71) none) /\ Rf (SV.ptr 0 0) /\ Rf (SV.ptr 1 0) /\ Rf (SV.ptr 2 0) /\ Rf (SV.v (.slice ah nh ch)) /\ Rf (SV.v (.int .i64 (nh : Int))) /\ Rf (none : Option Nat) /\ Rf (SV.v (.int .i64 r.num)) /\ Rf (SV.v (.int .i64 r.code)) /\ Rf (SV.v (.int .i64 r.ser)) /\ Rf (SV.v (.int .i64 r.port)) /\ Rf (SV.v (.int .i64 r.time)) /\ Rf (SV.v (.int .i64 c)) /\ Rf (SV.v (.bool r.more)) /\ Rf E6 /\ Rf E4 /\ Rf E3 /\ Rf (SV.v (.slice b n d)) /\ Rf (SV.v (.slice g h i)) /\ Rf (SV.v (.slice l m o)) /\ Rf (SV.rsl 3 (x.length / 3)) /\ (0 : Nat) = 0 /\ HI 0 []) /\ ∀ (s : Mem), Mem -> p.le s -> ∀ (t : List Value) (u : Int), HI u t -> Br (decide (u < (nh : Int))) (0 <= u /\ u < (nh : Int) /\ ah.isSome = true /\ (5 : Nat) = 5 /\ ∃ w, atI s ah (u.toNat * 5 + 0) = some (.int .i64 w) /\ ∃ y, atI s ah (u.toNat * 5 + 1) = some (.int .i64 y) /\ ∃ z, atI s ah (u.toNat * 5 + 2) = some (.int .i64 z) /\ ∃ n1, atI s ah (u.toNat * 5 + 3) = some (.int .i64 n1) /\ ∃ n2, atI s ah (u.toNat * 5 + 4) = some (.int .u8 n2) /\ Wr .i64 n2 fun c1 => t.length = t.length / 5 * 5 /\ t.length / 5 + 1 <= 9223372036854775807 /\ (t.length / 5 + 1) * 40 <= 140737488355328 /\ Wr .i64 (u + 1) fun c2 => Rf E2 /\ Rf E1 /\ Rf (Ent.mk (.row x 3 71) none) /\ Rf (SV.ptr 0 0) /\ Rf (SV.ptr 1 0) /\ Rf (SV.ptr 2 0) /\ Rf (SV.v (.slice ah nh ch)) /\ Rf (SV.v (.int .i64 (nh : Int))) /\ Rf (none : Option Nat) /\ Rf (SV.v (.int .i64 r.num)) /\ Rf (SV.v (.int .i64 r.code)) /\ Rf (SV.v (.int .i64 r.ser)) /\ Rf (SV.v (.int .i64 r.port)) /\ Rf (SV.v (.int .i64 r.time)) /\ Rf (SV.v (.int .i64 c)) /\ Rf (SV.v (.bool r.more)) /\ Rf E6 /\ Rf E4 /\ Rf E3 /\ Rf (SV.v (.slice b n d)) /\ Rf (SV.v (.slice g h i)) /\ Rf (SV.v (.slice l m o)) /\ Rf (SV.rsl 3 (x.length / 3)) /\ t.length / 5 + 1 = List.length (t ++ [.int .i64 w, .int .i64 y, .int .i64 z, .int .i64 n1, .int .i64 c1]) / 5 /\ HI c2 (t ++ [.int .i64 w, .int .i64 y, .int .i64 z, .int .i64 n1, .int .i64 c1]) /\ Int.toNat ((nh : Int) - c2) < Int.toNat ((nh : Int) - u)) (∀ (w : Option Addr) (y : Nat) (z : Mem), s.le z -> RowM z w y 3 x -> ∀ (a1 : Option Addr) (c1 : Nat) (I1 : Mem), z.le I1 -> RowM I1 a1 c1 5 t -> ∃ y1, Value.agg #[.int .i64 r.num, .int .i64 r.code, .int .i64 r.ser, .int .i64 r.port, .int .i64 r.time, .int .i64 c, .bool r.more, .int .i64 r.key.1, .int .i64 r.key.2.1, .int .i64 r.key.2.2, .slice b n d, .slice g h i, .slice l m o, .slice w (x.length / 3) y, .slice a1 (t.length / 5) c1] = .agg #[.int .i64 r.num, .int .i64 r.code, .int .i64 r.ser, .int .i64 r.port, .int .i64 r.time, .int .i64 r.kind, .bool r.more, .int .i64 r.key.1, .int .i64 r.key.2.1, .int .i64 r.key.2.2, y1.c, y1.l, y1.e, y1.p, y1.h] /\ RfM I1 r y1))) /\ Ct Tryz.prog (fnv 23) #[.slice al nl cl] a fun e f => ∃ g h i, e = .slice g h i /\ Ct Tryz.prog (fnv 24) #[.slice ae ne ce] f fun j k => ∃ l m o, j = .slice l m o /\ (Rf E2 /\ Rf E1 /\ Rf (SV.ptr 0 0) /\ Rf (SV.ptr 1 0) /\ Rf (SV.ptr 2 0) /\ Rf (SV.v (.slice ap np cp)) /\ Rf (SV.v (.int .i64 (np : Int))) /\ Rf (none : Option Nat) /\ Rf (SV.v (.int .i64 r.num)) /\ Rf (SV.v (.int .i64 r.code)) /\ Rf (SV.v (.int .i64 r.ser)) /\ Rf (SV.v (.int .i64 r.port)) /\ Rf (SV.v (.int .i64 r.time)) /\ Rf (SV.v (.int .i64 c)) /\ Rf (SV.v (.bool r.more)) /\ Rf E6 /\ Rf E4 /\ Rf E3 /\ Rf (SV.v (.slice b n d)) /\ Rf (SV.v (.slice g h i)) /\ Rf (SV.v (.slice l m o)) /\ (0 : Nat) = 0 /\ Rf E5 /\ PI 0 []) /\ ∀ (p : Mem), Mem -> k.le p -> ∀ (x : List Value) (q : Int), PI q x -> Br (decide (q < (np : Int))) (0 <= q /\ q < (np : Int) /\ ap.isSome = true /\ (3 : Nat) = 3 /\ ∃ s, atI p ap (q.toNat * 3 + 0) = some (.int .i64 s) /\ ∃ t, atI p ap (q.toNat * 3 + 1) = some (.string t) /\ ∃ u, atI p ap (q.toNat * 3 + 2) = some (.int .i64 u) /\ x.length = x.length / 3 * 3 /\ x.length / 3 + 1 <= 9223372036854775807 /\ (x.length / 3 + 1) * 32 <= 140737488355328 /\ Wr .i64 (q + 1) fun w => Rf E2 /\ Rf E1 /\ Rf (SV.ptr 0 0) /\ Rf (SV.ptr 1 0) /\ Rf (SV.ptr 2 0) /\ Rf (SV.v (.slice ap np cp)) /\ Rf (SV.v (.int .i64 (np : Int))) /\ Rf (none : Option Nat) /\ Rf (SV.v (.int .i64 r.num)) /\ Rf (SV.v (.int .i64 r.code)) /\ Rf (SV.v (.int .i64 r.ser)) /\ Rf (SV.v (.int .i64 r.port)) /\ Rf (SV.v (.int .i64 r.time)) /\ Rf (SV.v (.int .i64 c)) /\ Rf (SV.v (.bool r.more)) /\ Rf E6 /\ Rf E4 /\ Rf E3 /\ Rf (SV.v (.slice b n d)) /\ Rf (SV.v (.slice g h i)) /\ Rf (SV.v (.slice l m o)) /\ x.length / 3 + 1 = List.length (x ++ [.int .i64 s, .string t, .int .i64 u]) / 3 /\ Rf E5 /\ PI w (x ++ [.int .i64 s, .string t, .int .i64 u]) /\ Int.toNat ((np : Int) - w) < Int.toNat ((np : Int) - q)) ((Rf E2 /\ Rf E1 /\ Rf (Ent.mk (.row x 3 71) none) /\ Rf (SV.ptr 0 0) /\ Rf (SV.ptr 1 0) /\ Rf (SV.ptr 2 0) /\ Rf (SV.v (.slice ah nh ch)) /\ Rf (SV.v (.int .i64 (nh : Int))) /\ Rf (none : Option Nat) /\ Rf (SV.v (.int .i64 r.num)) /\ Rf (SV.v (.int .i64 r.code)) /\ Rf (SV.v (.int .i64 r.ser)) /\ Rf (SV.v (.int .i64 r.port)) /\ Rf (SV.v (.int .i64 r.time)) /\ Rf (SV.v (.int .i64 c)) /\ Rf (SV.v (.bool r.more)) /\ Rf E6 /\ Rf E4 /\ Rf E3 /\ Rf (SV.v (.slice b n d)) /\ Rf (SV.v (.slice g h i)) /\ Rf (SV.v (.slice l m o)) /\ Rf (SV.rsl 3 (x.length / 3)) /\ (0 : Nat) = 0 /\ HI 0 []) /\ ∀ (s : Mem), Mem -> p.le s -> ∀ (t : List Value) (u : Int), HI u t -> Br (decide (u < (nh : Int))) (0 <= u /\ u < (nh : Int) /\ ah.isSome = true /\ (5 : Nat) = 5 /\ ∃ w, atI s ah (u.toNat * 5 + 0) = some (.int .i64 w) /\ ∃ y, atI s ah (u.toNat * 5 + 1) = some (.int .i64 y) /\ ∃ z, atI s ah (u.toNat * 5 + 2) = some (.int .i64 z) /\ ∃ n1, atI s ah (u.toNat * 5 + 3) = some (.int .i64 n1) /\ ∃ n2, atI s ah (u.toNat * 5 + 4) = some (.int .u8 n2) /\ Wr .i64 n2 fun c1 => t.length = t.length / 5 * 5 /\ t.length / 5 + 1 <= 9223372036854775807 /\ (t.length / 5 + 1) * 40 <= 140737488355328 /\ Wr .i64 (u + 1) fun c2 => Rf E2 /\ Rf E1 /\ Rf (Ent.mk (.row x 3 71) none) /\ Rf (SV.ptr 0 0) /\ Rf (SV.ptr 1 0) /\ Rf (SV.ptr 2 0) /\ Rf (SV.v (.slice ah nh ch)) /\ Rf (SV.v (.int .i64 (nh : Int))) /\ Rf (none : Option Nat) /\ Rf (SV.v (.int .i64 r.num)) /\ Rf (SV.v (.int .i64 r.code)) /\ Rf (SV.v (.int .i64 r.ser)) /\ Rf (SV.v (.int .i64 r.port)) /\ Rf (SV.v (.int .i64 r.time)) /\ Rf (SV.v (.int .i64 c)) /\ Rf (SV.v (.bool r.more)) /\ Rf E6 /\ Rf E4 /\ Rf E3 /\ Rf (SV.v (.slice b n d)) /\ Rf (SV.v (.slice g h i)) /\ Rf (SV.v (.slice l m o)) /\ Rf (SV.rsl 3 (x.length / 3)) /\ t.length / 5 + 1 = List.length (t ++ [.int .i64 w, .int .i64 y, .int .i64 z, .int .i64 n1, .int .i64 c1]) / 5 /\ HI c2 (t ++ [.int .i64 w, .int .i64 y, .int .i64 z, .int .i64 n1, .int .i64 c1]) /\ Int.toNat ((nh : Int) - c2) < Int.toNat ((nh : Int) - u)) (∀ (w : Option Addr) (y : Nat) (z : Mem), s.le z -> RowM z w y 3 x -> ∀ (a1 : Option Addr) (c1 : Nat) (I1 : Mem), z.le I1 -> RowM I1 a1 c1 5 t -> ∃ y1, Value.agg #[.int .i64 r.num, .int .i64 r.code, .int .i64 r.ser, .int .i64 r.port, .int .i64 r.time, .int .i64 c, .bool r.more, .int .i64 r.key.1, .int .i64 r.key.2.1, .int .i64 r.key.2.2, .slice b n d, .slice g h i, .slice l m o, .slice w (x.length / 3) y, .slice a1 (t.length / 5) c1] = .agg #[.int .i64 r.num, .int .i64 r.code, .int .i64 r.ser, .int .i64 r.port, .int .i64 r.time, .int .i64 r.kind, .bool r.more, .int .i64 r.key.1, .int .i64 r.key.2.1, .int .i64 r.key.2.2, y1.c, y1.l, y1.e, y1.p, y1.h] /\ RfM I1 r y1))) /\ Ct Tryz.prog (fnv 22) #[.slice ac nc cc] I fun v a => ∃ b n d, v = .slice b n d /\ Ct Tryz.prog (fnv 23) #[.slice al nl cl] a fun e f => ∃ g h i, e = .slice g h i /\ Ct Tryz.prog (fnv 24) #[.slice ae ne ce] f fun j k => ∃ l m o, j = .slice l m o /\ (Rf E2 /\ Rf E1 /\ Rf (SV.ptr 0 0) /\ Rf (SV.ptr 1 0) /\ Rf (SV.ptr 2 0) /\ Rf (SV.v (.slice ap np cp)) /\ Rf (SV.v (.int .i64 (np : Int))) /\ Rf (none : Option Nat) /\ Rf (SV.v (.int .i64 r.num)) /\ Rf (SV.v (.int .i64 r.code)) /\ Rf (SV.v (.int .i64 r.ser)) /\ Rf (SV.v (.int .i64 r.port)) /\ Rf (SV.v (.int .i64 r.time)) /\ Rf (SV.v (.int .i64 c)) /\ Rf (SV.v (.bool r.more)) /\ Rf E6 /\ Rf E4 /\ Rf E3 /\ Rf (SV.v (.slice b n d)) /\ Rf (SV.v (.slice g h i)) /\ Rf (SV.v (.slice l m o)) /\ (0 : Nat) = 0 /\ Rf E5 /\ PI 0 []) /\ ∀ (p : Mem), Mem -> k.le p -> ∀ (x : List Value) (q : Int), PI q x -> Br (decide (q < (np : Int))) (0 <= q /\ q < (np : Int) /\ ap.isSome = true /\ (3 : Nat) = 3 /\ ∃ s, atI p ap (q.toNat * 3 + 0) = some (.int .i64 s) /\ ∃ t, atI p ap (q.toNat * 3 + 1) = some (.string t) /\ ∃ u, atI p ap (q.toNat * 3 + 2) = some (.int .i64 u) /\ x.length = x.length / 3 * 3 /\ x.length / 3 + 1 <= 9223372036854775807 /\ (x.length / 3 + 1) * 32 <= 140737488355328 /\ Wr .i64 (q + 1) fun w => Rf E2 /\ Rf E1 /\ Rf (SV.ptr 0 0) /\ Rf (SV.ptr 1 0) /\ Rf (SV.ptr 2 0) /\ Rf (SV.v (.slice ap np cp)) /\ Rf (SV.v (.int .i64 (np : Int))) /\ Rf (none : Option Nat) /\ Rf (SV.v (.int .i64 r.num)) /\ Rf (SV.v (.int .i64 r.code)) /\ Rf (SV.v (.int .i64 r.ser)) /\ Rf (SV.v (.int .i64 r.port)) /\ Rf (SV.v (.int .i64 r.time)) /\ Rf (SV.v (.int .i64 c)) /\ Rf (SV.v (.bool r.more)) /\ Rf E6 /\ Rf E4 /\ Rf E3 /\ Rf (SV.v (.slice b n d)) /\ Rf (SV.v (.slice g h i)) /\ Rf (SV.v (.slice l m o)) /\ x.length / 3 + 1 = List.length (x ++ [.int .i64 s, .string t, .int .i64 u]) / 3 /\ Rf E5 /\ PI w (x ++ [.int .i64 s, .string t, .int .i64 u]) /\ Int.toNat ((np : Int) - w) < Int.toNat ((np : Int) - q)) ((Rf E2 /\ Rf E1 /\ Rf (Ent.mk (.row x 3 71) none) /\ Rf (SV.ptr 0 0) /\ Rf (SV.ptr 1 0) /\ Rf (SV.ptr 2 0) /\ Rf (SV.v (.slice ah nh ch)) /\ Rf (SV.v (.int .i64 (nh : Int))) /\ Rf (none : Option Nat) /\ Rf (SV.v (.int .i64 r.num)) /\ Rf (SV.v (.int .i64 r.code)) /\ Rf (SV.v (.int .i64 r.ser)) /\ Rf (SV.v (.int .i64 r.port)) /\ Rf (SV.v (.int .i64 r.time)) /\ Rf (SV.v (.int .i64 c)) /\ Rf (SV.v (.bool r.more)) /\ Rf E6 /\ Rf E4 /\ Rf E3 /\ Rf (SV.v (.slice b n d)) /\ Rf (SV.v (.slice g h i)) /\ Rf (SV.v (.slice l m o)) /\ Rf (SV.rsl 3 (x.length / 3)) /\ (0 : Nat) = 0 /\ HI 0 []) /\ ∀ (s : Mem), Mem -> p.le s -> ∀ (t : List Value) (u : Int), HI u t -> Br (decide (u < (nh : Int))) (0 <= u /\ u < (nh : Int) /\ ah.isSome = true /\ (5 : Nat) = 5 /\ ∃ w, atI s ah (u.toNat * 5 + 0) = some (.int .i64 w) /\ ∃ y, atI s ah (u.toNat * 5 + 1) = some (.int .i64 y) /\ ∃ z, atI s ah (u.toNat * 5 + 2) = some (.int .i64 z) /\ ∃ n1, atI s ah (u.toNat * 5 + 3) = some (.int .i64 n1) /\ ∃ n2, atI s ah (u.toNat * 5 + 4) = some (.int .u8 n2) /\ Wr .i64 n2 fun c1 => t.length = t.length / 5 * 5 /\ t.length / 5 + 1 <= 9223372036854775807 /\ (t.length / 5 + 1) * 40 <= 140737488355328 /\ Wr .i64 (u + 1) fun c2 => Rf E2 /\ Rf E1 /\ Rf (Ent.mk (.row x 3 71) none) /\ Rf (SV.ptr 0 0) /\ Rf (SV.ptr 1 0) /\ Rf (SV.ptr 2 0) /\ Rf (SV.v (.slice ah nh ch)) /\ Rf (SV.v (.int .i64 (nh : Int))) /\ Rf (none : Option Nat) /\ Rf (SV.v (.int .i64 r.num)) /\ Rf (SV.v (.int .i64 r.code)) /\ Rf (SV.v (.int .i64 r.ser)) /\ Rf (SV.v (.int .i64 r.port)) /\ Rf (SV.v (.int .i64 r.time)) /\ Rf (SV.v (.int .i64 c)) /\ Rf (SV.v (.bool r.more)) /\ Rf E6 /\ Rf E4 /\ Rf E3 /\ Rf (SV.v (.slice b n d)) /\ Rf (SV.v (.slice g h i)) /\ Rf (SV.v (.slice l m o)) /\ Rf (SV.rsl 3 (x.length / 3)) /\ t.length / 5 + 1 = List.length (t ++ [.int .i64 w, .int .i64 y, .int .i64 z, .int .i64 n1, .int .i64 c1]) / 5 /\ HI c2 (t ++ [.int .i64 w, .int .i64 y, .int .i64 z, .int .i64 n1, .int .i64 c1]) /\ Int.toNat ((nh : Int) - c2) < Int.toNat ((nh : Int) - u)) (∀ (w : Option Addr) (y : Nat) (z : Mem), s.le z -> RowM z w y 3 x -> ∀ (a1 : Option Addr) (c1 : Nat) (I1 : Mem), z.le I1 -> RowM I1 a1 c1 5 t -> ∃ y1, Value.agg #[.int .i64 r.num, .int .i64 r.code, .int .i64 r.ser, .int .i64 r.port, .int .i64 r.time, .int .i64 c, .bool r.more, .int .i64 r.key.1, .int .i64 r.key.2.1, .int .i64 r.key.2.2, .slice b n d, .slice g h i, .slice l m o, .slice w (x.length / 3) y, .slice a1 (t.length / 5) c1] = .agg #[.int .i64 r.num, .int .i64 r.code, .int .i64 r.ser, .int .i64 r.port, .int .i64 r.time, .int .i64 r.kind, .bool r.more, .int .i64 r.key.1, .int .i64 r.key.2.1, .int .i64 r.key.2.2, y1.c, y1.l, y1.e, y1.p, y1.h] /\ RfM I1 r y1))) (by kernel_rfl) ?_
 intro E3 E4 E5 E6 E1 E2;simp only [Rf, eq_self, true_and]
 clear E1 E2 E3 E4 E5 E6
 have lc := fm_len (c := cI) (k := 1) (fun _ => rfl) r.counts;have ll := fm_len (c := cI) (k := 1) (fun _ => rfl) r.cells;have le := fm_len (c := cE) (k := 5) (fun _ => rfl) r.events;have lp := fm_len (c := cP) (k := 3) (fun _ => rfl) r.ports;have lh := fm_len (c := cH) (k := 5) (fun _ => rfl) r.handles
 have hcn : nc = r.counts.length := by have := hc.len; omega
 have hln : nl = r.cells.length := by have := hl.len; omega
 have hen : ne = r.events.length := by have := he.len; omega
 have hpn : np = r.ports.length := by have := hp.len; omega
 have hhn : nh = r.handles.length := by have := hh.len; omega
 obtain ⟨s1, s2, s3, s4, s5, s6⟩ := hs;have hk := hr.kind
 have c22 : ∀ (J : Mem) (post : Value -> Mem -> Prop), I.le J -> (∀ b n d J', J.le J' -> I.le J' -> LstM 1 J' (.slice b n d) (r.counts.flatMap cI) -> post (.slice b n d) J') -> Ct Tryz.prog (fnv 22) #[.slice ac nc cc] J post := fun J post lJ hp => (ct22 r.counts ac nc cc J (hc.mono lJ) (by omega)).mono fun v J' l' hv => by
  obtain ⟨b, n, d, rfl, h⟩ := hv;exact hp b n d J' l' (Mem.le_trans lJ l') ⟨b, n, d, rfl, h⟩
 have c23 : ∀ (J : Mem) (post : Value -> Mem -> Prop), I.le J -> (∀ b n d J', J.le J' -> I.le J' -> LstM 1 J' (.slice b n d) (r.cells.flatMap cI) -> post (.slice b n d) J') -> Ct Tryz.prog (fnv 23) #[.slice al nl cl] J post := fun J post lJ hp => (ct23 r.cells al nl cl J (hl.mono lJ) (by omega)).mono fun v J' l' hv => by
  have hv := hv.lst;obtain ⟨b, n, d, rfl, h⟩ := hv;exact hp b n d J' l' (Mem.le_trans lJ l') ⟨b, n, d, rfl, h⟩
 have c24 : ∀ (J : Mem) (post : Value -> Mem -> Prop), I.le J -> (∀ b n d J', J.le J' -> I.le J' -> LstM 5 J' (.slice b n d) (r.events.flatMap cE) -> post (.slice b n d) J') -> Ct Tryz.prog (fnv 24) #[.slice ae ne ce] J post := fun J post lJ hp => (ct24 r.events ae ne ce J (he.mono lJ) (by omega)).mono fun v J' l' hv => by
  obtain ⟨b, n, d, rfl, h⟩ := hv;exact hp b n d J' l' (Mem.le_trans lJ l') ⟨b, n, d, rfl, h⟩
 refine wr_i64 (by omega) (by omega) ?_
 repeat' with_reducible apply And.intro
 all_goals first
  | with_reducible refine c22 _ _ (Mem.le_refl _) fun b1 n1 d1 J1 k1 i1 h1 => ⟨_, _, _, rfl, ?_⟩
  | with_reducible refine c23 _ _ (Mem.le_refl _) fun b1 n1 d1 J1 k1 i1 h1 => ⟨_, _, _, rfl, ?_⟩
  | with_reducible refine c24 _ _ (Mem.le_refl _) fun b1 n1 d1 J1 k1 i1 h1 => ⟨_, _, _, rfl, ?_⟩
 all_goals repeat' with_reducible apply And.intro
 all_goals first
  | with_reducible refine c22 _ _ i1 fun b2 n2 d2 J2 k2 i2 h2 => ⟨_, _, _, rfl, ?_⟩
  | with_reducible refine c23 _ _ i1 fun b2 n2 d2 J2 k2 i2 h2 => ⟨_, _, _, rfl, ?_⟩
  | with_reducible refine c24 _ _ i1 fun b2 n2 d2 J2 k2 i2 h2 => ⟨_, _, _, rfl, ?_⟩
 all_goals repeat' with_reducible apply And.intro
 all_goals first
  | with_reducible refine c22 _ _ i2 fun b3 n3 d3 J3 k3 i3 h3 => ⟨_, _, _, rfl, ?_⟩
  | with_reducible refine c23 _ _ i2 fun b3 n3 d3 J3 k3 i3 h3 => ⟨_, _, _, rfl, ?_⟩
  | with_reducible refine c24 _ _ i2 fun b3 n3 d3 J3 k3 i3 h3 => ⟨_, _, _, rfl, ?_⟩
 all_goals (
  refine ⟨by rw [hPI]; exact ⟨by omega, by omega, rfl⟩, fun p _ kp x q hq => ?_⟩
  rw [hPI] at hq;obtain ⟨q0, q1, hx⟩ := hq
  have hxl : x.length = q.toNat * 3 := by rw [hx, cP_lenT, List.length_take]; omega
  refine Br.mk (fun hlt => ?_) (fun hge => ?_)
  · have hlt := of_decide_eq_true hlt
    have hg : r.ports[q.toNat]? = some r.ports[q.toNat] := List.getElem?_eq_getElem (by omega)
    have ha : ∀ k v, k < 3 -> (cP r.ports[q.toNat])[k]? = some v -> atI p ap (q.toNat * 3 + k) = some v := fun k v hk hv => (hp.mono (Mem.le_trans i3 kp)).at_ _ _ (by rw [fm_get (c := cP) (k := 3) (fun _ => rfl) hg hk]; exact hv)
    refine ⟨q0, hlt, hp.isSome (by omega), _, ha 0 _ (by omega) rfl, _, ha 1 _ (by omega) rfl, _, ha 2 _ (by omega) rfl, by omega, by omega, by omega, wr_i64 (by omega) (by omega) ⟨by rw [List.length_append]; simp only [List.length_cons, List.length_nil]; omega, ?_, by omega⟩⟩
    rw [hPI]
    refine ⟨by omega, by omega, ?_⟩
    rw [show (q + 1).toNat = q.toNat + 1 by omega, fm_snoc hg, hx]
    rfl
  have hge := of_decide_eq_false hge
  have hpt : r.ports.take q.toNat = r.ports := List.take_of_length_le (by omega)
  rw [hpt] at hx
  refine ⟨by rw [hHI]; exact ⟨by omega, by omega, rfl⟩, fun s _ ks t u hu => ?_⟩
  rw [hHI] at hu;obtain ⟨u0, u1, ht⟩ := hu
  have htl : t.length = u.toNat * 5 := by rw [ht, cG_lenT, List.length_take]; omega
  refine Br.mk (fun hlt => ?_) (fun hge => ?_)
  · have hlt := of_decide_eq_true hlt
    have hg : r.handles[u.toNat]? = some r.handles[u.toNat] := List.getElem?_eq_getElem (by omega)
    have hok := (hr.handles _ (List.mem_of_getElem? hg)).2
    have ha : ∀ k v, k < 5 -> (cH r.handles[u.toNat])[k]? = some v -> atI s ah (u.toNat * 5 + k) = some v := fun k v hk hv => (hh.mono (Mem.le_trans i3 (Mem.le_trans kp ks))).at_ _ _ (by rw [fm_get (c := cH) (k := 5) (fun _ => rfl) hg hk]; exact hv)
    refine ⟨u0, hlt, hh.isSome (by omega), _, ha 0 _ (by omega) rfl, _, ha 1 _ (by omega) rfl, _, ha 2 _ (by omega) rfl, _, ha 3 _ (by omega) rfl, _, ha 4 _ (by omega) rfl, wr_i64 (by omega) (by omega) ⟨by omega, by omega, by omega, wr_i64 (by omega) (by omega) ⟨by rw [List.length_append]; simp only [List.length_cons, List.length_nil]; omega, ?_, by omega⟩⟩⟩
    rw [hHI]
    refine ⟨by omega, by omega, ?_⟩
    rw [show (u + 1).toNat = u.toNat + 1 by omega, fm_snoc hg, ht]
    rfl
  have hge := of_decide_eq_false hge
  have htt : r.handles.take u.toNat = r.handles := List.take_of_length_le (by omega)
  rw [htt] at ht;intro w y z lz hw a1 c1 I1 lI hc1;have m3 := Mem.le_trans kp (Mem.le_trans ks (Mem.le_trans lz lI));have h1 := (h1.mono (Mem.le_trans k2 k3)).mono m3;have h2 := (h2.mono k3).mono m3;have h3 := h3.mono m3
  refine ⟨⟨_, _, _, _, _⟩, rfl, ⟨by assumption, by assumption, by assumption, ?_, ?_⟩⟩
  · have e1 : x.length / 3 = r.ports.length := by omega
    rw [e1];rw [hx] at hw
    exact (row_lst hw (by omega) lp).mono lI
  · have e1 : t.length / 5 = r.handles.length := by omega
    rw [e1];rw [ht] at hc1
    exact row_lst hc1 (by omega) (cG_lenT _))
abbrev Tx := List UInt8
def splitC (c : UInt8) : Tx -> List Tx
 | [] => [[]]
 | b :: r => if b = c then [] :: splitC c r else match splitC c r with
   | x :: xs => (b :: x) :: xs
   | [] => [[b]]
theorem splitC_ne (c : UInt8) (s : Tx) : splitC c s ≠ [] := by
 cases s with
 | nil => simp [splitC]
 | cons b r =>
   rw [splitC];split
   · simp
   · split <;> simp
theorem splitC_free (c : UInt8) : ∀ (s : Tx), ∀ x ∈ splitC c s, c ∉ x
 | [], x, hx => by simp [splitC] at hx; subst hx; simp
 | b :: r, x, hx => by
   have ih := splitC_free c r;rw [splitC] at hx
   split at hx
   · rcases List.mem_cons.1 hx with rfl | hx
     · simp
     · exact ih x hx
   · rename_i hb
     split at hx
     · rename_i y ys e
       rw [e] at ih
       rcases List.mem_cons.1 hx with rfl | hx
       · have := ih y (by simp)
         simp only [List.mem_cons, not_or];exact ⟨fun h => hb h.symm, this⟩
       · exact ih x (List.mem_cons_of_mem _ hx)
     · rename_i e
       exact absurd e (splitC_ne c r)
theorem splitC_len (c : UInt8) : ∀ (s : Tx), ∀ x ∈ splitC c s, x.length <= s.length
 | [], x, hx => by simp [splitC] at hx; subst hx; simp
 | b :: r, x, hx => by
   have ih := splitC_len c r;rw [splitC] at hx
   split at hx
   · rcases List.mem_cons.1 hx with rfl | hx
     · simp
     · have := ih x hx; simp only [List.length_cons]; omega
   · split at hx
     · rename_i y ys e
       rw [e] at ih
       rcases List.mem_cons.1 hx with rfl | hx
       · have := ih y (by simp); simp only [List.length_cons]; omega
       · have := ih x (List.mem_cons_of_mem _ hx); simp only [List.length_cons]; omega
     · rename_i e
       exact absurd e (splitC_ne c r)
def intT (t : Tx) : List Int := t.map fun c => (c.toNat : Int)
def tx (s : ByteArray) : Tx := s.data.toList
theorem splitC_hit (c : UInt8) : ∀ (p r : Tx), c ∉ p -> splitC c (p ++ c :: r) = p :: splitC c r
 | [], r, _ => by simp [splitC]
 | b :: p, r, h => by
   have hb : b ≠ c := fun e => h (by simp [e])
   rw [List.cons_append, splitC, if_neg hb, splitC_hit c p r fun hp => h (List.mem_cons_of_mem _ hp)]
theorem splitC_one (c : UInt8) : ∀ (p : Tx), c ∉ p -> splitC c p = [p]
 | [], _ => rfl
 | b :: p, h => by
   have hb : b ≠ c := fun e => h (by simp [e])
   rw [splitC, if_neg hb, splitC_one c p fun hp => h (List.mem_cons_of_mem _ hp)]
theorem tx_extract (s : ByteArray) (i j : Nat) : tx (s.extract i j) = ((tx s).take j).drop i := by
 simp [tx, ByteArray.data_extract, List.extract_eq_take_drop, List.drop_take]
def strs (l : List ByteArray) : List Value := l.map .string
theorem strs_get {l : List ByteArray} {j : Nat} {y : ByteArray} (h : l[j]? = some y) : (strs l)[j]? = some (.string y) := by simp [strs, h]
def WsL (I : Mem) (v : Value) (ws : List ByteArray) : Prop := ∃ p n c, v = .slice p n c /\ SlM I p n 1 (strs ws) /\ n <= c /\ c <= maxLen
theorem count_splitC (c : UInt8) : ∀ s : Tx, s.count c + 1 = (splitC c s).length
 | [] => rfl
 | b :: r => by
   have ih := count_splitC c r;rw [splitC];split
   · rename_i h; subst h; rw [List.count_cons_self, List.length_cons, ih]
   · rename_i h
     rw [List.count_cons_of_ne (fun e => h e), ih]
     cases e : splitC c r with
     | nil => exact absurd e (splitC_ne c r)
     | cons x xs => rfl
def firstI (s : ByteArray) : Option Int := (strL s).head?
theorem str_first {s : ByteArray} {c : UInt8} (h : s.data.toList[0]? = some c) : firstI s = some (c.toNat : Int) := by
 rw [firstI, strL, <- List.head?_eq_getElem?] at *
 rw [List.head?_map, h]; rfl
def nameF (t : Tx) (b : Int) : Bool := nameEnd (nameGo (intT t) b)
theorem nameF_cons (c : UInt8) (t : Tx) (b : Int) : nameF (c :: t) b = (nameStep b c.toNat && nameF t c.toNat) := by
 show nameEnd (if nameStep b (c.toNat : Int) then nameGo (intT t) (c.toNat : Int) else none) = _
 cases nameStep b (c.toNat : Int) <;> rfl
theorem name_split : ∀ (t : Tx) (b : Int), nameF t b = match splitC 46 t with | x :: xs => nameF x b && xs.all (fun y => nameF y 46) | [] => false
 | [], b => by simp [splitC]
 | c :: r, b => by
   have ih := name_split r;rw [nameF_cons, splitC]
   by_cases hc : c = 46
   · subst hc
     rw [if_pos rfl]
     have h1 : nameStep b ((46 : UInt8).toNat : Int) = nameF [] b := by
      show (if (97 <= (46 : Int) /\ (46 : Int) <= 122) \/ (48 <= (46 : Int) /\ (46 : Int) <= 57) then true else if (46 : Int) = 45 then decide (b ≠ 46) else if (46 : Int) = 46 then decide (b ≠ 46) && decide (b ≠ 45) else false) = (decide (b ≠ 46) && decide (b ≠ 45))
      simp
     have h2 := ih 46;rw [h1]
     show (nameF [] b && nameF r 46) = (nameF [] b && (splitC 46 r).all fun y => nameF y 46)
     rw [h2]
     cases hs : splitC 46 r with
     | nil => exact absurd hs (splitC_ne 46 r)
     | cons x xs => rfl
   · rw [if_neg hc, ih]
     cases hs : splitC 46 r with
     | nil => exact absurd hs (splitC_ne 46 r)
     | cons x xs =>
       simp only
       rw [nameF_cons, Bool.and_assoc]
def okC (c : Int) : Prop := (97 <= c /\ c <= 122) \/ (48 <= c /\ c <= 57) \/ c = 45
theorem part_iff : ∀ (t : Tx) (b : Int), (46 : UInt8) ∉ t -> (nameF t b = true ↔ (t = [] -> b ≠ 46 /\ b ≠ 45) /\ (∀ c ∈ t, okC c.toNat) /\ (t.head? = some 45 -> b ≠ 46) /\ t.getLast? ≠ some 45)
 | [], b, _ => by
   show ((decide (b ≠ 46) && decide (b ≠ 45)) = true) ↔ _
   simp
 | c :: r, b, h => by
   have hc : c ≠ 46 := fun e => h (by simp [e])
   have hc' : (c.toNat : Int) ≠ 46 := fun e => hc (UInt8.toNat_inj.1 (by show c.toNat = 46; omega))
   have ih := part_iff r (c.toNat : Int) fun hr => h (List.mem_cons_of_mem _ hr);rw [nameF_cons, Bool.and_eq_true, ih]
   have h45 : c = 45 ↔ (c.toNat : Int) = 45 := ⟨fun e => by subst e; rfl, fun e => UInt8.toNat_inj.1 (by show c.toNat = 45; omega)⟩
   have hst : nameStep b c.toNat = true ↔ okC c.toNat /\ ((c.toNat : Int) = 45 -> b ≠ 46) := by
    unfold nameStep okC
    by_cases h1 : (97 <= (c.toNat : Int) /\ (c.toNat : Int) <= 122) \/ (48 <= (c.toNat : Int) /\ (c.toNat : Int) <= 57)
    · rw [if_pos h1]
      simp only [true_iff]
      exact ⟨by omega, by omega⟩
    · rw [if_neg h1]
      by_cases h2 : (c.toNat : Int) = 45
      · rw [if_pos h2, decide_eq_true_eq]; simp only [h2]; simp
      · rw [if_neg h2, if_neg hc']
        simp only [Bool.false_eq_true, false_iff];omega
   rw [hst]
   cases r with
   | nil =>
     simp only [List.mem_cons, List.not_mem_nil, or_false, forall_eq, List.head?_cons, List.head?_nil, List.getLast?_singleton, List.getLast?_nil, Option.some.injEq, false_implies, implies_true, true_and, forall_const, reduceCtorEq, not_false_eq_true, ne_eq, and_true, h45];constructor
     · rintro ⟨⟨h1, h2⟩, h3⟩; exact ⟨h1, h2, h3.2⟩
     · rintro ⟨h1, h2, h3⟩; exact ⟨⟨h1, h2⟩, hc', h3⟩
   | cons d r =>
     simp only [List.mem_cons, List.head?_cons, Option.some.injEq, List.getLast?_cons_cons, h45, reduceCtorEq, false_implies, true_and, ne_eq];constructor
     · rintro ⟨⟨h1, h2⟩, h3, h4, h5⟩
       refine ⟨fun x hx => ?_, h2, h5⟩
       rcases hx with rfl | hx
       · exact h1
       · exact h3 x hx
     · rintro ⟨h1, h2, h3⟩
       exact ⟨⟨h1 c (.inl rfl), h2⟩, fun x hx => h1 x (.inr hx), fun _ => hc', h3⟩
set_option maxHeartbeats 1000000 in
theorem ct106 (s : ByteArray) (hs : s.size <= 1000000) (I : Mem) :
 Ct Tryz.prog (fnv 106) #[.string s] I (fun v I' => ∃ l, WsL I' v l /\ l.map tx = splitC 46 (tx s)) := by
 obtain ⟨Q, hQ⟩ : ∃ f : Mem -> Value -> Prop, f = fun I' v => ∃ l, WsL I' v l /\ l.map tx = splitC 46 (tx s) := ⟨_, rfl⟩
 suffices h : Ct Tryz.prog (fnv 106) #[.string s] I (fun v I' => Q I' v) from h.mono fun v I' l hv => by rw [hQ] at hv; exact hv
 obtain ⟨WI, hWI⟩ : ∃ f : Int -> Int -> List Value -> Prop, f = fun (k j : Int) xs => 0 <= k /\ k <= j /\ j <= s.size + 1 /\ (xs.length : Int) <= j /\ ∃ L, xs = strs L /\ ((j <= s.size /\ (46 : UInt8) ∉ ((tx s).take j.toNat).drop k.toNat /\ splitC 46 (tx s) = L.map tx ++ splitC 46 ((tx s).drop k.toNat)) \/ (j = s.size + 1 /\ splitC 46 (tx s) = L.map tx)) := ⟨_, rfl⟩
 refine viaR (ct_via (A := { loops := [(4, ⟨[(0, .keep), (3, .row 0), (4, .sh (.int .i64)), (5, .sh (.int .i64))], [(0, .row)], [(3, 1, 9)], fun vals xss _ _ => match vals, xss with | [.int .i64 k, .int .i64 j], [xs] => WI k j xs | _, _ => False, fun vals _ => match vals with | [_, .int .i64 j] => (s.size + 2 - j).toNat | _ => 0⟩)] }) Tryz.func106 rfl Tryz.call106 rfl rfl) ((Rf (SV.v (.string s)) /\ (0 : Nat) = 0 /\ WI 0 0 []) /\ ∀ (a : Mem), Mem -> I.le a -> ∀ (x : List Value) (n b : Int), WI n b x -> Br (decide (b <= (s.size : Int))) (Br (b == (s.size : Int)) (0 <= n /\ n <= b /\ b <= (s.size : Int) /\ x.length = x.length * 1 /\ x.length + 1 <= 9223372036854775807 /\ (x.length + 1) * 16 <= 140737488355328 /\ Wr .i64 (b + 1) fun c => Wr .i64 (b + 1) fun d => Rf (SV.v (.string s)) /\ x.length + 1 = List.length (x ++ [.string (s.extract n.toNat b.toNat)]) /\ WI c d (x ++ [.string (s.extract n.toNat b.toNat)]) /\ Int.toNat ((s.size : Int) + 2 - d) < Int.toNat ((s.size : Int) + 2 - b)) (∃ c, s.data.toList[b.toNat]? = some c /\ 0 <= b /\ Br ((c.toNat : Int) == 46) (0 <= n /\ n <= b /\ b <= (s.size : Int) /\ x.length = x.length * 1 /\ x.length + 1 <= 9223372036854775807 /\ (x.length + 1) * 16 <= 140737488355328 /\ Wr .i64 (b + 1) fun d => Wr .i64 (b + 1) fun e => Rf (SV.v (.string s)) /\ x.length + 1 = List.length (x ++ [.string (s.extract n.toNat b.toNat)]) /\ WI d e (x ++ [.string (s.extract n.toNat b.toNat)]) /\ Int.toNat ((s.size : Int) + 2 - e) < Int.toNat ((s.size : Int) + 2 - b)) (Wr .i64 (b + 1) (fun d => Rf (SV.v (.string s)) /\ Rf x.length /\ WI n d x /\ Int.toNat ((s.size : Int) + 2 - d) < Int.toNat ((s.size : Int) + 2 - b))))) (∀ (c : Option Addr) (d : Nat) (e : Mem), a.le e -> RowM e c d 1 x -> Q e (.slice c x.length d))) (by kernel_rfl) ?_
 simp only [Rf, eq_self, true_and];have hsl : (tx s).length = s.size := Array.length_toList
 refine ⟨by rw [hWI]; exact ⟨by omega, by omega, by omega, by simp, [], rfl, .inl ⟨by omega, by simp, rfl⟩⟩, fun J _ lJ xs k j hj => Br.mk (fun hlt => ?_) (fun hge c d e le hr => ?_)⟩
 · have hlt := of_decide_eq_true hlt
   rw [hWI] at hj;obtain ⟨h0, h1, h2, h3, L, rfl, hc⟩ := hj
   rcases hc with ⟨_, hno, hsp⟩ | ⟨h4, _⟩
   · have hdt : ((tx s).take j.toNat).drop k.toNat ++ (tx s).drop j.toNat = (tx s).drop k.toNat := by
      rw [<- List.drop_append_of_le_length (by rw [List.length_take]; omega), List.take_append_drop]
     refine Br.mk (fun h4 => ?_) (fun h4 => ?_)
     · have h4 : j = (s.size : Int) := by simpa using h4
       refine ⟨by omega, by omega, by omega, by omega, by omega, by omega, wr_i64 (by omega) (by omega) (wr_i64 (by omega) (by omega) ⟨by simp, ?_, by omega⟩)⟩
       rw [hWI]
       refine ⟨by omega, by omega, by omega, by simp only [List.length_append, List.length_cons, List.length_nil]; omega, L ++ [s.extract k.toNat j.toNat], by simp [strs], .inr ⟨by omega, ?_⟩⟩
       have hd : (tx s).drop j.toNat = [] := List.drop_eq_nil_of_le (by omega)
       rw [hd, List.append_nil] at hdt;rw [hsp, <- hdt, splitC_one _ _ hno, List.map_append, List.map_cons, List.map_nil, tx_extract]
     · have h4 : j ≠ (s.size : Int) := by simpa using h4
       obtain ⟨x, hx⟩ : ∃ x, (tx s)[j.toNat]? = some x := ⟨_, List.getElem?_eq_getElem (by omega)⟩
       have hcons : (tx s).drop j.toNat = x :: (tx s).drop (j + 1).toNat := by
        rw [List.drop_eq_getElem_cons (by omega), show j.toNat + 1 = (j + 1).toNat by omega]
        rw [List.getElem?_eq_getElem (by omega)] at hx
        rw [Option.some.inj hx]
       refine ⟨x, hx, by omega, Br.mk (fun h5 => ?_) (fun h5 => ?_)⟩
       · have h5 : x = 46 := by
          have : (x.toNat : Int) = 46 := by simpa using h5
          exact UInt8.toNat_inj.1 (by show x.toNat = 46; omega)
         subst h5
         refine ⟨by omega, by omega, by omega, by omega, by omega, by omega, wr_i64 (by omega) (by omega) (wr_i64 (by omega) (by omega) ⟨by simp, ?_, by omega⟩)⟩
         rw [hWI]
         refine ⟨by omega, by omega, by omega, by simp only [List.length_append, List.length_cons, List.length_nil]; omega, L ++ [s.extract k.toNat j.toNat], by simp [strs], .inl ⟨by omega, by rw [List.drop_take]; simp, ?_⟩⟩
         rw [hsp, <- hdt, hcons, splitC_hit _ _ _ hno, List.map_append, List.map_cons, List.map_nil, tx_extract, List.append_assoc]; rfl
       · have h5 : x ≠ 46 := fun e => by subst e; simp at h5
         refine wr_i64 (by omega) (by omega) ⟨?_, by omega⟩
         rw [hWI]
         refine ⟨h0, by omega, by omega, by omega, L, rfl, .inl ⟨by omega, ?_, hsp⟩⟩
         rw [show (j + 1).toNat = j.toNat + 1 by omega, List.take_add_one, hx, List.drop_append_of_le_length (by rw [List.length_take]; omega)]
         intro hm
         rcases List.mem_append.1 hm with hm | hm
         · exact hno hm
         · simp at hm; exact h5 hm.symm
   · omega
 · have hge := of_decide_eq_false hge
   rw [hWI] at hj;obtain ⟨h0, h1, h2, h3, L, rfl, hc⟩ := hj
   rcases hc with ⟨h4, _⟩ | ⟨_, hsp⟩
   · omega
   · rw [hQ]
     have h1 := hr.1
     exact ⟨L, ⟨c, _, d, rfl, hr.sl (by omega) (by simp), by omega, hr.2.1⟩, hsp.symm⟩
theorem name_all (t : Tx) : nameF t 46 = (splitC 46 t).all fun y => nameF y 46 := by
 rw [name_split]
 cases hs : splitC 46 t with
 | nil => exact absurd hs (splitC_ne 46 t)
 | cons x xs => rfl
theorem part_of {t : Tx} (h : (46 : UInt8) ∉ t) : nameF t 46 = true ↔ t ≠ [] /\ ∀ (i : Nat) (c : UInt8), t[i]? = some c -> okC c.toNat /\ (c = 45 -> i ≠ 0 /\ i + 1 ≠ t.length) := by
 rw [part_iff t 46 h, List.head?_eq_getElem?, List.getLast?_eq_getElem?];constructor
 · rintro ⟨h1, h2, h3, h4⟩
   refine ⟨fun e => (h1 e).1 rfl, fun i c hc => ⟨h2 c (List.mem_of_getElem? hc), fun e => ⟨fun h0 => ?_, fun h0 => ?_⟩⟩⟩
   · subst h0; subst e; exact absurd rfl (h3 hc)
   · subst e
     rw [show i = t.length - 1 by omega] at hc
     exact h4 hc
 · rintro ⟨h1, h2⟩
   refine ⟨fun e => absurd e h1, fun c hc => ?_, fun h0 => ?_, fun h0 => ?_⟩
   · obtain ⟨i, hi, rfl⟩ := List.mem_iff_getElem.1 hc
     exact (h2 i _ (List.getElem?_eq_getElem hi)).1
   · exact absurd rfl ((h2 0 45 h0).2 rfl).1
   · have hl := (List.getElem?_eq_some_iff.1 h0).1
     have := ((h2 _ 45 h0).2 rfl).2;omega
set_option maxHeartbeats 1000000 in
theorem ct107 (s : ByteArray) (hs : s.size <= 1000000) (h46 : (46 : UInt8) ∉ tx s) (I : Mem) : Ct Tryz.prog (fnv 107) #[.string s] I (fun v _ => v = .bool (nameF (tx s) 46)) := by
 obtain ⟨D, hD⟩ : ∃ D : Bool, D = nameF (tx s) 46 := ⟨_, rfl⟩;rw [<- hD];obtain ⟨WI, hWI⟩ : ∃ f : Int -> Prop, f = fun (j : Int) => 0 <= j /\ j <= s.size /\ ∀ (i : Nat) (c : UInt8), (i : Int) < j -> (tx s)[i]? = some c -> okC c.toNat /\ (c = 45 -> i ≠ 0 /\ i + 1 ≠ (tx s).length) := ⟨_, rfl⟩;obtain ⟨XI, hXI⟩ : ∃ f : Int -> Prop, f = fun (j : Int) => ∀ c : UInt8, (tx s)[j.toNat]? = some c -> c = 45 -> j ≠ 0 /\ j + 1 ≠ s.size := ⟨_, rfl⟩
 refine viaR (ct_via (A := { loops := [(2, ⟨[(0, .keep), (3, .sh (.int .i64))], [], [], fun vals _ _ _ => match vals with | [.int .i64 j] => WI j | _ => False, fun vals _ => match vals with | [.int .i64 j] => (s.size - j).toNat | _ => 0⟩)], cuts := [(6, ⟨[(0, .keep), (3, .kv)], [], [], fun vals _ _ _ => match vals with | [.int .i64 j] => XI j | _ => False, fun _ _ => 0⟩)] }) Tryz.func107 rfl Tryz.call107 rfl rfl) ((Rf (SV.v (.string s)) /\ WI 0) /\ ∀ (a : Mem), Mem -> I.le a -> ∀ (n : Int), WI n -> Br (decide (n < (s.size : Int))) ((∃ c, s.data.toList[n.toNat]? = some c /\ 0 <= n /\ Br ((c.toNat : Int) == 45) (Br (n == 0) (Value.bool false = .bool D) (Wr .i64 ((s.size : Int) - 1) (fun b => Br (n == b) (Value.bool false = .bool D) (Rf (SV.v (.string s)) /\ Rf (SV.v (.int .i64 n)) /\ XI n)))) (Rf (SV.v (.string s)) /\ Rf (SV.v (.int .i64 n)) /\ XI n)) /\ ∀ (b : Mem), Mem -> a.le b -> XI n -> ∃ c, s.data.toList[n.toNat]? = some c /\ 0 <= n /\ Br ((c.toNat : Int) != 45) (∃ d, s.data.toList[n.toNat]? = some d /\ 0 <= n /\ Br (decide ((d.toNat : Int) < 48)) (∃ e, s.data.toList[n.toNat]? = some e /\ 0 <= n /\ Br (decide ((e.toNat : Int) < 97)) (Value.bool false = .bool D) (∃ f, s.data.toList[n.toNat]? = some f /\ 0 <= n /\ Br (decide (122 < (f.toNat : Int))) (Value.bool false = .bool D) (Wr .i64 (n + 1) (fun g => Rf (SV.v (.string s)) /\ WI g /\ Int.toNat ((s.size : Int) - g) < Int.toNat ((s.size : Int) - n))))) (∃ e, s.data.toList[n.toNat]? = some e /\ 0 <= n /\ Br (decide (57 < (e.toNat : Int))) (∃ f, s.data.toList[n.toNat]? = some f /\ 0 <= n /\ Br (decide ((f.toNat : Int) < 97)) (Value.bool false = .bool D) (∃ g, s.data.toList[n.toNat]? = some g /\ 0 <= n /\ Br (decide (122 < (g.toNat : Int))) (Value.bool false = .bool D) (Wr .i64 (n + 1) (fun h => Rf (SV.v (.string s)) /\ WI h /\ Int.toNat ((s.size : Int) - h) < Int.toNat ((s.size : Int) - n))))) (Wr .i64 (n + 1) (fun f => Rf (SV.v (.string s)) /\ WI f /\ Int.toNat ((s.size : Int) - f) < Int.toNat ((s.size : Int) - n))))) (Wr .i64 (n + 1) (fun d => Rf (SV.v (.string s)) /\ WI d /\ Int.toNat ((s.size : Int) - d) < Int.toNat ((s.size : Int) - n)))) (Value.bool (decide (0 < (s.size : Int))) = .bool D)) (by kernel_rfl) ?_
 simp only [Rf, true_and];have hts : (tx s).length = s.size := Array.length_toList
 have bad : ∀ {j : Nat} {c : UInt8}, (tx s)[j]? = some c -> ¬ (okC c.toNat /\ (c = 45 -> j ≠ 0 /\ j + 1 ≠ (tx s).length)) -> Value.bool false = Value.bool D := fun {j c} hc hn => by
  rw [hD];refine congrArg Value.bool (Eq.symm (Bool.eq_false_iff.2 fun ht => hn ?_));exact ((part_of h46).1 ht).2 j c hc
 refine ⟨by rw [hWI]; exact ⟨by omega, by omega, fun i c h => by omega⟩, fun J _ lJ j hj => Br.mk (fun hlt => ?_) (fun hge => ?_)⟩
 · have hlt := of_decide_eq_true hlt
   rw [hWI] at hj;obtain ⟨h0, h1, h2⟩ := hj
   obtain ⟨c, hc⟩ : ∃ c, (tx s)[j.toNat]? = some c := ⟨_, List.getElem?_eq_getElem (by omega)⟩
   have hc' : s.data.toList[j.toNat]? = some c := hc
   have c45 : (c.toNat : Int) = 45 -> c = 45 := fun e => UInt8.toNat_inj.1 (by show c.toNat = 45; omega)
   refine ⟨⟨c, hc', h0, Br.mk (fun h3 => ?_) (fun h3 => ?_)⟩, fun J2 _ l2 hx => ?_⟩
   · have h3 : (c.toNat : Int) = 45 := by simpa using h3
     refine Br.mk (fun h4 => ?_) (fun h4 => wr_i64 (by omega) (by omega) (Br.mk (fun h5 => ?_) (fun h5 => ?_)))
     · have h4 : j = 0 := by simpa using h4
       exact bad hc fun hh => (hh.2 (c45 h3)).1 (by omega)
     · have h5 : j = (s.size : Int) - 1 := by simpa using h5
       exact bad hc fun hh => (hh.2 (c45 h3)).2 (by omega)
     · have h4 : j ≠ 0 := by simpa using h4
       have h5 : j ≠ (s.size : Int) - 1 := by simpa using h5
       rw [hXI]
       exact fun c _ _ => ⟨h4, by omega⟩
   · have h3 : (c.toNat : Int) ≠ 45 := by simpa using h3
     rw [hXI];intro d hd e;rw [hc] at hd;cases hd;subst e;exact absurd rfl h3
   · rw [hXI] at hx
     have hx := hx c hc
     have next : okC c.toNat -> Wr IntKind.i64 (j + 1) fun g => WI g /\ (↑s.size - g).toNat < (↑s.size - j).toNat := fun ho => by
      refine wr_i64 (by omega) (by omega) ⟨?_, by omega⟩
      rw [hWI]
      refine ⟨by omega, by omega, fun i d hi hd => ?_⟩
      by_cases e : i = j.toNat
      · subst e
        rw [hc] at hd;cases hd
        exact ⟨ho, fun e => by have := hx e; omega⟩
      · exact h2 i d (by omega) hd
     have nok : ¬ okC c.toNat -> Value.bool false = Value.bool D := fun hn => bad hc fun hh => hn hh.1
     have low : (c.toNat : Int) ≠ 45 -> ((c.toNat : Int) < 48 \/ 57 < (c.toNat : Int)) -> ∃ e, s.data.toList[j.toNat]? = some e /\ 0 <= j /\ Br (decide ((e.toNat : Int) < 97)) (Value.bool false = Value.bool D) (∃ f, s.data.toList[j.toNat]? = some f /\ 0 <= j /\ Br (decide (122 < (f.toNat : Int))) (Value.bool false = Value.bool D) (Wr IntKind.i64 (j + 1) fun g => WI g /\ (↑s.size - g).toNat < (↑s.size - j).toNat)) := fun hn hl => by
      refine ⟨c, hc', h0, Br.mk (fun h3 => ?_) (fun h3 => ⟨c, hc', h0, Br.mk (fun h4 => ?_) (fun h4 => ?_)⟩)⟩
      · have h3 := of_decide_eq_true h3
        exact nok fun hh => by unfold okC at hh; omega
      · have h4 := of_decide_eq_true h4
        exact nok fun hh => by unfold okC at hh; omega
      · have h3 := of_decide_eq_false h3
        have h4 := of_decide_eq_false h4
        exact next (by unfold okC; omega)
     refine ⟨c, hc', h0, Br.mk (fun h3 => ?_) (fun h3 => ?_)⟩
     · have h3 : (c.toNat : Int) ≠ 45 := by simpa using h3
       refine ⟨c, hc', h0, Br.mk (fun h4 => low h3 (.inl (of_decide_eq_true h4))) (fun h4 => ⟨c, hc', h0, Br.mk (fun h5 => low h3 (.inr (of_decide_eq_true h5))) (fun h5 => ?_)⟩)⟩;have h4 := of_decide_eq_false h4;have h5 := of_decide_eq_false h5
       exact next (by unfold okC; omega)
     · have h3 : (c.toNat : Int) = 45 := by simpa using h3
       exact next (by unfold okC; omega)
 · have hge := of_decide_eq_false hge
   rw [hWI] at hj;obtain ⟨h0, h1, h2⟩ := hj;refine congrArg Value.bool ?_;rw [hD];apply Bool.eq_iff_iff.2;rw [part_of h46, decide_eq_true_eq];constructor
   · intro hp
     exact ⟨fun e => by rw [e] at hts; simp at hts; omega, fun i c hc => h2 i c (by have := (List.getElem?_eq_some_iff.1 hc).1; omega) hc⟩
   · rintro ⟨hp, _⟩
     have : (tx s).length ≠ 0 := fun e => hp (List.length_eq_zero_iff.1 e);omega
set_option maxHeartbeats 1000000 in
theorem ct79 (s : ByteArray) (hs : s.size <= 1000000) (I : Mem) : Ct Tryz.prog (fnv 79) #[.string s] I (fun v _ => v = .bool (nameB (strL s))) := by
 obtain ⟨D, hD⟩ : ∃ D : Bool, D = nameB (strL s) := ⟨_, rfl⟩;rw [<- hD];obtain ⟨M, hM⟩ : ∃ n : Nat, n = (splitC 46 (tx s)).length := ⟨_, rfl⟩;obtain ⟨WI, hWI⟩ : ∃ f : Int -> Prop, f = fun (j : Int) => 0 <= j /\ j <= M /\ ∀ x ∈ (splitC 46 (tx s)).take j.toNat, nameF x 46 = true := ⟨_, rfl⟩
 refine viaR (ct_via (A := { loops := [(5, ⟨[(3, .keep), (4, .sh (.int .i64))], [], [], fun vals _ I' _ => match vals with | [.int .i64 j] => WI j | _ => False, fun vals _ => match vals with | [.int .i64 j] => (M - j).toNat | _ => 0⟩)] }) Tryz.func79 rfl Tryz.call79 rfl rfl) (Br ((s.size : Int) == 0) (Value.bool false = .bool D) (Br (decide (32 < (s.size : Int))) (Value.bool false = .bool D) (∃ c, s.data.toList[0]? = some c /\ (0 : Int) <= 0 /\ Br (decide ((c.toNat : Int) < 97)) (Value.bool false = .bool D) (∃ a, s.data.toList[0]? = some a /\ (0 : Int) <= 0 /\ Br (decide (122 < (a.toNat : Int))) (Value.bool false = .bool D) (Ct Tryz.prog (fnv 106) #[.string s] I (fun v b => ∃ d n e, v = .slice d n e /\ (Rf (SV.v (.slice d n e)) /\ WI 0) /\ ∀ (f : Mem), Mem -> b.le f -> ∀ (g : Int), WI g -> Br (decide (g < (n : Int))) (0 <= g /\ g < (n : Int) /\ d.isSome = true /\ ∃ q, atI f d (g.toNat * 1 + 0) = some (.string q) /\ Ct Tryz.prog (fnv 107) #[.string q] f fun h i => ∃ j, h = .bool j /\ Br (!j) (Value.bool false = .bool D) (Wr .i64 (g + 1) (fun k => Rf (SV.v (.slice d n e)) /\ WI k /\ Int.toNat ((M : Int) - k) < Int.toNat ((M : Int) - g)))) (Value.bool true = .bool D))))))) (by kernel_rfl) ?_
 simp only [Rf, true_and];have hsl := strL_len s;have hts : (tx s).length = s.size := Array.length_toList
 have no : nameB (strL s) = false -> Value.bool false = Value.bool D := fun h => by rw [hD, h]
 refine Br.mk (fun h => no ?_) (fun h => Br.mk (fun h1 => no ?_) (fun h1 => ?_))
 · have h : (s.size : Int) = 0 := by simpa using h
   rw [nameB, decide_eq_false (by omega)]; rfl
 · have h1 := of_decide_eq_true h1
   rw [nameB, decide_eq_false (p := (strL s).length <= 32) (by omega)]; simp
 have h : (s.size : Int) ≠ 0 := by simpa using h
 have h1 := of_decide_eq_false h1
 obtain ⟨c, hc⟩ : ∃ c, s.data.toList[0]? = some c := ⟨_, List.getElem?_eq_getElem (by show 0 < (tx s).length; omega)⟩
 have hhd : (strL s).headD 0 = (c.toNat : Int) := by
  have := str_first hc;rw [firstI] at this
  cases hq : strL s with
  | nil => rw [hq] at this; cases this
  | cons x r => rw [hq] at this; simpa using this
 refine ⟨c, hc, by decide, Br.mk (fun h2 => no ?_) (fun h2 => ⟨c, hc, by decide, Br.mk (fun h3 => no ?_) (fun h3 => ?_)⟩)⟩
 · have h2 := of_decide_eq_true h2
   rw [nameB, hhd, decide_eq_false (p := 97 <= (c.toNat : Int) /\ _) (by omega)]; simp
 · have h3 := of_decide_eq_true h3
   rw [nameB, hhd, decide_eq_false (p := 97 <= (c.toNat : Int) /\ _) (by omega)]; simp
 have h2 := of_decide_eq_false h2;have h3 := of_decide_eq_false h3
 have hB : nameB (strL s) = (splitC 46 (tx s)).all fun y => nameF y 46 := by
  rw [nameB, hhd, decide_eq_true (p := 97 <= (c.toNat : Int) /\ _) (by omega), decide_eq_true (by omega), decide_eq_true (by omega), Bool.true_and, Bool.true_and, Bool.true_and, <- name_all]; rfl
 refine (ct106 s hs I).mono fun v J lJ ⟨l, ⟨d, n, e, hv, hl, hne, _⟩, hls⟩ => ⟨d, n, e, hv, by rw [hWI]; exact ⟨by omega, by omega, fun x hx => by simp at hx⟩, fun J2 _ l2 g hg => ?_⟩
 have hln : l.length = n := by have := hl.len; simp [strs] at this; omega
 have hMn : M = n := by rw [hM, <- hls, List.length_map, hln]
 have hMs : M <= s.size + 1 := by rw [hM, <- count_splitC]; have := List.count_le_length (a := (46 : UInt8)) (l := tx s); omega
 rw [hWI] at hg;obtain ⟨g0, g1, g2⟩ := hg;refine Br.mk (fun hlt => ?_) (fun hge => ?_)
 · have hlt := of_decide_eq_true hlt
   obtain ⟨x, hx⟩ : ∃ x, l[g.toNat]? = some x := ⟨_, List.getElem?_eq_getElem (by omega)⟩
   have hat := (hl.mono l2).at_ _ _ (strs_get hx)
   have hx2 : (splitC 46 (tx s))[g.toNat]? = some (tx x) := by rw [<- hls, List.getElem?_map, hx]; rfl
   have hmem := List.mem_of_getElem? hx2;have hfree := splitC_free 46 (tx s) _ hmem;have hxl := splitC_len 46 (tx s) _ hmem
   have hxs : x.size <= 1000000 := by
    have : (tx x).length = x.size := Array.length_toList;omega
   refine ⟨g0, hlt, hl.isSome (by omega), x, by rw [Nat.mul_one, Nat.add_zero]; exact hat, (ct107 x hxs hfree J2).mono fun v J3 l3 hv => ⟨_, hv, Br.mk (fun h4 => no ?_) (fun h4 => wr_i64 (by omega) (by omega) ⟨?_, by omega⟩)⟩⟩
   · have h4 : nameF (tx x) 46 = false := by simpa using h4
     rw [hB, List.all_eq_false]
     exact ⟨_, hmem, by rw [h4]; decide⟩
   · have h4 : nameF (tx x) 46 = true := by simpa using h4
     rw [hWI]
     refine ⟨by omega, by omega, fun y hy => ?_⟩
     rw [show (g + 1).toNat = g.toNat + 1 by omega, List.take_add_one, hx2, Option.toList_some] at hy
     rcases List.mem_append.1 hy with hy | hy
     · exact g2 y hy
     · rw [List.mem_singleton.1 hy]; exact h4
 · have hge := of_decide_eq_false hge
   refine congrArg Value.bool ?_;rw [hD, hB, eq_comm, List.all_eq_true];intro y hy
   exact g2 y (by rw [List.take_of_length_le (by omega)]; exact hy)
set_option maxHeartbeats 1000000
def hasB (m : Int) (j : Nat) : Bool := (m / 2 ^ j) % 2 == 1
def hasL (m : Int) (i : Int) : List Value := [.bool (decide (0 < i) && hasB m 0), .bool (decide (1 < i) && hasB m 1), .bool (decide (2 < i) && hasB m 2), .bool (decide (3 < i) && hasB m 3)]
def hasV (m : Int) : Value := .tuple #[.agg #[.bool (hasB m 0), .bool (hasB m 1), .bool (hasB m 2), .bool (hasB m 3)], .bool (m / 16 == 0)]
theorem ct108 (m : Int) (hm : 0 <= m /\ m <= 9223372036854775807) (I : Mem) : Ct Tryz.prog (fnv 108) #[.int .i64 m] I (fun v _ => v = hasV m) := by
 refine viaR (ct_via (A := { loops := [(3, ⟨[(0, .sh (.int .i64)), (2, .keep), (4, .keep), (5, .sh (.int .i64))], [(0, .keep), (1, .vec)], [], fun vals xss _ _ => match vals, xss with | [.int .i64 v0, .int .i64 i], [xs] => 0 <= i /\ i <= 4 /\ v0 = m / 2 ^ i.toNat /\ xs = hasL m i | _, _ => False, fun vals _ => match vals with | [_, .int .i64 i] => (4 - i).toNat | _ => 0⟩)] }) Tryz.func108 rfl Tryz.call108 rfl rfl) ((Rf (Ent.mk (.cells [.v (.bool false), .v (.bool false), .v (.bool false), .v (.bool false)] 185) none) /\ Rf (none : Option Nat) /\ Rf (SV.ptr 0 0) /\ Rf (SV.ptr 1 0) /\ (0 : Int) <= 0 /\ (0 : Int) <= 4 /\ m = m / 1 /\ Rf [Value.bool false, .bool false, .bool false, .bool false]) /\ ∀ (a : Mem), Mem -> I.le a -> ∀ (x : List Value) (n b : Int), 0 <= b /\ b <= 4 /\ n = m / 2 ^ b.toNat /\ x = [.bool (decide (0 < b) && hasB m 0), .bool (decide (1 < b) && hasB m 1), .bool (decide (2 < b) && hasB m 2), .bool (decide (3 < b) && hasB m 3)] -> Br (decide (b < 4)) ((2 : Int) ≠ 0 /\ 0 <= b /\ b < 4 /\ 0 + b.toNat * 1 + 1 <= x.length /\ (2 : Int) ≠ 0 /\ Wr .i64 (n.tdiv 2) fun c => Wr .i64 (b + 1) fun d => Rf (Ent.mk (.cells [.v (.bool false), .v (.bool false), .v (.bool false), .v (.bool false)] 185) none) /\ Rf (none : Option Nat) /\ Rf (SV.ptr 0 0) /\ Rf (SV.ptr 1 0) /\ (0 <= d /\ d <= 4 /\ c = m / 2 ^ d.toNat /\ splice x (0 + b.toNat * 1) [.bool (n.tmod 2 == 1)] = [.bool (decide (0 < d) && hasB m 0), .bool (decide (1 < d) && hasB m 1), .bool (decide (2 < d) && hasB m 2), .bool (decide (3 < d) && hasB m 3)]) /\ Int.toNat (4 - d) < Int.toNat (4 - b)) ((4 : Nat) = 4 /\ ∃ c, x[0]? = some (.bool c) /\ ∃ d, x[1]? = some (.bool d) /\ ∃ e, x[2]? = some (.bool e) /\ ∃ f, x[3]? = some (.bool f) /\ Value.tuple #[.agg #[.bool c, .bool d, .bool e, .bool f], .bool (n == 0)] = .tuple #[.agg #[.bool (hasB m 0), .bool (hasB m 1), .bool (hasB m 2), .bool (hasB m 3)], .bool (m / 16 == 0)])) (by kernel_rfl) ?_
 simp only [eq_self, true_and, and_true]
 refine ⟨⟨by omega, by omega, by simp⟩, fun I1 G1 _ xs n i ⟨h0, h1, h2, h3⟩ => Br.mk (fun hlt => ?_) (fun hge => ?_)⟩
 · have hlt := of_decide_eq_true hlt
   have hn : 0 <= n := by rw [h2]; exact Int.ediv_nonneg hm.1 (Int.le_of_lt (Int.pow_pos (by decide)))
   have hn2 : n <= 9223372036854775807 := by rw [h2]; exact Int.le_trans (Int.ediv_le_self _ hm.1) hm.2
   have e1 : n.tmod 2 = n % 2 := Int.tmod_eq_emod_of_nonneg hn;have e2 : n.tdiv 2 = n / 2 := Int.tdiv_eq_ediv_of_nonneg hn
   refine ⟨by decide, h0, hlt, by rw [h3]; simp [hasL]; omega, by decide, wr_i64 (by omega) (by omega) (wr_i64 (by omega) (by omega) ⟨⟨by omega, by omega, ?_, ?_⟩, by omega⟩)⟩
   · rw [e2, h2, show (i + 1).toNat = i.toNat + 1 by omega, Int.pow_succ, Int.ediv_ediv_of_nonneg (Int.le_of_lt (Int.pow_pos (by decide)))]
   · rw [e1]
     rcases (by omega : i = 0 \/ i = 1 \/ i = 2 \/ i = 3) with rfl | rfl | rfl | rfl <;> subst h2 <;> subst h3 <;> simp [splice, hasL, hasB]
 · have hge := of_decide_eq_false hge
   obtain rfl : i = 4 := by omega
   subst h2; subst h3
   exact ⟨_, rfl, _, rfl, _, rfl, _, rfl, by simp [hasV]⟩
theorem ct80 (m : Int) (hm : 0 <= m /\ m <= 9223372036854775807) (I : Mem) : Ct Tryz.prog (fnv 80) #[.int .i64 m] I (fun v _ => v = .bool (decide (m <= 15))) := by
 refine viaR (ct_via (A := {}) Tryz.func80 rfl Tryz.call80 rfl rfl) (Ct Tryz.prog (fnv 108) #[.int .i64 m] I fun v a => ∃ b c d e f, v = .tuple #[.agg #[.bool b, .bool c, .bool d, .bool e], .bool f] /\ Br f (Value.bool (decide (0 <= m)) = .bool (decide (m <= 15))) (Value.bool false = .bool (decide (m <= 15)))) (by kernel_rfl) ?_
 refine (ct108 m hm I).mono fun v I1 hI1 hv => ⟨_, _, _, _, _, hv, Br.mk (fun h => ?_) (fun h => ?_)⟩
 · have h : m / 16 = 0 := by simpa using h
   rw [decide_eq_true hm.1, decide_eq_true (by omega)]
 · have h : m / 16 ≠ 0 := by simpa using h
   rw [decide_eq_false (by omega)]
def nEv (x : EvT) : List Int := [x.1.1, x.1.2.1, x.1.2.2, x.2.1]
def nPt (x : PtT) : List Int := [x.1, x.2.2]
def nHd (x : HdT) : List Int := [x.1, x.2.1, x.2.2.1, x.2.2.2.1]
def numsH (r : Rs) : List Int := [r.code, r.ser, r.port, r.time, r.key.1, r.key.2.1, r.key.2.2, r.kind] ++ r.counts
def numsR (r : Rs) : List Int := numsH r ++ r.events.flatMap nEv ++ r.ports.flatMap nPt ++ r.handles.flatMap nHd
theorem ct78 (r : Rs) (hr : okRf r) (hs : smallF r) (y : Ys) (I : Mem) (hM : RfM I r y) : Ct Tryz.prog (fnv 78) #[.agg (rfV r y).toArray] I (fun v I' => LstM 1 I' v (ints .i64 (numsR r))) := by
 obtain ⟨⟨ac, nc, cc, hyc, hc, hcc, hcm⟩, ⟨al, nl, cl, hyl, hl, hlc, hlm⟩, ⟨ae, ne, ce, hye, he, hec, hem⟩, ⟨ap, np, cp, hyp, hp, hpc, hpm⟩, ⟨ah, nh, ch, hyh, hh, hhc, hhm⟩⟩ := hM;obtain ⟨yc, yl, ye, yp, yh⟩ := y
 simp only at hyc hyl hye hyp hyh
 subst hyc hyl hye hyp hyh;obtain ⟨BI, hBI⟩ : ∃ f : List Value -> Prop, f = fun xs => xs = ints .i64 (numsH r) := ⟨_, rfl⟩;obtain ⟨EI, hEI⟩ : ∃ f : Int -> List Value -> Prop, f = fun (j : Int) xs => 0 <= j /\ j <= ne /\ xs = ints .i64 (numsH r ++ (r.events.take j.toNat).flatMap nEv) := ⟨_, rfl⟩;obtain ⟨PI, hPI⟩ : ∃ f : Int -> List Value -> Prop, f = fun (j : Int) xs => 0 <= j /\ j <= np /\ xs = ints .i64 (numsH r ++ r.events.flatMap nEv ++ (r.ports.take j.toNat).flatMap nPt) := ⟨_, rfl⟩
 obtain ⟨HI, hHI⟩ : ∃ f : Int -> List Value -> Prop, f = fun (j : Int) xs => 0 <= j /\ j <= nh /\ xs = ints .i64 (numsH r ++ r.events.flatMap nEv ++ r.ports.flatMap nPt ++ (r.handles.take j.toNat).flatMap nHd) := ⟨_, rfl⟩;obtain ⟨NL, hNL⟩ : ∃ L, L = ints .i64 (numsR r) := ⟨_, rfl⟩;rw [<- hNL]
 refine viaR (ct_via (A := { cuts := [(3, ⟨[(1, .keep), (3, .row 1)], [(0, .keep), (1, .row)], [(3, 1, 3)], fun vals xss _ _ => match xss with | [xs] => BI xs | _ => False, fun _ _ => 0⟩)], loops := [(4, ⟨[(1, .keep), (3, .row 1), (4, .sh (.int .i64))], [(0, .keep), (1, .row)], [], fun vals xss _ _ => match vals, xss with | [.int .i64 j], [xs] => EI j xs | _, _ => False, fun vals _ => match vals with | [.int .i64 j] => (ne - j).toNat | _ => 0⟩), (8, ⟨[(1, .keep), (3, .row 1), (5, .sh (.int .i64))], [(0, .keep), (1, .row)], [], fun vals xss _ _ => match vals, xss with | [.int .i64 j], [xs] => PI j xs | _, _ => False, fun vals _ => match vals with | [.int .i64 j] => (np - j).toNat | _ => 0⟩), (12, ⟨[(1, .keep), (3, .row 1), (6, .sh (.int .i64))], [(0, .keep), (1, .row)], [], fun vals xss _ _ => match vals, xss with | [.int .i64 j], [xs] => HI j xs | _, _ => False, fun vals _ => match vals with | [.int .i64 j] => (nh - j).toNat | _ => 0⟩)] }) Tryz.func78 rfl Tryz.call78 rfl rfl) (let E1 := Ent.mk (.cells [.v (.int .i64 r.num), .v (.int .i64 r.code), .v (.int .i64 r.ser), .v (.int .i64 r.port), .v (.int .i64 r.time), .v (.int .i64 r.kind), .v (.bool r.more), .v (.int .i64 r.key.1), .v (.int .i64 r.key.2.1), .v (.int .i64 r.key.2.2), .v (.slice ac nc cc), .v (.slice al nl cl), .v (.slice ae ne ce), .v (.slice ap np cp), .v (.slice ah nh ch)] 41) none
  (∃ y, y.length = nc * 1 /\ (ac = none -> nc = 0) /\ (∀ (j : Nat) (v : Value), y[j]? = some v -> atI I ac j = some v) /\ (∀ (v : Value), Membership.mem y v -> v.oneCell' = true) /\ (8 : Nat) = 8 /\ 8 + nc <= 9223372036854775807 /\ (8 + nc) * 8 <= 140737488355328 /\ Rf E1 /\ Rf (SV.ptr 0 0) /\ 8 + nc = List.length (Value.int .i64 r.code :: .int .i64 r.ser :: .int .i64 r.port :: .int .i64 r.time :: .int .i64 r.key.1 :: .int .i64 r.key.2.1 :: .int .i64 r.key.2.2 :: .int .i64 r.kind :: y) /\ BI (.int .i64 r.code :: .int .i64 r.ser :: .int .i64 r.port :: .int .i64 r.time :: .int .i64 r.key.1 :: .int .i64 r.key.2.1 :: .int .i64 r.key.2.2 :: .int .i64 r.kind :: y)) /\ ∀ (a : Mem), Mem -> I.le a -> ∀ (x : List Value), BI x -> (Rf E1 /\ Rf (SV.ptr 0 0) /\ Rf x.length /\ EI 0 x) /\ ∀ (b : Mem), Mem -> a.le b -> ∀ (c : List Value) (n : Int), EI n c -> Br (decide (n < (ne : Int))) (0 <= n /\ n < (ne : Int) /\ ae.isSome = true /\ ae.isSome = true /\ ae.isSome = true /\ ∃ d, atI b ae (n.toNat * 5 + 0 + 0 + 0) = some (.int .i64 d) /\ 0 <= n /\ n < (ne : Int) /\ ae.isSome = true /\ ae.isSome = true /\ ae.isSome = true /\ ∃ e, atI b ae (n.toNat * 5 + 0 + 1 + 0) = some (.int .i64 e) /\ 0 <= n /\ n < (ne : Int) /\ ae.isSome = true /\ ae.isSome = true /\ ae.isSome = true /\ ∃ f, atI b ae (n.toNat * 5 + 0 + 2 + 0) = some (.int .i64 f) /\ 0 <= n /\ n < (ne : Int) /\ ae.isSome = true /\ ae.isSome = true /\ ∃ g, atI b ae (n.toNat * 5 + 3 + 0) = some (.int .i64 g) /\ c.length = c.length * 1 /\ c.length + 4 <= 9223372036854775807 /\ (c.length + 4) * 8 <= 140737488355328 /\ Wr .i64 (n + 1) fun h => Rf E1 /\ Rf (SV.ptr 0 0) /\ c.length + 4 = List.length (c ++ [.int .i64 d, .int .i64 e, .int .i64 f, .int .i64 g]) /\ EI h (c ++ [.int .i64 d, .int .i64 e, .int .i64 f, .int .i64 g]) /\ Int.toNat ((ne : Int) - h) < Int.toNat ((ne : Int) - n)) ((Rf E1 /\ Rf (SV.ptr 0 0) /\ Rf c.length /\ PI 0 c) /\ ∀ (d : Mem), Mem -> b.le d -> ∀ (e : List Value) (f : Int), PI f e -> Br (decide (f < (np : Int))) (0 <= f /\ f < (np : Int) /\ ap.isSome = true /\ ap.isSome = true /\ ∃ g, atI d ap (f.toNat * 3 + 0 + 0) = some (.int .i64 g) /\ 0 <= f /\ f < (np : Int) /\ ap.isSome = true /\ ap.isSome = true /\ ∃ h, atI d ap (f.toNat * 3 + 2 + 0) = some (.int .i64 h) /\ e.length = e.length * 1 /\ e.length + 2 <= 9223372036854775807 /\ (e.length + 2) * 8 <= 140737488355328 /\ Wr .i64 (f + 1) fun i => Rf E1 /\ Rf (SV.ptr 0 0) /\ e.length + 2 = List.length (e ++ [.int .i64 g, .int .i64 h]) /\ PI i (e ++ [.int .i64 g, .int .i64 h]) /\ Int.toNat ((np : Int) - i) < Int.toNat ((np : Int) - f)) ((Rf E1 /\ Rf (SV.ptr 0 0) /\ Rf e.length /\ HI 0 e) /\ ∀ (g : Mem), Mem -> d.le g -> ∀ (h : List Value) (i : Int), HI i h -> Br (decide (i < (nh : Int))) (0 <= i /\ i < (nh : Int) /\ ah.isSome = true /\ ah.isSome = true /\ ∃ j, atI g ah (i.toNat * 5 + 0 + 0) = some (.int .i64 j) /\ 0 <= i /\ i < (nh : Int) /\ ah.isSome = true /\ ah.isSome = true /\ ∃ k, atI g ah (i.toNat * 5 + 1 + 0) = some (.int .i64 k) /\ 0 <= i /\ i < (nh : Int) /\ ah.isSome = true /\ ah.isSome = true /\ ∃ l, atI g ah (i.toNat * 5 + 2 + 0) = some (.int .i64 l) /\ 0 <= i /\ i < (nh : Int) /\ ah.isSome = true /\ ah.isSome = true /\ ∃ m, atI g ah (i.toNat * 5 + 3 + 0) = some (.int .i64 m) /\ h.length = h.length * 1 /\ h.length + 4 <= 9223372036854775807 /\ (h.length + 4) * 8 <= 140737488355328 /\ Wr .i64 (i + 1) fun o => Rf E1 /\ Rf (SV.ptr 0 0) /\ h.length + 4 = List.length (h ++ [.int .i64 j, .int .i64 k, .int .i64 l, .int .i64 m]) /\ HI o (h ++ [.int .i64 j, .int .i64 k, .int .i64 l, .int .i64 m]) /\ Int.toNat ((nh : Int) - o) < Int.toNat ((nh : Int) - i)) (∀ (j : Option Addr) (k : Nat) (l : Mem), g.le l -> RowM l j k 1 h -> LstM 1 l (.slice j h.length k) NL)))) (by kernel_rfl) ?_
 intro E1;simp only [Rf, eq_self, true_and];have lc := fm_len (c := cI) (k := 1) (fun _ => rfl) r.counts;have le := fm_len (c := cE) (k := 5) (fun _ => rfl) r.events;have lp := fm_len (c := cP) (k := 3) (fun _ => rfl) r.ports;have lh := fm_len (c := cG) (k := 5) (fun _ => rfl) r.handles
 have hcn : nc = r.counts.length := by have := hc.len; omega
 have hen : ne = r.events.length := by have := he.len; omega
 have hpn : np = r.ports.length := by have := hp.len; omega
 have hhn : nh = r.handles.length := by have := hh.len; omega
 obtain ⟨s1, s2, s3, s4, s5, s6⟩ := hs
 have lB : (numsH r).length = 8 + r.counts.length := by simp [numsH]; omega
 have lE : ∀ l : List EvT, (l.flatMap nEv).length = l.length * 4 := fun l => by induction l with
  | nil => rfl
  | cons x l ih => rw [List.flatMap_cons, List.length_append, ih]; simp [nEv]; omega
 have lP : ∀ l : List PtT, (l.flatMap nPt).length = l.length * 2 := fun l => by induction l with
  | nil => rfl
  | cons x l ih => rw [List.flatMap_cons, List.length_append, ih]; simp [nPt]; omega
 have lH : ∀ l : List HdT, (l.flatMap nHd).length = l.length * 4 := fun l => by induction l with
  | nil => rfl
  | cons x l ih => rw [List.flatMap_cons, List.length_append, ih]; simp [nHd]; omega
 refine ⟨⟨_, hc.len, hc.nil, hc.at_, oneI _, by omega, by omega, by simp only [List.length_cons]; have := hc.len; omega, ?_⟩, fun J0 _ l0 xs hx => ⟨?_, fun J _ lJ xs j hj => ?_⟩⟩
 · rw [hBI, fm_ints]; simp [numsH, ints]
 · rw [hBI] at hx
   rw [hEI, hx]
   exact ⟨by omega, by omega, by simp⟩
 rw [hEI] at hj;obtain ⟨j0, j1, hx⟩ := hj
 have hxl : xs.length = 8 + r.counts.length + j.toNat * 4 := by rw [hx, ints_len, List.length_append, lB, lE, List.length_take]; omega
 refine Br.mk (fun hlt => ?_) (fun hge => ?_)
 · have hlt := of_decide_eq_true hlt
   obtain ⟨x, hg⟩ : ∃ x, r.events[j.toNat]? = some x := ⟨_, List.getElem?_eq_getElem (by omega)⟩
   have ha : ∀ k v, k < 5 -> (cE x)[k]? = some v -> atI J ae (j.toNat * 5 + k) = some v := fun k v hk hv => (he.mono (Mem.le_trans l0 lJ)).at_ _ _ (by rw [fm_get (c := cE) (k := 5) (fun _ => rfl) hg hk]; exact hv)
   have hs := he.isSome (show 0 < ne by omega)
   refine ⟨j0, hlt, hs, hs, hs, _, ha 0 _ (by omega) rfl, j0, hlt, hs, hs, hs, _, ha 1 _ (by omega) rfl, j0, hlt, hs, hs, hs, _, ha 2 _ (by omega) rfl, j0, hlt, hs, hs, _, ha 3 _ (by omega) rfl, by omega, by omega, by omega, wr_i64 (by omega) (by omega) ⟨by rw [List.length_append]; rfl, ?_, by omega⟩⟩
   rw [hEI]
   refine ⟨by omega, by omega, ?_⟩
   rw [hx, show (j + 1).toNat = j.toNat + 1 by omega, List.take_add_one, hg]
   simp [ints, nEv]
 have hge := of_decide_eq_false hge
 rw [show r.events.take j.toNat = r.events from List.take_of_length_le (by omega)] at hx
 refine ⟨by rw [hPI, hx]; exact ⟨by omega, by omega, by simp⟩, fun J2 _ l2 xs j hj => ?_⟩
 clear hx hxl j0 j1 hge
 rw [hPI] at hj;obtain ⟨j0, j1, hx⟩ := hj
 have hxl : xs.length = 8 + r.counts.length + r.events.length * 4 + j.toNat * 2 := by rw [hx, ints_len, List.length_append, List.length_append, lB, lE, lP, List.length_take]; omega
 refine Br.mk (fun hlt => ?_) (fun hge => ?_)
 · have hlt := of_decide_eq_true hlt
   obtain ⟨x, hg⟩ : ∃ x, r.ports[j.toNat]? = some x := ⟨_, List.getElem?_eq_getElem (by omega)⟩
   have ha : ∀ k v, k < 3 -> (cP x)[k]? = some v -> atI J2 ap (j.toNat * 3 + k) = some v := fun k v hk hv => (hp.mono (Mem.le_trans l0 (Mem.le_trans lJ l2))).at_ _ _ (by rw [fm_get (c := cP) (k := 3) (fun _ => rfl) hg hk]; exact hv)
   have hs := hp.isSome (show 0 < np by omega)
   refine ⟨j0, hlt, hs, hs, _, ha 0 _ (by omega) rfl, j0, hlt, hs, hs, _, ha 2 _ (by omega) rfl, by omega, by omega, by omega, wr_i64 (by omega) (by omega) ⟨by rw [List.length_append]; rfl, ?_, by omega⟩⟩
   rw [hPI]
   refine ⟨by omega, by omega, ?_⟩
   rw [hx, show (j + 1).toNat = j.toNat + 1 by omega, List.take_add_one, hg]
   simp [ints, nPt]
 have hge := of_decide_eq_false hge
 rw [show r.ports.take j.toNat = r.ports from List.take_of_length_le (by omega)] at hx
 refine ⟨by rw [hHI, hx]; exact ⟨by omega, by omega, by simp⟩, fun J3 _ l3 xs j hj => ?_⟩
 clear hx hxl j0 j1 hge
 rw [hHI] at hj;obtain ⟨j0, j1, hx⟩ := hj
 have hxl : xs.length = 8 + r.counts.length + r.events.length * 4 + r.ports.length * 2 + j.toNat * 4 := by rw [hx, ints_len, List.length_append, List.length_append, List.length_append, lB, lE, lP, lH, List.length_take]; omega
 refine Br.mk (fun hlt => ?_) (fun hge => ?_)
 · have hlt := of_decide_eq_true hlt
   obtain ⟨x, hg⟩ : ∃ x, r.handles[j.toNat]? = some x := ⟨_, List.getElem?_eq_getElem (by omega)⟩
   have ha : ∀ k v, k < 5 -> (cG x)[k]? = some v -> atI J3 ah (j.toNat * 5 + k) = some v := fun k v hk hv => (hh.mono (Mem.le_trans l0 (Mem.le_trans lJ (Mem.le_trans l2 l3)))).at_ _ _ (by rw [fm_get (c := cG) (k := 5) (fun _ => rfl) hg hk]; exact hv)
   have hs := hh.isSome (show 0 < nh by omega)
   refine ⟨j0, hlt, hs, hs, _, ha 0 _ (by omega) rfl, j0, hlt, hs, hs, _, ha 1 _ (by omega) rfl, j0, hlt, hs, hs, _, ha 2 _ (by omega) rfl, j0, hlt, hs, hs, _, ha 3 _ (by omega) rfl, by omega, by omega, by omega, wr_i64 (by omega) (by omega) ⟨by rw [List.length_append]; rfl, ?_, by omega⟩⟩
   rw [hHI]
   refine ⟨by omega, by omega, ?_⟩
   rw [hx, show (j + 1).toNat = j.toNat + 1 by omega, List.take_add_one, hg]
   simp [ints, nHd]
 have hge := of_decide_eq_false hge
 rw [show r.handles.take j.toNat = r.handles from List.take_of_length_le (by omega)] at hx
 intro b cp K lK hrow;rw [hNL, numsR, <- hx]
 exact row_lst hrow (by omega) (by omega)
set_option maxHeartbeats 1000000
theorem negL_iff {l : List Int} : negL l = false ↔ ∀ x ∈ l, 0 <= x := by
 rw [negL, List.any_eq_false]
 simp
def vokR (r : Rs) : Bool := vokS r && decide (0 <= r.kind)
theorem vokR_iff (r : Rs) : vokR r = true ↔ (1 <= r.num /\ r.num <= 281474976710656 /\ r.kind <= 9 /\ r.counts.length <= 16 /\ r.cells.length <= 1024 /\ r.events.length <= 64 /\ r.ports.length <= 64 /\ r.handles.length <= 64) /\ (∀ x ∈ numsR r, 0 <= x) /\ (∀ x ∈ r.ports, nameB x.2.1 = true) /\ ∀ x ∈ r.handles, x.2.2.2.2 <= 15 := by
 have e1 : ∀ x : EvT, evOk x = true ↔ ∀ y ∈ nEv x, 0 <= y := fun x => by
  rw [evOk, Bool.not_eq_true', negL_iff]; rfl
 have e2 : ∀ x : PtT, ptOk x = true ↔ (∀ y ∈ nPt x, 0 <= y) /\ nameB x.2.1 = true := fun x => by
  rw [ptOk, Bool.and_eq_true, Bool.not_eq_true', negL_iff]; rfl
 have e3 : ∀ x : HdT, hdOk x = true ↔ (∀ y ∈ nHd x, 0 <= y) /\ x.2.2.2.2 <= 15 := fun x => by
  rw [hdOk, Bool.and_eq_true, Bool.not_eq_true', negL_iff, decide_eq_true_eq]; rfl
 simp only [vokR, vokS, headOk, lenOk, Bool.and_eq_true, decide_eq_true_eq, Bool.not_eq_true', negL_iff, List.all_eq_true, e1, e2, e3];constructor
 · rintro ⟨⟨⟨a1, a2, a3, a4, a5⟩, ⟨b1, b2, b3, b4, b5⟩, c1, c2, c3⟩, d⟩
   refine ⟨⟨a1, a2, a3, b1, b2, b3, b4, b5⟩, fun x hx => ?_, fun x hx => (c2 x hx).2, fun x hx => (c3 x hx).2⟩;simp only [numsR, numsH, List.mem_append, List.mem_flatMap, List.mem_cons, List.not_mem_nil, or_false] at hx
   rcases hx with ((((rfl | rfl | rfl | rfl | rfl | rfl | rfl | rfl) | h) | ⟨y, hy, h⟩) | ⟨y, hy, h⟩) | ⟨y, hy, h⟩
   · exact a4 _ (by simp)
   · exact a4 _ (by simp)
   · exact a4 _ (by simp)
   · exact a4 _ (by simp)
   · exact a4 _ (by simp)
   · exact a4 _ (by simp)
   · exact a4 _ (by simp)
   · exact d
   · exact a5 x h
   · exact c1 y hy x h
   · exact (c2 y hy).1 x h
   · exact (c3 y hy).1 x h
 · rintro ⟨⟨a1, a2, a3, b1, b2, b3, b4, b5⟩, h, c2, c3⟩
   have m1 : ∀ x ∈ [r.code, r.ser, r.port, r.time, r.key.1, r.key.2.1, r.key.2.2], 0 <= x := fun x hx => h x (by
    simp only [numsR, numsH, List.mem_append, List.mem_cons, List.not_mem_nil, or_false] at hx ⊢
    rcases hx with h | h | h | h | h | h | h <;> simp [h])
   refine ⟨⟨⟨a1, a2, a3, m1, fun x hx => h x (by simp [numsR, numsH, hx])⟩, ⟨b1, b2, b3, b4, b5⟩, fun x hx y hy => h y ?_, fun x hx => ⟨fun y hy => h y ?_, c2 x hx⟩, fun x hx => ⟨fun y hy => h y ?_, c3 x hx⟩⟩, h _ (by simp [numsR, numsH])⟩
   · exact List.mem_append_left _ (List.mem_append_left _ (List.mem_append_right _ (List.mem_flatMap.2 ⟨x, hx, hy⟩)))
   · exact List.mem_append_left _ (List.mem_append_right _ (List.mem_flatMap.2 ⟨x, hx, hy⟩))
   · exact List.mem_append_right _ (List.mem_flatMap.2 ⟨x, hx, hy⟩)
theorem ct56 (r : Rs) (hr : okRf r) (hs : smallF r) (y : Ys) (I : Mem) (hM : RfM I r y) : Ct Tryz.prog (fnv 56) #[.agg (rfV r y).toArray] I (fun v I' => v = .bool (vokR r)) := by
 have C := ct78 r hr hs y I hM;have hs6 := hs.names;obtain ⟨⟨ac, nc, cc, hyc, hc, hcc, hcm⟩, ⟨al, nl, cl, hyl, hl, hlc, hlm⟩, ⟨ae, ne, ce, hye, he, hec, hem⟩, ⟨ap, np, cp, hyp, hp, hpc, hpm⟩, ⟨ah, nh, ch, hyh, hh, hhc, hhm⟩⟩ := hM;obtain ⟨yc, yl, ye, yp, yh⟩ := y
 simp only at hyc hyl hye hyp hyh
 subst hyc hyl hye hyp hyh;obtain ⟨V, hV⟩ : ∃ V, V = vokR r := ⟨_, rfl⟩;rw [<- hV];obtain ⟨L, hL⟩ : ∃ L, L = numsR r := ⟨_, rfl⟩;rw [<- hL] at C;obtain ⟨NI, hNI⟩ : ∃ f : Int -> Prop, f = fun (j : Int) => 0 <= j /\ j <= L.length /\ ∀ x ∈ L.take j.toNat, 0 <= x := ⟨_, rfl⟩;obtain ⟨PI, hPI⟩ : ∃ f : Int -> Prop, f = fun (j : Int) => 0 <= j /\ j <= np /\ ∀ x ∈ r.ports.take j.toNat, nameB x.2.1 = true := ⟨_, rfl⟩;obtain ⟨HI, hHI⟩ : ∃ f : Int -> Prop, f = fun (j : Int) => 0 <= j /\ j <= nh /\ ∀ x ∈ r.handles.take j.toNat, x.2.2.2.2 <= 15 := ⟨_, rfl⟩
 refine viaR (ct_via (A := { loops := [(5, ⟨[(1, .keep), (3, .keep), (4, .sh (.int .i64))], [(0, .keep)], [], fun vals _ _ _ => match vals with | [.int .i64 j] => NI j | _ => False, fun vals _ => match vals with | [.int .i64 j] => (L.length - j).toNat | _ => 0⟩), (10, ⟨[(1, .keep), (5, .sh (.int .i64))], [(0, .keep)], [], fun vals _ _ _ => match vals with | [.int .i64 j] => PI j | _ => False, fun vals _ => match vals with | [.int .i64 j] => (np - j).toNat | _ => 0⟩), (15, ⟨[(1, .keep), (6, .sh (.int .i64))], [(0, .keep)], [], fun vals _ _ _ => match vals with | [.int .i64 j] => HI j | _ => False, fun vals _ => match vals with | [.int .i64 j] => (nh - j).toNat | _ => 0⟩)] }) Tryz.func56 rfl Tryz.call56 rfl rfl) (let E1 := Ent.mk (.cells [.v (.int .i64 r.num), .v (.int .i64 r.code), .v (.int .i64 r.ser), .v (.int .i64 r.port), .v (.int .i64 r.time), .v (.int .i64 r.kind), .v (.bool r.more), .v (.int .i64 r.key.1), .v (.int .i64 r.key.2.1), .v (.int .i64 r.key.2.2), .v (.slice ac nc cc), .v (.slice al nl cl), .v (.slice ae ne ce), .v (.slice ap np cp), .v (.slice ah nh ch)] 41) none
  Br (decide (r.num < 1)) (Value.bool false = .bool V) (Br (decide (281474976710656 < r.num)) (Value.bool false = .bool V) (Br (decide (9 < r.kind)) (Value.bool false = .bool V) (Br (decide (16 < (nc : Int))) (Value.bool false = .bool V) (Br (decide (1024 < (nl : Int))) (Value.bool false = .bool V) (Br (decide (64 < (ne : Int))) (Value.bool false = .bool V) (Br (decide (64 < (np : Int))) (Value.bool false = .bool V) (Br (decide (64 < (nh : Int))) (Value.bool false = .bool V) (Ct Tryz.prog (fnv 78) #[.agg #[.int .i64 r.num, .int .i64 r.code, .int .i64 r.ser, .int .i64 r.port, .int .i64 r.time, .int .i64 r.kind, .bool r.more, .int .i64 r.key.1, .int .i64 r.key.2.1, .int .i64 r.key.2.2, .slice ac nc cc, .slice al nl cl, .slice ae ne ce, .slice ap np cp, .slice ah nh ch]] I (fun v a => ∃ b n c, v = .slice b n c /\ (Rf E1 /\ Rf (SV.ptr 0 0) /\ Rf (SV.v (.slice b n c)) /\ NI 0) /\ ∀ (d : Mem), Mem -> a.le d -> ∀ (e : Int), NI e -> Br (decide (e < (n : Int))) (0 <= e /\ e < (n : Int) /\ b.isSome = true /\ ∃ f, atI d b (e.toNat * 1 + 0) = some (.int .i64 f) /\ Br (decide (f < 0)) (Value.bool false = .bool V) (Wr .i64 (e + 1) (fun g => Rf E1 /\ Rf (SV.ptr 0 0) /\ Rf (SV.v (.slice b n c)) /\ NI g /\ Int.toNat ((L.length : Int) - g) < Int.toNat ((L.length : Int) - e)))) ((Rf E1 /\ Rf (SV.ptr 0 0) /\ PI 0) /\ ∀ (f : Mem), Mem -> d.le f -> ∀ (g : Int), PI g -> Br (decide (g < (np : Int))) (0 <= g /\ g < (np : Int) /\ ap.isSome = true /\ ap.isSome = true /\ ∃ q, atI f ap (g.toNat * 3 + 1 + 0) = some (.string q) /\ Ct Tryz.prog (fnv 79) #[.string q] f fun h i => ∃ j, h = .bool j /\ Br (!j) (Value.bool false = .bool V) (Wr .i64 (g + 1) (fun k => Rf E1 /\ Rf (SV.ptr 0 0) /\ PI k /\ Int.toNat ((np : Int) - k) < Int.toNat ((np : Int) - g)))) ((Rf E1 /\ Rf (SV.ptr 0 0) /\ HI 0) /\ ∀ (h : Mem), Mem -> f.le h -> ∀ (i : Int), HI i -> Br (decide (i < (nh : Int))) (0 <= i /\ i < (nh : Int) /\ ah.isSome = true /\ ah.isSome = true /\ ∃ j, atI h ah (i.toNat * 5 + 4 + 0) = some (.int .i64 j) /\ Ct Tryz.prog (fnv 80) #[.int .i64 j] h fun k l => ∃ m, k = .bool m /\ Br (!m) (Value.bool false = .bool V) (Wr .i64 (i + 1) (fun o => Rf E1 /\ Rf (SV.ptr 0 0) /\ HI o /\ Int.toNat ((nh : Int) - o) < Int.toNat ((nh : Int) - i)))) (Value.bool true = .bool V))))))))))))) (by kernel_rfl) ?_
 intro E1;simp only [Rf, eq_self, true_and];have lc := fm_len (c := cI) (k := 1) (fun _ => rfl) r.counts;have ll := fm_len (c := cI) (k := 1) (fun _ => rfl) r.cells;have le := fm_len (c := cE) (k := 5) (fun _ => rfl) r.events;have lp := fm_len (c := cP) (k := 3) (fun _ => rfl) r.ports;have lh := fm_len (c := cG) (k := 5) (fun _ => rfl) r.handles
 have hcn : nc = r.counts.length := by have := hc.len; omega
 have hln : nl = r.cells.length := by have := hl.len; omega
 have hen : ne = r.events.length := by have := he.len; omega
 have hpn : np = r.ports.length := by have := hp.len; omega
 have hhn : nh = r.handles.length := by have := hh.len; omega
 have no : (vokR r = true -> False) -> Value.bool false = Value.bool V := fun h => by
  rw [hV]
  cases hv : vokR r with
  | false => rfl
  | true => exact (h hv).elim
 have Iff := vokR_iff r;refine Br.mk (fun h => no fun hv => ?_) (fun h1 => ?_)
 · have h := of_decide_eq_true h; have := (Iff.1 hv).1; omega
 refine Br.mk (fun h => no fun hv => ?_) (fun h2 => ?_)
 · have h := of_decide_eq_true h; have := (Iff.1 hv).1; omega
 refine Br.mk (fun h => no fun hv => ?_) (fun h3 => ?_)
 · have h := of_decide_eq_true h; have := (Iff.1 hv).1; omega
 refine Br.mk (fun h => no fun hv => ?_) (fun h4 => ?_)
 · have h := of_decide_eq_true h; have := (Iff.1 hv).1; omega
 refine Br.mk (fun h => no fun hv => ?_) (fun h5 => ?_)
 · have h := of_decide_eq_true h; have := (Iff.1 hv).1; omega
 refine Br.mk (fun h => no fun hv => ?_) (fun h6 => ?_)
 · have h := of_decide_eq_true h; have := (Iff.1 hv).1; omega
 refine Br.mk (fun h => no fun hv => ?_) (fun h7 => ?_)
 · have h := of_decide_eq_true h; have := (Iff.1 hv).1; omega
 refine Br.mk (fun h => no fun hv => ?_) (fun h8 => ?_)
 · have h := of_decide_eq_true h; have := (Iff.1 hv).1; omega
 have h1 := of_decide_eq_false h1;have h2 := of_decide_eq_false h2;have h3 := of_decide_eq_false h3;have h4 := of_decide_eq_false h4;have h5 := of_decide_eq_false h5;have h6 := of_decide_eq_false h6;have h7 := of_decide_eq_false h7;have h8 := of_decide_eq_false h8
 have up : ∀ {α : Type} {P : α -> Prop} {l : List α} {j : Int} {x : α}, 0 <= j -> l[j.toNat]? = some x -> (∀ y ∈ l.take j.toNat, P y) -> P x -> ∀ y ∈ l.take (j + 1).toNat, P y := fun {α P l j x} j0 hx h hp y hy => by
  rw [show (j + 1).toNat = j.toNat + 1 by omega, List.take_add_one, hx] at hy
  rcases List.mem_append.1 hy with hy | hy
  · exact h y hy
  · rw [List.mem_singleton.1 hy]; exact hp
 refine C.mono fun v J0 l0 hv => ?_;obtain ⟨b, n, c, rfl, hb, _⟩ := hv;have hbl := hb.numLen
 refine ⟨b, n, c, rfl, by rw [hNI]; exact ⟨by omega, by omega, fun x hx => by cases hx⟩, fun J _ lJ j hj => ?_⟩
 rw [hNI] at hj;obtain ⟨j0, j1, hj⟩ := hj;refine Br.mk (fun hlt => ?_) (fun hge => ?_)
 · have hlt := of_decide_eq_true hlt
   obtain ⟨x, hx, e⟩ := (hb.mono lJ).intAt j0 hlt
   refine ⟨j0, hlt, hb.isSome (by omega), x, e, Br.mk (fun h => no fun hv => ?_) (fun h => ?_)⟩
   · have h := of_decide_eq_true h
     have := (Iff.1 hv).2.1 x (by rw [<- hL]; exact List.mem_of_getElem? hx)
     omega
   · have h := of_decide_eq_false h
     refine wr_i64 (by have := hb.max; simp only [maxLen] at this; omega) (by have := hb.max; simp only [maxLen] at this; omega) ⟨?_, by omega⟩
     rw [hNI]
     exact ⟨by omega, by omega, up j0 hx hj (by omega)⟩
 have hge := of_decide_eq_false hge
 have hN : ∀ x ∈ L, 0 <= x := by
  rw [List.take_of_length_le (by omega)] at hj
  exact hj
 refine ⟨by rw [hPI]; exact ⟨by omega, by omega, fun x hx => by cases hx⟩, fun J2 _ l2 k hk => ?_⟩
 rw [hPI] at hk;obtain ⟨k0, k1, hk⟩ := hk;refine Br.mk (fun hlt => ?_) (fun hge => ?_)
 · have hlt := of_decide_eq_true hlt
   obtain ⟨x, hg⟩ : ∃ x, r.ports[k.toNat]? = some x := ⟨_, List.getElem?_eq_getElem (by omega)⟩
   have hm := List.mem_of_getElem? hg
   have ha : ∀ i v, i < 3 -> (cP x)[i]? = some v -> atI J2 ap (k.toNat * 3 + i) = some v := fun i v hi hv => (hp.mono (Mem.le_trans l0 (Mem.le_trans lJ l2))).at_ _ _ (by rw [fm_get (c := cP) (k := 3) (fun _ => rfl) hg hi]; exact hv)
   have hs := hp.isSome (show 0 < np by omega)
   have hbx := (hr.ports x hm).2.1
   refine ⟨k0, hlt, hs, hs, _, ha 1 _ (by omega) rfl, (ct79 (strB x.2.1) (by rw [strB_size]; exact hs6 x hm) J2).mono fun v J3 _ hv => ⟨_, hv, Br.mk (fun h => no fun hv => ?_) (fun h => ?_)⟩⟩
   · have := (Iff.1 hv).2.2.1 x hm
     rw [strL_strB hbx, this] at h;cases h
   · refine wr_i64 (by omega) (by omega) ⟨?_, by omega⟩
     rw [hPI];rw [strL_strB hbx] at h
     exact ⟨by omega, by omega, up k0 hg hk (by simpa using h)⟩
 have hge := of_decide_eq_false hge
 have hP : ∀ x ∈ r.ports, nameB x.2.1 = true := by
  rw [List.take_of_length_le (by omega)] at hk
  exact hk
 refine ⟨by rw [hHI]; exact ⟨by omega, by omega, fun x hx => by cases hx⟩, fun J3 _ l3 i hi => ?_⟩
 rw [hHI] at hi;obtain ⟨i0, i1, hi⟩ := hi;refine Br.mk (fun hlt => ?_) (fun hge => ?_)
 · have hlt := of_decide_eq_true hlt
   obtain ⟨x, hg⟩ : ∃ x, r.handles[i.toNat]? = some x := ⟨_, List.getElem?_eq_getElem (by omega)⟩
   have hm := List.mem_of_getElem? hg
   have ha : ∀ k v, k < 5 -> (cG x)[k]? = some v -> atI J3 ah (i.toNat * 5 + k) = some v := fun k v hk hv => (hh.mono (Mem.le_trans l0 (Mem.le_trans lJ (Mem.le_trans l2 l3)))).at_ _ _ (by rw [fm_get (c := cG) (k := 5) (fun _ => rfl) hg hk]; exact hv)
   have hs := hh.isSome (show 0 < nh by omega)
   refine ⟨i0, hlt, hs, hs, _, ha 4 _ (by omega) rfl, (ct80 _ (hr.handles x hm).2 J3).mono fun v J4 _ hv => ⟨_, hv, Br.mk (fun h => no fun hv => ?_) (fun h => ?_)⟩⟩
   · have := (Iff.1 hv).2.2.2 x hm
     rw [decide_eq_true this] at h;cases h
   · refine wr_i64 (by omega) (by omega) ⟨?_, by omega⟩
     rw [hHI]
     exact ⟨by omega, by omega, up i0 hg hi (by simpa using h)⟩
 have hge := of_decide_eq_false hge
 have hH : ∀ x ∈ r.handles, x.2.2.2.2 <= 15 := by
  rw [List.take_of_length_le (by omega)] at hi
  exact hi
 rw [hV, Iff.2 ⟨⟨by omega, by omega, by omega, by omega, by omega, by omega, by omega, by omega⟩, by rw [<- hL]; exact hN, hP, hH⟩]
set_option maxHeartbeats 1000000
def fmR (x : Int) : List Int := formN (IntKind.u64.wrap x).toNat
theorem fmR_len (x : Int) : (fmR x).length <= 9 := (formN_le _ (by have := w64_range x; omega)).1
theorem cs81 (xs : List Value) (n : Nat) (x : Int) (hn : n = xs.length) (hl : xs.length <= 100000000) (I : Mem) :
 CtS Tryz.prog (.v (fnv 81)) [.rsl 0 n, .v (.int .i64 x)] [⟨.row xs 1 5, none⟩] I (fun v H' _ => v = .rsl 0 (n + (fmR x).length) /\ H' = [⟨.row (xs ++ ints .u8 (fmR x)) 1 5, none⟩]) := by
 subst hn;obtain ⟨F, hF⟩ : ∃ F, F = fmR x := ⟨_, rfl⟩
 have C : ∀ J, Ct Tryz.prog (fnv 77) #[.int .u64 (IntKind.u64.wrap x)] J (fun v I' => BySl I' v F) := fun J => by rw [hF]; exact ct77 _ (w64_range x) J
 have hFl : F.length <= 9 := by rw [hF]; exact fmR_len x
 rw [<- hF]
 refine viaR (ctS_via (A := { }) Tryz.func81 rfl Tryz.call81 [0] rfl) (Wr .u64 x fun c => Ct Tryz.prog (fnv 77) #[.int .u64 c] I fun v a => ∃ b n d, v = .slice b n d /\ ∃ y, y.length = n * 1 /\ (b = none -> n = 0) /\ (∀ (j : Nat) (e : Value), y[j]? = some e -> atI a b j = some e) /\ (∀ (e : Value), Membership.mem y e -> e.oneCell' = true) /\ xs.length = xs.length * 1 /\ xs.length + n <= 9223372036854775807 /\ (xs.length + n) * 1 <= 140737488355328 /\ SV.rsl 0 (xs.length + n) = .rsl 0 (xs.length + F.length) /\ [Ent.mk (.row (xs ++ y) 1 5) none] = [⟨.row (xs ++ List.map (Value.int .u8) F) 1 5, none⟩]) (by kernel_rfl) ?_
 refine ⟨_, rfl, (C I).mono fun v J l ⟨b, n, d, hv, hs, _, _⟩ => ?_⟩;have hnl := hs.numLen
 exact ⟨b, n, d, hv, _, hs.len, hs.nil, hs.at_, one_ints, by omega, by omega, by omega, by rw [hnl], rfl⟩
theorem ct81N (x : Int) (I : Mem) : Ct Tryz.prog (fnv 81) #[.slice none 0 0, .int .i64 x] I (fun v I' => RowN 1 5 I I' v (ints .u8 (fmR x))) := by
 obtain ⟨F, hF⟩ : ∃ F, F = fmR x := ⟨_, rfl⟩
 have C : ∀ J, Ct Tryz.prog (fnv 77) #[.int .u64 (IntKind.u64.wrap x)] J (fun v I' => BySl I' v F) := fun J => by rw [hF]; exact ct77 _ (w64_range x) J
 have hFl : F.length <= 9 := by rw [hF]; exact fmR_len x
 rw [<- hF]
 refine viaR (ctF_via (A := { }) Tryz.func81 rfl Tryz.call81 rfl rfl) (Wr .u64 x fun c => Ct Tryz.prog (fnv 77) #[.int .u64 c] I fun v a => ∃ b n d, v = .slice b n d /\ ∃ y, y.length = n * 1 /\ (b = none -> n = 0) /\ (∀ (j : Nat) (e : Value), y[j]? = some e -> atI a b j = some e) /\ (∀ (e : Value), Membership.mem y e -> e.oneCell' = true) /\ n <= 9223372036854775807 /\ n * 1 <= 140737488355328 /\ ∀ (e : Option Addr) (f : Nat) (g : Mem), a.le g -> RowF a g e f 1 y 5 -> ∃ h i j, Value.slice e n f = .slice h i j /\ (List.map (Value.int .u8) F).length = i * 1 /\ (h = none /\ i = 0 /\ j = 0 \/ RowF I g h j 1 (List.map (Value.int .u8) F) 5)) (by kernel_rfl) ?_
 refine ⟨_, rfl, (C I).mono fun v J l ⟨b, n, d, hv, hs, _, _⟩ => ?_⟩;have hnl := hs.numLen
 exact ⟨b, n, d, hv, _, hs.len, hs.nil, hs.at_, one_ints, by omega, by omega, fun e f g lg hr => ⟨_, _, _, rfl, hs.len, .inr (rowF_anti hr l)⟩⟩
theorem cs82 (xs : List Value) (n : Nat) (a b c : Int) (hn : n = xs.length) (hl : xs.length <= 90000000) (I : Mem) :
 CtS Tryz.prog (.v (fnv 82)) [.rsl 0 n, .v (.agg #[.int .i64 a, .int .i64 b, .int .i64 c])] [⟨.row xs 1 5, none⟩] I (fun v H' _ => v = .rsl 0 (n + ((fmR a).length + (fmR b).length + (fmR c).length)) /\ H' = [⟨.row (xs ++ ints .u8 (fmR a) ++ ints .u8 (fmR b) ++ ints .u8 (fmR c)) 1 5, none⟩]) := by
 subst hn
 refine viaR (ctS_via (A := { calls := [(8, .lendT [5] (.row 0) [.row 1 5]), (11, .lendT [8] (.row 0) [.row 1 5]), (14, .lendT [11] (.row 0) [.row 1 5])] }) Tryz.func82 rfl Tryz.call82 [0] rfl) (CtS Tryz.prog (.v (fnv 81)) [.rsl 0 xs.length, .v (.int .i64 a)] [⟨.row xs 1 5, none⟩] I fun s H d => ∃ n x, s = .rsl 0 n /\ H = [⟨.row x 1 5, none⟩] /\ CtS Tryz.prog (.v (fnv 81)) [.rsl 0 n, .v (.int .i64 b)] [⟨.row x 1 5, none⟩] d fun e f g => ∃ h i, e = .rsl 0 h /\ f = [⟨.row i 1 5, none⟩] /\ CtS Tryz.prog (.v (fnv 81)) [.rsl 0 h, .v (.int .i64 c)] [⟨.row i 1 5, none⟩] g fun j k l => ∃ m o, j = .rsl 0 m /\ k = [⟨.row o 1 5, none⟩] /\ SV.rsl 0 m = .rsl 0 (xs.length + ((fmR a).length + (fmR b).length + (fmR c).length)) /\ [Ent.mk (.row o 1 5) none] = [⟨.row (xs ++ List.map (Value.int .u8) (fmR a) ++ List.map (Value.int .u8) (fmR b) ++ List.map (Value.int .u8) (fmR c)) 1 5, none⟩]) (by kernel_rfl) ?_
 have i5 : ∀ l : List Int, (ints .u8 l).length = l.length := fun l => ints_len;have b1 := fmR_len a;have b2 := fmR_len b;have b3 := fmR_len c
 refine (cs81 xs _ a rfl (by omega) I).mono fun s1 H1 J1 l1 ⟨e1, h1⟩ => ⟨_, _, e1, h1, ?_⟩
 refine (cs81 _ _ b (by rw [List.length_append, i5]) (by rw [List.length_append, i5]; omega) J1).mono fun s2 H2 J2 l2 ⟨e2, h2⟩ => ⟨_, _, e2, h2, ?_⟩
 refine (cs81 _ _ c (by rw [List.length_append, List.length_append, i5, i5]) (by rw [List.length_append, List.length_append, i5, i5]; omega) J2).mono fun s3 H3 J3 l3 ⟨e3, h3⟩ => ⟨_, _, e3, h3, by simp only [Nat.add_assoc], rfl⟩
theorem ct82N (a b c : Int) (I : Mem) : Ct Tryz.prog (fnv 82) #[.slice none 0 0, .agg #[.int .i64 a, .int .i64 b, .int .i64 c]] I (fun v I' => BySl I' v (formsL [a, b, c])) := by
 refine viaR (ct_via (A := { calls := [(8, .lend [] (.row 0) [.row 1 5]), (11, .lendT [8] (.row 0) [.row 1 5]), (14, .lendT [11] (.row 0) [.row 1 5])] }) Tryz.func82 rfl Tryz.call82 rfl rfl) (CtS Tryz.prog (.v (fnv 81)) [.v (.slice none 0 0), .v (.int .i64 a)] [] I fun s H d => ∃ n x, s = .rsl 0 n /\ H = [⟨.row x 1 5, none⟩] /\ CtS Tryz.prog (.v (fnv 81)) [.rsl 0 n, .v (.int .i64 b)] [⟨.row x 1 5, none⟩] d fun e f g => ∃ h i, e = .rsl 0 h /\ f = [⟨.row i 1 5, none⟩] /\ CtS Tryz.prog (.v (fnv 81)) [.rsl 0 h, .v (.int .i64 c)] [⟨.row i 1 5, none⟩] g fun j k l => ∃ m o, j = .rsl 0 m /\ k = [⟨.row o 1 5, none⟩] /\ ∀ (p : Option Addr) (q : Nat) (r : Mem), l.le r -> RowM r p q 1 o -> ∃ t u v, Value.slice p m q = .slice t u v /\ SlM r t u 1 (List.map (Value.int .u8) (formsL [a, b, c])) /\ u <= v /\ v <= 9223372036854775807) (by kernel_rfl) ?_
 have i5 : ∀ l : List Int, (ints .u8 l).length = l.length := fun l => ints_len;have b1 := fmR_len a;have b2 := fmR_len b;have b3 := fmR_len c
 have ef : formsL [a, b, c] = fmR a ++ fmR b ++ fmR c := by simp [formsL, fmR]
 refine (cts_new (sz := 1) (el := 5) (n := (fmR a).length) (by omega) (by rw [i5, Nat.mul_one]) (ct81N a I)).mono fun s1 H1 J1 l1 ⟨e1, h1⟩ => ⟨_, _, e1, h1, ?_⟩
 refine (cs81 _ _ b (by rw [i5]) (by rw [i5]; omega) J1).mono fun s2 H2 J2 l2 ⟨e2, h2⟩ => ⟨_, _, e2, h2, ?_⟩
 refine (cs81 _ _ c (by rw [List.length_append, i5, i5]) (by rw [List.length_append, i5, i5]; omega) J2).mono fun s3 H3 J3 l3 ⟨e3, h3⟩ => ⟨_, _, e3, h3, fun p q r lr hr => ?_⟩
 have er : ints .u8 (fmR a) ++ ints .u8 (fmR b) ++ ints .u8 (fmR c) = ints .u8 (formsL [a, b, c]) := by rw [ef]; simp [ints]
 rw [er] at hr
 have hl2 : (ints .u8 (formsL [a, b, c])).length = ((fmR a).length + (fmR b).length + (fmR c).length) * 1 := by rw [i5, ef, List.length_append, List.length_append]; omega
 obtain ⟨a', n', c', hv, h1, h2, h3⟩ := row_lst hr (by omega) hl2
 exact ⟨a', n', c', hv, h1, h2, h3⟩
set_option maxHeartbeats 1000000
def FldP (I' : Mem) (v : Value) (bs : List Int) (b : Bool) : Prop := ∃ a n c, v = .tuple #[.slice a n c, .bool b] /\ SlM I' a n 1 (ints .u8 bs) /\ n <= c /\ c <= maxLen
theorem rowN_fld {I I' : Mem} {a : Option Addr} {n c : Nat} {bs : List Int} {b b' : Bool} (h : RowN 1 5 I I' (.slice a n c) (ints .u8 bs)) (hb : b = b') : FldP I' (.tuple #[.slice a n c, .bool b]) bs b' := by
 obtain ⟨a', n', c', e, hl, h⟩ := h;cases e;subst hb
 rcases h with ⟨rfl, rfl, rfl⟩ | h
 · have : bs = [] := List.eq_nil_of_length_eq_zero (by rw [ints_len] at hl; omega)
   subst this;exact ⟨_, _, _, rfl, sl_nil _ _, Nat.le_refl _, Nat.zero_le _⟩
 · obtain ⟨a2, n2, c2, e2, h1, h2, h3⟩ := row_lst h.row (by omega) hl
   cases e2;exact ⟨_, _, _, rfl, h1, h2, h3⟩
theorem i5 (l : List Int) : (ints .u8 l).length = l.length := ints_len
theorem i5a (l m : List Int) : ints .u8 l ++ ints .u8 m = ints .u8 (l ++ m) := by simp [ints]
theorem vok_lens {r : Rs} (h : vokR r = true) : r.num ≥ 1 /\ r.counts.length <= 16 /\ r.cells.length <= 1024 /\ r.events.length <= 64 /\ r.ports.length <= 64 /\ r.handles.length <= 64 /\ ∀ x ∈ r.ports, x.2.1.length <= 32 := by
 obtain ⟨⟨h1, _, _, h2, h3, h4, h5, h6⟩, _, h7, _⟩ := (vokR_iff r).1 h;refine ⟨h1, h2, h3, h4, h5, h6, fun x hx => ?_⟩;have := h7 x hx;simp only [nameB, Bool.and_eq_true, decide_eq_true_eq] at this;exact this.2.1
theorem bne_dec (x : Int) : (x != 0) = decide (x ≠ 0) := by
 by_cases h : x = 0 <;> simp [h]
theorem ne_len (l : List Int) : decide (0 < (l.length : Int)) = decide (l ≠ []) := by
 cases l with
 | nil => rfl
 | cons x r => rw [decide_eq_true (by simp), decide_eq_true (by simp)]
theorem numF_one {xs : List Value} (x : Int) : xs ++ ints .u8 (fmR x) = xs ++ ints .u8 (numF x) := by simp [numF, formsL, fmR]
theorem evF_eq (x : EvT) : fmR x.1.1 ++ (fmR x.1.2.1 ++ (fmR x.1.2.2 ++ (fmR x.2.1 ++ formN (foldZ x.2.2).toNat))) = evF x := by simp [evF, formsL, fmR]
theorem ptF_eq (x : PtT) : fmR x.1 ++ (fmR x.2.2 ++ (fmR (x.2.1.length : Int) ++ x.2.1)) = ptF x := by simp [ptF, formsL, fmR]
theorem hdF_eq (x : HdT) : fmR x.1 ++ (fmR x.2.1 ++ (fmR x.2.2.1 ++ (fmR x.2.2.2.1 ++ fmR x.2.2.2.2))) = hdF x := by simp [hdF, formsL, fmR]
theorem bytesV_strB {l : List Int} (h : byteL l) : bytesV (strB l) = ints .u8 l := by
 have e : strL (strB l) = l := strL_strB h
 conv => rhs; rw [<- e]
 simp [bytesV, strL, ints]
theorem cs_aggK {P : Program} {fv : SV} {x : SV} {a b c : Value} {H : List Ent} {I : Mem} {post : SV -> List Ent -> Mem -> Prop} (h : CtS P fv [x, .v (.agg #[a, b, c])] H I post) : CtS P fv [x, .agg [.v a, .v b, .v c]] H I post :=
 fun e hp hO => h e hp hO
theorem ct57_1 (r : Rs) (hr : okRf r) (hv : vokR r = true) (y : Ys) (I : Mem) (hM : RfM I r y) : Ct Tryz.prog (fnv 57) #[.agg (rfV r y).toArray, .int .i64 1] I (fun v I' => FldP I' v (fmR r.num) (hasF r 1)) := by
 obtain ⟨⟨ac, nc, cc, hyc, hc, hcc, hcm⟩, ⟨al, nl, cl, hyl, hl, hlc, hlm⟩, ⟨ae, ne, ce, hye, he, hec, hem⟩, ⟨ap, np, cp, hyp, hp, hpc, hpm⟩, ⟨ah, nh, ch, hyh, hh, hhc, hhm⟩⟩ := hM;obtain ⟨yc, yl, ye, yp, yh⟩ := y
 simp only at hyc hyl hye hyp hyh
 subst hyc hyl hye hyp hyh;obtain ⟨Q, hQ⟩ : ∃ f : Value -> Mem -> Prop, f = fun v I' => FldP I' v (fmR r.num) (hasF r 1) := ⟨_, rfl⟩
 show Ct Tryz.prog (fnv 57) #[_, .int .i64 1] I (fun v I' => (fun v I' => FldP I' v (fmR r.num) (hasF r 1)) v I')
 rw [<- hQ]
 refine viaR (ct_via (A := {  }) Tryz.func57 rfl Tryz.call57 rfl rfl) (Wr .i64 0 fun c => 0 <= c /\ c < 6 /\ ∃ n, [SV.v (.int .i64 r.num), .v (.int .i64 r.kind), .v (.int .i64 r.code), .v (.int .i64 r.ser), .v (.int .i64 r.port), .v (.int .i64 r.time)][0 + c.toNat * 1 + 0]?.bind (fun (x : SV) => (match x with
  | SV.v x => some x
  | x => none)) = some (.int .i64 n) /\ Ct Tryz.prog (fnv 81) #[.slice none 0 0, .int .i64 n] I fun v a => ∃ b d e, v = .slice b d e /\ Q (.tuple #[.slice b d e, .bool (n != 0)]) a) (by kernel_rfl) ?_
 refine wr_i64 (by omega) (by omega) ⟨by omega, by omega, _, rfl, (ct81N r.num I).mono fun v J l hv' => ?_⟩
 have hv2 := hv';obtain ⟨a, n, c, rfl, _⟩ := hv2;refine ⟨_, _, _, rfl, ?_⟩;rw [hQ]
 exact rowN_fld hv' (by have h0 := (vok_lens hv).1; show (r.num != 0) = true; simp; omega)
theorem ct57_2 (r : Rs) (hr : okRf r) (hv : vokR r = true) (y : Ys) (I : Mem) (hM : RfM I r y) : Ct Tryz.prog (fnv 57) #[.agg (rfV r y).toArray, .int .i64 2] I (fun v I' => FldP I' v (fmR r.kind) (hasF r 2)) := by
 obtain ⟨⟨ac, nc, cc, hyc, hc, hcc, hcm⟩, ⟨al, nl, cl, hyl, hl, hlc, hlm⟩, ⟨ae, ne, ce, hye, he, hec, hem⟩, ⟨ap, np, cp, hyp, hp, hpc, hpm⟩, ⟨ah, nh, ch, hyh, hh, hhc, hhm⟩⟩ := hM;obtain ⟨yc, yl, ye, yp, yh⟩ := y
 simp only at hyc hyl hye hyp hyh
 subst hyc hyl hye hyp hyh;obtain ⟨Q, hQ⟩ : ∃ f : Value -> Mem -> Prop, f = fun v I' => FldP I' v (fmR r.kind) (hasF r 2) := ⟨_, rfl⟩
 show Ct Tryz.prog (fnv 57) #[_, .int .i64 2] I (fun v I' => (fun v I' => FldP I' v (fmR r.kind) (hasF r 2)) v I')
 rw [<- hQ]
 refine viaR (ct_via (A := {  }) Tryz.func57 rfl Tryz.call57 rfl rfl) (Wr .i64 1 fun c => 0 <= c /\ c < 6 /\ ∃ n, [SV.v (.int .i64 r.num), .v (.int .i64 r.kind), .v (.int .i64 r.code), .v (.int .i64 r.ser), .v (.int .i64 r.port), .v (.int .i64 r.time)][0 + c.toNat * 1 + 0]?.bind (fun (x : SV) => (match x with
  | SV.v x => some x
  | x => none)) = some (.int .i64 n) /\ Ct Tryz.prog (fnv 81) #[.slice none 0 0, .int .i64 n] I fun v a => ∃ b d e, v = .slice b d e /\ Q (.tuple #[.slice b d e, .bool (n != 0)]) a) (by kernel_rfl) ?_
 refine wr_i64 (by omega) (by omega) ⟨by omega, by omega, _, rfl, (ct81N r.kind I).mono fun v J l hv' => ?_⟩
 have hv2 := hv';obtain ⟨a, n, c, rfl, _⟩ := hv2;refine ⟨_, _, _, rfl, ?_⟩;rw [hQ];exact rowN_fld hv' (bne_dec _)
theorem ct57_3 (r : Rs) (hr : okRf r) (hv : vokR r = true) (y : Ys) (I : Mem) (hM : RfM I r y) : Ct Tryz.prog (fnv 57) #[.agg (rfV r y).toArray, .int .i64 3] I (fun v I' => FldP I' v (fmR r.code) (hasF r 3)) := by
 obtain ⟨⟨ac, nc, cc, hyc, hc, hcc, hcm⟩, ⟨al, nl, cl, hyl, hl, hlc, hlm⟩, ⟨ae, ne, ce, hye, he, hec, hem⟩, ⟨ap, np, cp, hyp, hp, hpc, hpm⟩, ⟨ah, nh, ch, hyh, hh, hhc, hhm⟩⟩ := hM;obtain ⟨yc, yl, ye, yp, yh⟩ := y
 simp only at hyc hyl hye hyp hyh
 subst hyc hyl hye hyp hyh;obtain ⟨Q, hQ⟩ : ∃ f : Value -> Mem -> Prop, f = fun v I' => FldP I' v (fmR r.code) (hasF r 3) := ⟨_, rfl⟩
 show Ct Tryz.prog (fnv 57) #[_, .int .i64 3] I (fun v I' => (fun v I' => FldP I' v (fmR r.code) (hasF r 3)) v I')
 rw [<- hQ]
 refine viaR (ct_via (A := {  }) Tryz.func57 rfl Tryz.call57 rfl rfl) (Wr .i64 2 fun c => 0 <= c /\ c < 6 /\ ∃ n, [SV.v (.int .i64 r.num), .v (.int .i64 r.kind), .v (.int .i64 r.code), .v (.int .i64 r.ser), .v (.int .i64 r.port), .v (.int .i64 r.time)][0 + c.toNat * 1 + 0]?.bind (fun (x : SV) => (match x with
  | SV.v x => some x
  | x => none)) = some (.int .i64 n) /\ Ct Tryz.prog (fnv 81) #[.slice none 0 0, .int .i64 n] I fun v a => ∃ b d e, v = .slice b d e /\ Q (.tuple #[.slice b d e, .bool (n != 0)]) a) (by kernel_rfl) ?_
 refine wr_i64 (by omega) (by omega) ⟨by omega, by omega, _, rfl, (ct81N r.code I).mono fun v J l hv' => ?_⟩
 have hv2 := hv';obtain ⟨a, n, c, rfl, _⟩ := hv2;refine ⟨_, _, _, rfl, ?_⟩;rw [hQ];exact rowN_fld hv' (bne_dec _)
theorem ct57_4 (r : Rs) (hr : okRf r) (hv : vokR r = true) (y : Ys) (I : Mem) (hM : RfM I r y) : Ct Tryz.prog (fnv 57) #[.agg (rfV r y).toArray, .int .i64 4] I (fun v I' => FldP I' v (fmR r.ser) (hasF r 4)) := by
 obtain ⟨⟨ac, nc, cc, hyc, hc, hcc, hcm⟩, ⟨al, nl, cl, hyl, hl, hlc, hlm⟩, ⟨ae, ne, ce, hye, he, hec, hem⟩, ⟨ap, np, cp, hyp, hp, hpc, hpm⟩, ⟨ah, nh, ch, hyh, hh, hhc, hhm⟩⟩ := hM;obtain ⟨yc, yl, ye, yp, yh⟩ := y
 simp only at hyc hyl hye hyp hyh
 subst hyc hyl hye hyp hyh;obtain ⟨Q, hQ⟩ : ∃ f : Value -> Mem -> Prop, f = fun v I' => FldP I' v (fmR r.ser) (hasF r 4) := ⟨_, rfl⟩
 show Ct Tryz.prog (fnv 57) #[_, .int .i64 4] I (fun v I' => (fun v I' => FldP I' v (fmR r.ser) (hasF r 4)) v I')
 rw [<- hQ]
 refine viaR (ct_via (A := {  }) Tryz.func57 rfl Tryz.call57 rfl rfl) (Wr .i64 3 fun c => 0 <= c /\ c < 6 /\ ∃ n, [SV.v (.int .i64 r.num), .v (.int .i64 r.kind), .v (.int .i64 r.code), .v (.int .i64 r.ser), .v (.int .i64 r.port), .v (.int .i64 r.time)][0 + c.toNat * 1 + 0]?.bind (fun (x : SV) => (match x with
  | SV.v x => some x
  | x => none)) = some (.int .i64 n) /\ Ct Tryz.prog (fnv 81) #[.slice none 0 0, .int .i64 n] I fun v a => ∃ b d e, v = .slice b d e /\ Q (.tuple #[.slice b d e, .bool (n != 0)]) a) (by kernel_rfl) ?_
 refine wr_i64 (by omega) (by omega) ⟨by omega, by omega, _, rfl, (ct81N r.ser I).mono fun v J l hv' => ?_⟩
 have hv2 := hv';obtain ⟨a, n, c, rfl, _⟩ := hv2;refine ⟨_, _, _, rfl, ?_⟩;rw [hQ];exact rowN_fld hv' (bne_dec _)
theorem ct57_5 (r : Rs) (hr : okRf r) (hv : vokR r = true) (y : Ys) (I : Mem) (hM : RfM I r y) : Ct Tryz.prog (fnv 57) #[.agg (rfV r y).toArray, .int .i64 5] I (fun v I' => FldP I' v (fmR r.port) (hasF r 5)) := by
 obtain ⟨⟨ac, nc, cc, hyc, hc, hcc, hcm⟩, ⟨al, nl, cl, hyl, hl, hlc, hlm⟩, ⟨ae, ne, ce, hye, he, hec, hem⟩, ⟨ap, np, cp, hyp, hp, hpc, hpm⟩, ⟨ah, nh, ch, hyh, hh, hhc, hhm⟩⟩ := hM;obtain ⟨yc, yl, ye, yp, yh⟩ := y
 simp only at hyc hyl hye hyp hyh
 subst hyc hyl hye hyp hyh;obtain ⟨Q, hQ⟩ : ∃ f : Value -> Mem -> Prop, f = fun v I' => FldP I' v (fmR r.port) (hasF r 5) := ⟨_, rfl⟩
 show Ct Tryz.prog (fnv 57) #[_, .int .i64 5] I (fun v I' => (fun v I' => FldP I' v (fmR r.port) (hasF r 5)) v I')
 rw [<- hQ]
 refine viaR (ct_via (A := {  }) Tryz.func57 rfl Tryz.call57 rfl rfl) (Wr .i64 4 fun c => 0 <= c /\ c < 6 /\ ∃ n, [SV.v (.int .i64 r.num), .v (.int .i64 r.kind), .v (.int .i64 r.code), .v (.int .i64 r.ser), .v (.int .i64 r.port), .v (.int .i64 r.time)][0 + c.toNat * 1 + 0]?.bind (fun (x : SV) => (match x with
  | SV.v x => some x
  | x => none)) = some (.int .i64 n) /\ Ct Tryz.prog (fnv 81) #[.slice none 0 0, .int .i64 n] I fun v a => ∃ b d e, v = .slice b d e /\ Q (.tuple #[.slice b d e, .bool (n != 0)]) a) (by kernel_rfl) ?_
 refine wr_i64 (by omega) (by omega) ⟨by omega, by omega, _, rfl, (ct81N r.port I).mono fun v J l hv' => ?_⟩
 have hv2 := hv';obtain ⟨a, n, c, rfl, _⟩ := hv2;refine ⟨_, _, _, rfl, ?_⟩;rw [hQ];exact rowN_fld hv' (bne_dec _)
theorem ct57_6 (r : Rs) (hr : okRf r) (hv : vokR r = true) (y : Ys) (I : Mem) (hM : RfM I r y) : Ct Tryz.prog (fnv 57) #[.agg (rfV r y).toArray, .int .i64 6] I (fun v I' => FldP I' v (fmR r.time) (hasF r 6)) := by
 obtain ⟨⟨ac, nc, cc, hyc, hc, hcc, hcm⟩, ⟨al, nl, cl, hyl, hl, hlc, hlm⟩, ⟨ae, ne, ce, hye, he, hec, hem⟩, ⟨ap, np, cp, hyp, hp, hpc, hpm⟩, ⟨ah, nh, ch, hyh, hh, hhc, hhm⟩⟩ := hM;obtain ⟨yc, yl, ye, yp, yh⟩ := y
 simp only at hyc hyl hye hyp hyh
 subst hyc hyl hye hyp hyh;obtain ⟨Q, hQ⟩ : ∃ f : Value -> Mem -> Prop, f = fun v I' => FldP I' v (fmR r.time) (hasF r 6) := ⟨_, rfl⟩
 show Ct Tryz.prog (fnv 57) #[_, .int .i64 6] I (fun v I' => (fun v I' => FldP I' v (fmR r.time) (hasF r 6)) v I')
 rw [<- hQ]
 refine viaR (ct_via (A := {  }) Tryz.func57 rfl Tryz.call57 rfl rfl) (Wr .i64 5 fun c => 0 <= c /\ c < 6 /\ ∃ n, [SV.v (.int .i64 r.num), .v (.int .i64 r.kind), .v (.int .i64 r.code), .v (.int .i64 r.ser), .v (.int .i64 r.port), .v (.int .i64 r.time)][0 + c.toNat * 1 + 0]?.bind (fun (x : SV) => (match x with
  | SV.v x => some x
  | x => none)) = some (.int .i64 n) /\ Ct Tryz.prog (fnv 81) #[.slice none 0 0, .int .i64 n] I fun v a => ∃ b d e, v = .slice b d e /\ Q (.tuple #[.slice b d e, .bool (n != 0)]) a) (by kernel_rfl) ?_
 refine wr_i64 (by omega) (by omega) ⟨by omega, by omega, _, rfl, (ct81N r.time I).mono fun v J l hv' => ?_⟩
 have hv2 := hv';obtain ⟨a, n, c, rfl, _⟩ := hv2;refine ⟨_, _, _, rfl, ?_⟩;rw [hQ];exact rowN_fld hv' (bne_dec _)
theorem ct57_7 (r : Rs) (hr : okRf r) (hv : vokR r = true) (y : Ys) (I : Mem) (hM : RfM I r y) : Ct Tryz.prog (fnv 57) #[.agg (rfV r y).toArray, .int .i64 7] I (fun v I' => FldP I' v [] (hasF r 7)) := by
 obtain ⟨⟨ac, nc, cc, hyc, hc, hcc, hcm⟩, ⟨al, nl, cl, hyl, hl, hlc, hlm⟩, ⟨ae, ne, ce, hye, he, hec, hem⟩, ⟨ap, np, cp, hyp, hp, hpc, hpm⟩, ⟨ah, nh, ch, hyh, hh, hhc, hhm⟩⟩ := hM;obtain ⟨yc, yl, ye, yp, yh⟩ := y
 simp only at hyc hyl hye hyp hyh
 subst hyc hyl hye hyp hyh;obtain ⟨Q, hQ⟩ : ∃ f : Value -> Mem -> Prop, f = fun v I' => FldP I' v [] (hasF r 7) := ⟨_, rfl⟩
 show Ct Tryz.prog (fnv 57) #[_, .int .i64 7] I (fun v I' => (fun v I' => FldP I' v [] (hasF r 7)) v I')
 rw [<- hQ]
 refine viaR (ct_via (A := {  }) Tryz.func57 rfl Tryz.call57 rfl rfl) (Q (.tuple #[.slice none 0 0, .bool r.more]) I) (by kernel_rfl) ?_
 rw [hQ];exact ⟨none, 0, 0, rfl, sl_nil _ _, Nat.le_refl _, Nat.zero_le _⟩
theorem ct57_8 (r : Rs) (hr : okRf r) (hv : vokR r = true) (y : Ys) (I : Mem) (hM : RfM I r y) : Ct Tryz.prog (fnv 57) #[.agg (rfV r y).toArray, .int .i64 8] I (fun v I' => FldP I' v (formsL [r.key.1, r.key.2.1, r.key.2.2]) (hasF r 8)) := by
 obtain ⟨⟨ac, nc, cc, hyc, hc, hcc, hcm⟩, ⟨al, nl, cl, hyl, hl, hlc, hlm⟩, ⟨ae, ne, ce, hye, he, hec, hem⟩, ⟨ap, np, cp, hyp, hp, hpc, hpm⟩, ⟨ah, nh, ch, hyh, hh, hhc, hhm⟩⟩ := hM;obtain ⟨yc, yl, ye, yp, yh⟩ := y
 simp only at hyc hyl hye hyp hyh
 subst hyc hyl hye hyp hyh;obtain ⟨Q, hQ⟩ : ∃ f : Value -> Mem -> Prop, f = fun v I' => FldP I' v (formsL [r.key.1, r.key.2.1, r.key.2.2]) (hasF r 8) := ⟨_, rfl⟩
 show Ct Tryz.prog (fnv 57) #[_, .int .i64 8] I (fun v I' => (fun v I' => FldP I' v (formsL [r.key.1, r.key.2.1, r.key.2.2]) (hasF r 8)) v I')
 rw [<- hQ]
 refine viaR (ct_via (A := {  }) Tryz.func57 rfl Tryz.call57 rfl rfl) (Ct Tryz.prog (fnv 82) #[.slice none 0 0, .agg #[.int .i64 r.key.1, .int .i64 r.key.2.1, .int .i64 r.key.2.2]] I fun v a => ∃ b n c, v = .slice b n c /\ Br (r.key.1 != 0) (Q (.tuple #[.slice b n c, .bool true]) a) (Br (r.key.2.1 != 0) (Q (.tuple #[.slice b n c, .bool true]) a) (Q (.tuple #[.slice b n c, .bool (r.key.2.2 != 0)]) a))) (by kernel_rfl) ?_
 refine (ct82N r.key.1 r.key.2.1 r.key.2.2 I).mono fun v J l ⟨a, n, c, hv', h1, h2, h3⟩ => ⟨a, n, c, hv', ?_⟩
 have K : ∀ b, b = decide (r.key ≠ (0, 0, 0)) -> Q (.tuple #[.slice a n c, .bool b]) J := fun b hb => by
  rw [hQ, hb]; exact ⟨a, n, c, rfl, h1, h2, h3⟩
 have hk : r.key = (r.key.1, r.key.2.1, r.key.2.2) := rfl;refine Br.mk (fun h => K _ ?_) (fun h => Br.mk (fun h' => K _ ?_) (fun h' => K _ ?_))
 · have h : r.key.1 ≠ 0 := by simpa using h
   exact (decide_eq_true (p := r.key ≠ (0, 0, 0)) (fun e => h (by rw [e]))).symm
 · have h' : r.key.2.1 ≠ 0 := by simpa using h'
   exact (decide_eq_true (p := r.key ≠ (0, 0, 0)) (fun e => h' (by rw [e]))).symm
 · have h : r.key.1 = 0 := by simpa using h
   have h' : r.key.2.1 = 0 := by simpa using h'
   by_cases h2 : r.key.2.2 = 0
   · rw [decide_eq_false (by rw [hk, h, h', h2]; simp), h2]; rfl
   · rw [decide_eq_true (p := r.key ≠ (0, 0, 0)) (fun e => h2 (by rw [e]))]; simpa using h2
theorem ct57_9 (r : Rs) (hr : okRf r) (hv : vokR r = true) (y : Ys) (I : Mem) (hM : RfM I r y) : Ct Tryz.prog (fnv 57) #[.agg (rfV r y).toArray, .int .i64 9] I (fun v I' => FldP I' v (r.counts.flatMap numF) (hasF r 9)) := by
 obtain ⟨⟨ac, nc, cc, hyc, hc, hcc, hcm⟩, ⟨al, nl, cl, hyl, hl, hlc, hlm⟩, ⟨ae, ne, ce, hye, he, hec, hem⟩, ⟨ap, np, cp, hyp, hp, hpc, hpm⟩, ⟨ah, nh, ch, hyh, hh, hhc, hhm⟩⟩ := hM;obtain ⟨yc, yl, ye, yp, yh⟩ := y
 simp only at hyc hyl hye hyp hyh
 subst hyc hyl hye hyp hyh;obtain ⟨Q, hQ⟩ : ∃ f : Value -> Mem -> Prop, f = fun v I' => FldP I' v (r.counts.flatMap numF) (hasF r 9) := ⟨_, rfl⟩
 show Ct Tryz.prog (fnv 57) #[_, .int .i64 9] I (fun v I' => (fun v I' => FldP I' v (r.counts.flatMap numF) (hasF r 9)) v I')
 rw [<- hQ];obtain ⟨WI, hWI⟩ : ∃ f : Int -> List Value -> Prop, f = fun (j : Int) xs => 0 <= j /\ j <= nc /\ xs = ints .u8 ((r.counts.take j.toNat).flatMap numF) := ⟨_, rfl⟩
 refine viaR (ct_via (A := { calls := [(112, .lendT [106] (.row 0) [.row 1 5])], loops := [(22, ⟨[(2, .keep), (6, .row 1), (8, .sh (.int .i64))], [(0, .keep), (1, .row)], [(6, 1, 5)], fun vals xss _ _ => match vals, xss with | [.int .i64 j], [xs] => WI j xs | _, _ => False, fun vals _ => match vals with | [.int .i64 j] => (nc - j).toNat | _ => 0⟩)] }) Tryz.func57 rfl Tryz.call57 rfl rfl) (let E1 := Ent.mk (.cells [.v (.int .i64 r.num), .v (.int .i64 r.code), .v (.int .i64 r.ser), .v (.int .i64 r.port), .v (.int .i64 r.time), .v (.int .i64 r.kind), .v (.bool r.more), .v (.int .i64 r.key.1), .v (.int .i64 r.key.2.1), .v (.int .i64 r.key.2.2), .v (.slice ac nc cc), .v (.slice al nl cl), .v (.slice ae ne ce), .v (.slice ap np cp), .v (.slice ah nh ch)] 41) none
  (Rf E1 /\ Rf (SV.ptr 0 0) /\ (0 : Nat) = 0 /\ WI 0 []) /\ ∀ (a : Mem), Mem -> I.le a -> ∀ (x : List Value) (n : Int), WI n x -> Br (decide (n < (nc : Int))) (0 <= n /\ n < (nc : Int) /\ ac.isSome = true /\ ∃ b, atI a ac (n.toNat * 1 + 0) = some (.int .i64 b) /\ CtS Tryz.prog (.v (fnv 81)) [.rsl 0 x.length, .v (.int .i64 b)] [⟨.row x 1 5, none⟩] a fun s H c => ∃ d e, s = .rsl 0 d /\ H = [⟨.row e 1 5, none⟩] /\ Wr .i64 (n + 1) fun f => Rf E1 /\ Rf (SV.ptr 0 0) /\ d = e.length /\ WI f e /\ Int.toNat ((nc : Int) - f) < Int.toNat ((nc : Int) - n)) (∀ (b : Option Addr) (c : Nat) (d : Mem), a.le d -> RowM d b c 1 x -> Q (.tuple #[.slice b x.length c, .bool (decide (0 < (x.length : Int)))]) d)) (by kernel_rfl) ?_
 intro E1;simp only [Rf, eq_self, true_and];obtain ⟨w1, w2, w3, w4, w5, w6, hnm⟩ := vok_lens hv;have lx := fm_len (c := cI) (k := 1) (fun _ => rfl) r.counts
 have hxn : nc = r.counts.length := by have := hc.len; omega
 have tl : ∀ m : Nat, ((r.counts.take m).flatMap numF).length <= 9 * 16 := fun m => Nat.le_trans (fm_bound (B := 9) fun x hx => by
  have hx := List.mem_of_mem_take hx
  exact numF_len x) (Nat.mul_le_mul_left _ (by rw [List.length_take]; omega))
 refine ⟨by rw [hWI]; exact ⟨by omega, by omega, rfl⟩, fun J _ lJ xs j hj => ?_⟩
 rw [hWI] at hj;obtain ⟨j0, j1, hxs⟩ := hj
 have hxl : xs.length <= 9 * 16 := by rw [hxs, i5]; exact tl _
 refine Br.mk (fun hlt => ?_) (fun hge => ?_)
 · have hlt := of_decide_eq_true hlt
   obtain ⟨x, hg⟩ : ∃ x, r.counts[j.toNat]? = some x := ⟨_, List.getElem?_eq_getElem (by omega)⟩
   have hx := List.mem_of_getElem? hg;have hxr := hr.counts x hx
   have ha : ∀ k v, k < 1 -> (cI x)[k]? = some v -> atI J ac (j.toNat * 1 + k) = some v := fun k v hk hv => (hc.mono lJ).at_ _ _ (by rw [fm_get (c := cI) (k := 1) (fun _ => rfl) hg hk]; exact hv)
   have hs := hc.isSome (show 0 < nc by omega)
   have UP : ∀ {ys : List Value}, ys = xs ++ ints .u8 (numF x) -> WI (j + 1) ys := fun h => by
    rw [hWI]
    refine ⟨by omega, by omega, ?_⟩
    rw [h, hxs, i5a, show (j + 1).toNat = j.toNat + 1 by omega, List.take_add_one, hg]
    simp
   refine ⟨j0, hlt, hs, _, ha 0 _ (by omega) rfl, (cs81 _ _ x rfl (by omega) J).mono fun s1 H1 J1 l1 ⟨e1, h1⟩ => ⟨_, _, e1, h1, wr_i64 (by omega) (by omega) ⟨by rw [List.length_append, i5], UP ?_, by omega⟩⟩⟩
   rw [numF_one]
 have hge := of_decide_eq_false hge
 rw [show r.counts.take j.toNat = r.counts from List.take_of_length_le (by omega)] at hxs
 intro b c K lK hrow;rw [hxs] at hrow ⊢
 obtain ⟨a2, n2, c2, e2, h1, h2, h3⟩ := row_lst (n := (r.counts.flatMap numF).length) hrow (by omega) (by rw [i5, Nat.mul_one])
 cases e2;rw [hQ, i5]
 refine ⟨_, _, _, by rw [show hasF r 9 = decide (r.counts.flatMap numF ≠ []) from rfl, ne_len], h1, h2, h3⟩
theorem ct57_10 (r : Rs) (hr : okRf r) (hv : vokR r = true) (y : Ys) (I : Mem) (hM : RfM I r y) : Ct Tryz.prog (fnv 57) #[.agg (rfV r y).toArray, .int .i64 10] I (fun v I' => FldP I' v (r.cells.flatMap celF) (hasF r 10)) := by
 obtain ⟨⟨ac, nc, cc, hyc, hc, hcc, hcm⟩, ⟨al, nl, cl, hyl, hl, hlc, hlm⟩, ⟨ae, ne, ce, hye, he, hec, hem⟩, ⟨ap, np, cp, hyp, hp, hpc, hpm⟩, ⟨ah, nh, ch, hyh, hh, hhc, hhm⟩⟩ := hM;obtain ⟨yc, yl, ye, yp, yh⟩ := y
 simp only at hyc hyl hye hyp hyh
 subst hyc hyl hye hyp hyh;obtain ⟨Q, hQ⟩ : ∃ f : Value -> Mem -> Prop, f = fun v I' => FldP I' v (r.cells.flatMap celF) (hasF r 10) := ⟨_, rfl⟩
 show Ct Tryz.prog (fnv 57) #[_, .int .i64 10] I (fun v I' => (fun v I' => FldP I' v (r.cells.flatMap celF) (hasF r 10)) v I')
 rw [<- hQ];obtain ⟨WI, hWI⟩ : ∃ f : Int -> List Value -> Prop, f = fun (j : Int) xs => 0 <= j /\ j <= nl /\ xs = ints .u8 ((r.cells.take j.toNat).flatMap celF) := ⟨_, rfl⟩
 refine viaR (ct_via (A := { loops := [(27, ⟨[(2, .keep), (6, .row 1), (9, .sh (.int .i64))], [(0, .keep), (1, .row)], [(6, 1, 5)], fun vals xss _ _ => match vals, xss with | [.int .i64 j], [xs] => WI j xs | _, _ => False, fun vals _ => match vals with | [.int .i64 j] => (nl - j).toNat | _ => 0⟩)] }) Tryz.func57 rfl Tryz.call57 rfl rfl) (let E1 := Ent.mk (.cells [.v (.int .i64 r.num), .v (.int .i64 r.code), .v (.int .i64 r.ser), .v (.int .i64 r.port), .v (.int .i64 r.time), .v (.int .i64 r.kind), .v (.bool r.more), .v (.int .i64 r.key.1), .v (.int .i64 r.key.2.1), .v (.int .i64 r.key.2.2), .v (.slice ac nc cc), .v (.slice al nl cl), .v (.slice ae ne ce), .v (.slice ap np cp), .v (.slice ah nh ch)] 41) none
  (Rf E1 /\ Rf (SV.ptr 0 0) /\ (0 : Nat) = 0 /\ WI 0 []) /\ ∀ (a : Mem), Mem -> I.le a -> ∀ (x : List Value) (n : Int), WI n x -> Br (decide (n < (nl : Int))) (0 <= n /\ n < (nl : Int) /\ al.isSome = true /\ ∃ b, atI a al (n.toNat * 1 + 0) = some (.int .i64 b) /\ Ct Tryz.prog (fnv 83) #[.int .i64 b] a fun v c => ∃ d, v = .int .u64 d /\ Ct Tryz.prog (fnv 77) #[.int .u64 d] c fun e f => ∃ g h i, e = .slice g h i /\ ∃ y, y.length = h * 1 /\ (g = none -> h = 0) /\ (∀ (j : Nat) (k : Value), y[j]? = some k -> atI f g j = some k) /\ (∀ (j : Value), Membership.mem y j -> j.oneCell' = true) /\ x.length = x.length * 1 /\ x.length + h <= 9223372036854775807 /\ (x.length + h) * 1 <= 140737488355328 /\ Wr .i64 (n + 1) fun j => Rf E1 /\ Rf (SV.ptr 0 0) /\ x.length + h = List.length (x ++ y) /\ WI j (x ++ y) /\ Int.toNat ((nl : Int) - j) < Int.toNat ((nl : Int) - n)) (∀ (b : Option Addr) (c : Nat) (d : Mem), a.le d -> RowM d b c 1 x -> Q (.tuple #[.slice b x.length c, .bool (decide (0 < (x.length : Int)))]) d)) (by kernel_rfl) ?_
 intro E1;simp only [Rf, eq_self, true_and];obtain ⟨w1, w2, w3, w4, w5, w6, hnm⟩ := vok_lens hv;have lx := fm_len (c := cI) (k := 1) (fun _ => rfl) r.cells
 have hxn : nl = r.cells.length := by have := hl.len; omega
 have tl : ∀ m : Nat, ((r.cells.take m).flatMap celF).length <= 9 * 1024 := fun m => Nat.le_trans (fm_bound (B := 9) fun x hx => by
  have hx := List.mem_of_mem_take hx
  exact celF_len (hr.cells x hx)) (Nat.mul_le_mul_left _ (by rw [List.length_take]; omega))
 refine ⟨by rw [hWI]; exact ⟨by omega, by omega, rfl⟩, fun J _ lJ xs j hj => ?_⟩
 rw [hWI] at hj;obtain ⟨j0, j1, hxs⟩ := hj
 have hxl : xs.length <= 9 * 1024 := by rw [hxs, i5]; exact tl _
 refine Br.mk (fun hlt => ?_) (fun hge => ?_)
 · have hlt := of_decide_eq_true hlt
   obtain ⟨x, hg⟩ : ∃ x, r.cells[j.toNat]? = some x := ⟨_, List.getElem?_eq_getElem (by omega)⟩
   have hx := List.mem_of_getElem? hg;have hxr := hr.cells x hx
   have ha : ∀ k v, k < 1 -> (cI x)[k]? = some v -> atI J al (j.toNat * 1 + k) = some v := fun k v hk hv => (hl.mono lJ).at_ _ _ (by rw [fm_get (c := cI) (k := 1) (fun _ => rfl) hg hk]; exact hv)
   have hs := hl.isSome (show 0 < nl by omega)
   have UP : ∀ {ys : List Value}, ys = xs ++ ints .u8 (celF x) -> WI (j + 1) ys := fun h => by
    rw [hWI]
    refine ⟨by omega, by omega, ?_⟩
    rw [h, hxs, i5a, show (j + 1).toNat = j.toNat + 1 by omega, List.take_add_one, hg]
    simp
   have hfr := foldZ_range hxr
   refine ⟨j0, hlt, hs, _, ha 0 _ (by omega) rfl, (ct83 x hxr J).mono fun v J1 l1 hv1 => ⟨_, hv1, (ct77 _ ⟨hfr.1, hfr.2⟩ J1).mono fun v2 J2 l2 ⟨a2, n2, c2, hv2, hs2, _, _⟩ => ?_⟩⟩
   have hn2 := hs2.numLen;have hcl := celF_len hxr;have hcl2 : (celF x).length = n2 := hn2.symm
   refine ⟨a2, n2, c2, hv2, _, hs2.len, hs2.nil, hs2.at_, one_ints, by omega, by omega, by omega, wr_i64 (by omega) (by omega) ⟨by rw [List.length_append, hs2.len, Nat.mul_one], UP ?_, by omega⟩⟩
   rfl
 have hge := of_decide_eq_false hge
 rw [show r.cells.take j.toNat = r.cells from List.take_of_length_le (by omega)] at hxs
 intro b c K lK hrow;rw [hxs] at hrow ⊢
 obtain ⟨a2, n2, c2, e2, h1, h2, h3⟩ := row_lst (n := (r.cells.flatMap celF).length) hrow (by omega) (by rw [i5, Nat.mul_one])
 cases e2;rw [hQ, i5]
 refine ⟨_, _, _, by rw [show hasF r 10 = decide (r.cells.flatMap celF ≠ []) from rfl, ne_len], h1, h2, h3⟩
theorem ct57_11 (r : Rs) (hr : okRf r) (hv : vokR r = true) (y : Ys) (I : Mem) (hM : RfM I r y) : Ct Tryz.prog (fnv 57) #[.agg (rfV r y).toArray, .int .i64 11] I (fun v I' => FldP I' v (r.events.flatMap evF) (hasF r 11)) := by
 obtain ⟨⟨ac, nc, cc, hyc, hc, hcc, hcm⟩, ⟨al, nl, cl, hyl, hl, hlc, hlm⟩, ⟨ae, ne, ce, hye, he, hec, hem⟩, ⟨ap, np, cp, hyp, hp, hpc, hpm⟩, ⟨ah, nh, ch, hyh, hh, hhc, hhm⟩⟩ := hM;obtain ⟨yc, yl, ye, yp, yh⟩ := y
 simp only at hyc hyl hye hyp hyh
 subst hyc hyl hye hyp hyh;obtain ⟨Q, hQ⟩ : ∃ f : Value -> Mem -> Prop, f = fun v I' => FldP I' v (r.events.flatMap evF) (hasF r 11) := ⟨_, rfl⟩
 show Ct Tryz.prog (fnv 57) #[_, .int .i64 11] I (fun v I' => (fun v I' => FldP I' v (r.events.flatMap evF) (hasF r 11)) v I')
 rw [<- hQ];obtain ⟨WI, hWI⟩ : ∃ f : Int -> List Value -> Prop, f = fun (j : Int) xs => 0 <= j /\ j <= ne /\ xs = ints .u8 ((r.events.take j.toNat).flatMap evF) := ⟨_, rfl⟩
 refine viaR (ct_via (A := { calls := [(147, .lendT [140] (.row 0) [.row 1 5]), (154, .lendT [147] (.row 0) [.row 1 5])], loops := [(32, ⟨[(2, .keep), (6, .row 1), (10, .sh (.int .i64))], [(0, .keep), (1, .row)], [(6, 1, 5)], fun vals xss _ _ => match vals, xss with | [.int .i64 j], [xs] => WI j xs | _, _ => False, fun vals _ => match vals with | [.int .i64 j] => (ne - j).toNat | _ => 0⟩)] }) Tryz.func57 rfl Tryz.call57 rfl rfl) (let E1 := Ent.mk (.cells [.v (.int .i64 r.num), .v (.int .i64 r.code), .v (.int .i64 r.ser), .v (.int .i64 r.port), .v (.int .i64 r.time), .v (.int .i64 r.kind), .v (.bool r.more), .v (.int .i64 r.key.1), .v (.int .i64 r.key.2.1), .v (.int .i64 r.key.2.2), .v (.slice ac nc cc), .v (.slice al nl cl), .v (.slice ae ne ce), .v (.slice ap np cp), .v (.slice ah nh ch)] 41) none
  (Rf E1 /\ Rf (SV.ptr 0 0) /\ (0 : Nat) = 0 /\ WI 0 []) /\ ∀ (a : Mem), Mem -> I.le a -> ∀ (x : List Value) (n : Int), WI n x -> Br (decide (n < (ne : Int))) (0 <= n /\ n < (ne : Int) /\ ae.isSome = true /\ ae.isSome = true /\ (3 : Nat) = 3 /\ ∃ b, atI a ae (n.toNat * 5 + 0 + 0) = some (.int .i64 b) /\ ∃ c, atI a ae (n.toNat * 5 + 0 + 1) = some (.int .i64 c) /\ ∃ d, atI a ae (n.toNat * 5 + 0 + 2) = some (.int .i64 d) /\ 0 <= n /\ n < (ne : Int) /\ ae.isSome = true /\ ae.isSome = true /\ ∃ e, atI a ae (n.toNat * 5 + 3 + 0) = some (.int .i64 e) /\ CtS Tryz.prog (.v (fnv 82)) [.rsl 0 x.length, .agg [.v (.int .i64 b), .v (.int .i64 c), .v (.int .i64 d)]] [⟨.row x 1 5, none⟩] a fun s H f => ∃ g h, s = .rsl 0 g /\ H = [⟨.row h 1 5, none⟩] /\ CtS Tryz.prog (.v (fnv 81)) [.rsl 0 g, .v (.int .i64 e)] [⟨.row h 1 5, none⟩] f fun i j k => ∃ l m, i = .rsl 0 l /\ j = [⟨.row m 1 5, none⟩] /\ 0 <= n /\ n < (ne : Int) /\ ae.isSome = true /\ ae.isSome = true /\ ∃ o, atI k ae (n.toNat * 5 + 4 + 0) = some (.int .i64 o) /\ Ct Tryz.prog (fnv 83) #[.int .i64 o] k fun v p => ∃ q, v = .int .u64 q /\ Ct Tryz.prog (fnv 77) #[.int .u64 q] p fun t u => ∃ w y z, t = .slice w y z /\ ∃ y1, y1.length = y * 1 /\ (w = none -> y = 0) /\ (∀ (j1 : Nat) (v1 : Value), y1[j1]? = some v1 -> atI u w j1 = some v1) /\ (∀ (v1 : Value), Membership.mem y1 v1 -> v1.oneCell' = true) /\ m.length = l * 1 /\ l + y <= 9223372036854775807 /\ (l + y) * 1 <= 140737488355328 /\ Wr .i64 (n + 1) fun c1 => Rf E1 /\ Rf (SV.ptr 0 0) /\ l + y = List.length (m ++ y1) /\ WI c1 (m ++ y1) /\ Int.toNat ((ne : Int) - c1) < Int.toNat ((ne : Int) - n)) (∀ (b : Option Addr) (c : Nat) (d : Mem), a.le d -> RowM d b c 1 x -> Q (.tuple #[.slice b x.length c, .bool (decide (0 < (x.length : Int)))]) d)) (by kernel_rfl) ?_
 intro E1;simp only [Rf, eq_self, true_and];obtain ⟨w1, w2, w3, w4, w5, w6, hnm⟩ := vok_lens hv;have lx := fm_len (c := cE) (k := 5) (fun _ => rfl) r.events
 have hxn : ne = r.events.length := by have := he.len; omega
 have tl : ∀ m : Nat, ((r.events.take m).flatMap evF).length <= 45 * 64 := fun m => Nat.le_trans (fm_bound (B := 45) fun x hx => by
  have hx := List.mem_of_mem_take hx
  exact evF_len (hr.events x hx).2.2) (Nat.mul_le_mul_left _ (by rw [List.length_take]; omega))
 refine ⟨by rw [hWI]; exact ⟨by omega, by omega, rfl⟩, fun J _ lJ xs j hj => ?_⟩
 rw [hWI] at hj;obtain ⟨j0, j1, hxs⟩ := hj
 have hxl : xs.length <= 45 * 64 := by rw [hxs, i5]; exact tl _
 refine Br.mk (fun hlt => ?_) (fun hge => ?_)
 · have hlt := of_decide_eq_true hlt
   obtain ⟨x, hg⟩ : ∃ x, r.events[j.toNat]? = some x := ⟨_, List.getElem?_eq_getElem (by omega)⟩
   have hx := List.mem_of_getElem? hg;have hxr := hr.events x hx
   have ha : ∀ k v, k < 5 -> (cE x)[k]? = some v -> atI J ae (j.toNat * 5 + k) = some v := fun k v hk hv => (he.mono lJ).at_ _ _ (by rw [fm_get (c := cE) (k := 5) (fun _ => rfl) hg hk]; exact hv)
   have hs := he.isSome (show 0 < ne by omega)
   have UP : ∀ {ys : List Value}, ys = xs ++ ints .u8 (evF x) -> WI (j + 1) ys := fun h => by
    rw [hWI]
    refine ⟨by omega, by omega, ?_⟩
    rw [h, hxs, i5a, show (j + 1).toNat = j.toNat + 1 by omega, List.take_add_one, hg]
    simp
   have hfr := foldZ_range hxr.2.2;have f1 := fmR_len x.1.1;have f2 := fmR_len x.1.2.1;have f3 := fmR_len x.1.2.2;have f4 := fmR_len x.2.1
   refine ⟨j0, hlt, hs, hs, _, ha 0 _ (by omega) rfl, _, ha 1 _ (by omega) rfl, _, ha 2 _ (by omega) rfl, j0, hlt, hs, hs, _, ha 3 _ (by omega) rfl, ?_⟩
   refine (cs_aggK (cs82 _ _ x.1.1 x.1.2.1 x.1.2.2 rfl (by omega) J)).mono fun s1 H1 J1 l1 ⟨e1, h1⟩ => ⟨_, _, e1, h1, ?_⟩
   refine (cs81 _ _ x.2.1 (by simp only [List.length_append, i5]; omega) (by simp only [List.length_append, i5]; omega) J1).mono fun s2 H2 J2 l2 ⟨e2, h2⟩ => ⟨_, _, e2, h2, j0, hlt, hs, hs, _, atI_le (Mem.le_trans l1 l2) (ha 4 _ (by omega) rfl), ?_⟩
   refine (ct83 x.2.2 hxr.2.2 J2).mono fun v J3 l3 hv1 => ⟨_, hv1, (ct77 _ ⟨hfr.1, hfr.2⟩ J3).mono fun v2 J4 l4 ⟨a2, n2, c2, hv2, hs2, _, _⟩ => ?_⟩;have hn2 := hs2.numLen;have hcl := celF_len hxr.2.2;have hcl2 : (celF x.2.2).length = n2 := hn2.symm
   refine ⟨a2, n2, c2, hv2, _, hs2.len, hs2.nil, hs2.at_, one_ints, by simp only [List.length_append, i5]; omega, by omega, by omega, wr_i64 (by omega) (by omega) ⟨by simp only [List.length_append, i5]; omega, UP ?_, by omega⟩⟩
   simp only [List.append_assoc, i5a];rw [evF_eq]
 have hge := of_decide_eq_false hge
 rw [show r.events.take j.toNat = r.events from List.take_of_length_le (by omega)] at hxs
 intro b c K lK hrow;rw [hxs] at hrow ⊢
 obtain ⟨a2, n2, c2, e2, h1, h2, h3⟩ := row_lst (n := (r.events.flatMap evF).length) hrow (by omega) (by rw [i5, Nat.mul_one])
 cases e2;rw [hQ, i5]
 refine ⟨_, _, _, by rw [show hasF r 11 = decide (r.events.flatMap evF ≠ []) from rfl, ne_len], h1, h2, h3⟩
theorem ct57_12 (r : Rs) (hr : okRf r) (hv : vokR r = true) (y : Ys) (I : Mem) (hM : RfM I r y) : Ct Tryz.prog (fnv 57) #[.agg (rfV r y).toArray, .int .i64 12] I (fun v I' => FldP I' v (r.ports.flatMap ptF) (hasF r 12)) := by
 obtain ⟨⟨ac, nc, cc, hyc, hc, hcc, hcm⟩, ⟨al, nl, cl, hyl, hl, hlc, hlm⟩, ⟨ae, ne, ce, hye, he, hec, hem⟩, ⟨ap, np, cp, hyp, hp, hpc, hpm⟩, ⟨ah, nh, ch, hyh, hh, hhc, hhm⟩⟩ := hM;obtain ⟨yc, yl, ye, yp, yh⟩ := y
 simp only at hyc hyl hye hyp hyh
 subst hyc hyl hye hyp hyh;obtain ⟨Q, hQ⟩ : ∃ f : Value -> Mem -> Prop, f = fun v I' => FldP I' v (r.ports.flatMap ptF) (hasF r 12) := ⟨_, rfl⟩
 show Ct Tryz.prog (fnv 57) #[_, .int .i64 12] I (fun v I' => (fun v I' => FldP I' v (r.ports.flatMap ptF) (hasF r 12)) v I')
 rw [<- hQ];obtain ⟨WI, hWI⟩ : ∃ f : Int -> List Value -> Prop, f = fun (j : Int) xs => 0 <= j /\ j <= np /\ xs = ints .u8 ((r.ports.take j.toNat).flatMap ptF) := ⟨_, rfl⟩
 refine viaR (ct_via (A := { calls := [(182, .lendT [179] (.row 0) [.row 1 5]), (185, .lendT [182] (.row 0) [.row 1 5]), (189, .lendT [185] (.row 0) [.row 1 5])], loops := [(38, ⟨[(2, .keep), (6, .row 1), (11, .sh (.int .i64))], [(0, .keep), (1, .row)], [(6, 1, 5)], fun vals xss _ _ => match vals, xss with | [.int .i64 j], [xs] => WI j xs | _, _ => False, fun vals _ => match vals with | [.int .i64 j] => (np - j).toNat | _ => 0⟩)] }) Tryz.func57 rfl Tryz.call57 rfl rfl) (let E1 := Ent.mk (.cells [.v (.int .i64 r.num), .v (.int .i64 r.code), .v (.int .i64 r.ser), .v (.int .i64 r.port), .v (.int .i64 r.time), .v (.int .i64 r.kind), .v (.bool r.more), .v (.int .i64 r.key.1), .v (.int .i64 r.key.2.1), .v (.int .i64 r.key.2.2), .v (.slice ac nc cc), .v (.slice al nl cl), .v (.slice ae ne ce), .v (.slice ap np cp), .v (.slice ah nh ch)] 41) none
  (Rf E1 /\ Rf (SV.ptr 0 0) /\ (0 : Nat) = 0 /\ WI 0 []) /\ ∀ (a : Mem), Mem -> I.le a -> ∀ (x : List Value) (n : Int), WI n x -> Br (decide (n < (np : Int))) (0 <= n /\ n < (np : Int) /\ ap.isSome = true /\ (3 : Nat) = 3 /\ ∃ b, atI a ap (n.toNat * 3 + 0) = some (.int .i64 b) /\ ∃ q, atI a ap (n.toNat * 3 + 1) = some (.string q) /\ ∃ c, atI a ap (n.toNat * 3 + 2) = some (.int .i64 c) /\ CtS Tryz.prog (.v (fnv 81)) [.rsl 0 x.length, .v (.int .i64 b)] [⟨.row x 1 5, none⟩] a fun s H d => ∃ e f, s = .rsl 0 e /\ H = [⟨.row f 1 5, none⟩] /\ CtS Tryz.prog (.v (fnv 81)) [.rsl 0 e, .v (.int .i64 c)] [⟨.row f 1 5, none⟩] d fun g h i => ∃ j k, g = .rsl 0 j /\ h = [⟨.row k 1 5, none⟩] /\ CtS Tryz.prog (.v (fnv 81)) [.rsl 0 j, .v (.int .i64 (q.size : Int))] [⟨.row k 1 5, none⟩] i fun l m o => ∃ p t, l = .rsl 0 p /\ m = [⟨.row t 1 5, none⟩] /\ (1 : Nat) = 1 /\ t.length = p * 1 /\ p + q.size <= 9223372036854775807 /\ (p + q.size) * 1 <= 140737488355328 /\ Wr .i64 (n + 1) fun u => Rf E1 /\ Rf (SV.ptr 0 0) /\ p + q.size = List.length (t ++ bytesV q) /\ WI u (t ++ bytesV q) /\ Int.toNat ((np : Int) - u) < Int.toNat ((np : Int) - n)) (∀ (b : Option Addr) (c : Nat) (d : Mem), a.le d -> RowM d b c 1 x -> Q (.tuple #[.slice b x.length c, .bool (decide (0 < (x.length : Int)))]) d)) (by kernel_rfl) ?_
 intro E1;simp only [Rf, eq_self, true_and];obtain ⟨w1, w2, w3, w4, w5, w6, hnm⟩ := vok_lens hv;have lx := fm_len (c := cP) (k := 3) (fun _ => rfl) r.ports
 have hxn : np = r.ports.length := by have := hp.len; omega
 have tl : ∀ m : Nat, ((r.ports.take m).flatMap ptF).length <= 59 * 64 := fun m => Nat.le_trans (fm_bound (B := 59) fun x hx => by
  have hx := List.mem_of_mem_take hx
  exact Nat.le_trans (ptF_len x) (show 27 + x.2.1.length <= 59 by have := hnm x hx; omega)) (Nat.mul_le_mul_left _ (by rw [List.length_take]; omega))
 refine ⟨by rw [hWI]; exact ⟨by omega, by omega, rfl⟩, fun J _ lJ xs j hj => ?_⟩
 rw [hWI] at hj;obtain ⟨j0, j1, hxs⟩ := hj
 have hxl : xs.length <= 59 * 64 := by rw [hxs, i5]; exact tl _
 refine Br.mk (fun hlt => ?_) (fun hge => ?_)
 · have hlt := of_decide_eq_true hlt
   obtain ⟨x, hg⟩ : ∃ x, r.ports[j.toNat]? = some x := ⟨_, List.getElem?_eq_getElem (by omega)⟩
   have hx := List.mem_of_getElem? hg;have hxr := hr.ports x hx
   have ha : ∀ k v, k < 3 -> (cP x)[k]? = some v -> atI J ap (j.toNat * 3 + k) = some v := fun k v hk hv => (hp.mono lJ).at_ _ _ (by rw [fm_get (c := cP) (k := 3) (fun _ => rfl) hg hk]; exact hv)
   have hs := hp.isSome (show 0 < np by omega)
   have UP : ∀ {ys : List Value}, ys = xs ++ ints .u8 (ptF x) -> WI (j + 1) ys := fun h => by
    rw [hWI]
    refine ⟨by omega, by omega, ?_⟩
    rw [h, hxs, i5a, show (j + 1).toNat = j.toNat + 1 by omega, List.take_add_one, hg]
    simp
   have f1 := fmR_len x.1;have f2 := fmR_len x.2.2;have f3 := fmR_len ((strB x.2.1).size : Int);have f4 := strB_size x.2.1;have f5 := hnm x hx
   have f6 : (bytesV (strB x.2.1)).length = x.2.1.length := by rw [bytesV_strB hxr.2.1, i5]
   refine ⟨j0, hlt, hs, _, ha 0 _ (by omega) rfl, _, ha 1 _ (by omega) rfl, _, ha 2 _ (by omega) rfl, ?_⟩
   refine (cs81 _ _ x.1 rfl (by omega) J).mono fun s1 H1 J1 l1 ⟨e1, h1⟩ => ⟨_, _, e1, h1, ?_⟩
   refine (cs81 _ _ x.2.2 (by simp only [List.length_append, i5]) (by simp only [List.length_append, i5]; omega) J1).mono fun s2 H2 J2 l2 ⟨e2, h2⟩ => ⟨_, _, e2, h2, ?_⟩
   refine (cs81 _ _ ((strB x.2.1).size : Int) (by simp only [List.length_append, i5]) (by simp only [List.length_append, i5]; omega) J2).mono fun s3 H3 J3 l3 ⟨e3, h3⟩ => ⟨_, _, e3, h3, by simp only [List.length_append, i5]; omega, by omega, by omega, wr_i64 (by omega) (by omega) ⟨by simp only [List.length_append, i5]; omega, UP ?_, by omega⟩⟩
   rw [bytesV_strB hxr.2.1, f4];simp only [List.append_assoc, i5a];rw [ptF_eq]
 have hge := of_decide_eq_false hge
 rw [show r.ports.take j.toNat = r.ports from List.take_of_length_le (by omega)] at hxs
 intro b c K lK hrow;rw [hxs] at hrow ⊢
 obtain ⟨a2, n2, c2, e2, h1, h2, h3⟩ := row_lst (n := (r.ports.flatMap ptF).length) hrow (by omega) (by rw [i5, Nat.mul_one])
 cases e2;rw [hQ, i5]
 refine ⟨_, _, _, by rw [show hasF r 12 = decide (r.ports.flatMap ptF ≠ []) from rfl, ne_len], h1, h2, h3⟩
theorem ct57_13 (r : Rs) (hr : okRf r) (hv : vokR r = true) (y : Ys) (I : Mem) (hM : RfM I r y) : Ct Tryz.prog (fnv 57) #[.agg (rfV r y).toArray, .int .i64 13] I (fun v I' => FldP I' v (r.handles.flatMap hdF) (hasF r 13)) := by
 obtain ⟨⟨ac, nc, cc, hyc, hc, hcc, hcm⟩, ⟨al, nl, cl, hyl, hl, hlc, hlm⟩, ⟨ae, ne, ce, hye, he, hec, hem⟩, ⟨ap, np, cp, hyp, hp, hpc, hpm⟩, ⟨ah, nh, ch, hyh, hh, hhc, hhm⟩⟩ := hM;obtain ⟨yc, yl, ye, yp, yh⟩ := y
 simp only at hyc hyl hye hyp hyh
 subst hyc hyl hye hyp hyh;obtain ⟨Q, hQ⟩ : ∃ f : Value -> Mem -> Prop, f = fun v I' => FldP I' v (r.handles.flatMap hdF) (hasF r 13) := ⟨_, rfl⟩
 show Ct Tryz.prog (fnv 57) #[_, .int .i64 13] I (fun v I' => (fun v I' => FldP I' v (r.handles.flatMap hdF) (hasF r 13)) v I')
 rw [<- hQ];obtain ⟨WI, hWI⟩ : ∃ f : Int -> List Value -> Prop, f = fun (j : Int) xs => 0 <= j /\ j <= nh /\ xs = ints .u8 ((r.handles.take j.toNat).flatMap hdF) := ⟨_, rfl⟩
 refine viaR (ct_via (A := { calls := [(31, .lendT [28] (.row 0) [.row 1 5]), (34, .lendT [31] (.row 0) [.row 1 5]), (37, .lendT [34] (.row 0) [.row 1 5]), (40, .lendT [37] (.row 0) [.row 1 5]), (43, .lendT [40] (.row 0) [.row 1 5])], loops := [(4, ⟨[(2, .keep), (6, .row 1), (13, .sh (.int .i64))], [(0, .keep), (1, .row)], [(6, 1, 5)], fun vals xss _ _ => match vals, xss with | [.int .i64 j], [xs] => WI j xs | _, _ => False, fun vals _ => match vals with | [.int .i64 j] => (nh - j).toNat | _ => 0⟩)] }) Tryz.func57 rfl Tryz.call57 rfl rfl) (let E1 := fun (x : List Value) => [⟨.row x 1 5, none⟩]
  let E2 := Ent.mk (.cells [.v (.int .i64 r.num), .v (.int .i64 r.code), .v (.int .i64 r.ser), .v (.int .i64 r.port), .v (.int .i64 r.time), .v (.int .i64 r.kind), .v (.bool r.more), .v (.int .i64 r.key.1), .v (.int .i64 r.key.2.1), .v (.int .i64 r.key.2.2), .v (.slice ac nc cc), .v (.slice al nl cl), .v (.slice ae ne ce), .v (.slice ap np cp), .v (.slice ah nh ch)] 41) none
  (Rf E2 /\ Rf (SV.ptr 0 0) /\ (0 : Nat) = 0 /\ WI 0 []) /\ ∀ (a : Mem), Mem -> I.le a -> ∀ (x : List Value) (n : Int), WI n x -> Br (decide (n < (nh : Int))) (0 <= n /\ n < (nh : Int) /\ ah.isSome = true /\ (5 : Nat) = 5 /\ ∃ b, atI a ah (n.toNat * 5 + 0) = some (.int .i64 b) /\ ∃ c, atI a ah (n.toNat * 5 + 1) = some (.int .i64 c) /\ ∃ d, atI a ah (n.toNat * 5 + 2) = some (.int .i64 d) /\ ∃ e, atI a ah (n.toNat * 5 + 3) = some (.int .i64 e) /\ ∃ f, atI a ah (n.toNat * 5 + 4) = some (.int .i64 f) /\ CtS Tryz.prog (.v (fnv 81)) [.rsl 0 x.length, .v (.int .i64 b)] (E1 x) a fun s H g => ∃ h i, s = .rsl 0 h /\ H = E1 i /\ CtS Tryz.prog (.v (fnv 81)) [.rsl 0 h, .v (.int .i64 c)] (E1 i) g fun j k l => ∃ m o, j = .rsl 0 m /\ k = E1 o /\ CtS Tryz.prog (.v (fnv 81)) [.rsl 0 m, .v (.int .i64 d)] (E1 o) l fun p q t => ∃ u v, p = .rsl 0 u /\ q = E1 v /\ CtS Tryz.prog (.v (fnv 81)) [.rsl 0 u, .v (.int .i64 e)] (E1 v) t fun w y z => ∃ n1 x1, w = .rsl 0 n1 /\ y = E1 x1 /\ CtS Tryz.prog (.v (fnv 81)) [.rsl 0 n1, .v (.int .i64 f)] (E1 x1) z fun s1 H1 I1 => ∃ n2 x2, s1 = .rsl 0 n2 /\ H1 = E1 x2 /\ Wr .i64 (n + 1) fun c1 => Rf E2 /\ Rf (SV.ptr 0 0) /\ n2 = x2.length /\ WI c1 x2 /\ Int.toNat ((nh : Int) - c1) < Int.toNat ((nh : Int) - n)) (∀ (b : Option Addr) (c : Nat) (d : Mem), a.le d -> RowM d b c 1 x -> Q (.tuple #[.slice b x.length c, .bool (decide (0 < (x.length : Int)))]) d)) (by kernel_rfl) ?_
 intro E1 E2;simp only [Rf, eq_self, true_and];obtain ⟨w1, w2, w3, w4, w5, w6, hnm⟩ := vok_lens hv;have lx := fm_len (c := cG) (k := 5) (fun _ => rfl) r.handles
 have hxn : nh = r.handles.length := by have := hh.len; omega
 have tl : ∀ m : Nat, ((r.handles.take m).flatMap hdF).length <= 45 * 64 := fun m => Nat.le_trans (fm_bound (B := 45) fun x hx => by
  have hx := List.mem_of_mem_take hx
  exact hdF_len x) (Nat.mul_le_mul_left _ (by rw [List.length_take]; omega))
 refine ⟨by rw [hWI]; exact ⟨by omega, by omega, rfl⟩, fun J _ lJ xs j hj => ?_⟩
 rw [hWI] at hj;obtain ⟨j0, j1, hxs⟩ := hj
 have hxl : xs.length <= 45 * 64 := by rw [hxs, i5]; exact tl _
 refine Br.mk (fun hlt => ?_) (fun hge => ?_)
 · have hlt := of_decide_eq_true hlt
   obtain ⟨x, hg⟩ : ∃ x, r.handles[j.toNat]? = some x := ⟨_, List.getElem?_eq_getElem (by omega)⟩
   have hx := List.mem_of_getElem? hg;have hxr := hr.handles x hx
   have ha : ∀ k v, k < 5 -> (cG x)[k]? = some v -> atI J ah (j.toNat * 5 + k) = some v := fun k v hk hv => (hh.mono lJ).at_ _ _ (by rw [fm_get (c := cG) (k := 5) (fun _ => rfl) hg hk]; exact hv)
   have hs := hh.isSome (show 0 < nh by omega)
   have UP : ∀ {ys : List Value}, ys = xs ++ ints .u8 (hdF x) -> WI (j + 1) ys := fun h => by
    rw [hWI]
    refine ⟨by omega, by omega, ?_⟩
    rw [h, hxs, i5a, show (j + 1).toNat = j.toNat + 1 by omega, List.take_add_one, hg]
    simp
   have f1 := fmR_len x.1;have f2 := fmR_len x.2.1;have f3 := fmR_len x.2.2.1;have f4 := fmR_len x.2.2.2.1;have f5 := fmR_len x.2.2.2.2
   refine ⟨j0, hlt, hs, _, ha 0 _ (by omega) rfl, _, ha 1 _ (by omega) rfl, _, ha 2 _ (by omega) rfl, _, ha 3 _ (by omega) rfl, _, ha 4 _ (by omega) rfl, ?_⟩
   refine (cs81 _ _ x.1 rfl (by omega) J).mono fun s1 H1 J1 l1 ⟨e1, h1⟩ => ⟨_, _, e1, h1, ?_⟩
   refine (cs81 _ _ x.2.1 (by simp only [List.length_append, i5]) (by simp only [List.length_append, i5]; omega) J1).mono fun s2 H2 J2 l2 ⟨e2, h2⟩ => ⟨_, _, e2, h2, ?_⟩
   refine (cs81 _ _ x.2.2.1 (by simp only [List.length_append, i5]) (by simp only [List.length_append, i5]; omega) J2).mono fun s3 H3 J3 l3 ⟨e3, h3⟩ => ⟨_, _, e3, h3, ?_⟩
   refine (cs81 _ _ x.2.2.2.1 (by simp only [List.length_append, i5]) (by simp only [List.length_append, i5]; omega) J3).mono fun s4 H4 J4 l4 ⟨e4, h4⟩ => ⟨_, _, e4, h4, ?_⟩
   refine (cs81 _ _ x.2.2.2.2 (by simp only [List.length_append, i5]) (by simp only [List.length_append, i5]; omega) J4).mono fun s5 H5 J5 l5 ⟨e5, h5⟩ => ⟨_, _, e5, h5, wr_i64 (by omega) (by omega) ⟨by simp only [List.length_append, i5], UP ?_, by omega⟩⟩
   simp only [List.append_assoc, i5a];rw [hdF_eq]
 have hge := of_decide_eq_false hge
 rw [show r.handles.take j.toNat = r.handles from List.take_of_length_le (by omega)] at hxs
 intro b c K lK hrow;rw [hxs] at hrow ⊢
 obtain ⟨a2, n2, c2, e2, h1, h2, h3⟩ := row_lst (n := (r.handles.flatMap hdF).length) hrow (by omega) (by rw [i5, Nat.mul_one])
 cases e2;rw [hQ, i5]
 refine ⟨_, _, _, by rw [show hasF r 13 = decide (r.handles.flatMap hdF ≠ []) from rfl, ne_len], h1, h2, h3⟩
set_option maxHeartbeats 1000000
def flR (r : Rs) (m : Nat) : List (Int × List Int) := ((allF r).take m).filter fun p => hasF r p.1
def rightR (r : Rs) : Bool := vokR r && (rightF (fieldsS r) && decide ((writeF (fieldsS r)).length <= 16320))
theorem allF_len (r : Rs) : (allF r).length = 13 := rfl
theorem fmR_byte (x : Int) : byteL (fmR x) := formN_bytes (by have := w64_range x; omega)
theorem ct57 (r : Rs) (hr : okRf r) (hv : vokR r = true) (y : Ys) (I : Mem) (hM : RfM I r y) (t : Int) (ht : 1 <= t /\ t <= 13) :
 Ct Tryz.prog (fnv 57) #[.agg (rfV r y).toArray, .int .i64 t] I (fun v I' => ∃ f, (allF r)[(t - 1).toNat]? = some f /\ f.1 = t /\ okFld f /\ f.2.length <= 20000 /\ FldP I' v f.2 (hasF r t)) := by
 obtain ⟨w1, w2, w3, w4, w5, w6, hnm⟩ := vok_lens hv
 have F9 : ∀ x, (fmR x).length <= 20000 := fun x => by have := fmR_len x; omega
 have B : ∀ {α : Type} {F : α -> List Int} {l : List α} {b : Nat}, (∀ x ∈ l, byteL (F x)) -> (∀ x ∈ l, (F x).length <= b) -> b * l.length <= 20000 -> byteL (l.flatMap F) /\ (l.flatMap F).length <= 20000 := fun h1 h2 h3 => ⟨fm_bytes h1, Nat.le_trans (fm_bound h2) h3⟩
 have OK : ∀ {t : Int} {bs : List Int}, 1 <= t /\ t <= 13 -> byteL bs -> okFld (t, bs) := fun h1 h2 => ⟨⟨by simp only; omega, by simp only; omega⟩, h2⟩
 rcases (by omega : t = 1 \/ t = 2 \/ t = 3 \/ t = 4 \/ t = 5 \/ t = 6 \/ t = 7 \/ t = 8 \/ t = 9 \/ t = 10 \/ t = 11 \/ t = 12 \/ t = 13) with rfl | rfl | rfl | rfl | rfl | rfl | rfl | rfl | rfl | rfl | rfl | rfl | rfl
 · exact (ct57_1 r hr hv y I hM).mono fun v J l h => ⟨_, rfl, rfl, OK (by omega) (fmR_byte _), F9 _, h⟩
 · exact (ct57_2 r hr hv y I hM).mono fun v J l h => ⟨_, rfl, rfl, OK (by omega) (fmR_byte _), F9 _, h⟩
 · exact (ct57_3 r hr hv y I hM).mono fun v J l h => ⟨_, rfl, rfl, OK (by omega) (fmR_byte _), F9 _, h⟩
 · exact (ct57_4 r hr hv y I hM).mono fun v J l h => ⟨_, rfl, rfl, OK (by omega) (fmR_byte _), F9 _, h⟩
 · exact (ct57_5 r hr hv y I hM).mono fun v J l h => ⟨_, rfl, rfl, OK (by omega) (fmR_byte _), F9 _, h⟩
 · exact (ct57_6 r hr hv y I hM).mono fun v J l h => ⟨_, rfl, rfl, OK (by omega) (fmR_byte _), F9 _, h⟩
 · exact (ct57_7 r hr hv y I hM).mono fun v J l h => ⟨_, rfl, rfl, OK (by omega) (fun z hz => by cases hz), by simp, h⟩
 · exact (ct57_8 r hr hv y I hM).mono fun v J l h => ⟨_, rfl, rfl, OK (by omega) (forms_bytes _), by have := forms_len [r.key.1, r.key.2.1, r.key.2.2]; simp only [List.length_cons, List.length_nil] at this; simp only; omega, h⟩
 · have := B (F := numF) (l := r.counts) (b := 9) (fun x _ => forms_bytes _) (fun x _ => numF_len x) (by omega)
   exact (ct57_9 r hr hv y I hM).mono fun v J l h => ⟨_, rfl, rfl, OK (by omega) this.1, this.2, h⟩
 · have := B (F := celF) (l := r.cells) (b := 9) (fun x hx => celF_bytes (hr.cells x hx)) (fun x hx => celF_len (hr.cells x hx)) (by omega)
   exact (ct57_10 r hr hv y I hM).mono fun v J l h => ⟨_, rfl, rfl, OK (by omega) this.1, this.2, h⟩
 · have := B (F := evF) (l := r.events) (b := 45) (fun x hx => byteL_app (byteL_app (forms_bytes _) (forms_bytes _)) (celF_bytes (hr.events x hx).2.2)) (fun x hx => evF_len (hr.events x hx).2.2) (by omega)
   exact (ct57_11 r hr hv y I hM).mono fun v J l h => ⟨_, rfl, rfl, OK (by omega) this.1, this.2, h⟩
 · have := B (F := ptF) (l := r.ports) (b := 59) (fun x hx => byteL_app (forms_bytes _) (hr.ports x hx).2.1) (fun x hx => Nat.le_trans (ptF_len x) (by have := hnm x hx; omega)) (by omega)
   exact (ct57_12 r hr hv y I hM).mono fun v J l h => ⟨_, rfl, rfl, OK (by omega) this.1, this.2, h⟩
 · have := B (F := hdF) (l := r.handles) (b := 45) (fun x _ => forms_bytes _) (fun x hx => hdF_len x) (by omega)
   exact (ct57_13 r hr hv y I hM).mono fun v J l h => ⟨_, rfl, rfl, OK (by omega) this.1, this.2, h⟩
theorem ct21 (r : Rs) (hr : okRf r) (hs : smallF r) (y : Ys) (I : Mem) (hM : RfM I r y) :
 Ct Tryz.prog (fnv 21) #[.agg (rfV r y).toArray] I (fun v I' => ∃ a n c, v = .tuple #[.slice a n c, .int .i64 (if rightR r then 0 else 350)] /\ SlM I' a n 1 (ints .u8 (if rightR r then writeS r else [])) /\ n <= c /\ c <= maxLen) := by
 have C1 := ct56 r hr hs y I hM;have C2 := fun (hv : vokR r = true) (J : Mem) (hJ : I.le J) => ct57 r hr hv y J (hM.mono hJ);obtain ⟨⟨ac, nc, cc, hyc, hc, hcc, hcm⟩, ⟨al, nl, cl, hyl, hl, hlc, hlm⟩, ⟨ae, ne, ce, hye, he, hec, hem⟩, ⟨ap, np, cp, hyp, hp, hpc, hpm⟩, ⟨ah, nh, ch, hyh, hh, hhc, hhm⟩⟩ := hM;obtain ⟨yc, yl, ye, yp, yh⟩ := y
 simp only at hyc hyl hye hyp hyh
 subst hyc hyl hye hyp hyh
 obtain ⟨Q, hQ⟩ : ∃ f : Value -> Mem -> Prop, f = fun v I' => ∃ a n c, v = .tuple #[.slice a n c, .int .i64 (if rightR r then 0 else 350)] /\ SlM I' a n 1 (ints .u8 (if rightR r then writeS r else [])) /\ n <= c /\ c <= maxLen := ⟨_, rfl⟩
 rw [<- hQ];obtain ⟨WI, hWI⟩ : ∃ f : Mem -> Int -> List Value -> Prop, f = fun J (j : Int) xs => 1 <= j /\ j <= 14 /\ FR J xs (flR r (j - 1).toNat) /\ (∀ f ∈ flR r (j - 1).toNat, f.2.length <= 20000) /\ vokR r = true := ⟨_, rfl⟩
 refine viaR (ct_via (A := { loops := [(5, ⟨[(1, .keep), (4, .row 1), (5, .sh (.int .i64))], [(0, .keep), (1, .row)], [(4, 2, 65)], fun vals xss J _ => match vals, xss with | [.int .i64 j], [xs] => WI J j xs | _, _ => False, fun vals _ => match vals with | [.int .i64 j] => (14 - j).toNat | _ => 0⟩)] }) Tryz.func21 rfl Tryz.call21 rfl rfl) (let E1 := Ent.mk (.cells [.v (.int .i64 r.num), .v (.int .i64 r.code), .v (.int .i64 r.ser), .v (.int .i64 r.port), .v (.int .i64 r.time), .v (.int .i64 r.kind), .v (.bool r.more), .v (.int .i64 r.key.1), .v (.int .i64 r.key.2.1), .v (.int .i64 r.key.2.2), .v (.slice ac nc cc), .v (.slice al nl cl), .v (.slice ae ne ce), .v (.slice ap np cp), .v (.slice ah nh ch)] 41) none
  Ct Tryz.prog (fnv 56) #[.agg #[.int .i64 r.num, .int .i64 r.code, .int .i64 r.ser, .int .i64 r.port, .int .i64 r.time, .int .i64 r.kind, .bool r.more, .int .i64 r.key.1, .int .i64 r.key.2.1, .int .i64 r.key.2.2, .slice ac nc cc, .slice al nl cl, .slice ae ne ce, .slice ap np cp, .slice ah nh ch]] I fun v a => ∃ b, v = .bool b /\ Br (!b) (Q (.tuple #[.slice none 0 0, .int .i64 350]) a) ((Rf E1 /\ Rf (SV.ptr 0 0) /\ (0 : Nat) = 0 /\ WI a 1 []) /\ ∀ (c : Mem), Mem -> a.le c -> ∀ (x : List Value) (n : Int), WI c n x -> Br (decide (n < 14)) (Ct Tryz.prog (fnv 57) #[.agg #[.int .i64 r.num, .int .i64 r.code, .int .i64 r.ser, .int .i64 r.port, .int .i64 r.time, .int .i64 r.kind, .bool r.more, .int .i64 r.key.1, .int .i64 r.key.2.1, .int .i64 r.key.2.2, .slice ac nc cc, .slice al nl cl, .slice ae ne ce, .slice ap np cp, .slice ah nh ch], .int .i64 n] c (fun d e => ∃ f g h i, d = .tuple #[.slice f g h, .bool i] /\ Br i (x.length = x.length / 2 * 2 /\ x.length / 2 + 1 <= 9223372036854775807 /\ (x.length / 2 + 1) * 32 <= 140737488355328 /\ Wr .i64 (n + 1) fun j => Rf E1 /\ Rf (SV.ptr 0 0) /\ x.length / 2 + 1 = List.length (x ++ [.int .i64 n, .slice f g h]) / 2 /\ WI e j (x ++ [.int .i64 n, .slice f g h]) /\ Int.toNat (14 - j) < Int.toNat (14 - n)) (Wr .i64 (n + 1) (fun j => Rf E1 /\ Rf (SV.ptr 0 0) /\ Rf (x.length / 2) /\ WI e j x /\ Int.toNat (14 - j) < Int.toNat (14 - n))))) (∀ (d : Option Addr) (e : Nat) (f : Mem), c.le f -> RowM f d e 2 x -> Ct Tryz.prog (fnv 58) #[.slice d (x.length / 2) e] f fun g h => ∃ i j k l, g = .tuple #[.slice i j k, .int .i64 l] /\ Br (l != 0) (Q (.tuple #[.slice none 0 0, .int .i64 350]) h) (Br (decide (16320 < (j : Int))) (Q (.tuple #[.slice none 0 0, .int .i64 350]) h) (∃ y, y.length = j * 1 /\ (i = none -> j = 0) /\ (∀ (m : Nat) (o : Value), y[m]? = some o -> atI h i m = some o) /\ (∀ (m : Value), Membership.mem y m -> m.oneCell' = true) /\ (1 : Nat) = 1 /\ 1 + j <= 9223372036854775807 /\ (1 + j) * 1 <= 140737488355328 /\ ∀ (m : Option Addr) (o : Nat) (p : Mem), h.le p -> RowM p m o 1 (.int .u8 1 :: y) -> Q (.tuple #[.slice m (1 + j) o, .int .i64 0]) p))))) (by kernel_rfl) ?_
 intro E1;simp only [Rf, eq_self, true_and]
 have bad : vokR r = true -> (rightF (fieldsS r) = true -> (writeF (fieldsS r)).length <= 16320 -> False) -> rightR r = false := fun hv h => by
  rw [rightR, hv, Bool.true_and]
  cases h1 : rightF (fieldsS r) with
  | false => rfl
  | true => rw [Bool.true_and, decide_eq_false (fun h2 => h h1 h2)]
 have no : ∀ J, rightR r = false -> Q (.tuple #[.slice none 0 0, .int .i64 350]) J := fun J h => by
  rw [hQ, h];exact ⟨none, 0, 0, rfl, sl_nil _ _, Nat.le_refl _, Nat.zero_le _⟩
 refine C1.mono fun v J0 l0 hv => ⟨_, hv, Br.mk (fun h => no _ ?_) (fun h => ?_)⟩
 · have h : vokR r = false := by simpa using h
   rw [rightR, h]; rfl
 have hv : vokR r = true := by simpa using h
 refine ⟨by rw [hWI]; exact ⟨by omega, by omega, trivial, (fun f hf => by cases hf), hv⟩, fun J _ lJ xs j hj => ?_⟩
 rw [hWI] at hj;obtain ⟨j1, j2, hfr, hfl, _⟩ := hj;have hlen := hfr.len
 have hll : (flR r (j - 1).toNat).length <= 13 := Nat.le_trans (List.length_filter_le _ _) (by rw [List.length_take, allF_len]; omega)
 refine Br.mk (fun hlt => ?_) (fun hge => ?_)
 · have hlt := of_decide_eq_true hlt
   refine (C2 hv J (Mem.le_trans l0 lJ) j ⟨j1, by omega⟩).mono fun v J1 l1 ⟨f, hf, hf1, hfo, hf2, a, n, c, hv', hs1, hs2, hs3⟩ => ⟨_, _, _, _, hv', ?_⟩
   have hfl2 : flR r (j + 1 - 1).toNat = flR r (j - 1).toNat ++ (if hasF r j then [f] else []) := by
    rw [flR, flR, show (j + 1 - 1).toNat = (j - 1).toNat + 1 by omega, List.take_add_one, hf, List.filter_append]
    congr 1
    show [f].filter _ = _
    rw [List.filter_cons, hf1]
    cases hasF r j <;> rfl
   refine Br.mk (fun h => ?_) (fun h => ?_)
   · refine ⟨by omega, by omega, by omega, wr_i64 (by omega) (by omega) ⟨by rw [List.length_append]; simp only [List.length_cons, List.length_nil]; omega, ?_, by omega⟩⟩
     rw [hWI];rw [h, if_pos rfl] at hfl2
     refine ⟨by omega, by omega, ?_, ?_, hv⟩
     · rw [hfl2]
       exact (hfr.mono l1).snoc ⟨hfo, by rw [hf1], ⟨a, n, c, rfl, hs1, hs2, hs3⟩⟩
     · rw [hfl2]
       intro g hg
       rcases List.mem_append.1 hg with hg | hg
       · exact hfl g hg
       · rw [List.mem_singleton.1 hg]; exact hf2
   · refine wr_i64 (by omega) (by omega) ⟨?_, by omega⟩
     rw [hWI]
     rw [h, if_neg (by decide), List.append_nil] at hfl2
     exact ⟨by omega, by omega, by rw [hfl2]; exact hfr.mono l1, by rw [hfl2]; exact hfl, hv⟩
 have hge := of_decide_eq_false hge
 have hall : flR r (j - 1).toNat = fieldsS r := by
  rw [flR, fields_eq, List.take_of_length_le (by rw [allF_len]; omega)]
 rw [hall] at hfr hfl hlen;intro d e J1 l1 hrow
 have hl2 : xs.length / 2 = (fieldsS r).length := by omega
 rw [hl2];have hM1 := fldM_row hrow (hfr.mono l1)
 refine (ct58 (fieldsS r) (fun f hf => Nat.le_trans (hfl f hf) (by omega)) d _ e J1 hM1 (by rw [<- hall]; omega)).mono fun v J2 l2 ⟨a, n, c, hv', h1, h2, h3⟩ => ⟨_, _, _, _, hv', Br.mk (fun h => no _ (bad hv fun h4 _ => ?_)) (fun h => ?_)⟩
 · rw [h4] at h; cases h
 have h4 : rightF (fieldsS r) = true := by
  cases h4 : rightF (fieldsS r) with
  | true => rfl
  | false => rw [h4] at h; cases h
 rw [h4, if_pos rfl] at h1;have hn := h1.numLen;refine Br.mk (fun h5 => no _ (bad hv fun _ h6 => ?_)) (fun h5 => ?_)
 · have h5 := of_decide_eq_true h5
   omega
 have h5 := of_decide_eq_false h5
 refine ⟨_, h1.len, h1.nil, h1.at_, one_ints, by omega, by omega, fun m o J3 l3 hr3 => ?_⟩
 have e1 : (Value.int .u8 1 :: ints .u8 (writeF (fieldsS r))) = ints .u8 (writeS r) := rfl;rw [e1] at hr3
 have hR : rightR r = true := by rw [rightR, hv, h4, decide_eq_true (by omega)]; rfl
 rw [hQ, hR]
 obtain ⟨a2, n2, c2, e2, g1, g2, g3⟩ := row_lst (n := 1 + n) hr3 (by omega) (by rw [i5, writeS, List.length_cons]; omega)
 cases e2;exact ⟨_, _, _, rfl, g1, g2, g3⟩
set_option maxHeartbeats 1000000
theorem rd_hit {bs : List Int} {d x : Int} {rest : List Int} (h0 : 0 <= d) (hx : u64R x) (e : bs.drop d.toNat = formN x.toNat ++ rest) : readN bs d = (x, ((formN x.toNat).length : Int), 0) /\ bs.drop (d + (formN x.toNat).length).toNat = rest /\ d + (formN x.toNat).length <= bs.length := by
 have hfl := (formN_le x.toNat (by have := hx.2; omega)).2
 have hl := congrArg List.length e;rw [List.length_drop, List.length_append] at hl
 have hb : bs = bs.take d.toNat ++ (formN x.toNat ++ rest) := by rw [<- e, List.take_append_drop]
 have hl2 : (bs.take d.toNat).length = d.toNat := by rw [List.length_take]; omega
 have hr := readN_form (bs.take d.toNat) rest x.toNat (by have := hx.2; omega)
 rw [<- hb, hl2, Int.toNat_of_nonneg h0, Int.toNat_of_nonneg hx.1] at hr
 refine ⟨hr, ?_, by omega⟩
 have : bs.drop (d.toNat + (formN x.toNat).length) = rest := by
  rw [<- List.drop_drop, e, List.drop_left'];rfl
 rw [<- this]
 congr 1
 omega
def ptG (x : PtT) : Prop := (0 <= x.1 /\ i64R x.1) /\ byteL x.2.1 /\ 0 <= x.2.2 /\ i64R x.2.2
def PrtI (bs : List Int) (d : Int) (ys : List Value) : Prop := 0 <= d /\ d <= bs.length /\ ∃ P : List PtT, ys = P.flatMap cP /\ (P.length : Int) <= d /\ (∀ x ∈ P, (i64R x.1 /\ byteL x.2.1 /\ i64R x.2.2) /\ x.2.1.length <= bs.length) /\ ∀ L : List PtT, (∀ x ∈ L, ptG x) -> bs = L.flatMap ptF -> ∃ R, L = P ++ R /\ bs.drop d.toNat = R.flatMap ptF
def PrtP (bs : List Int) (I' : Mem) (v : Value) : Prop := ∃ sl ok P, v = .tuple #[sl, .bool ok] /\ LstM 3 I' sl (P.flatMap cP) /\ P.length <= bs.length /\ (∀ x ∈ P, (i64R x.1 /\ byteL x.2.1 /\ i64R x.2.2) /\ x.2.1.length <= bs.length) /\ ∀ L : List PtT, (∀ x ∈ L, ptG x) -> bs = L.flatMap ptF -> ok = true /\ P = L
theorem ct52 (bs : List Int) (hbs : byteL bs) (a : Option Addr) (n c : Nat) (I : Mem) (h : SlM I a n 1 (ints .u8 bs)) (hn : n <= 1000000) (hc : n <= c) (hm : c <= maxLen) :
 Ct Tryz.prog (fnv 52) #[.slice a n c] I (fun v I' => PrtP bs I' v) := by
 obtain ⟨Q, hQ⟩ : ∃ f : Value -> Mem -> Prop, f = fun v I' => PrtP bs I' v := ⟨_, rfl⟩
 show Ct Tryz.prog (fnv 52) #[_] I (fun v I' => (fun v I' => PrtP bs I' v) v I')
 rw [<- hQ];obtain ⟨WI, hWI⟩ : ∃ f, f = PrtI bs := ⟨_, rfl⟩
 refine viaR (ct_via (A := { unr := [(5, 4)], loops := [(3, ⟨[(0, .keep), (4, .row 0), (5, .sh (.int .i64))], [(0, .row)], [(4, 3, 71)], fun vals xss _ _ => match vals, xss with | [.int .i64 j], [xs] => WI j xs | _, _ => False, fun vals _ => match vals with | [.int .i64 j] => (n - j).toNat | _ => 0⟩)] }) Tryz.func52 rfl Tryz.call52 rfl rfl) ((Rf (SV.v (.slice a n c)) /\ (0 : Nat) = 0 /\ WI 0 []) /\ ∀ (b : Mem), Mem -> I.le b -> ∀ (x : List Value) (d : Int), WI d x -> Br (decide (d < (n : Int))) (Ct Tryz.prog (fnv 49) #[.slice a n c, .int .i64 d] b (fun (v : Value) (e : Mem) => ∃ (f g i : Int), v = .tuple #[.int .u64 f, .int .i64 g, .int .i64 i] /\ Br (i != 0) (Q (.tuple #[.slice none 0 0, .bool false]) e) ((1 : Nat) <= 9223372036854775807 /\ (8 : Nat) <= 140737488355328 /\ Wr .i64 (d + g) fun (j : Int) => Ct Tryz.prog (fnv 49) #[.slice a n c, .int .i64 j] e fun (k : Value) (l : Mem) => ∃ (m o p : Int), k = .tuple #[.int .u64 m, .int .i64 o, .int .i64 p] /\ Br (p != 0) (Q (.tuple #[.slice none 0 0, .bool false]) l) ((1 : Nat) = 1 /\ (2 : Nat) <= 9223372036854775807 /\ (16 : Nat) <= 140737488355328 /\ Wr .i64 (j + o) fun (q : Int) => Ct Tryz.prog (fnv 49) #[.slice a n c, .int .i64 q] l fun (r : Value) (s : Mem) => ∃ (t u w : Int), r = .tuple #[.int .u64 t, .int .i64 u, .int .i64 w] /\ Br (w != 0) (Q (.tuple #[.slice none 0 0, .bool false]) s) ((2 : Nat) = 2 /\ (3 : Nat) <= 9223372036854775807 /\ (24 : Nat) <= 140737488355328 /\ Wr .i64 (q + u) fun (y : Int) => (0 : Int) <= 2 /\ (2 : Int) < 3 /\ (3 : Nat) <= 3 /\ ∃ (z : Int), some (Value.int .u64 t) = some (.int .u64 z) /\ Wr .i64 ((n : Int) - y) fun (c1 : Int) => Wr .u64 c1 fun (c2 : Int) => Br (decide (c2 < z)) (Q (.tuple #[.slice none 0 0, .bool false]) s) (∀ (a1 : Option Addr) (c3 : Nat) (I1 : Mem), s.le I1 -> RowM I1 a1 c3 1 [.int .u64 f, .int .u64 m, .int .u64 t] -> Ct Tryz.prog (fnv 55) #[.slice a1 3 c3] I1 fun (v1 : Value) (I2 : Mem) => ∃ (a2 : Option Addr) (n1 c4 : Nat) (b1 : Bool), v1 = .tuple #[.slice a2 n1 c4, .bool b1] /\ Br (!b1) (Q (.tuple #[.slice none 0 0, .bool false]) I2) ((0 : Int) <= 0 /\ 0 < (n1 : Int) /\ a2.isSome = true /\ ∃ (n2 : Int), atI I2 a2 0 = some (.int .i64 n2) /\ (0 : Int) <= 2 /\ 2 < (n1 : Int) /\ a2.isSome = true /\ ∃ (n3 : Int), atI I2 a2 2 = some (.int .i64 n3) /\ Wr .i64 (y + n3) fun (c5 : Int) => 0 <= y /\ y <= c5 /\ c5 <= (c : Int) /\ ∃ (q1 : List UInt8), q1.length = c5.toNat - y.toNat /\ (sladdr a c y.toNat 1 = none -> c5.toNat - y.toNat = 0) /\ (∀ (j1 : Nat) (b2 : UInt8), q1[j1]? = some b2 -> atI I2 (sladdr a c y.toNat 1) j1 = some (.int .u8 (b2.toNat : Int))) /\ (0 : Int) <= 1 /\ 1 < (n1 : Int) /\ a2.isSome = true /\ ∃ (n4 : Int), atI I2 a2 1 = some (.int .i64 n4) /\ x.length = x.length / 3 * 3 /\ x.length / 3 + 1 <= 9223372036854775807 /\ (x.length / 3 + 1) * 32 <= 140737488355328 /\ (0 : Int) <= 2 /\ 2 < (n1 : Int) /\ a2.isSome = true /\ ∃ (n5 : Int), atI I2 a2 2 = some (.int .i64 n5) /\ Wr .i64 (y + n5) fun (c6 : Int) => Rf (SV.v (.slice a n c)) /\ x.length / 3 + 1 = List.length (x ++ [.int .i64 n2, .string ⟨q1.toArray⟩, .int .i64 n4]) / 3 /\ WI c6 (x ++ [.int .i64 n2, .string ⟨q1.toArray⟩, .int .i64 n4]) /\ Int.toNat ((n : Int) - c6) < Int.toNat ((n : Int) - d)))))))) (∀ (e : Option Addr) (f : Nat) (g : Mem), b.le g -> RowM g e f 3 x -> Q (.tuple #[.slice e (x.length / 3) f, .bool true]) g)) (by kernel_rfl) ?_
 simp only [Rf, eq_self, true_and];have hnl := h.numLen
 have wg : ∀ {x : Int}, 0 <= x -> i64R x -> fmR x = formN x.toNat /\ u64R x := fun {x} h0 h1 => by
  have hw : IntKind.u64.wrap x = x := by rw [IntKind.wrap_u64]; unfold i64R at h1; omega
  exact ⟨by rw [fmR, hw], h0, by have := h1.2; omega⟩
 have no : ∀ J, (∀ L : List PtT, (∀ x ∈ L, ptG x) -> bs = L.flatMap ptF -> False) -> Q (.tuple #[.slice none 0 0, .bool false]) J := fun J h => by
  rw [hQ]
  exact ⟨_, false, [], rfl, lstM_nil, Nat.zero_le _, (fun x hx => by cases hx), fun L h1 h2 => (h L h1 h2).elim⟩
 refine ⟨by rw [hWI]; exact ⟨by omega, by omega, [], rfl, by simp, (fun x hx => by cases hx), fun L _ e => ⟨L, rfl, by simpa using e⟩⟩, fun J _ lJ xs d hd => ?_⟩
 rw [hWI] at hd;obtain ⟨d0, d1, P, hP, hPl, hPok, hPL⟩ := hd
 have hxl : xs.length = P.length * 3 := by rw [hP, cP_lenT]
 refine Br.mk (fun hlt => ?_) (fun hge => ?_)
 · have hlt := of_decide_eq_true hlt
   have K0 : ∀ L : List PtT, (∀ x ∈ L, ptG x) -> bs = L.flatMap ptF -> ∃ x R', L = P ++ x :: R' /\ ptG x /\ bs.drop d.toNat = formN x.1.toNat ++ (formN x.2.2.toNat ++ (formN x.2.1.length ++ (x.2.1 ++ R'.flatMap ptF))) := fun L hL e => by
    obtain ⟨R, rfl, hR⟩ := hPL L hL e
    cases R with
    | nil =>
      have := congrArg List.length hR;rw [List.length_drop] at this;simp at this;omega
    | cons x R' =>
      have hx := hL x (by simp)
      refine ⟨x, R', rfl, hx, ?_⟩;rw [hR, List.flatMap_cons, <- ptF_eq, (wg hx.1.1 hx.1.2).1, (wg hx.2.2.1 hx.2.2.2).1]
      have : fmR (x.2.1.length : Int) = formN x.2.1.length := by
       have := congrArg List.length hR;rw [List.length_drop, List.flatMap_cons, List.length_append, <- ptF_eq] at this;simp only [List.length_append] at this
       exact (wg (by omega) (by unfold i64R; omega)).1
      rw [this];simp only [List.append_assoc]
   refine (ct49 bs hbs a n c d (by omega) J (h.mono lJ) (by omega) hc).mono fun v J1 l1 hv => ⟨_, _, _, hv, Br.mk (fun hi => no _ fun L hL e => ?_) (fun hi => ?_)⟩
   · obtain ⟨x, R', _, hx, hd⟩ := K0 L hL e
     rw [(rd_hit d0 (wg hx.1.1 hx.1.2).2 hd).1] at hi;cases hi
   have hi : (readN bs d).2.2 = 0 := by simpa using hi
   obtain ⟨g1, g2, g3, g4, g5, g6, g7⟩ := readN_back hbs (x := (readN bs d).1) (n := (readN bs d).2.1) (at_ := d) (Prod.ext rfl (Prod.ext rfl hi));have gl := (formN_le _ g4).2
   refine ⟨by decide, by decide, wr_i64 (by omega) (by omega) ?_⟩
   obtain ⟨e1, he1⟩ : ∃ e1, e1 = d + (readN bs d).2.1 := ⟨_, rfl⟩;obtain ⟨f, hf⟩ : ∃ f, f = (readN bs d).1 := ⟨_, rfl⟩
   have K1 : ∀ L : List PtT, (∀ x ∈ L, ptG x) -> bs = L.flatMap ptF -> ∃ x R', L = P ++ x :: R' /\ ptG x /\ f = x.1 /\ bs.drop e1.toNat = formN x.2.2.toNat ++ (formN x.2.1.length ++ (x.2.1 ++ R'.flatMap ptF)) := fun L hL e => by
    obtain ⟨x, R', h1, hx, hd⟩ := K0 L hL e;obtain ⟨r1, r2, r3⟩ := rd_hit d0 (wg hx.1.1 hx.1.2).2 hd
    exact ⟨x, R', h1, hx, by rw [hf, r1], by rw [he1, r1]; exact r2⟩
   rw [<- he1, <- hf];rw [<- hf] at g3 g4
   refine (ct49 bs hbs a n c e1 (by omega) J1 (h.mono (Mem.le_trans lJ l1)) (by omega) hc).mono fun v J2 l2 hv => ⟨_, _, _, hv, Br.mk (fun hi => no _ fun L hL e => ?_) (fun hi => ?_)⟩
   · obtain ⟨x, R', _, hx, _, hd⟩ := K1 L hL e
     rw [(rd_hit (by omega) (wg hx.2.2.1 hx.2.2.2).2 hd).1] at hi
     cases hi
   have hi2 : (readN bs e1).2.2 = 0 := by simpa using hi
   obtain ⟨p1, p2, p3, p4, p5, p6, p7⟩ := readN_back hbs (x := (readN bs e1).1) (n := (readN bs e1).2.1) (at_ := e1) (Prod.ext rfl (Prod.ext rfl hi2));have pl := (formN_le _ p4).2
   refine ⟨by decide, by decide, wr_i64 (by omega) (by omega) ?_⟩
   obtain ⟨e2, he2⟩ : ∃ e2, e2 = e1 + (readN bs e1).2.1 := ⟨_, rfl⟩;obtain ⟨m, hm'⟩ : ∃ f, f = (readN bs e1).1 := ⟨_, rfl⟩
   have K2 : ∀ L : List PtT, (∀ x ∈ L, ptG x) -> bs = L.flatMap ptF -> ∃ x R', L = P ++ x :: R' /\ ptG x /\ f = x.1 /\ m = x.2.2 /\ bs.drop e2.toNat = formN x.2.1.length ++ (x.2.1 ++ R'.flatMap ptF) := fun L hL e => by
    obtain ⟨x, R', h1, hx, hfx, hd⟩ := K1 L hL e
    obtain ⟨r1, r2, r3⟩ := rd_hit (by omega) (wg hx.2.2.1 hx.2.2.2).2 hd
    exact ⟨x, R', h1, hx, hfx, by rw [hm', r1], by rw [he2, r1]; exact r2⟩
   rw [<- he2, <- hm'];rw [<- hm'] at p3 p4
   refine (ct49 bs hbs a n c e2 (by omega) J2 (h.mono (Mem.le_trans lJ (Mem.le_trans l1 l2))) (by omega) hc).mono fun v J3 l3 hv => ⟨_, _, _, hv, Br.mk (fun hi => no _ fun L hL e => ?_) (fun hi => ?_)⟩
   · obtain ⟨x, R', _, hx, _, _, hd⟩ := K2 L hL e
     have hd' := congrArg List.length hd;rw [List.length_drop] at hd';simp only [List.length_append] at hd'
     have hu : u64R (x.2.1.length : Int) := ⟨by omega, by omega⟩
     rw [(rd_hit (by omega) hu hd).1] at hi
     cases hi
   have hi3 : (readN bs e2).2.2 = 0 := by simpa using hi
   obtain ⟨q1, q2, q3, q4, q5, q6, q7⟩ := readN_back hbs (x := (readN bs e2).1) (n := (readN bs e2).2.1) (at_ := e2) (Prod.ext rfl (Prod.ext rfl hi3));have ql := (formN_le _ q4).2
   refine ⟨by decide, by decide, wr_i64 (by omega) (by omega) ?_⟩
   obtain ⟨e3, he3⟩ : ∃ e3, e3 = e2 + (readN bs e2).2.1 := ⟨_, rfl⟩;obtain ⟨t, ht⟩ : ∃ f, f = (readN bs e2).1 := ⟨_, rfl⟩
   have K3 : ∀ L : List PtT, (∀ x ∈ L, ptG x) -> bs = L.flatMap ptF -> ∃ x R', L = P ++ x :: R' /\ ptG x /\ f = x.1 /\ m = x.2.2 /\ t = x.2.1.length /\ bs.drop e3.toNat = x.2.1 ++ R'.flatMap ptF := fun L hL e => by
    obtain ⟨x, R', h1, hx, hfx, hmx, hd⟩ := K2 L hL e;have hd' := congrArg List.length hd;rw [List.length_drop] at hd';simp only [List.length_append] at hd'
    obtain ⟨r1, r2, r3⟩ := rd_hit (x := (x.2.1.length : Int)) (by omega) ⟨by omega, by omega⟩ hd
    exact ⟨x, R', h1, hx, hfx, hmx, by rw [ht, r1], by rw [he3, r1]; exact r2⟩
   rw [<- he3, <- ht];rw [<- ht] at q3 q4
   refine ⟨by decide, by decide, by decide, t, rfl, wr_i64 (by omega) (by omega) ⟨_, IntWalk.u64_in _ ⟨by omega, by omega⟩, Br.mk (fun hi => no _ fun L hL e => ?_) (fun hi => ?_)⟩⟩
   · have hi := of_decide_eq_true hi
     obtain ⟨x, R', _, hx, _, _, htx, hd⟩ := K3 L hL e;have hd' := congrArg List.length hd;rw [List.length_drop, List.length_append] at hd';omega
   have hi := of_decide_eq_false hi;intro a1 c3 J4 l4 hrow
   have hu3 : ∀ x ∈ [f, m, t], u64R x := fun x hx => by
    simp only [List.mem_cons, List.not_mem_nil, or_false] at hx
    rcases hx with rfl | rfl | rfl
    · exact ⟨by omega, by omega⟩
    · exact ⟨by omega, by omega⟩
    · exact ⟨by omega, by omega⟩
   refine (ct55 [f, m, t] hu3 a1 3 c3 J4 (hrow.sl (by omega) rfl) (by omega)).mono fun v J5 l5 ⟨sl, b, hv, ⟨mm, hN, hb1⟩, hb2⟩ => ?_
   have hN' := hN;obtain ⟨a2, n1, c4, rfl, hln, hN2⟩ := hN';refine ⟨a2, n1, c4, b, hv, Br.mk (fun hb => no _ fun L hL e => ?_) (fun hb => ?_)⟩
   · obtain ⟨x, R', _, hx, hfx, hmx, htx, _⟩ := K3 L hL e
     have := hb2 fun z hz => by
      simp only [List.mem_cons, List.not_mem_nil, or_false] at hz;have e1 := hx.1.2.2;have e2 := hx.2.2.2.2
      rcases hz with rfl | rfl | rfl <;> omega
     rw [this] at hb; cases hb
   have hb : b = true := by simpa using hb
   obtain ⟨rfl, hmax⟩ := hb1 hb
   have hn1 : n1 = 3 := by simp [ints] at hln; omega
   subst hn1
   have f1 := hmax f (by simp)
   have f2 := hmax m (by simp)
   have f3 := hmax t (by simp)
   have hsl : SlM J5 a2 3 1 (ints .i64 [f, m, t]) := by
    rcases hN2 with ⟨_, h0, _⟩ | hN2
    · omega
    · exact hN2.row.sl (by omega) rfl
   have hs := hsl.isSome (by omega)
   have at0 := hsl.at_ 0 (.int .i64 f) rfl;have at1 := hsl.at_ 1 (.int .i64 m) rfl;have at2 := hsl.at_ 2 (.int .i64 t) rfl;have l05 := Mem.le_trans lJ (Mem.le_trans l1 (Mem.le_trans l2 (Mem.le_trans l3 (Mem.le_trans l4 l5))))
   have hsub := sl_sub (f := e3.toNat) (t := (e3 + t).toNat) (h.mono l05) (by omega) (by omega) hc
   obtain ⟨u1, u2, u3⟩ := u8s_at (fun z hz => hbs z (List.mem_of_mem_drop (List.mem_of_mem_take hz))) hsub
   refine ⟨by omega, by omega, hs, f, at0, by omega, by omega, hs, t, at2, wr_i64 (by omega) (by omega) ⟨by omega, by omega, by omega, _, u1, u2, u3, by omega, by omega, hs, m, at1, by omega, by omega, by omega, by omega, by omega, hs, t, at2, wr_i64 (by omega) (by omega) ⟨by rw [List.length_append]; simp only [List.length_cons, List.length_nil]; omega, ?_, by omega⟩⟩⟩
   obtain ⟨nm, hnm⟩ : ∃ nm, nm = (bs.drop e3.toNat).take ((e3 + t).toNat - e3.toNat) := ⟨_, rfl⟩;rw [<- hnm]
   have hnml : (nm.length : Int) = t := by rw [hnm, List.length_take, List.length_drop]; omega
   rw [hWI]
   refine ⟨by omega, by omega, P ++ [(f, nm, m)], ?_, by simp; omega, fun x hx => ?_, fun L hL e => ?_⟩
   · rw [hP, List.flatMap_append]; rfl
   · rcases List.mem_append.1 hx with hx | hx
     · exact hPok x hx
     · rw [List.mem_singleton.1 hx]
       exact ⟨⟨⟨by simp only; omega, by simp only; omega⟩, fun z hz => by rw [hnm] at hz; exact hbs z (List.mem_of_mem_drop (List.mem_of_mem_take hz)), ⟨by simp only; omega, by simp only; omega⟩⟩, by simp only; omega⟩
   · obtain ⟨x, R', hLP, hx, hfx, hmx, htx, hd⟩ := K3 L hL e
     have e4 : nm = x.2.1 := by
      rw [hnm, hd, List.take_left'];omega
     refine ⟨R', ?_, ?_⟩
     · rw [hLP, hfx, hmx, e4]; simp
     · have : bs.drop (e3.toNat + x.2.1.length) = R'.flatMap ptF := by
        rw [<- List.drop_drop, hd, List.drop_left'];rfl
       rw [<- this]
       congr 1
       omega
 · have hge := of_decide_eq_false hge
   intro e f K lK hrow;rw [hQ];rw [hP] at hrow
   have hx3 : xs.length / 3 = P.length := by omega
   rw [hx3]
   refine ⟨_, true, P, rfl, row_lst hrow (by omega) (cP_lenT _), by omega, hPok, fun L hL e => ⟨rfl, ?_⟩⟩
   obtain ⟨R, rfl, hR⟩ := hPL L hL e
   cases R with
   | nil => simp
   | cons x R' =>
     have hb := congrArg List.length hR;have hne := ptF_ne x;rw [List.flatMap_cons, List.length_append, List.length_drop] at hb;have := List.length_pos_iff.2 hne;omega
set_option maxHeartbeats 1000000
def NilF (t : Int) (h : Rs) (y : Ys) : Prop := (t <= 10 -> y.l = .slice none 0 0 /\ h.cells = []) /\ (t <= 11 -> y.e = .slice none 0 0 /\ h.events = []) /\ (t <= 13 -> y.h = .slice none 0 0 /\ h.handles = [])
def RdP (h : Rs) (t : Int) (bs : List Int) (I' : Mem) (v : Value) : Prop := ∃ h' y' ok, v = .tuple #[.agg (rfV h' y').toArray, .bool ok] /\ RfM I' h' y' /\ okRf h' /\ smallF h' /\ (ok = true -> NilF (t + 1) h' y') /\ ∀ R, okRs R -> rightS R = true -> (t, bs) ∈ allF R -> ok = true /\ h' = copyT R h t
theorem numsF_app (a b : List Int) : numsF (a ++ b) = numsF a ++ numsF b := by simp [numsF]
theorem fmR_nat {x : Int} (h0 : 0 <= x) (h1 : i64R x) : fmR x = formN x.toNat := by
 have hw : IntKind.u64.wrap x = x := by rw [IntKind.wrap_u64]; unfold i64R at h1; omega
 rw [fmR, hw]
theorem forms_nums : ∀ {l : List Int}, (∀ x ∈ l, 0 <= x /\ i64R x) -> formsL l = numsF l
 | [], _ => rfl
 | x :: l, h => by
   have hx := h x (by simp)
   have := fmR_nat hx.1 hx.2
   rw [forms_cons, nums_cons, forms_nums fun y hy => h y (by simp [hy]), <- this]; rfl
theorem fm_nums {α : Type} {F : α -> List Int} {G : α -> List Int} : ∀ {l : List α}, (∀ x ∈ l, F x = numsF (G x)) -> l.flatMap F = numsF (l.flatMap G)
 | [], _ => rfl
 | x :: l, h => by
   rw [List.flatMap_cons, List.flatMap_cons, numsF_app, h x (by simp), fm_nums fun y hy => h y (by simp [hy])]
theorem u64_of {x : Int} (h0 : 0 <= x) (h1 : i64R x) : u64R x := ⟨h0, by have := h1.2; omega⟩
theorem fn_at {R : Rs} {k : Int} {bs : List Int} (hk : (k, bs) ∈ allF R) : (k = 1 -> bs = fmR R.num) /\ (k = 2 -> bs = fmR R.kind) /\ (k = 3 -> bs = fmR R.code) /\ (k = 4 -> bs = fmR R.ser) /\ (k = 5 -> bs = fmR R.port) /\ (k = 6 -> bs = fmR R.time) /\ (k = 7 -> bs = []) /\ (k = 8 -> bs = formsL [R.key.1, R.key.2.1, R.key.2.2]) /\ (k = 9 -> bs = R.counts.flatMap numF) /\ (k = 10 -> bs = R.cells.flatMap celF) /\ (k = 11 -> bs = R.events.flatMap evF) /\ (k = 12 -> bs = R.ports.flatMap ptF) /\ (k = 13 -> bs = R.handles.flatMap hdF) /\ k <= 13 := by
 simp only [allF, List.mem_cons, List.not_mem_nil, or_false, fN, Prod.mk.injEq] at hk
 rcases hk with ⟨rfl, rfl⟩ | ⟨rfl, rfl⟩ | ⟨rfl, rfl⟩ | ⟨rfl, rfl⟩ | ⟨rfl, rfl⟩ | ⟨rfl, rfl⟩ | ⟨rfl, rfl⟩ | ⟨rfl, rfl⟩ | ⟨rfl, rfl⟩ | ⟨rfl, rfl⟩ | ⟨rfl, rfl⟩ | ⟨rfl, rfl⟩ | ⟨rfl, rfl⟩ <;> simp [fmR]
theorem right_nn {R : Rs} (hR : okRs R) (hr : rightS R = true) : (0 <= R.num /\ 0 <= R.kind /\ 0 <= R.code /\ 0 <= R.ser /\ 0 <= R.port /\ 0 <= R.time /\ 0 <= R.key.1 /\ 0 <= R.key.2.1 /\ 0 <= R.key.2.2) /\ (∀ x ∈ R.counts, 0 <= x) /\ (∀ x ∈ R.events, 0 <= x.1.1 /\ 0 <= x.1.2.1 /\ 0 <= x.1.2.2 /\ 0 <= x.2.1) /\ (∀ x ∈ R.ports, ptG x) /\ ∀ x ∈ R.handles, 0 <= x.1 /\ 0 <= x.2.1 /\ 0 <= x.2.2.1 /\ 0 <= x.2.2.2.1 := by
 have hv := (right_parts hr).1;have hk := hR.kind
 have hV : vokR R = true := by rw [vokR, hv, decide_eq_true hk.1]; rfl
 obtain ⟨⟨h1, _⟩, hn, h3, h4⟩ := (vokR_iff R).1 hV;have nE : ∀ x ∈ R.events, ∀ y ∈ nEv x, 0 <= y := fun x hx y hy => hn y (List.mem_append_left _ (List.mem_append_left _ (List.mem_append_right _ (List.mem_flatMap.2 ⟨x, hx, hy⟩))));have nP : ∀ x ∈ R.ports, ∀ y ∈ nPt x, 0 <= y := fun x hx y hy => hn y (List.mem_append_left _ (List.mem_append_right _ (List.mem_flatMap.2 ⟨x, hx, hy⟩)));have nH : ∀ x ∈ R.handles, ∀ y ∈ nHd x, 0 <= y := fun x hx y hy => hn y (List.mem_append_right _ (List.mem_flatMap.2 ⟨x, hx, hy⟩))
 have B : ∀ y ∈ numsH R, 0 <= y := fun y hy => hn y (by simp [numsR, hy])
 refine ⟨⟨by omega, hk.1, B _ (by simp [numsH]), B _ (by simp [numsH]), B _ (by simp [numsH]), B _ (by simp [numsH]), B _ (by simp [numsH]), B _ (by simp [numsH]), B _ (by simp [numsH])⟩, fun x hx => B x (by simp [numsH, hx]), fun x hx => ⟨nE x hx _ (by simp [nEv]), nE x hx _ (by simp [nEv]), nE x hx _ (by simp [nEv]), nE x hx _ (by simp [nEv])⟩, fun x hx => ?_, fun x hx => ⟨nH x hx _ (by simp [nHd]), nH x hx _ (by simp [nHd]), nH x hx _ (by simp [nHd]), nH x hx _ (by simp [nHd])⟩⟩
 have hp := hR.ports x hx
 exact ⟨⟨nP x hx _ (by simp [nPt]), hp.1⟩, hp.2.1, nP x hx _ (by simp [nPt]), hp.2.2⟩
theorem nilF_up {t : Int} {h h' : Rs} {y y' : Ys} (hN : NilF t h y) (hl : h'.cells = h.cells /\ y'.l = y.l) (he : h'.events = h.events /\ y'.e = y.e) (hh : h'.handles = h.handles /\ y'.h = y.h) : NilF (t + 1) h' y' :=
 ⟨fun ht => ⟨by rw [hl.2]; exact (hN.1 (by omega)).1, by rw [hl.1]; exact (hN.1 (by omega)).2⟩, fun ht => ⟨by rw [he.2]; exact (hN.2.1 (by omega)).1, by rw [he.1]; exact (hN.2.1 (by omega)).2⟩, fun ht => ⟨by rw [hh.2]; exact (hN.2.2 (by omega)).1, by rw [hh.1]; exact (hN.2.2 (by omega)).2⟩⟩
theorem rowN_sl {el : TypeId} {I J : Mem} {a : Option Addr} {n c : Nat} {l : List Int} {k : IntKind} (h : RowN 1 el I J (.slice a n c) (ints k l)) : SlM J a n 1 (ints k l) /\ n = l.length /\ n <= c /\ c <= maxLen := by
 obtain ⟨a', n', c', e, hl, h⟩ := h;cases e;rw [ints_len] at hl
 rcases h with ⟨rfl, rfl, rfl⟩ | h
 · have : l = [] := List.eq_nil_of_length_eq_zero (by omega)
   subst this;exact ⟨sl_nil _ _, rfl, Nat.le_refl _, Nat.zero_le _⟩
 · obtain ⟨a2, n2, c2, e2, h1, h2, h3⟩ := row_lst h.row (by omega) (show (ints k l).length = n * 1 by rw [ints_len]; omega)
   cases e2
   exact ⟨h1, by omega, h2, h3⟩
theorem ints_call {l : List Int} (hl : ∀ x ∈ l, u64R x) {g : Mem} {e : Option Addr} {n f : Nat} (hr : RowM g e f 1 (ints .u64 l)) (hn : n = l.length) (hs : l.length <= 1000000) {post : Value -> Mem -> Prop}
 (h0 : ∀ j k c J, g.le J -> (∃ x ∈ l, 9223372036854775807 < x) -> post (.tuple #[.slice j k c, .bool false]) J)
 (h1 : ∀ j k c J, g.le J -> (∀ x ∈ l, 0 <= x /\ i64R x) -> SlM J j k 1 (ints .i64 l) -> k = l.length -> k <= c -> c <= maxLen -> RowN 1 3 g J (.slice j k c) (ints .i64 l) -> post (.tuple #[.slice j k c, .bool true]) J) :
 Ct Tryz.prog (fnv 55) #[.slice e n f] g post := by
 subst hn
 refine Ct.mono (show Ct Tryz.prog (fnv 55) #[.slice e l.length f] g _ from ct55 l hl e l.length f g (hr.sl (by omega) (by rw [ints_len, Nat.mul_one])) hs) fun v J lJ ⟨sl, b, hv, ⟨mm, hN, hb1⟩, hb2⟩ => ?_
 subst hv;have hN' := hN;obtain ⟨a2, n1, c4, rfl, hln, hN2⟩ := hN'
 cases b with
 | false =>
   refine h0 a2 n1 c4 J lJ ?_;apply Classical.byContradiction;intro hc
   have := hb2 fun x hx => Classical.byContradiction fun h => hc ⟨x, hx, by omega⟩
   cases this
 | true =>
   obtain ⟨rfl, hmax⟩ := hb1 rfl;obtain ⟨g1, g2, g3, g4⟩ := rowN_sl hN
   exact h1 a2 n1 c4 J lJ (fun x hx => ⟨(hl x hx).1, by have := (hl x hx).1; have := hmax x hx; exact ⟨by omega, by omega⟩⟩) g1 g2 g3 g4 hN
theorem ct53L (bs : List Int) (hbs : byteL bs) (a : Option Addr) (n c : Nat) (I : Mem) (h : SlM I a n 1 (ints .u8 bs)) (hn : n <= 1000000) (hc : n <= c) :
 Ct Tryz.prog (fnv 53) (List.toArray [.slice a n c]) I (fun v I' => ∃ xs k w sl, v = .tuple #[sl, w] /\ xs.length = k * 1 /\ RowN 1 85 I I' sl xs /\ (xs.length = k * 1 /\ SplP bs xs k w)) :=
 (ct53 bs hbs a n c I h hn hc).mono fun v J l ⟨xs, k, w, sl, h1, h2, h3, h4⟩ => ⟨xs, k, w, sl, h1, h2, h3, h2, h4⟩
theorem numF_fm (l : List Int) : l.flatMap numF = formsL l := by
 induction l with
 | nil => rfl
 | cons x l ih => rw [List.flatMap_cons, forms_cons, ih, numF, forms_cons, forms_nil, List.append_nil]
theorem ct20_1 (h : Rs) (hh : okRf h) (hs : smallF h) (y : Ys) (I : Mem) (hM : RfM I h y) (bs : List Int) (hbs : byteL bs) (b : Option Addr) (m c : Nat) (hb : SlM I b m 1 (ints .u8 bs)) (hmc : m <= c) (hcm : c <= maxLen) (hm : m <= 20000) (hN : NilF 1 h y) :
 Ct Tryz.prog (fnv 20) #[.agg (rfV h y).toArray, .agg #[.int .i64 1, .slice b m c]] I (fun v I' => RdP h 1 bs I' v) := by
 obtain ⟨Q, hQ⟩ : ∃ f : Value -> Mem -> Prop, f = fun v I' => RdP h 1 bs I' v := ⟨_, rfl⟩
 show Ct Tryz.prog (fnv 20) #[_, _] I (fun v I' => (fun v I' => RdP h 1 bs I' v) v I')
 rw [<- hQ];have hM0 := hM;obtain ⟨⟨ac, nc, cc, hyc, hc, hcc, hcm'⟩, ⟨al, nl, cl, hyl, hl, hlc, hlm⟩, ⟨ae, ne, ce, hye, he, hec, hem⟩, ⟨ap, np, cp, hyp, hp, hpc, hpm⟩, ⟨ah, nh, ch, hyh, hh', hhc, hhm⟩⟩ := hM;obtain ⟨yc, yl, ye, yp, yh⟩ := y
 simp only at hyc hyl hye hyp hyh
 subst hyc hyl hye hyp hyh
 refine viaR (ct_via (A := { calls := [(33, .lend [] (.tup [.row 0, .sh (.int .i64)]) [.row 1 85])] }) Tryz.func20 rfl Tryz.call20 rfl rfl) (CtS Tryz.prog (.v (fnv 53)) [.v (.slice b m c)] [] I fun s H a => ∃ n d x, s = .tup [.rsl 0 n, .v (.int .i64 d)] /\ H = [⟨.row x 1 85, none⟩] /\ Br (d != 0) (Q (.tuple #[.agg #[.int .i64 h.num, .int .i64 h.code, .int .i64 h.ser, .int .i64 h.port, .int .i64 h.time, .int .i64 h.kind, .bool h.more, .int .i64 h.key.1, .int .i64 h.key.2.1, .int .i64 h.key.2.2, .slice ac nc cc, .slice al nl cl, .slice ae ne ce, .slice ap np cp, .slice ah nh ch], .bool false]) a) (∀ (e : Option Addr) (f : Nat) (g : Mem), a.le g -> RowM g e f 1 x -> Ct Tryz.prog (fnv 55) #[.slice e n f] g fun v i => ∃ j k l o, v = .tuple #[.slice j k l, .bool o] /\ Br (!o) (Q (.tuple #[.agg #[.int .i64 h.num, .int .i64 h.code, .int .i64 h.ser, .int .i64 h.port, .int .i64 h.time, .int .i64 h.kind, .bool h.more, .int .i64 h.key.1, .int .i64 h.key.2.1, .int .i64 h.key.2.2, .slice ac nc cc, .slice al nl cl, .slice ae ne ce, .slice ap np cp, .slice ah nh ch], .bool false]) i) (Br ((k : Int) != 1) (Q (.tuple #[.agg #[.int .i64 h.num, .int .i64 h.code, .int .i64 h.ser, .int .i64 h.port, .int .i64 h.time, .int .i64 h.kind, .bool h.more, .int .i64 h.key.1, .int .i64 h.key.2.1, .int .i64 h.key.2.2, .slice ac nc cc, .slice al nl cl, .slice ae ne ce, .slice ap np cp, .slice ah nh ch], .bool false]) i) ((0 : Int) <= 0 /\ 0 < (k : Int) /\ j.isSome = true /\ ∃ p, atI i j 0 = some (.int .i64 p) /\ Q (.tuple #[.agg #[.int .i64 p, .int .i64 h.code, .int .i64 h.ser, .int .i64 h.port, .int .i64 h.time, .int .i64 h.kind, .bool h.more, .int .i64 h.key.1, .int .i64 h.key.2.1, .int .i64 h.key.2.2, .slice ac nc cc, .slice al nl cl, .slice ae ne ce, .slice ap np cp, .slice ah nh ch], .bool true]) i)))) (by kernel_rfl) ?_
 have fail : ∀ J, I.le J -> (∀ R, okRs R -> rightS R = true -> (1, bs) ∈ allF R -> False) -> Q (.tuple #[.agg (rfV h ⟨.slice ac nc cc, .slice al nl cl, .slice ae ne ce, .slice ap np cp, .slice ah nh ch⟩).toArray, .bool false]) J := fun J lJ H => by
  rw [hQ]
  exact ⟨h, _, false, rfl, hM0.mono lJ, hh, hs, (fun h => by cases h), fun R a b c => (H R a b c).elim⟩
 have good : ∀ R, okRs R -> rightS R = true -> (1, bs) ∈ allF R -> ∃ L, L = [R.num] /\ bs = numsF L /\ ∀ x ∈ L, 0 <= x /\ i64R x := fun R hR hr hk => by
  obtain ⟨⟨p1, p2, p3, p4, p5, p6, p7, p8, p9⟩, q1, q2, q3, q4⟩ := right_nn hR hr;obtain ⟨b1, b2, b3, b4, b5, b6, b7, b8, b9, b10, b11, b12, b13, b14⟩ := fn_at hk;have hi : i64R R.num := hR.num
  refine ⟨_, rfl, ?_, fun x hx => by rw [List.mem_singleton.1 hx]; exact ⟨p1, hi⟩⟩
  rw [b1 rfl, fmR_nat p1 hi]; simp [numsF]
 refine (cts_new2 (sz := 1) (el := 85) (by omega) (ct53L bs hbs b m c I hb (by omega) hmc)).mono fun sv H' J0 l0 ⟨xs, n, w, hsv, hH, ⟨hnx, l, e, hxs, hw, hll, hlr, hgd⟩⟩ => ?_
 subst hxs hw;have hml := hb.numLen
 have G : ∀ R, okRs R -> rightS R = true -> (1, bs) ∈ allF R -> e = 0 /\ l = [R.num] /\ ∀ x ∈ l, 0 <= x /\ i64R x := fun R hR hr hk => by
  obtain ⟨L, hL, hb, hp⟩ := good R hR hr hk;obtain ⟨h1, h2⟩ := hgd L (fun x hx => u64_of (hp x hx).1 (hp x hx).2) hb
  exact ⟨h1, by rw [h2, hL], by rw [h2]; exact hp⟩
 refine ⟨n, e, _, hsv, hH, Br.mk (fun he => fail _ l0 fun R hR hr hk => ?_) (fun he => ?_)⟩
 · rw [(G R hR hr hk).1] at he; cases he
 intro e1 f1 J1 l1 hrow
 have hnl : n = l.length := by rw [ints_len] at hnx; omega
 refine ints_call hlr hrow hnl (by omega) (fun j k c J l2 hx => ⟨_, _, _, _, rfl, Br.t rfl (fail _ (Mem.le_trans l0 (Mem.le_trans l1 l2)) fun R hR hr hk => ?_)⟩) (fun j k c J l2 hpos hsl hk hkc hcm2 hN2 => ⟨_, _, _, _, rfl, Br.f rfl ?_⟩)
 · obtain ⟨x, hx, hx2⟩ := hx
   have := ((G R hR hr hk).2.2 x hx).2.2;omega
 have l02 := Mem.le_trans l0 (Mem.le_trans l1 l2);refine Br.mk (fun h1 => fail _ l02 fun R hR hr hk' => ?_) (fun h1 => ?_)
 · have := (G R hR hr hk').2.1
   rw [hk, this] at h1; cases h1
 have h1 : (k : Int) = 1 := by simpa using h1
 obtain ⟨z, rfl⟩ : ∃ z, l = [z] := by
  match l, hk with
  | [z], _ => exact ⟨z, rfl⟩
  | [], hk => simp at hk; omega
  | _ :: _ :: _, hk => simp at hk; omega
 have hz := hpos z (by simp)
 refine ⟨by omega, by omega, hsl.isSome (by omega), z, hsl.at_ 0 _ rfl, ?_⟩
 rw [hQ]
 refine ⟨{ h with num := z }, ⟨.slice ac nc cc, .slice al nl cl, .slice ae ne ce, .slice ap np cp, .slice ah nh ch⟩, true, rfl, ⟨(hM0.mono l02).c, (hM0.mono l02).l, (hM0.mono l02).e, (hM0.mono l02).p, (hM0.mono l02).h⟩, { hh with num := hz.2 }, { hs with }, fun _ => nilF_up hN ⟨rfl, rfl⟩ ⟨rfl, rfl⟩ ⟨rfl, rfl⟩, fun R hR hr hk' => ⟨rfl, ?_⟩⟩
 have := (G R hR hr hk').2.1;simp only [List.cons.injEq, and_true] at this
 rw [this]; rfl
theorem ct20_2 (h : Rs) (hh : okRf h) (hs : smallF h) (y : Ys) (I : Mem) (hM : RfM I h y) (bs : List Int) (hbs : byteL bs) (b : Option Addr) (m c : Nat) (hb : SlM I b m 1 (ints .u8 bs)) (hmc : m <= c) (hcm : c <= maxLen) (hm : m <= 20000) (hN : NilF 2 h y) :
 Ct Tryz.prog (fnv 20) #[.agg (rfV h y).toArray, .agg #[.int .i64 2, .slice b m c]] I (fun v I' => RdP h 2 bs I' v) := by
 obtain ⟨Q, hQ⟩ : ∃ f : Value -> Mem -> Prop, f = fun v I' => RdP h 2 bs I' v := ⟨_, rfl⟩
 show Ct Tryz.prog (fnv 20) #[_, _] I (fun v I' => (fun v I' => RdP h 2 bs I' v) v I')
 rw [<- hQ];have hM0 := hM;obtain ⟨⟨ac, nc, cc, hyc, hc, hcc, hcm'⟩, ⟨al, nl, cl, hyl, hl, hlc, hlm⟩, ⟨ae, ne, ce, hye, he, hec, hem⟩, ⟨ap, np, cp, hyp, hp, hpc, hpm⟩, ⟨ah, nh, ch, hyh, hh', hhc, hhm⟩⟩ := hM;obtain ⟨yc, yl, ye, yp, yh⟩ := y
 simp only at hyc hyl hye hyp hyh
 subst hyc hyl hye hyp hyh
 refine viaR (ct_via (A := { calls := [(33, .lend [] (.tup [.row 0, .sh (.int .i64)]) [.row 1 85])] }) Tryz.func20 rfl Tryz.call20 rfl rfl) (CtS Tryz.prog (.v (fnv 53)) [.v (.slice b m c)] [] I fun s H a => ∃ n d x, s = .tup [.rsl 0 n, .v (.int .i64 d)] /\ H = [⟨.row x 1 85, none⟩] /\ Br (d != 0) (Q (.tuple #[.agg #[.int .i64 h.num, .int .i64 h.code, .int .i64 h.ser, .int .i64 h.port, .int .i64 h.time, .int .i64 h.kind, .bool h.more, .int .i64 h.key.1, .int .i64 h.key.2.1, .int .i64 h.key.2.2, .slice ac nc cc, .slice al nl cl, .slice ae ne ce, .slice ap np cp, .slice ah nh ch], .bool false]) a) (∀ (e : Option Addr) (f : Nat) (g : Mem), a.le g -> RowM g e f 1 x -> Ct Tryz.prog (fnv 55) #[.slice e n f] g fun v i => ∃ j k l o, v = .tuple #[.slice j k l, .bool o] /\ Br (!o) (Q (.tuple #[.agg #[.int .i64 h.num, .int .i64 h.code, .int .i64 h.ser, .int .i64 h.port, .int .i64 h.time, .int .i64 h.kind, .bool h.more, .int .i64 h.key.1, .int .i64 h.key.2.1, .int .i64 h.key.2.2, .slice ac nc cc, .slice al nl cl, .slice ae ne ce, .slice ap np cp, .slice ah nh ch], .bool false]) i) (Br ((k : Int) != 1) (Q (.tuple #[.agg #[.int .i64 h.num, .int .i64 h.code, .int .i64 h.ser, .int .i64 h.port, .int .i64 h.time, .int .i64 h.kind, .bool h.more, .int .i64 h.key.1, .int .i64 h.key.2.1, .int .i64 h.key.2.2, .slice ac nc cc, .slice al nl cl, .slice ae ne ce, .slice ap np cp, .slice ah nh ch], .bool false]) i) ((0 : Int) <= 0 /\ 0 < (k : Int) /\ j.isSome = true /\ ∃ p, atI i j 0 = some (.int .i64 p) /\ Q (.tuple #[.agg #[.int .i64 h.num, .int .i64 h.code, .int .i64 h.ser, .int .i64 h.port, .int .i64 h.time, .int .i64 p, .bool h.more, .int .i64 h.key.1, .int .i64 h.key.2.1, .int .i64 h.key.2.2, .slice ac nc cc, .slice al nl cl, .slice ae ne ce, .slice ap np cp, .slice ah nh ch], .bool true]) i)))) (by kernel_rfl) ?_
 have fail : ∀ J, I.le J -> (∀ R, okRs R -> rightS R = true -> (2, bs) ∈ allF R -> False) -> Q (.tuple #[.agg (rfV h ⟨.slice ac nc cc, .slice al nl cl, .slice ae ne ce, .slice ap np cp, .slice ah nh ch⟩).toArray, .bool false]) J := fun J lJ H => by
  rw [hQ]
  exact ⟨h, _, false, rfl, hM0.mono lJ, hh, hs, (fun h => by cases h), fun R a b c => (H R a b c).elim⟩
 have good : ∀ R, okRs R -> rightS R = true -> (2, bs) ∈ allF R -> ∃ L, L = [R.kind] /\ bs = numsF L /\ ∀ x ∈ L, 0 <= x /\ i64R x := fun R hR hr hk => by
  obtain ⟨⟨p1, p2, p3, p4, p5, p6, p7, p8, p9⟩, q1, q2, q3, q4⟩ := right_nn hR hr;obtain ⟨b1, b2, b3, b4, b5, b6, b7, b8, b9, b10, b11, b12, b13, b14⟩ := fn_at hk
  have hi : i64R R.kind := ⟨by have := hR.kind; omega, by have := hR.kind; omega⟩
  refine ⟨_, rfl, ?_, fun x hx => by rw [List.mem_singleton.1 hx]; exact ⟨p2, hi⟩⟩
  rw [b2 rfl, fmR_nat p2 hi]; simp [numsF]
 refine (cts_new2 (sz := 1) (el := 85) (by omega) (ct53L bs hbs b m c I hb (by omega) hmc)).mono fun sv H' J0 l0 ⟨xs, n, w, hsv, hH, ⟨hnx, l, e, hxs, hw, hll, hlr, hgd⟩⟩ => ?_
 subst hxs hw;have hml := hb.numLen
 have G : ∀ R, okRs R -> rightS R = true -> (2, bs) ∈ allF R -> e = 0 /\ l = [R.kind] /\ ∀ x ∈ l, 0 <= x /\ i64R x := fun R hR hr hk => by
  obtain ⟨L, hL, hb, hp⟩ := good R hR hr hk;obtain ⟨h1, h2⟩ := hgd L (fun x hx => u64_of (hp x hx).1 (hp x hx).2) hb
  exact ⟨h1, by rw [h2, hL], by rw [h2]; exact hp⟩
 refine ⟨n, e, _, hsv, hH, Br.mk (fun he => fail _ l0 fun R hR hr hk => ?_) (fun he => ?_)⟩
 · rw [(G R hR hr hk).1] at he; cases he
 intro e1 f1 J1 l1 hrow
 have hnl : n = l.length := by rw [ints_len] at hnx; omega
 refine ints_call hlr hrow hnl (by omega) (fun j k c J l2 hx => ⟨_, _, _, _, rfl, Br.t rfl (fail _ (Mem.le_trans l0 (Mem.le_trans l1 l2)) fun R hR hr hk => ?_)⟩) (fun j k c J l2 hpos hsl hk hkc hcm2 hN2 => ⟨_, _, _, _, rfl, Br.f rfl ?_⟩)
 · obtain ⟨x, hx, hx2⟩ := hx
   have := ((G R hR hr hk).2.2 x hx).2.2;omega
 have l02 := Mem.le_trans l0 (Mem.le_trans l1 l2);refine Br.mk (fun h1 => fail _ l02 fun R hR hr hk' => ?_) (fun h1 => ?_)
 · have := (G R hR hr hk').2.1
   rw [hk, this] at h1; cases h1
 have h1 : (k : Int) = 1 := by simpa using h1
 obtain ⟨z, rfl⟩ : ∃ z, l = [z] := by
  match l, hk with
  | [z], _ => exact ⟨z, rfl⟩
  | [], hk => simp at hk; omega
  | _ :: _ :: _, hk => simp at hk; omega
 have hz := hpos z (by simp)
 refine ⟨by omega, by omega, hsl.isSome (by omega), z, hsl.at_ 0 _ rfl, ?_⟩
 rw [hQ]
 refine ⟨{ h with kind := z }, ⟨.slice ac nc cc, .slice al nl cl, .slice ae ne ce, .slice ap np cp, .slice ah nh ch⟩, true, rfl, ⟨(hM0.mono l02).c, (hM0.mono l02).l, (hM0.mono l02).e, (hM0.mono l02).p, (hM0.mono l02).h⟩, { hh with kind := hz.2 }, { hs with }, fun _ => nilF_up hN ⟨rfl, rfl⟩ ⟨rfl, rfl⟩ ⟨rfl, rfl⟩, fun R hR hr hk' => ⟨rfl, ?_⟩⟩
 have := (G R hR hr hk').2.1;simp only [List.cons.injEq, and_true] at this
 rw [this]; rfl
theorem ct20_3 (h : Rs) (hh : okRf h) (hs : smallF h) (y : Ys) (I : Mem) (hM : RfM I h y) (bs : List Int) (hbs : byteL bs) (b : Option Addr) (m c : Nat) (hb : SlM I b m 1 (ints .u8 bs)) (hmc : m <= c) (hcm : c <= maxLen) (hm : m <= 20000) (hN : NilF 3 h y) :
 Ct Tryz.prog (fnv 20) #[.agg (rfV h y).toArray, .agg #[.int .i64 3, .slice b m c]] I (fun v I' => RdP h 3 bs I' v) := by
 obtain ⟨Q, hQ⟩ : ∃ f : Value -> Mem -> Prop, f = fun v I' => RdP h 3 bs I' v := ⟨_, rfl⟩
 show Ct Tryz.prog (fnv 20) #[_, _] I (fun v I' => (fun v I' => RdP h 3 bs I' v) v I')
 rw [<- hQ];have hM0 := hM;obtain ⟨⟨ac, nc, cc, hyc, hc, hcc, hcm'⟩, ⟨al, nl, cl, hyl, hl, hlc, hlm⟩, ⟨ae, ne, ce, hye, he, hec, hem⟩, ⟨ap, np, cp, hyp, hp, hpc, hpm⟩, ⟨ah, nh, ch, hyh, hh', hhc, hhm⟩⟩ := hM;obtain ⟨yc, yl, ye, yp, yh⟩ := y
 simp only at hyc hyl hye hyp hyh
 subst hyc hyl hye hyp hyh
 refine viaR (ct_via (A := { calls := [(33, .lend [] (.tup [.row 0, .sh (.int .i64)]) [.row 1 85])] }) Tryz.func20 rfl Tryz.call20 rfl rfl) (CtS Tryz.prog (.v (fnv 53)) [.v (.slice b m c)] [] I fun s H a => ∃ n d x, s = .tup [.rsl 0 n, .v (.int .i64 d)] /\ H = [⟨.row x 1 85, none⟩] /\ Br (d != 0) (Q (.tuple #[.agg #[.int .i64 h.num, .int .i64 h.code, .int .i64 h.ser, .int .i64 h.port, .int .i64 h.time, .int .i64 h.kind, .bool h.more, .int .i64 h.key.1, .int .i64 h.key.2.1, .int .i64 h.key.2.2, .slice ac nc cc, .slice al nl cl, .slice ae ne ce, .slice ap np cp, .slice ah nh ch], .bool false]) a) (∀ (e : Option Addr) (f : Nat) (g : Mem), a.le g -> RowM g e f 1 x -> Ct Tryz.prog (fnv 55) #[.slice e n f] g fun v i => ∃ j k l o, v = .tuple #[.slice j k l, .bool o] /\ Br (!o) (Q (.tuple #[.agg #[.int .i64 h.num, .int .i64 h.code, .int .i64 h.ser, .int .i64 h.port, .int .i64 h.time, .int .i64 h.kind, .bool h.more, .int .i64 h.key.1, .int .i64 h.key.2.1, .int .i64 h.key.2.2, .slice ac nc cc, .slice al nl cl, .slice ae ne ce, .slice ap np cp, .slice ah nh ch], .bool false]) i) (Br ((k : Int) != 1) (Q (.tuple #[.agg #[.int .i64 h.num, .int .i64 h.code, .int .i64 h.ser, .int .i64 h.port, .int .i64 h.time, .int .i64 h.kind, .bool h.more, .int .i64 h.key.1, .int .i64 h.key.2.1, .int .i64 h.key.2.2, .slice ac nc cc, .slice al nl cl, .slice ae ne ce, .slice ap np cp, .slice ah nh ch], .bool false]) i) ((0 : Int) <= 0 /\ 0 < (k : Int) /\ j.isSome = true /\ ∃ p, atI i j 0 = some (.int .i64 p) /\ Q (.tuple #[.agg #[.int .i64 h.num, .int .i64 p, .int .i64 h.ser, .int .i64 h.port, .int .i64 h.time, .int .i64 h.kind, .bool h.more, .int .i64 h.key.1, .int .i64 h.key.2.1, .int .i64 h.key.2.2, .slice ac nc cc, .slice al nl cl, .slice ae ne ce, .slice ap np cp, .slice ah nh ch], .bool true]) i)))) (by kernel_rfl) ?_
 have fail : ∀ J, I.le J -> (∀ R, okRs R -> rightS R = true -> (3, bs) ∈ allF R -> False) -> Q (.tuple #[.agg (rfV h ⟨.slice ac nc cc, .slice al nl cl, .slice ae ne ce, .slice ap np cp, .slice ah nh ch⟩).toArray, .bool false]) J := fun J lJ H => by
  rw [hQ]
  exact ⟨h, _, false, rfl, hM0.mono lJ, hh, hs, (fun h => by cases h), fun R a b c => (H R a b c).elim⟩
 have good : ∀ R, okRs R -> rightS R = true -> (3, bs) ∈ allF R -> ∃ L, L = [R.code] /\ bs = numsF L /\ ∀ x ∈ L, 0 <= x /\ i64R x := fun R hR hr hk => by
  obtain ⟨⟨p1, p2, p3, p4, p5, p6, p7, p8, p9⟩, q1, q2, q3, q4⟩ := right_nn hR hr;obtain ⟨b1, b2, b3, b4, b5, b6, b7, b8, b9, b10, b11, b12, b13, b14⟩ := fn_at hk;have hi : i64R R.code := hR.code
  refine ⟨_, rfl, ?_, fun x hx => by rw [List.mem_singleton.1 hx]; exact ⟨p3, hi⟩⟩
  rw [b3 rfl, fmR_nat p3 hi]; simp [numsF]
 refine (cts_new2 (sz := 1) (el := 85) (by omega) (ct53L bs hbs b m c I hb (by omega) hmc)).mono fun sv H' J0 l0 ⟨xs, n, w, hsv, hH, ⟨hnx, l, e, hxs, hw, hll, hlr, hgd⟩⟩ => ?_
 subst hxs hw;have hml := hb.numLen
 have G : ∀ R, okRs R -> rightS R = true -> (3, bs) ∈ allF R -> e = 0 /\ l = [R.code] /\ ∀ x ∈ l, 0 <= x /\ i64R x := fun R hR hr hk => by
  obtain ⟨L, hL, hb, hp⟩ := good R hR hr hk;obtain ⟨h1, h2⟩ := hgd L (fun x hx => u64_of (hp x hx).1 (hp x hx).2) hb
  exact ⟨h1, by rw [h2, hL], by rw [h2]; exact hp⟩
 refine ⟨n, e, _, hsv, hH, Br.mk (fun he => fail _ l0 fun R hR hr hk => ?_) (fun he => ?_)⟩
 · rw [(G R hR hr hk).1] at he; cases he
 intro e1 f1 J1 l1 hrow
 have hnl : n = l.length := by rw [ints_len] at hnx; omega
 refine ints_call hlr hrow hnl (by omega) (fun j k c J l2 hx => ⟨_, _, _, _, rfl, Br.t rfl (fail _ (Mem.le_trans l0 (Mem.le_trans l1 l2)) fun R hR hr hk => ?_)⟩) (fun j k c J l2 hpos hsl hk hkc hcm2 hN2 => ⟨_, _, _, _, rfl, Br.f rfl ?_⟩)
 · obtain ⟨x, hx, hx2⟩ := hx
   have := ((G R hR hr hk).2.2 x hx).2.2;omega
 have l02 := Mem.le_trans l0 (Mem.le_trans l1 l2);refine Br.mk (fun h1 => fail _ l02 fun R hR hr hk' => ?_) (fun h1 => ?_)
 · have := (G R hR hr hk').2.1
   rw [hk, this] at h1; cases h1
 have h1 : (k : Int) = 1 := by simpa using h1
 obtain ⟨z, rfl⟩ : ∃ z, l = [z] := by
  match l, hk with
  | [z], _ => exact ⟨z, rfl⟩
  | [], hk => simp at hk; omega
  | _ :: _ :: _, hk => simp at hk; omega
 have hz := hpos z (by simp)
 refine ⟨by omega, by omega, hsl.isSome (by omega), z, hsl.at_ 0 _ rfl, ?_⟩
 rw [hQ]
 refine ⟨{ h with code := z }, ⟨.slice ac nc cc, .slice al nl cl, .slice ae ne ce, .slice ap np cp, .slice ah nh ch⟩, true, rfl, ⟨(hM0.mono l02).c, (hM0.mono l02).l, (hM0.mono l02).e, (hM0.mono l02).p, (hM0.mono l02).h⟩, { hh with code := hz.2 }, { hs with }, fun _ => nilF_up hN ⟨rfl, rfl⟩ ⟨rfl, rfl⟩ ⟨rfl, rfl⟩, fun R hR hr hk' => ⟨rfl, ?_⟩⟩
 have := (G R hR hr hk').2.1;simp only [List.cons.injEq, and_true] at this
 rw [this]; rfl
theorem ct20_4 (h : Rs) (hh : okRf h) (hs : smallF h) (y : Ys) (I : Mem) (hM : RfM I h y) (bs : List Int) (hbs : byteL bs) (b : Option Addr) (m c : Nat) (hb : SlM I b m 1 (ints .u8 bs)) (hmc : m <= c) (hcm : c <= maxLen) (hm : m <= 20000) (hN : NilF 4 h y) :
 Ct Tryz.prog (fnv 20) #[.agg (rfV h y).toArray, .agg #[.int .i64 4, .slice b m c]] I (fun v I' => RdP h 4 bs I' v) := by
 obtain ⟨Q, hQ⟩ : ∃ f : Value -> Mem -> Prop, f = fun v I' => RdP h 4 bs I' v := ⟨_, rfl⟩
 show Ct Tryz.prog (fnv 20) #[_, _] I (fun v I' => (fun v I' => RdP h 4 bs I' v) v I')
 rw [<- hQ];have hM0 := hM;obtain ⟨⟨ac, nc, cc, hyc, hc, hcc, hcm'⟩, ⟨al, nl, cl, hyl, hl, hlc, hlm⟩, ⟨ae, ne, ce, hye, he, hec, hem⟩, ⟨ap, np, cp, hyp, hp, hpc, hpm⟩, ⟨ah, nh, ch, hyh, hh', hhc, hhm⟩⟩ := hM;obtain ⟨yc, yl, ye, yp, yh⟩ := y
 simp only at hyc hyl hye hyp hyh
 subst hyc hyl hye hyp hyh
 refine viaR (ct_via (A := { calls := [(33, .lend [] (.tup [.row 0, .sh (.int .i64)]) [.row 1 85])] }) Tryz.func20 rfl Tryz.call20 rfl rfl) (CtS Tryz.prog (.v (fnv 53)) [.v (.slice b m c)] [] I fun s H a => ∃ n d x, s = .tup [.rsl 0 n, .v (.int .i64 d)] /\ H = [⟨.row x 1 85, none⟩] /\ Br (d != 0) (Q (.tuple #[.agg #[.int .i64 h.num, .int .i64 h.code, .int .i64 h.ser, .int .i64 h.port, .int .i64 h.time, .int .i64 h.kind, .bool h.more, .int .i64 h.key.1, .int .i64 h.key.2.1, .int .i64 h.key.2.2, .slice ac nc cc, .slice al nl cl, .slice ae ne ce, .slice ap np cp, .slice ah nh ch], .bool false]) a) (∀ (e : Option Addr) (f : Nat) (g : Mem), a.le g -> RowM g e f 1 x -> Ct Tryz.prog (fnv 55) #[.slice e n f] g fun v i => ∃ j k l o, v = .tuple #[.slice j k l, .bool o] /\ Br (!o) (Q (.tuple #[.agg #[.int .i64 h.num, .int .i64 h.code, .int .i64 h.ser, .int .i64 h.port, .int .i64 h.time, .int .i64 h.kind, .bool h.more, .int .i64 h.key.1, .int .i64 h.key.2.1, .int .i64 h.key.2.2, .slice ac nc cc, .slice al nl cl, .slice ae ne ce, .slice ap np cp, .slice ah nh ch], .bool false]) i) (Br ((k : Int) != 1) (Q (.tuple #[.agg #[.int .i64 h.num, .int .i64 h.code, .int .i64 h.ser, .int .i64 h.port, .int .i64 h.time, .int .i64 h.kind, .bool h.more, .int .i64 h.key.1, .int .i64 h.key.2.1, .int .i64 h.key.2.2, .slice ac nc cc, .slice al nl cl, .slice ae ne ce, .slice ap np cp, .slice ah nh ch], .bool false]) i) ((0 : Int) <= 0 /\ 0 < (k : Int) /\ j.isSome = true /\ ∃ p, atI i j 0 = some (.int .i64 p) /\ Q (.tuple #[.agg #[.int .i64 h.num, .int .i64 h.code, .int .i64 p, .int .i64 h.port, .int .i64 h.time, .int .i64 h.kind, .bool h.more, .int .i64 h.key.1, .int .i64 h.key.2.1, .int .i64 h.key.2.2, .slice ac nc cc, .slice al nl cl, .slice ae ne ce, .slice ap np cp, .slice ah nh ch], .bool true]) i)))) (by kernel_rfl) ?_
 have fail : ∀ J, I.le J -> (∀ R, okRs R -> rightS R = true -> (4, bs) ∈ allF R -> False) -> Q (.tuple #[.agg (rfV h ⟨.slice ac nc cc, .slice al nl cl, .slice ae ne ce, .slice ap np cp, .slice ah nh ch⟩).toArray, .bool false]) J := fun J lJ H => by
  rw [hQ]
  exact ⟨h, _, false, rfl, hM0.mono lJ, hh, hs, (fun h => by cases h), fun R a b c => (H R a b c).elim⟩
 have good : ∀ R, okRs R -> rightS R = true -> (4, bs) ∈ allF R -> ∃ L, L = [R.ser] /\ bs = numsF L /\ ∀ x ∈ L, 0 <= x /\ i64R x := fun R hR hr hk => by
  obtain ⟨⟨p1, p2, p3, p4, p5, p6, p7, p8, p9⟩, q1, q2, q3, q4⟩ := right_nn hR hr;obtain ⟨b1, b2, b3, b4, b5, b6, b7, b8, b9, b10, b11, b12, b13, b14⟩ := fn_at hk;have hi : i64R R.ser := hR.ser
  refine ⟨_, rfl, ?_, fun x hx => by rw [List.mem_singleton.1 hx]; exact ⟨p4, hi⟩⟩
  rw [b4 rfl, fmR_nat p4 hi]; simp [numsF]
 refine (cts_new2 (sz := 1) (el := 85) (by omega) (ct53L bs hbs b m c I hb (by omega) hmc)).mono fun sv H' J0 l0 ⟨xs, n, w, hsv, hH, ⟨hnx, l, e, hxs, hw, hll, hlr, hgd⟩⟩ => ?_
 subst hxs hw;have hml := hb.numLen
 have G : ∀ R, okRs R -> rightS R = true -> (4, bs) ∈ allF R -> e = 0 /\ l = [R.ser] /\ ∀ x ∈ l, 0 <= x /\ i64R x := fun R hR hr hk => by
  obtain ⟨L, hL, hb, hp⟩ := good R hR hr hk;obtain ⟨h1, h2⟩ := hgd L (fun x hx => u64_of (hp x hx).1 (hp x hx).2) hb
  exact ⟨h1, by rw [h2, hL], by rw [h2]; exact hp⟩
 refine ⟨n, e, _, hsv, hH, Br.mk (fun he => fail _ l0 fun R hR hr hk => ?_) (fun he => ?_)⟩
 · rw [(G R hR hr hk).1] at he; cases he
 intro e1 f1 J1 l1 hrow
 have hnl : n = l.length := by rw [ints_len] at hnx; omega
 refine ints_call hlr hrow hnl (by omega) (fun j k c J l2 hx => ⟨_, _, _, _, rfl, Br.t rfl (fail _ (Mem.le_trans l0 (Mem.le_trans l1 l2)) fun R hR hr hk => ?_)⟩) (fun j k c J l2 hpos hsl hk hkc hcm2 hN2 => ⟨_, _, _, _, rfl, Br.f rfl ?_⟩)
 · obtain ⟨x, hx, hx2⟩ := hx
   have := ((G R hR hr hk).2.2 x hx).2.2;omega
 have l02 := Mem.le_trans l0 (Mem.le_trans l1 l2);refine Br.mk (fun h1 => fail _ l02 fun R hR hr hk' => ?_) (fun h1 => ?_)
 · have := (G R hR hr hk').2.1
   rw [hk, this] at h1; cases h1
 have h1 : (k : Int) = 1 := by simpa using h1
 obtain ⟨z, rfl⟩ : ∃ z, l = [z] := by
  match l, hk with
  | [z], _ => exact ⟨z, rfl⟩
  | [], hk => simp at hk; omega
  | _ :: _ :: _, hk => simp at hk; omega
 have hz := hpos z (by simp)
 refine ⟨by omega, by omega, hsl.isSome (by omega), z, hsl.at_ 0 _ rfl, ?_⟩
 rw [hQ]
 refine ⟨{ h with ser := z }, ⟨.slice ac nc cc, .slice al nl cl, .slice ae ne ce, .slice ap np cp, .slice ah nh ch⟩, true, rfl, ⟨(hM0.mono l02).c, (hM0.mono l02).l, (hM0.mono l02).e, (hM0.mono l02).p, (hM0.mono l02).h⟩, { hh with ser := hz.2 }, { hs with }, fun _ => nilF_up hN ⟨rfl, rfl⟩ ⟨rfl, rfl⟩ ⟨rfl, rfl⟩, fun R hR hr hk' => ⟨rfl, ?_⟩⟩
 have := (G R hR hr hk').2.1;simp only [List.cons.injEq, and_true] at this
 rw [this]; rfl
theorem ct20_5 (h : Rs) (hh : okRf h) (hs : smallF h) (y : Ys) (I : Mem) (hM : RfM I h y) (bs : List Int) (hbs : byteL bs) (b : Option Addr) (m c : Nat) (hb : SlM I b m 1 (ints .u8 bs)) (hmc : m <= c) (hcm : c <= maxLen) (hm : m <= 20000) (hN : NilF 5 h y) :
 Ct Tryz.prog (fnv 20) #[.agg (rfV h y).toArray, .agg #[.int .i64 5, .slice b m c]] I (fun v I' => RdP h 5 bs I' v) := by
 obtain ⟨Q, hQ⟩ : ∃ f : Value -> Mem -> Prop, f = fun v I' => RdP h 5 bs I' v := ⟨_, rfl⟩
 show Ct Tryz.prog (fnv 20) #[_, _] I (fun v I' => (fun v I' => RdP h 5 bs I' v) v I')
 rw [<- hQ];have hM0 := hM;obtain ⟨⟨ac, nc, cc, hyc, hc, hcc, hcm'⟩, ⟨al, nl, cl, hyl, hl, hlc, hlm⟩, ⟨ae, ne, ce, hye, he, hec, hem⟩, ⟨ap, np, cp, hyp, hp, hpc, hpm⟩, ⟨ah, nh, ch, hyh, hh', hhc, hhm⟩⟩ := hM;obtain ⟨yc, yl, ye, yp, yh⟩ := y
 simp only at hyc hyl hye hyp hyh
 subst hyc hyl hye hyp hyh
 refine viaR (ct_via (A := { calls := [(33, .lend [] (.tup [.row 0, .sh (.int .i64)]) [.row 1 85])] }) Tryz.func20 rfl Tryz.call20 rfl rfl) (CtS Tryz.prog (.v (fnv 53)) [.v (.slice b m c)] [] I fun s H a => ∃ n d x, s = .tup [.rsl 0 n, .v (.int .i64 d)] /\ H = [⟨.row x 1 85, none⟩] /\ Br (d != 0) (Q (.tuple #[.agg #[.int .i64 h.num, .int .i64 h.code, .int .i64 h.ser, .int .i64 h.port, .int .i64 h.time, .int .i64 h.kind, .bool h.more, .int .i64 h.key.1, .int .i64 h.key.2.1, .int .i64 h.key.2.2, .slice ac nc cc, .slice al nl cl, .slice ae ne ce, .slice ap np cp, .slice ah nh ch], .bool false]) a) (∀ (e : Option Addr) (f : Nat) (g : Mem), a.le g -> RowM g e f 1 x -> Ct Tryz.prog (fnv 55) #[.slice e n f] g fun v i => ∃ j k l o, v = .tuple #[.slice j k l, .bool o] /\ Br (!o) (Q (.tuple #[.agg #[.int .i64 h.num, .int .i64 h.code, .int .i64 h.ser, .int .i64 h.port, .int .i64 h.time, .int .i64 h.kind, .bool h.more, .int .i64 h.key.1, .int .i64 h.key.2.1, .int .i64 h.key.2.2, .slice ac nc cc, .slice al nl cl, .slice ae ne ce, .slice ap np cp, .slice ah nh ch], .bool false]) i) (Br ((k : Int) != 1) (Q (.tuple #[.agg #[.int .i64 h.num, .int .i64 h.code, .int .i64 h.ser, .int .i64 h.port, .int .i64 h.time, .int .i64 h.kind, .bool h.more, .int .i64 h.key.1, .int .i64 h.key.2.1, .int .i64 h.key.2.2, .slice ac nc cc, .slice al nl cl, .slice ae ne ce, .slice ap np cp, .slice ah nh ch], .bool false]) i) ((0 : Int) <= 0 /\ 0 < (k : Int) /\ j.isSome = true /\ ∃ p, atI i j 0 = some (.int .i64 p) /\ Q (.tuple #[.agg #[.int .i64 h.num, .int .i64 h.code, .int .i64 h.ser, .int .i64 p, .int .i64 h.time, .int .i64 h.kind, .bool h.more, .int .i64 h.key.1, .int .i64 h.key.2.1, .int .i64 h.key.2.2, .slice ac nc cc, .slice al nl cl, .slice ae ne ce, .slice ap np cp, .slice ah nh ch], .bool true]) i)))) (by kernel_rfl) ?_
 have fail : ∀ J, I.le J -> (∀ R, okRs R -> rightS R = true -> (5, bs) ∈ allF R -> False) -> Q (.tuple #[.agg (rfV h ⟨.slice ac nc cc, .slice al nl cl, .slice ae ne ce, .slice ap np cp, .slice ah nh ch⟩).toArray, .bool false]) J := fun J lJ H => by
  rw [hQ]
  exact ⟨h, _, false, rfl, hM0.mono lJ, hh, hs, (fun h => by cases h), fun R a b c => (H R a b c).elim⟩
 have good : ∀ R, okRs R -> rightS R = true -> (5, bs) ∈ allF R -> ∃ L, L = [R.port] /\ bs = numsF L /\ ∀ x ∈ L, 0 <= x /\ i64R x := fun R hR hr hk => by
  obtain ⟨⟨p1, p2, p3, p4, p5, p6, p7, p8, p9⟩, q1, q2, q3, q4⟩ := right_nn hR hr;obtain ⟨b1, b2, b3, b4, b5, b6, b7, b8, b9, b10, b11, b12, b13, b14⟩ := fn_at hk;have hi : i64R R.port := hR.port
  refine ⟨_, rfl, ?_, fun x hx => by rw [List.mem_singleton.1 hx]; exact ⟨p5, hi⟩⟩
  rw [b5 rfl, fmR_nat p5 hi]; simp [numsF]
 refine (cts_new2 (sz := 1) (el := 85) (by omega) (ct53L bs hbs b m c I hb (by omega) hmc)).mono fun sv H' J0 l0 ⟨xs, n, w, hsv, hH, ⟨hnx, l, e, hxs, hw, hll, hlr, hgd⟩⟩ => ?_
 subst hxs hw;have hml := hb.numLen
 have G : ∀ R, okRs R -> rightS R = true -> (5, bs) ∈ allF R -> e = 0 /\ l = [R.port] /\ ∀ x ∈ l, 0 <= x /\ i64R x := fun R hR hr hk => by
  obtain ⟨L, hL, hb, hp⟩ := good R hR hr hk;obtain ⟨h1, h2⟩ := hgd L (fun x hx => u64_of (hp x hx).1 (hp x hx).2) hb
  exact ⟨h1, by rw [h2, hL], by rw [h2]; exact hp⟩
 refine ⟨n, e, _, hsv, hH, Br.mk (fun he => fail _ l0 fun R hR hr hk => ?_) (fun he => ?_)⟩
 · rw [(G R hR hr hk).1] at he; cases he
 intro e1 f1 J1 l1 hrow
 have hnl : n = l.length := by rw [ints_len] at hnx; omega
 refine ints_call hlr hrow hnl (by omega) (fun j k c J l2 hx => ⟨_, _, _, _, rfl, Br.t rfl (fail _ (Mem.le_trans l0 (Mem.le_trans l1 l2)) fun R hR hr hk => ?_)⟩) (fun j k c J l2 hpos hsl hk hkc hcm2 hN2 => ⟨_, _, _, _, rfl, Br.f rfl ?_⟩)
 · obtain ⟨x, hx, hx2⟩ := hx
   have := ((G R hR hr hk).2.2 x hx).2.2;omega
 have l02 := Mem.le_trans l0 (Mem.le_trans l1 l2);refine Br.mk (fun h1 => fail _ l02 fun R hR hr hk' => ?_) (fun h1 => ?_)
 · have := (G R hR hr hk').2.1
   rw [hk, this] at h1; cases h1
 have h1 : (k : Int) = 1 := by simpa using h1
 obtain ⟨z, rfl⟩ : ∃ z, l = [z] := by
  match l, hk with
  | [z], _ => exact ⟨z, rfl⟩
  | [], hk => simp at hk; omega
  | _ :: _ :: _, hk => simp at hk; omega
 have hz := hpos z (by simp)
 refine ⟨by omega, by omega, hsl.isSome (by omega), z, hsl.at_ 0 _ rfl, ?_⟩
 rw [hQ]
 refine ⟨{ h with port := z }, ⟨.slice ac nc cc, .slice al nl cl, .slice ae ne ce, .slice ap np cp, .slice ah nh ch⟩, true, rfl, ⟨(hM0.mono l02).c, (hM0.mono l02).l, (hM0.mono l02).e, (hM0.mono l02).p, (hM0.mono l02).h⟩, { hh with port := hz.2 }, { hs with }, fun _ => nilF_up hN ⟨rfl, rfl⟩ ⟨rfl, rfl⟩ ⟨rfl, rfl⟩, fun R hR hr hk' => ⟨rfl, ?_⟩⟩
 have := (G R hR hr hk').2.1;simp only [List.cons.injEq, and_true] at this
 rw [this]; rfl
theorem ct20_6 (h : Rs) (hh : okRf h) (hs : smallF h) (y : Ys) (I : Mem) (hM : RfM I h y) (bs : List Int) (hbs : byteL bs) (b : Option Addr) (m c : Nat) (hb : SlM I b m 1 (ints .u8 bs)) (hmc : m <= c) (hcm : c <= maxLen) (hm : m <= 20000) (hN : NilF 6 h y) :
 Ct Tryz.prog (fnv 20) #[.agg (rfV h y).toArray, .agg #[.int .i64 6, .slice b m c]] I (fun v I' => RdP h 6 bs I' v) := by
 obtain ⟨Q, hQ⟩ : ∃ f : Value -> Mem -> Prop, f = fun v I' => RdP h 6 bs I' v := ⟨_, rfl⟩
 show Ct Tryz.prog (fnv 20) #[_, _] I (fun v I' => (fun v I' => RdP h 6 bs I' v) v I')
 rw [<- hQ];have hM0 := hM;obtain ⟨⟨ac, nc, cc, hyc, hc, hcc, hcm'⟩, ⟨al, nl, cl, hyl, hl, hlc, hlm⟩, ⟨ae, ne, ce, hye, he, hec, hem⟩, ⟨ap, np, cp, hyp, hp, hpc, hpm⟩, ⟨ah, nh, ch, hyh, hh', hhc, hhm⟩⟩ := hM;obtain ⟨yc, yl, ye, yp, yh⟩ := y
 simp only at hyc hyl hye hyp hyh
 subst hyc hyl hye hyp hyh
 refine viaR (ct_via (A := { calls := [(33, .lend [] (.tup [.row 0, .sh (.int .i64)]) [.row 1 85])] }) Tryz.func20 rfl Tryz.call20 rfl rfl) (CtS Tryz.prog (.v (fnv 53)) [.v (.slice b m c)] [] I fun s H a => ∃ n d x, s = .tup [.rsl 0 n, .v (.int .i64 d)] /\ H = [⟨.row x 1 85, none⟩] /\ Br (d != 0) (Q (.tuple #[.agg #[.int .i64 h.num, .int .i64 h.code, .int .i64 h.ser, .int .i64 h.port, .int .i64 h.time, .int .i64 h.kind, .bool h.more, .int .i64 h.key.1, .int .i64 h.key.2.1, .int .i64 h.key.2.2, .slice ac nc cc, .slice al nl cl, .slice ae ne ce, .slice ap np cp, .slice ah nh ch], .bool false]) a) (∀ (e : Option Addr) (f : Nat) (g : Mem), a.le g -> RowM g e f 1 x -> Ct Tryz.prog (fnv 55) #[.slice e n f] g fun v i => ∃ j k l o, v = .tuple #[.slice j k l, .bool o] /\ Br (!o) (Q (.tuple #[.agg #[.int .i64 h.num, .int .i64 h.code, .int .i64 h.ser, .int .i64 h.port, .int .i64 h.time, .int .i64 h.kind, .bool h.more, .int .i64 h.key.1, .int .i64 h.key.2.1, .int .i64 h.key.2.2, .slice ac nc cc, .slice al nl cl, .slice ae ne ce, .slice ap np cp, .slice ah nh ch], .bool false]) i) (Br ((k : Int) != 1) (Q (.tuple #[.agg #[.int .i64 h.num, .int .i64 h.code, .int .i64 h.ser, .int .i64 h.port, .int .i64 h.time, .int .i64 h.kind, .bool h.more, .int .i64 h.key.1, .int .i64 h.key.2.1, .int .i64 h.key.2.2, .slice ac nc cc, .slice al nl cl, .slice ae ne ce, .slice ap np cp, .slice ah nh ch], .bool false]) i) ((0 : Int) <= 0 /\ 0 < (k : Int) /\ j.isSome = true /\ ∃ p, atI i j 0 = some (.int .i64 p) /\ Q (.tuple #[.agg #[.int .i64 h.num, .int .i64 h.code, .int .i64 h.ser, .int .i64 h.port, .int .i64 p, .int .i64 h.kind, .bool h.more, .int .i64 h.key.1, .int .i64 h.key.2.1, .int .i64 h.key.2.2, .slice ac nc cc, .slice al nl cl, .slice ae ne ce, .slice ap np cp, .slice ah nh ch], .bool true]) i)))) (by kernel_rfl) ?_
 have fail : ∀ J, I.le J -> (∀ R, okRs R -> rightS R = true -> (6, bs) ∈ allF R -> False) -> Q (.tuple #[.agg (rfV h ⟨.slice ac nc cc, .slice al nl cl, .slice ae ne ce, .slice ap np cp, .slice ah nh ch⟩).toArray, .bool false]) J := fun J lJ H => by
  rw [hQ]
  exact ⟨h, _, false, rfl, hM0.mono lJ, hh, hs, (fun h => by cases h), fun R a b c => (H R a b c).elim⟩
 have good : ∀ R, okRs R -> rightS R = true -> (6, bs) ∈ allF R -> ∃ L, L = [R.time] /\ bs = numsF L /\ ∀ x ∈ L, 0 <= x /\ i64R x := fun R hR hr hk => by
  obtain ⟨⟨p1, p2, p3, p4, p5, p6, p7, p8, p9⟩, q1, q2, q3, q4⟩ := right_nn hR hr;obtain ⟨b1, b2, b3, b4, b5, b6, b7, b8, b9, b10, b11, b12, b13, b14⟩ := fn_at hk;have hi : i64R R.time := hR.time
  refine ⟨_, rfl, ?_, fun x hx => by rw [List.mem_singleton.1 hx]; exact ⟨p6, hi⟩⟩
  rw [b6 rfl, fmR_nat p6 hi]; simp [numsF]
 refine (cts_new2 (sz := 1) (el := 85) (by omega) (ct53L bs hbs b m c I hb (by omega) hmc)).mono fun sv H' J0 l0 ⟨xs, n, w, hsv, hH, ⟨hnx, l, e, hxs, hw, hll, hlr, hgd⟩⟩ => ?_
 subst hxs hw;have hml := hb.numLen
 have G : ∀ R, okRs R -> rightS R = true -> (6, bs) ∈ allF R -> e = 0 /\ l = [R.time] /\ ∀ x ∈ l, 0 <= x /\ i64R x := fun R hR hr hk => by
  obtain ⟨L, hL, hb, hp⟩ := good R hR hr hk;obtain ⟨h1, h2⟩ := hgd L (fun x hx => u64_of (hp x hx).1 (hp x hx).2) hb
  exact ⟨h1, by rw [h2, hL], by rw [h2]; exact hp⟩
 refine ⟨n, e, _, hsv, hH, Br.mk (fun he => fail _ l0 fun R hR hr hk => ?_) (fun he => ?_)⟩
 · rw [(G R hR hr hk).1] at he; cases he
 intro e1 f1 J1 l1 hrow
 have hnl : n = l.length := by rw [ints_len] at hnx; omega
 refine ints_call hlr hrow hnl (by omega) (fun j k c J l2 hx => ⟨_, _, _, _, rfl, Br.t rfl (fail _ (Mem.le_trans l0 (Mem.le_trans l1 l2)) fun R hR hr hk => ?_)⟩) (fun j k c J l2 hpos hsl hk hkc hcm2 hN2 => ⟨_, _, _, _, rfl, Br.f rfl ?_⟩)
 · obtain ⟨x, hx, hx2⟩ := hx
   have := ((G R hR hr hk).2.2 x hx).2.2;omega
 have l02 := Mem.le_trans l0 (Mem.le_trans l1 l2);refine Br.mk (fun h1 => fail _ l02 fun R hR hr hk' => ?_) (fun h1 => ?_)
 · have := (G R hR hr hk').2.1
   rw [hk, this] at h1; cases h1
 have h1 : (k : Int) = 1 := by simpa using h1
 obtain ⟨z, rfl⟩ : ∃ z, l = [z] := by
  match l, hk with
  | [z], _ => exact ⟨z, rfl⟩
  | [], hk => simp at hk; omega
  | _ :: _ :: _, hk => simp at hk; omega
 have hz := hpos z (by simp)
 refine ⟨by omega, by omega, hsl.isSome (by omega), z, hsl.at_ 0 _ rfl, ?_⟩
 rw [hQ]
 refine ⟨{ h with time := z }, ⟨.slice ac nc cc, .slice al nl cl, .slice ae ne ce, .slice ap np cp, .slice ah nh ch⟩, true, rfl, ⟨(hM0.mono l02).c, (hM0.mono l02).l, (hM0.mono l02).e, (hM0.mono l02).p, (hM0.mono l02).h⟩, { hh with time := hz.2 }, { hs with }, fun _ => nilF_up hN ⟨rfl, rfl⟩ ⟨rfl, rfl⟩ ⟨rfl, rfl⟩, fun R hR hr hk' => ⟨rfl, ?_⟩⟩
 have := (G R hR hr hk').2.1;simp only [List.cons.injEq, and_true] at this
 rw [this]; rfl
theorem ct20_7 (h : Rs) (hh : okRf h) (hs : smallF h) (y : Ys) (I : Mem) (hM : RfM I h y) (bs : List Int) (hbs : byteL bs) (b : Option Addr) (m c : Nat) (hb : SlM I b m 1 (ints .u8 bs)) (hmc : m <= c) (hcm : c <= maxLen) (hm : m <= 20000) (hN : NilF 7 h y) :
 Ct Tryz.prog (fnv 20) #[.agg (rfV h y).toArray, .agg #[.int .i64 7, .slice b m c]] I (fun v I' => RdP h 7 bs I' v) := by
 obtain ⟨Q, hQ⟩ : ∃ f : Value -> Mem -> Prop, f = fun v I' => RdP h 7 bs I' v := ⟨_, rfl⟩
 show Ct Tryz.prog (fnv 20) #[_, _] I (fun v I' => (fun v I' => RdP h 7 bs I' v) v I')
 rw [<- hQ];have hM0 := hM;obtain ⟨⟨ac, nc, cc, hyc, hc, hcc, hcm'⟩, ⟨al, nl, cl, hyl, hl, hlc, hlm⟩, ⟨ae, ne, ce, hye, he, hec, hem⟩, ⟨ap, np, cp, hyp, hp, hpc, hpm⟩, ⟨ah, nh, ch, hyh, hh', hhc, hhm⟩⟩ := hM;obtain ⟨yc, yl, ye, yp, yh⟩ := y
 simp only at hyc hyl hye hyp hyh
 subst hyc hyl hye hyp hyh
 refine viaR (ct_via (A := { calls := [(33, .lend [] (.tup [.row 0, .sh (.int .i64)]) [.row 1 85])] }) Tryz.func20 rfl Tryz.call20 rfl rfl) (CtS Tryz.prog (.v (fnv 53)) [.v (.slice b m c)] [] I fun s H a => ∃ n d x, s = .tup [.rsl 0 n, .v (.int .i64 d)] /\ H = [⟨.row x 1 85, none⟩] /\ Br (d != 0) (Q (.tuple #[.agg #[.int .i64 h.num, .int .i64 h.code, .int .i64 h.ser, .int .i64 h.port, .int .i64 h.time, .int .i64 h.kind, .bool h.more, .int .i64 h.key.1, .int .i64 h.key.2.1, .int .i64 h.key.2.2, .slice ac nc cc, .slice al nl cl, .slice ae ne ce, .slice ap np cp, .slice ah nh ch], .bool false]) a) (∀ (e : Option Addr) (f : Nat) (g : Mem), a.le g -> RowM g e f 1 x -> Ct Tryz.prog (fnv 55) #[.slice e n f] g fun v i => ∃ j k l o, v = .tuple #[.slice j k l, .bool o] /\ Br (!o) (Q (.tuple #[.agg #[.int .i64 h.num, .int .i64 h.code, .int .i64 h.ser, .int .i64 h.port, .int .i64 h.time, .int .i64 h.kind, .bool h.more, .int .i64 h.key.1, .int .i64 h.key.2.1, .int .i64 h.key.2.2, .slice ac nc cc, .slice al nl cl, .slice ae ne ce, .slice ap np cp, .slice ah nh ch], .bool false]) i) (Br (decide (0 < (k : Int))) (Q (.tuple #[.agg #[.int .i64 h.num, .int .i64 h.code, .int .i64 h.ser, .int .i64 h.port, .int .i64 h.time, .int .i64 h.kind, .bool h.more, .int .i64 h.key.1, .int .i64 h.key.2.1, .int .i64 h.key.2.2, .slice ac nc cc, .slice al nl cl, .slice ae ne ce, .slice ap np cp, .slice ah nh ch], .bool false]) i) (Q (.tuple #[.agg #[.int .i64 h.num, .int .i64 h.code, .int .i64 h.ser, .int .i64 h.port, .int .i64 h.time, .int .i64 h.kind, .bool true, .int .i64 h.key.1, .int .i64 h.key.2.1, .int .i64 h.key.2.2, .slice ac nc cc, .slice al nl cl, .slice ae ne ce, .slice ap np cp, .slice ah nh ch], .bool true]) i)))) (by kernel_rfl) ?_
 have fail : ∀ J, I.le J -> (∀ R, okRs R -> rightS R = true -> (7, bs) ∈ allF R -> False) -> Q (.tuple #[.agg (rfV h ⟨.slice ac nc cc, .slice al nl cl, .slice ae ne ce, .slice ap np cp, .slice ah nh ch⟩).toArray, .bool false]) J := fun J lJ H => by
  rw [hQ]
  exact ⟨h, _, false, rfl, hM0.mono lJ, hh, hs, (fun h => by cases h), fun R a b c => (H R a b c).elim⟩
 have good : ∀ R, okRs R -> rightS R = true -> (7, bs) ∈ allF R -> ∃ L, L = ([] : List Int) /\ bs = numsF L /\ ∀ x ∈ L, 0 <= x /\ i64R x := fun R hR hr hk => by
  obtain ⟨⟨p1, p2, p3, p4, p5, p6, p7, p8, p9⟩, q1, q2, q3, q4⟩ := right_nn hR hr;obtain ⟨b1, b2, b3, b4, b5, b6, b7, b8, b9, b10, b11, b12, b13, b14⟩ := fn_at hk
  exact ⟨_, rfl, b7 rfl, fun x hx => by cases hx⟩
 refine (cts_new2 (sz := 1) (el := 85) (by omega) (ct53L bs hbs b m c I hb (by omega) hmc)).mono fun sv H' J0 l0 ⟨xs, n, w, hsv, hH, ⟨hnx, l, e, hxs, hw, hll, hlr, hgd⟩⟩ => ?_
 subst hxs hw;have hml := hb.numLen
 have G : ∀ R, okRs R -> rightS R = true -> (7, bs) ∈ allF R -> e = 0 /\ l = ([] : List Int) /\ ∀ x ∈ l, 0 <= x /\ i64R x := fun R hR hr hk => by
  obtain ⟨L, hL, hb, hp⟩ := good R hR hr hk;obtain ⟨h1, h2⟩ := hgd L (fun x hx => u64_of (hp x hx).1 (hp x hx).2) hb
  exact ⟨h1, by rw [h2, hL], by rw [h2]; exact hp⟩
 refine ⟨n, e, _, hsv, hH, Br.mk (fun he => fail _ l0 fun R hR hr hk => ?_) (fun he => ?_)⟩
 · rw [(G R hR hr hk).1] at he; cases he
 intro e1 f1 J1 l1 hrow
 have hnl : n = l.length := by rw [ints_len] at hnx; omega
 refine ints_call hlr hrow hnl (by omega) (fun j k c J l2 hx => ⟨_, _, _, _, rfl, Br.t rfl (fail _ (Mem.le_trans l0 (Mem.le_trans l1 l2)) fun R hR hr hk => ?_)⟩) (fun j k c J l2 hpos hsl hk hkc hcm2 hN2 => ⟨_, _, _, _, rfl, Br.f rfl ?_⟩)
 · obtain ⟨x, hx, hx2⟩ := hx
   have := ((G R hR hr hk).2.2 x hx).2.2;omega
 have l02 := Mem.le_trans l0 (Mem.le_trans l1 l2);refine Br.mk (fun h1 => fail _ l02 fun R hR hr hk' => ?_) (fun h1 => ?_)
 · have h1 := of_decide_eq_true h1
   have := (G R hR hr hk').2.1
   rw [hk, this] at h1; simp at h1
 rw [hQ]
 exact ⟨{ h with more := true }, ⟨.slice ac nc cc, .slice al nl cl, .slice ae ne ce, .slice ap np cp, .slice ah nh ch⟩, true, rfl, ⟨(hM0.mono l02).c, (hM0.mono l02).l, (hM0.mono l02).e, (hM0.mono l02).p, (hM0.mono l02).h⟩, { hh with }, { hs with }, fun _ => nilF_up hN ⟨rfl, rfl⟩ ⟨rfl, rfl⟩ ⟨rfl, rfl⟩, fun R hR hr hk' => ⟨rfl, rfl⟩⟩
theorem ct20_8 (h : Rs) (hh : okRf h) (hs : smallF h) (y : Ys) (I : Mem) (hM : RfM I h y) (bs : List Int) (hbs : byteL bs) (b : Option Addr) (m c : Nat) (hb : SlM I b m 1 (ints .u8 bs)) (hmc : m <= c) (hcm : c <= maxLen) (hm : m <= 20000) (hN : NilF 8 h y) :
 Ct Tryz.prog (fnv 20) #[.agg (rfV h y).toArray, .agg #[.int .i64 8, .slice b m c]] I (fun v I' => RdP h 8 bs I' v) := by
 obtain ⟨Q, hQ⟩ : ∃ f : Value -> Mem -> Prop, f = fun v I' => RdP h 8 bs I' v := ⟨_, rfl⟩
 show Ct Tryz.prog (fnv 20) #[_, _] I (fun v I' => (fun v I' => RdP h 8 bs I' v) v I')
 rw [<- hQ];have hM0 := hM;obtain ⟨⟨ac, nc, cc, hyc, hc, hcc, hcm'⟩, ⟨al, nl, cl, hyl, hl, hlc, hlm⟩, ⟨ae, ne, ce, hye, he, hec, hem⟩, ⟨ap, np, cp, hyp, hp, hpc, hpm⟩, ⟨ah, nh, ch, hyh, hh', hhc, hhm⟩⟩ := hM;obtain ⟨yc, yl, ye, yp, yh⟩ := y
 simp only at hyc hyl hye hyp hyh
 subst hyc hyl hye hyp hyh
 refine viaR (ct_via (A := { calls := [(33, .lend [] (.tup [.row 0, .sh (.int .i64)]) [.row 1 85])] }) Tryz.func20 rfl Tryz.call20 rfl rfl) (CtS Tryz.prog (.v (fnv 53)) [.v (.slice b m c)] [] I fun s H a => ∃ n d x, s = .tup [.rsl 0 n, .v (.int .i64 d)] /\ H = [⟨.row x 1 85, none⟩] /\ Br (d != 0) (Q (.tuple #[.agg #[.int .i64 h.num, .int .i64 h.code, .int .i64 h.ser, .int .i64 h.port, .int .i64 h.time, .int .i64 h.kind, .bool h.more, .int .i64 h.key.1, .int .i64 h.key.2.1, .int .i64 h.key.2.2, .slice ac nc cc, .slice al nl cl, .slice ae ne ce, .slice ap np cp, .slice ah nh ch], .bool false]) a) (∀ (e : Option Addr) (f : Nat) (g : Mem), a.le g -> RowM g e f 1 x -> Ct Tryz.prog (fnv 55) #[.slice e n f] g fun v i => ∃ j k l o, v = .tuple #[.slice j k l, .bool o] /\ Br (!o) (Q (.tuple #[.agg #[.int .i64 h.num, .int .i64 h.code, .int .i64 h.ser, .int .i64 h.port, .int .i64 h.time, .int .i64 h.kind, .bool h.more, .int .i64 h.key.1, .int .i64 h.key.2.1, .int .i64 h.key.2.2, .slice ac nc cc, .slice al nl cl, .slice ae ne ce, .slice ap np cp, .slice ah nh ch], .bool false]) i) (Br ((k : Int) != 3) (Q (.tuple #[.agg #[.int .i64 h.num, .int .i64 h.code, .int .i64 h.ser, .int .i64 h.port, .int .i64 h.time, .int .i64 h.kind, .bool h.more, .int .i64 h.key.1, .int .i64 h.key.2.1, .int .i64 h.key.2.2, .slice ac nc cc, .slice al nl cl, .slice ae ne ce, .slice ap np cp, .slice ah nh ch], .bool false]) i) ((0 : Int) <= 0 /\ 0 < (k : Int) /\ j.isSome = true /\ ∃ p, atI i j 0 = some (.int .i64 p) /\ (0 : Int) <= 1 /\ 1 < (k : Int) /\ j.isSome = true /\ ∃ q, atI i j 1 = some (.int .i64 q) /\ (0 : Int) <= 2 /\ 2 < (k : Int) /\ j.isSome = true /\ ∃ r, atI i j 2 = some (.int .i64 r) /\ Q (.tuple #[.agg #[.int .i64 h.num, .int .i64 h.code, .int .i64 h.ser, .int .i64 h.port, .int .i64 h.time, .int .i64 h.kind, .bool h.more, .int .i64 p, .int .i64 q, .int .i64 r, .slice ac nc cc, .slice al nl cl, .slice ae ne ce, .slice ap np cp, .slice ah nh ch], .bool true]) i)))) (by kernel_rfl) ?_
 have fail : ∀ J, I.le J -> (∀ R, okRs R -> rightS R = true -> (8, bs) ∈ allF R -> False) -> Q (.tuple #[.agg (rfV h ⟨.slice ac nc cc, .slice al nl cl, .slice ae ne ce, .slice ap np cp, .slice ah nh ch⟩).toArray, .bool false]) J := fun J lJ H => by
  rw [hQ]
  exact ⟨h, _, false, rfl, hM0.mono lJ, hh, hs, (fun h => by cases h), fun R a b c => (H R a b c).elim⟩
 have good : ∀ R, okRs R -> rightS R = true -> (8, bs) ∈ allF R -> ∃ L, L = [R.key.1, R.key.2.1, R.key.2.2] /\ bs = numsF L /\ ∀ x ∈ L, 0 <= x /\ i64R x := fun R hR hr hk => by
  obtain ⟨⟨p1, p2, p3, p4, p5, p6, p7, p8, p9⟩, q1, q2, q3, q4⟩ := right_nn hR hr;obtain ⟨b1, b2, b3, b4, b5, b6, b7, b8, b9, b10, b11, b12, b13, b14⟩ := fn_at hk
  have hp : ∀ x ∈ [R.key.1, R.key.2.1, R.key.2.2], 0 <= x /\ i64R x := fun x hx => by
   simp only [List.mem_cons, List.not_mem_nil, or_false] at hx
   rcases hx with rfl | rfl | rfl
   · exact ⟨p7, hR.key.1⟩
   · exact ⟨p8, hR.key.2.1⟩
   · exact ⟨p9, hR.key.2.2⟩
  exact ⟨_, rfl, by rw [b8 rfl, forms_nums hp], hp⟩
 refine (cts_new2 (sz := 1) (el := 85) (by omega) (ct53L bs hbs b m c I hb (by omega) hmc)).mono fun sv H' J0 l0 ⟨xs, n, w, hsv, hH, ⟨hnx, l, e, hxs, hw, hll, hlr, hgd⟩⟩ => ?_
 subst hxs hw;have hml := hb.numLen
 have G : ∀ R, okRs R -> rightS R = true -> (8, bs) ∈ allF R -> e = 0 /\ l = [R.key.1, R.key.2.1, R.key.2.2] /\ ∀ x ∈ l, 0 <= x /\ i64R x := fun R hR hr hk => by
  obtain ⟨L, hL, hb, hp⟩ := good R hR hr hk;obtain ⟨h1, h2⟩ := hgd L (fun x hx => u64_of (hp x hx).1 (hp x hx).2) hb
  exact ⟨h1, by rw [h2, hL], by rw [h2]; exact hp⟩
 refine ⟨n, e, _, hsv, hH, Br.mk (fun he => fail _ l0 fun R hR hr hk => ?_) (fun he => ?_)⟩
 · rw [(G R hR hr hk).1] at he; cases he
 intro e1 f1 J1 l1 hrow
 have hnl : n = l.length := by rw [ints_len] at hnx; omega
 refine ints_call hlr hrow hnl (by omega) (fun j k c J l2 hx => ⟨_, _, _, _, rfl, Br.t rfl (fail _ (Mem.le_trans l0 (Mem.le_trans l1 l2)) fun R hR hr hk => ?_)⟩) (fun j k c J l2 hpos hsl hk hkc hcm2 hN2 => ⟨_, _, _, _, rfl, Br.f rfl ?_⟩)
 · obtain ⟨x, hx, hx2⟩ := hx
   have := ((G R hR hr hk).2.2 x hx).2.2;omega
 have l02 := Mem.le_trans l0 (Mem.le_trans l1 l2);refine Br.mk (fun h1 => fail _ l02 fun R hR hr hk' => ?_) (fun h1 => ?_)
 · have := (G R hR hr hk').2.1
   rw [hk, this] at h1; cases h1
 have h1 : (k : Int) = 3 := by simpa using h1
 obtain ⟨z1, z2, z3, rfl⟩ : ∃ z1 z2 z3, l = [z1, z2, z3] := by
  match l, hk with
  | [z1, z2, z3], _ => exact ⟨z1, z2, z3, rfl⟩
  | [], hk => simp at hk; omega
  | [_], hk => simp at hk; omega
  | [_, _], hk => simp at hk; omega
  | _ :: _ :: _ :: _ :: _, hk => simp at hk; omega
 have hs3 := hsl.isSome (by omega)
 refine ⟨by omega, by omega, hs3, z1, hsl.at_ 0 _ rfl, by omega, by omega, hs3, z2, hsl.at_ 1 _ rfl, by omega, by omega, hs3, z3, hsl.at_ 2 _ rfl, ?_⟩
 rw [hQ]
 refine ⟨{ h with key := (z1, z2, z3) }, ⟨.slice ac nc cc, .slice al nl cl, .slice ae ne ce, .slice ap np cp, .slice ah nh ch⟩, true, rfl, ⟨(hM0.mono l02).c, (hM0.mono l02).l, (hM0.mono l02).e, (hM0.mono l02).p, (hM0.mono l02).h⟩, { hh with key := ⟨(hpos z1 (by simp)).2, (hpos z2 (by simp)).2, (hpos z3 (by simp)).2⟩ }, { hs with }, fun _ => nilF_up hN ⟨rfl, rfl⟩ ⟨rfl, rfl⟩ ⟨rfl, rfl⟩, fun R hR hr hk' => ⟨rfl, ?_⟩⟩
 have := (G R hR hr hk').2.1;simp only [List.cons.injEq, and_true] at this;obtain ⟨t1, t2, t3⟩ := this
 rw [t1, t2, t3]; rfl
theorem ct20_9 (h : Rs) (hh : okRf h) (hs : smallF h) (y : Ys) (I : Mem) (hM : RfM I h y) (bs : List Int) (hbs : byteL bs) (b : Option Addr) (m c : Nat) (hb : SlM I b m 1 (ints .u8 bs)) (hmc : m <= c) (hcm : c <= maxLen) (hm : m <= 20000) (hN : NilF 9 h y) :
 Ct Tryz.prog (fnv 20) #[.agg (rfV h y).toArray, .agg #[.int .i64 9, .slice b m c]] I (fun v I' => RdP h 9 bs I' v) := by
 obtain ⟨Q, hQ⟩ : ∃ f : Value -> Mem -> Prop, f = fun v I' => RdP h 9 bs I' v := ⟨_, rfl⟩
 show Ct Tryz.prog (fnv 20) #[_, _] I (fun v I' => (fun v I' => RdP h 9 bs I' v) v I')
 rw [<- hQ];have hM0 := hM;obtain ⟨⟨ac, nc, cc, hyc, hc, hcc, hcm'⟩, ⟨al, nl, cl, hyl, hl, hlc, hlm⟩, ⟨ae, ne, ce, hye, he, hec, hem⟩, ⟨ap, np, cp, hyp, hp, hpc, hpm⟩, ⟨ah, nh, ch, hyh, hh', hhc, hhm⟩⟩ := hM;obtain ⟨yc, yl, ye, yp, yh⟩ := y
 simp only at hyc hyl hye hyp hyh
 subst hyc hyl hye hyp hyh
 refine viaR (ct_via (A := { calls := [(33, .lend [] (.tup [.row 0, .sh (.int .i64)]) [.row 1 85])] }) Tryz.func20 rfl Tryz.call20 rfl rfl) (CtS Tryz.prog (.v (fnv 53)) [.v (.slice b m c)] [] I fun s H a => ∃ n d x, s = .tup [.rsl 0 n, .v (.int .i64 d)] /\ H = [⟨.row x 1 85, none⟩] /\ Br (d != 0) (Q (.tuple #[.agg #[.int .i64 h.num, .int .i64 h.code, .int .i64 h.ser, .int .i64 h.port, .int .i64 h.time, .int .i64 h.kind, .bool h.more, .int .i64 h.key.1, .int .i64 h.key.2.1, .int .i64 h.key.2.2, .slice ac nc cc, .slice al nl cl, .slice ae ne ce, .slice ap np cp, .slice ah nh ch], .bool false]) a) (∀ (e : Option Addr) (f : Nat) (g : Mem), a.le g -> RowM g e f 1 x -> Ct Tryz.prog (fnv 55) #[.slice e n f] g fun v i => ∃ j k l o, v = .tuple #[.slice j k l, .bool o] /\ Br (!o) (Q (.tuple #[.agg #[.int .i64 h.num, .int .i64 h.code, .int .i64 h.ser, .int .i64 h.port, .int .i64 h.time, .int .i64 h.kind, .bool h.more, .int .i64 h.key.1, .int .i64 h.key.2.1, .int .i64 h.key.2.2, .slice ac nc cc, .slice al nl cl, .slice ae ne ce, .slice ap np cp, .slice ah nh ch], .bool false]) i) (Q (.tuple #[.agg #[.int .i64 h.num, .int .i64 h.code, .int .i64 h.ser, .int .i64 h.port, .int .i64 h.time, .int .i64 h.kind, .bool h.more, .int .i64 h.key.1, .int .i64 h.key.2.1, .int .i64 h.key.2.2, .slice j k l, .slice al nl cl, .slice ae ne ce, .slice ap np cp, .slice ah nh ch], .bool true]) i))) (by kernel_rfl) ?_
 have fail : ∀ J, I.le J -> (∀ R, okRs R -> rightS R = true -> (9, bs) ∈ allF R -> False) -> Q (.tuple #[.agg (rfV h ⟨.slice ac nc cc, .slice al nl cl, .slice ae ne ce, .slice ap np cp, .slice ah nh ch⟩).toArray, .bool false]) J := fun J lJ H => by
  rw [hQ]
  exact ⟨h, _, false, rfl, hM0.mono lJ, hh, hs, (fun h => by cases h), fun R a b c => (H R a b c).elim⟩
 have good : ∀ R, okRs R -> rightS R = true -> (9, bs) ∈ allF R -> ∃ L, L = R.counts /\ bs = numsF L /\ ∀ x ∈ L, 0 <= x /\ i64R x := fun R hR hr hk => by
  obtain ⟨⟨p1, p2, p3, p4, p5, p6, p7, p8, p9⟩, q1, q2, q3, q4⟩ := right_nn hR hr;obtain ⟨b1, b2, b3, b4, b5, b6, b7, b8, b9, b10, b11, b12, b13, b14⟩ := fn_at hk;have hp : ∀ x ∈ R.counts, 0 <= x /\ i64R x := fun x hx => ⟨q1 x hx, hR.counts x hx⟩;refine ⟨_, rfl, ?_, hp⟩;rw [b9 rfl, <- forms_nums hp, numF_fm]
 refine (cts_new2 (sz := 1) (el := 85) (by omega) (ct53L bs hbs b m c I hb (by omega) hmc)).mono fun sv H' J0 l0 ⟨xs, n, w, hsv, hH, ⟨hnx, l, e, hxs, hw, hll, hlr, hgd⟩⟩ => ?_
 subst hxs hw;have hml := hb.numLen
 have G : ∀ R, okRs R -> rightS R = true -> (9, bs) ∈ allF R -> e = 0 /\ l = R.counts /\ ∀ x ∈ l, 0 <= x /\ i64R x := fun R hR hr hk => by
  obtain ⟨L, hL, hb, hp⟩ := good R hR hr hk;obtain ⟨h1, h2⟩ := hgd L (fun x hx => u64_of (hp x hx).1 (hp x hx).2) hb
  exact ⟨h1, by rw [h2, hL], by rw [h2]; exact hp⟩
 refine ⟨n, e, _, hsv, hH, Br.mk (fun he => fail _ l0 fun R hR hr hk => ?_) (fun he => ?_)⟩
 · rw [(G R hR hr hk).1] at he; cases he
 intro e1 f1 J1 l1 hrow
 have hnl : n = l.length := by rw [ints_len] at hnx; omega
 refine ints_call hlr hrow hnl (by omega) (fun j k c J l2 hx => ⟨_, _, _, _, rfl, Br.t rfl (fail _ (Mem.le_trans l0 (Mem.le_trans l1 l2)) fun R hR hr hk => ?_)⟩) (fun j k c J l2 hpos hsl hk hkc hcm2 hN2 => ⟨_, _, _, _, rfl, Br.f rfl ?_⟩)
 · obtain ⟨x, hx, hx2⟩ := hx
   have := ((G R hR hr hk).2.2 x hx).2.2;omega
 have l02 := Mem.le_trans l0 (Mem.le_trans l1 l2);rw [hQ]
 refine ⟨{ h with counts := l }, ⟨.slice j k c, .slice al nl cl, .slice ae ne ce, .slice ap np cp, .slice ah nh ch⟩, true, rfl, ⟨⟨_, _, _, rfl, by rw [fm_ints]; exact hsl, hkc, hcm2⟩, (hM0.mono l02).l, (hM0.mono l02).e, (hM0.mono l02).p, (hM0.mono l02).h⟩, { hh with counts := fun x hx => (hpos x hx).2 }, { hs with counts := by simp only; omega }, fun _ => nilF_up hN ⟨rfl, rfl⟩ ⟨rfl, rfl⟩ ⟨rfl, rfl⟩, fun R hR hr hk' => ⟨rfl, ?_⟩⟩
 rw [(G R hR hr hk').2.1]; rfl
theorem ct20_12 (h : Rs) (hh : okRf h) (hs : smallF h) (y : Ys) (I : Mem) (hM : RfM I h y) (bs : List Int) (hbs : byteL bs) (b : Option Addr) (m c : Nat) (hb : SlM I b m 1 (ints .u8 bs)) (hmc : m <= c) (hcm : c <= maxLen) (hm : m <= 20000) (hN : NilF 12 h y) :
 Ct Tryz.prog (fnv 20) #[.agg (rfV h y).toArray, .agg #[.int .i64 12, .slice b m c]] I (fun v I' => RdP h 12 bs I' v) := by
 obtain ⟨Q, hQ⟩ : ∃ f : Value -> Mem -> Prop, f = fun v I' => RdP h 12 bs I' v := ⟨_, rfl⟩
 show Ct Tryz.prog (fnv 20) #[_, _] I (fun v I' => (fun v I' => RdP h 12 bs I' v) v I')
 rw [<- hQ];have hM0 := hM;obtain ⟨⟨ac, nc, cc, hyc, hc, hcc, hcm'⟩, ⟨al, nl, cl, hyl, hl, hlc, hlm⟩, ⟨ae, ne, ce, hye, he, hec, hem⟩, ⟨ap, np, cp, hyp, hp, hpc, hpm⟩, ⟨ah, nh, ch, hyh, hh', hhc, hhm⟩⟩ := hM;obtain ⟨yc, yl, ye, yp, yh⟩ := y
 simp only at hyc hyl hye hyp hyh
 subst hyc hyl hye hyp hyh
 refine viaR (ct_via (A := {  }) Tryz.func20 rfl Tryz.call20 rfl rfl) (Ct Tryz.prog (fnv 52) #[.slice b m c] I fun v a => ∃ d n e f, v = .tuple #[.slice d n e, .bool f] /\ Q (.tuple #[.agg #[.int .i64 h.num, .int .i64 h.code, .int .i64 h.ser, .int .i64 h.port, .int .i64 h.time, .int .i64 h.kind, .bool h.more, .int .i64 h.key.1, .int .i64 h.key.2.1, .int .i64 h.key.2.2, .slice ac nc cc, .slice al nl cl, .slice ae ne ce, .slice d n e, .slice ah nh ch], .bool f]) a) (by kernel_rfl) ?_
 refine (ct52 bs hbs b m c I hb (by omega) hmc hcm).mono fun v J l ⟨sl, ok, P, hv, ⟨a, n, e, hsl, hs1, hs2, hs3⟩, hPl, hP, hG⟩ => ?_
 subst hsl;have hml := hb.numLen;refine ⟨a, n, e, ok, hv, ?_⟩;rw [hQ]
 refine ⟨{ h with ports := P }, ⟨.slice ac nc cc, .slice al nl cl, .slice ae ne ce, .slice a n e, .slice ah nh ch⟩, ok, rfl, ⟨(hM0.mono l).c, (hM0.mono l).l, (hM0.mono l).e, ⟨_, _, _, rfl, hs1, hs2, hs3⟩, (hM0.mono l).h⟩, { hh with ports := fun x hx => (hP x hx).1 }, { hs with ports := by simp only; omega, names := fun x hx => by have := (hP x hx).2; omega }, fun _ => nilF_up hN ⟨rfl, rfl⟩ ⟨rfl, rfl⟩ ⟨rfl, rfl⟩, fun R hR hr hk' => ?_⟩
 obtain ⟨_, _, _, q3, _⟩ := right_nn hR hr;obtain ⟨h1, h2⟩ := hG R.ports q3 ((fn_at hk').2.2.2.2.2.2.2.2.2.2.2.1 rfl)
 exact ⟨h1, by rw [h2]; rfl⟩
theorem ct20_14 (h : Rs) (hh : okRf h) (hs : smallF h) (y : Ys) (I : Mem) (hM : RfM I h y) (t : Int) (ht : 14 <= t /\ t <= 200) (bs : List Int) (hbs : byteL bs) (b : Option Addr) (m c : Nat) (hb : SlM I b m 1 (ints .u8 bs)) (hmc : m <= c) (hcm : c <= maxLen) (hm : m <= 20000) (hN : NilF t h y) :
 Ct Tryz.prog (fnv 20) #[.agg (rfV h y).toArray, .agg #[.int .i64 t, .slice b m c]] I (fun v I' => RdP h t bs I' v) := by
 obtain ⟨Q, hQ⟩ : ∃ f : Value -> Mem -> Prop, f = fun v I' => RdP h t bs I' v := ⟨_, rfl⟩
 show Ct Tryz.prog (fnv 20) #[_, _] I (fun v I' => (fun v I' => RdP h t bs I' v) v I')
 rw [<- hQ];have hM0 := hM;obtain ⟨⟨ac, nc, cc, hyc, hc, hcc, hcm'⟩, ⟨al, nl, cl, hyl, hl, hlc, hlm⟩, ⟨ae, ne, ce, hye, he, hec, hem⟩, ⟨ap, np, cp, hyp, hp, hpc, hpm⟩, ⟨ah, nh, ch, hyh, hh', hhc, hhm⟩⟩ := hM;obtain ⟨yc, yl, ye, yp, yh⟩ := y
 simp only at hyc hyl hye hyp hyh
 subst hyc hyl hye hyp hyh
 refine viaR (ct_via (A := { cuts := [(8, ⟨[], [], [], fun _ _ _ _ => False, fun _ _ => 0⟩)], calls := [(33, .lend [] (.tup [.row 0, .sh (.int .i64)]) [.row 1 85])] }) Tryz.func20 rfl Tryz.call20 rfl rfl) (Br (t == 12) (Ct Tryz.prog (fnv 52) #[.slice b m c] I (fun v a => ∃ d n e f, v = .tuple #[.slice d n e, .bool f] /\ Q (.tuple #[.agg #[.int .i64 h.num, .int .i64 h.code, .int .i64 h.ser, .int .i64 h.port, .int .i64 h.time, .int .i64 h.kind, .bool h.more, .int .i64 h.key.1, .int .i64 h.key.2.1, .int .i64 h.key.2.2, .slice ac nc cc, .slice al nl cl, .slice ae ne ce, .slice d n e, .slice ah nh ch], .bool f]) a)) (CtS Tryz.prog (.v (fnv 53)) [.v (.slice b m c)] [] I (fun s H a => ∃ n d x, s = .tup [.rsl 0 n, .v (.int .i64 d)] /\ H = [⟨.row x 1 85, none⟩] /\ Br (d != 0) (Q (.tuple #[.agg #[.int .i64 h.num, .int .i64 h.code, .int .i64 h.ser, .int .i64 h.port, .int .i64 h.time, .int .i64 h.kind, .bool h.more, .int .i64 h.key.1, .int .i64 h.key.2.1, .int .i64 h.key.2.2, .slice ac nc cc, .slice al nl cl, .slice ae ne ce, .slice ap np cp, .slice ah nh ch], .bool false]) a) (Br (decide (13 < t)) (Q (.tuple #[.agg #[.int .i64 h.num, .int .i64 h.code, .int .i64 h.ser, .int .i64 h.port, .int .i64 h.time, .int .i64 h.kind, .bool h.more, .int .i64 h.key.1, .int .i64 h.key.2.1, .int .i64 h.key.2.2, .slice ac nc cc, .slice al nl cl, .slice ae ne ce, .slice ap np cp, .slice ah nh ch], .bool false]) a) False) /\ ∀ (e : Mem), Mem -> a.le e -> False -> False))) (by kernel_rfl) ?_
 have fail : ∀ J, I.le J -> Q (.tuple #[.agg (rfV h ⟨.slice ac nc cc, .slice al nl cl, .slice ae ne ce, .slice ap np cp, .slice ah nh ch⟩).toArray, .bool false]) J := fun J lJ => by
  rw [hQ]
  exact ⟨h, _, false, rfl, hM0.mono lJ, hh, hs, (fun h => by cases h), fun R a b hk => by have := (fn_at hk).2.2.2.2.2.2.2.2.2.2.2.2.2; omega⟩
 refine Br.f (by simp; omega) ?_
 refine (cts_new2 (sz := 1) (el := 85) (by omega) (ct53 bs hbs b m c I hb (by omega) hmc)).mono fun sv H' J0 l0 ⟨xs, n, w, hsv, hH, l, e, hxs, hw, hll, hlr, hgd⟩ => ?_
 subst hxs hw
 exact ⟨n, e, _, hsv, hH, Br.mk (fun he => fail _ l0) (fun he => Br.t (by simp; omega) (fail _ l0)), fun _ _ _ h => h⟩
set_option maxHeartbeats 1000000
theorem unfoldZ_rng {x : Int} (h : u64R x) : i64R (unfoldZ x) := by
 obtain ⟨h0, h1⟩ := h;unfold unfoldZ i64R
 split <;> omega
theorem ct20_10 (h : Rs) (hh : okRf h) (hs : smallF h) (y : Ys) (I : Mem) (hM : RfM I h y) (bs : List Int) (hbs : byteL bs) (b : Option Addr) (m c : Nat) (hb : SlM I b m 1 (ints .u8 bs)) (hmc : m <= c) (hcm : c <= maxLen) (hm : m <= 20000) (hN : NilF 10 h y) :
 Ct Tryz.prog (fnv 20) #[.agg (rfV h y).toArray, .agg #[.int .i64 10, .slice b m c]] I (fun v I' => RdP h 10 bs I' v) := by
 obtain ⟨Q, hQ⟩ : ∃ f : Value -> Mem -> Prop, f = fun v I' => RdP h 10 bs I' v := ⟨_, rfl⟩
 show Ct Tryz.prog (fnv 20) #[_, _] I (fun v I' => (fun v I' => RdP h 10 bs I' v) v I')
 rw [<- hQ];have hM0 := hM;obtain ⟨⟨ac, nc, cc, hyc, hc, hcc, hcm'⟩, ⟨al, nl, cl, hyl, hl, hlc, hlm⟩, ⟨ae, ne, ce, hye, he, hec, hem⟩, ⟨ap, np, cp, hyp, hp, hpc, hpm⟩, ⟨ah, nh, ch, hyh, hh', hhc, hhm⟩⟩ := hM;obtain ⟨yc, yl, ye, yp, yh⟩ := y
 simp only at hyc hyl hye hyp hyh
 have hz : yl = .slice none 0 0 := (hN.1 (by omega)).1
 clear hyl hl hlc hlm
 subst hyc hz hye hyp hyh;obtain ⟨AI, hAI⟩ : ∃ f : Int -> List Value -> Prop, f = fun (g : Int) f => 0 <= g /\ g <= 20000 /\ ∃ V : List Int, f = ints .i64 V /\ (V.length : Int) = g /\ (∀ x ∈ V, i64R x) /\ ∀ R, okRs R -> rightS R = true -> (10, bs) ∈ allF R -> V = R.cells.take g.toNat := ⟨_, rfl⟩
 refine viaR (ct_via (A := { calls := [(33, .lend [] (.tup [.row 0, .sh (.int .i64)]) [.row 1 85])], loops := [(10, ⟨[(2, .keep), (3, .keep), (4, .keep), (8, .keep), (9, .keep), (10, .sh (.int .i64))], [(0, .cells [.keep, .keep, .keep, .keep, .keep, .keep, .keep, .keep, .keep, .keep, .keep, .row 4, .keep, .keep, .keep]), (1, .keep), (2, .keep), (3, .keep), (4, .row)], [(2, 11001, 2)], fun vals xss _ _ => match vals, xss with | [.int .i64 j], [xs] => AI j xs | _, _ => False, fun vals _ => match vals with | [.int .i64 j] => (100000000 - j).toNat | _ => 0⟩)] }) Tryz.func20 rfl Tryz.call20 rfl rfl) (let E1 := Ent.mk (.cells [.v (.int .i64 0), .v (.int .i64 0), .v (.int .i64 0), .v (.int .i64 0), .v (.int .i64 0), .v (.int .i64 0), .v (.bool false), .v (.int .i64 0), .v (.int .i64 0), .v (.int .i64 0), .v (.slice none 0 0), .v (.slice none 0 0), .v (.slice none 0 0), .v (.slice none 0 0), .v (.slice none 0 0)] 41) none
  CtS Tryz.prog (.v (fnv 53)) [.v (.slice b m c)] [] I fun s H a => ∃ n d x, s = .tup [.rsl 0 n, .v (.int .i64 d)] /\ H = [⟨.row x 1 85, none⟩] /\ Br (d != 0) (Q (.tuple #[.agg #[.int .i64 h.num, .int .i64 h.code, .int .i64 h.ser, .int .i64 h.port, .int .i64 h.time, .int .i64 h.kind, .bool h.more, .int .i64 h.key.1, .int .i64 h.key.2.1, .int .i64 h.key.2.2, .slice ac nc cc, .slice none 0 0, .slice ae ne ce, .slice ap np cp, .slice ah nh ch], .bool false]) a) ((Rf (Ent.mk (.cells [.v (.int .i64 10), .v (.slice b m c)] 65) none) /\ Rf E1 /\ Rf (Ent.mk (.row x 1 85) none) /\ Rf (SV.ptr 0 0) /\ Rf (SV.ptr 1 0) /\ Rf (SV.ptr 2 0) /\ Rf (SV.rsl 3 n) /\ Rf (SV.v (.int .i64 d)) /\ Rf (none : Option Nat) /\ Rf (SV.v (.int .i64 h.num)) /\ Rf (SV.v (.int .i64 h.code)) /\ Rf (SV.v (.int .i64 h.ser)) /\ Rf (SV.v (.int .i64 h.port)) /\ Rf (SV.v (.int .i64 h.time)) /\ Rf (SV.v (.int .i64 h.kind)) /\ Rf (SV.v (.bool h.more)) /\ Rf (SV.v (.int .i64 h.key.1)) /\ Rf (SV.v (.int .i64 h.key.2.1)) /\ Rf (SV.v (.int .i64 h.key.2.2)) /\ Rf (SV.v (.slice ac nc cc)) /\ (0 : Nat) = 0 /\ Rf (SV.v (.slice ae ne ce)) /\ Rf (SV.v (.slice ap np cp)) /\ Rf (SV.v (.slice ah nh ch)) /\ AI 0 []) /\ ∀ (e : Mem), Mem -> a.le e -> ∀ (f : List Value) (g : Int), AI g f -> Br (decide (g < (n : Int))) (0 <= g /\ g < (n : Int) /\ n * 1 <= x.length /\ ∃ i, x[g.toNat * 1 + 0]? = some (.int .u64 i) /\ Ct Tryz.prog (fnv 54) #[.int .u64 i] e fun v j => ∃ k, v = .int .i64 k /\ f.length = f.length * 1 /\ f.length + 1 <= 9223372036854775807 /\ (f.length + 1) * 8 <= 140737488355328 /\ Wr .i64 (g + 1) fun l => Rf (Ent.mk (.cells [.v (.int .i64 10), .v (.slice b m c)] 65) none) /\ Rf E1 /\ Rf (Ent.mk (.row x 1 85) none) /\ Rf (SV.ptr 0 0) /\ Rf (SV.ptr 1 0) /\ Rf (SV.ptr 2 0) /\ Rf (SV.rsl 3 n) /\ Rf (SV.v (.int .i64 d)) /\ Rf (none : Option Nat) /\ Rf (SV.v (.int .i64 h.num)) /\ Rf (SV.v (.int .i64 h.code)) /\ Rf (SV.v (.int .i64 h.ser)) /\ Rf (SV.v (.int .i64 h.port)) /\ Rf (SV.v (.int .i64 h.time)) /\ Rf (SV.v (.int .i64 h.kind)) /\ Rf (SV.v (.bool h.more)) /\ Rf (SV.v (.int .i64 h.key.1)) /\ Rf (SV.v (.int .i64 h.key.2.1)) /\ Rf (SV.v (.int .i64 h.key.2.2)) /\ Rf (SV.v (.slice ac nc cc)) /\ f.length + 1 = List.length (f ++ [.int .i64 k]) /\ Rf (SV.v (.slice ae ne ce)) /\ Rf (SV.v (.slice ap np cp)) /\ Rf (SV.v (.slice ah nh ch)) /\ AI l (f ++ [.int .i64 k]) /\ Int.toNat (100000000 - l) < Int.toNat (100000000 - g)) (∀ (i : Option Addr) (j : Nat) (k : Mem), e.le k -> RowM k i j 1 f -> Q (.tuple #[.agg #[.int .i64 h.num, .int .i64 h.code, .int .i64 h.ser, .int .i64 h.port, .int .i64 h.time, .int .i64 h.kind, .bool h.more, .int .i64 h.key.1, .int .i64 h.key.2.1, .int .i64 h.key.2.2, .slice ac nc cc, .slice i f.length j, .slice ae ne ce, .slice ap np cp, .slice ah nh ch], .bool true]) k))) (by kernel_rfl) ?_
 intro E1;simp only [Rf, eq_self, true_and]
 have hz2 : h.cells = [] := (hN.1 (by omega)).2
 have fail : ∀ J, I.le J -> (∀ R, okRs R -> rightS R = true -> (10, bs) ∈ allF R -> False) -> Q (.tuple #[.agg (rfV h ⟨.slice ac nc cc, .slice none 0 0, .slice ae ne ce, .slice ap np cp, .slice ah nh ch⟩).toArray, .bool false]) J := fun J lJ H => by
  rw [hQ]
  exact ⟨h, _, false, rfl, hM0.mono lJ, hh, hs, (fun h => by cases h), fun R a b c => (H R a b c).elim⟩
 have good : ∀ R, okRs R -> rightS R = true -> (10, bs) ∈ allF R -> ∃ L, L = R.cells.map foldZ /\ bs = numsF L /\ ∀ x ∈ L, u64R x := fun R hR hr hk => by
  obtain ⟨⟨p1, p2, p3, p4, p5, p6, p7, p8, p9⟩, q1, q2, q3, q4⟩ := right_nn hR hr;obtain ⟨b1, b2, b3, b4, b5, b6, b7, b8, b9, b10, b11, b12, b13, b14⟩ := fn_at hk
  have e1 : bs = numsF (R.cells.map foldZ) := by
   rw [b10 rfl]
   have : ∀ l : List Int, l.flatMap celF = numsF (l.map foldZ) := fun l => by
    induction l with
    | nil => rfl
    | cons x l ih => rw [List.flatMap_cons, ih, List.map_cons, nums_cons]; rfl
   exact this _
  exact ⟨_, rfl, e1, fun x hx => by
   obtain ⟨y, hy, rfl⟩ := List.mem_map.1 hx;exact foldZ_range (hR.cells y hy)⟩
 refine (cts_new2 (sz := 1) (el := 85) (by omega) (ct53L bs hbs b m c I hb (by omega) hmc)).mono fun sv H' J0 l0 ⟨xs, n, w, hsv, hH, ⟨hnx, l, e, hxs, hw, hll, hlr, hgd⟩⟩ => ?_
 subst hxs hw;have hml := hb.numLen
 have G : ∀ R, okRs R -> rightS R = true -> (10, bs) ∈ allF R -> e = 0 /\ l = R.cells.map foldZ := fun R hR hr hk => by
  obtain ⟨L, hL, hb, hp⟩ := good R hR hr hk;obtain ⟨h1, h2⟩ := hgd L hp hb
  exact ⟨h1, by rw [h2, hL]⟩
 have hnl : n = l.length := by rw [ints_len] at hnx; omega
 refine ⟨n, e, _, hsv, hH, Br.mk (fun he => fail _ l0 fun R hR hr hk => ?_) (fun he => ?_)⟩
 · rw [(G R hR hr hk).1] at he; cases he
 refine ⟨by rw [hAI]; exact ⟨by omega, by omega, [], rfl, rfl, (fun x hx => by cases hx), fun R _ _ _ => rfl⟩, fun J _ lJ f g hg => ?_⟩
 rw [hAI] at hg;obtain ⟨g0, g1, V, rfl, hVl, hVr, hVR⟩ := hg;have hfl : (ints .i64 V).length = V.length := ints_len;refine Br.mk (fun hlt => ?_) (fun hge => ?_)
 · have hlt := of_decide_eq_true hlt
   obtain ⟨x, hx⟩ : ∃ x, l[g.toNat]? = some x := ⟨_, List.getElem?_eq_getElem (by omega)⟩
   have hxr := hlr x (List.mem_of_getElem? hx)
   refine ⟨g0, hlt, by rw [ints_len]; omega, x, by rw [Nat.mul_one, Nat.add_zero]; exact ints_get hx, (ct54 x hxr J).mono fun v J1 l1 hv => ⟨_, hv, by omega, by omega, by omega, wr_i64 (by omega) (by omega) ⟨by rw [List.length_append]; rfl, ?_, by omega⟩⟩⟩
   rw [hAI]
   refine ⟨by omega, by omega, V ++ [unfoldZ x], ints_snoc, by rw [List.length_append, List.length_singleton]; omega, fun y hy => ?_, fun R hR hr hk => ?_⟩
   · rcases List.mem_append.1 hy with hy | hy
     · exact hVr y hy
     · rw [List.mem_singleton.1 hy]; exact unfoldZ_rng hxr
   · have hG := (G R hR hr hk).2
     rw [hG, List.getElem?_map] at hx;obtain ⟨z, hz, hzx⟩ := Option.map_eq_some_iff.1 hx
     rw [hVR R hR hr hk, <- hzx, unfold_fold (hR.cells z (List.mem_of_getElem? hz)), show (g + 1).toNat = g.toNat + 1 by omega, List.take_add_one, hz]
     rfl
 have hge := of_decide_eq_false hge;intro i j K lK hrow;rw [hQ]
 refine ⟨{ h with cells := V }, ⟨.slice ac nc cc, .slice i (ints .i64 V).length j, .slice ae ne ce, .slice ap np cp, .slice ah nh ch⟩, true, rfl, ?_, { hh with cells := hVr }, { hs with cells := by simp only; omega }, fun _ => ⟨fun h => by omega, fun _ => hN.2.1 (by omega), fun _ => hN.2.2 (by omega)⟩, fun R hR hr hk => ⟨rfl, ?_⟩⟩
 · have hM1 := hM0.mono (Mem.le_trans l0 (Mem.le_trans lJ lK))
   refine ⟨hM1.c, ?_, hM1.e, hM1.p, hM1.h⟩;simp only [fm_ints]
   exact row_lst hrow (by omega) (by rw [Nat.mul_one])
 · have hG := (G R hR hr hk).2
   have : V = R.cells := by rw [hVR R hR hr hk, List.take_of_length_le (by have := congrArg List.length hG; rw [List.length_map] at this; omega)]
   rw [this]; rfl
