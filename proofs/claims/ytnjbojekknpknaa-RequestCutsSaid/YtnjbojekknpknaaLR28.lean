/- Part of a proof by the rules of the symbolic walk (see the law's own text): contracts of functions of the program. -/
import Derived.Test.YtnjbojekknpknaaLR23
import Derived.Test.YtnjbojekknpknaaLR19
import Derived.Test.YtnjbojekknpknaaSe23
open Go Go.Proofs Go.SE Go.RowKit
set_option linter.unusedVariables false
theorem cs30 (xs : List Int) (a : Option Addr) (n c : Nat) (I : Mem) (h : SlM I a n 1 (ints .u8 xs)) (hn : n ≤ 1000000) :
    CtS Try.prog (.v (fnv 30)) [.v (.slice a n c)] [] I (fun sv H' _ => sv = .rsl 0 n ∧ H' = [⟨.row (ints .u8 xs) 1 5, none⟩]) := by
  have hln := h.numLen
  by_cases ha : a = none
  · subst ha
    have hn := h.nil rfl
    subst hn
    have hx : xs = [] := List.eq_nil_of_length_eq_zero hln.symm
    subst hx
    refine ctS_nil (args := [.slice none 0 c]) (sz := 1) (el := 5) (by omega) ?_
    refine viaR (ct_via (A := { }) Try.func30 rfl Try.call30 rfl rfl) (Value.slice none (0 : Nat) (0 : Nat) = Value.slice none (0 : Nat) (0 : Nat)) (by kernel_rfl) ?_
    rfl
  · have ha' := ha
    refine viaR (ctS_via (A := { calls := [(4, .val false)] }) Try.func30 rfl Try.call30 [0] rfl) (Br (Option.isNone a) False (∃ (ys : List Value), List.length ys = n * (1 : Nat) ∧ (a = none → n = (0 : Nat)) ∧ (∀ (j : Nat) (v : Value), ys[j]? = some v → atI I a j = some v) ∧ (∀ (v : Value), v ∈ ys → Value.oneCell' v = true) ∧ (0 : Nat) = (0 : Nat) ∧ (0 : Nat) + n ≤ (9223372036854775807 : Nat) ∧ ((0 : Nat) + n) * (1 : Nat) ≤ (140737488355328 : Nat) ∧ SV.rsl (0 : Nat) ((0 : Nat) + n) = SV.rsl (0 : Nat) n ∧ [Ent.mk (EO.row ys (1 : Nat) (5 : Nat)) none] = [Ent.mk (EO.row (List.map (Value.int IntKind.u8) xs) (1 : Nat) (5 : Nat)) none])) (by kernel_rfl) ?_
    refine Br.mk (fun h0 => absurd (by simpa using h0) ha) (fun _ => ⟨ints .u8 xs, h.len, h.nil, h.at_, one_ints, rfl, by omega, by omega, by rw [Nat.zero_add], rfl⟩)
theorem cs25 (xs : List Int) (a : Option Addr) (n c : Nat) (I : Mem) (h : SlM I a n 1 (ints .u8 xs)) (hn : n ≤ 1000000) :
    CtS Try.prog (.v (fnv 25)) [.v (.slice a n c)] [] I (fun sv H' _ => sv = .rsl 0 n ∧ H' = [⟨.row (ints .u8 xs) 1 5, none⟩]) := by
  have hln := h.numLen
  by_cases ha : a = none
  · subst ha
    have hn := h.nil rfl
    subst hn
    have hx : xs = [] := List.eq_nil_of_length_eq_zero hln.symm
    subst hx
    refine ctS_nil (args := [.slice none 0 c]) (sz := 1) (el := 5) (by omega) ?_
    refine viaR (ct_via (A := { }) Try.func25 rfl Try.call25 rfl rfl) (Value.slice none (0 : Nat) (0 : Nat) = Value.slice none (0 : Nat) (0 : Nat)) (by kernel_rfl) ?_
    rfl
  · have ha' := ha
    refine viaR (ctS_via (A := { calls := [(4, .val false)] }) Try.func25 rfl Try.call25 [0] rfl) (Br (Option.isNone a) False (∃ (ys : List Value), List.length ys = n * (1 : Nat) ∧ (a = none → n = (0 : Nat)) ∧ (∀ (j : Nat) (v : Value), ys[j]? = some v → atI I a j = some v) ∧ (∀ (v : Value), v ∈ ys → Value.oneCell' v = true) ∧ (0 : Nat) = (0 : Nat) ∧ (0 : Nat) + n ≤ (9223372036854775807 : Nat) ∧ ((0 : Nat) + n) * (1 : Nat) ≤ (140737488355328 : Nat) ∧ SV.rsl (0 : Nat) ((0 : Nat) + n) = SV.rsl (0 : Nat) n ∧ [Ent.mk (EO.row ys (1 : Nat) (5 : Nat)) none] = [Ent.mk (EO.row (List.map (Value.int IntKind.u8) xs) (1 : Nat) (5 : Nat)) none])) (by kernel_rfl) ?_
    refine Br.mk (fun h0 => absurd (by simpa using h0) ha) (fun _ => ⟨ints .u8 xs, h.len, h.nil, h.at_, one_ints, rfl, by omega, by omega, by rw [Nat.zero_add], rfl⟩)
theorem cs23 (r : Rq) (y : Value) (I : Mem) (hy : BySl I y r.fed) (hfl : r.fed.length ≤ 1000000) :
    CtS Try.prog (.v (fnv 23)) [.v (.agg (rqV r y).toArray)] [] I (fun sv H' _ => sv = .agg [.v (.int .u8 r.kind), .v (.int .u8 r.what), .v (.string r.name), .v (.int .i64 r.p3), .v (.int .i64 r.p4), .v (.int .i64 r.p5), .v (.int .i64 r.p6), .v (.int .i64 r.p7), .v (.int .i64 r.p8), .v (.int .i64 r.p9), .v (.int .i64 r.val), .rsl 0 r.fed.length] ∧ H' = [⟨.row (ints .u8 r.fed) 1 5, none⟩]) := by
  obtain ⟨a1, n1, c1, rfl, hs1, hc1, hm1⟩ := hy
  refine viaR (ctS_via (A := { calls := [(5, .lend [] (.row 0) [.row 1 5])] }) Try.func23 rfl Try.call23 [2] rfl) (CtS Try.prog (SV.v (Value.func (Fn.func (30 : Nat)) #[] #[])) [SV.v (Value.slice a1 n1 c1)] [] I fun (sv : SV) (H' : List Ent) (I' : Mem) => ∃ (n : Nat), ∃ (xs : List Value), sv = SV.rsl (0 : Nat) n ∧ H' = [Ent.mk (EO.row xs (1 : Nat) (5 : Nat)) none] ∧ SV.agg [SV.v (Value.int IntKind.u8 (Rq.kind r)), SV.v (Value.int IntKind.u8 (Rq.what r)), SV.v (Value.string (Rq.name r)), SV.v (Value.int IntKind.i64 (Rq.p3 r)), SV.v (Value.int IntKind.i64 (Rq.p4 r)), SV.v (Value.int IntKind.i64 (Rq.p5 r)), SV.v (Value.int IntKind.i64 (Rq.p6 r)), SV.v (Value.int IntKind.i64 (Rq.p7 r)), SV.v (Value.int IntKind.i64 (Rq.p8 r)), SV.v (Value.int IntKind.i64 (Rq.p9 r)), SV.v (Value.int IntKind.i64 (Rq.val r)), SV.rsl (0 : Nat) n] = SV.agg [SV.v (Value.int IntKind.u8 (Rq.kind r)), SV.v (Value.int IntKind.u8 (Rq.what r)), SV.v (Value.string (Rq.name r)), SV.v (Value.int IntKind.i64 (Rq.p3 r)), SV.v (Value.int IntKind.i64 (Rq.p4 r)), SV.v (Value.int IntKind.i64 (Rq.p5 r)), SV.v (Value.int IntKind.i64 (Rq.p6 r)), SV.v (Value.int IntKind.i64 (Rq.p7 r)), SV.v (Value.int IntKind.i64 (Rq.p8 r)), SV.v (Value.int IntKind.i64 (Rq.p9 r)), SV.v (Value.int IntKind.i64 (Rq.val r)), SV.rsl (0 : Nat) (List.length (Rq.fed r))] ∧ [Ent.mk (EO.row xs (1 : Nat) (5 : Nat)) none] = [Ent.mk (EO.row (List.map (Value.int IntKind.u8) (Rq.fed r)) (1 : Nat) (5 : Nat)) none]) (by kernel_rfl) ?_
  have hln := hs1.numLen
  refine (cs30 r.fed a1 n1 c1 I hs1 (by omega)).mono fun sv H' I' _ ⟨h1, h2⟩ => ⟨n1, ints .u8 r.fed, h1, h2, by rw [hln], rfl⟩
