/- Part of a proof by the rules of the symbolic walk (see the law's own text): contracts of functions of the program. -/
import Derived.Test.YthfgpdjplknleaaGreatDoorG6
import Derived.Test.YthfgpdjplknleaaGreatDoorG5
set_option linter.unusedVariables false
set_option linter.unusedSimpArgs false
open Go Go.Proofs Go.SE Go.RowKit
set_option linter.unusedVariables false
set_option maxRecDepth 100000
def tagsQ (ws : List ByteArray) : List Int := (tagL (qKind ws) (qWhat ws)).getD []
def AskJ (ws : List ByteArray) (I : Mem) (j : Int) (cs : List Value) : Prop :=
 ∃ (r : Rq) (y : Value), 0 <= j /\ j <= (tagsQ ws).length /\ cs = rqV r y /\ BySl I y r.fed /\ runQ (tagsQ ws) (ws.drop 1) (q0 ws) = runQ ((tagsQ ws).drop j.toNat) ((ws.drop 1).drop j.toNat) r
set_option maxHeartbeats 4000000 in
theorem ct88 (ws : List ByteArray) (hws : ∀ w ∈ ws, w.size <= 1000000) (hne : ws ≠ []) (v : Value) (I : Mem) (h : WsL I v ws) :
 Ct Tryz.prog (fnv 88) #[v] I (fun u I' => ∃ y, u = .tuple #[.agg (rqV (askQW ws).1 y).toArray, .bool (askQW ws).2] /\ BySl I' y (askQW ws).1.fed) := by
 obtain ⟨p, n, c, rfl, hp, hpc, hpm⟩ := h;obtain ⟨Q, hQ⟩ : ∃ q : Value -> Mem -> Prop, q = fun u I' => ∃ y, u = .tuple #[.agg (rqV (askQW ws).1 y).toArray, .bool (askQW ws).2] /\ BySl I' y (askQW ws).1.fed := ⟨_, rfl⟩;obtain ⟨AI, hAI⟩ : ∃ f, f = AskJ ws := ⟨_, rfl⟩;obtain ⟨KW, hKW⟩ : ∃ f : Int -> Int -> Prop, f = fun k q => k = qKind ws /\ q = qWhat ws := ⟨_, rfl⟩;rw [<- hQ]
 refine viaR (ct_via (A := { cuts := [(4, ⟨[(0, .keep), (2, .keep), (4, .keep)], [(0, .keep), (1, .cells [.sh (.int .u8), .sh (.int .u8), .keep, .keep, .keep, .keep, .keep, .keep, .keep, .keep, .keep, .keep])], [], fun vals _ _ _ => match vals with | [.int .u8 k, .int .u8 q] => KW k q | _ => False, fun _ _ => 0⟩)], loops := [(8, ⟨[(0, .keep), (2, .keep), (4, .keep), (5, .keep), (7, .sh (.int .i64))], [(0, .keep), (1, .cells cellsA)], [], fun vals _ I' _ => match vals with | .int .i64 j :: cs => AI I' j cs | _ => False, fun vals _ => match vals with | .int .i64 j :: _ => (100 - j).toNat | _ => 0⟩)] }) Tryz.func88 rfl Tryz.call88 rfl rfl) (let E2 := SV.v (.int .i64 0)
  let E3 := SV.v (.slice none 0 0)
  let E1 := Ent.mk (.cells [.v (.int .u8 0), .v (.int .u8 0), .v (.string ⟨#[]⟩), E2, E2, E2, E2, E2, E2, E2, E2, E3] 78) none
  (0 : Int) <= 0 /\ 0 < (n : Int) /\ p.isSome = true /\ ∃ (q : ByteArray), atI I p 0 = some (.string q) /\ Ct Tryz.prog (fnv 92) #[] I (fun (v : Value) (a : Mem) => ∃ (b : Option Addr) (d e : Nat), v = .slice b d e /\ Ct Tryz.prog (fnv 120) #[.slice b d e, .string q] a (fun (f : Value) (g : Mem) => ∃ (h : Int), f = .int .u8 h /\ Br (h == 7) (Br (decide (1 < (n : Int))) ((0 : Int) <= 1 /\ 1 < (n : Int) /\ p.isSome = true /\ ∃ (i : ByteArray), atI g p 1 = some (.string i) /\ Ct Tryz.prog (fnv 94) #[] g fun (j : Value) (k : Mem) => ∃ (l : Option Addr) (m o : Nat), j = .slice l m o /\ Ct Tryz.prog (fnv 120) #[.slice l m o, .string i] k fun (r : Value) (s : Mem) => ∃ (t : Int), r = .int .u8 t /\ Rf E1 /\ Rf (SV.v (.slice p n c)) /\ Rf (SV.ptr 0 0) /\ Rf (SV.ptr 1 0) /\ Rf (none : Option Nat) /\ Rf (SV.v (.string ⟨#[]⟩)) /\ Rf E2 /\ Rf E2 /\ Rf E2 /\ Rf E2 /\ Rf E2 /\ Rf E2 /\ Rf E2 /\ Rf E2 /\ Rf E3 /\ KW h t) (Rf E1 /\ Rf (SV.v (.slice p n c)) /\ Rf (SV.ptr 0 0) /\ Rf (SV.ptr 1 0) /\ Rf (none : Option Nat) /\ Rf (SV.v (.string ⟨#[]⟩)) /\ Rf E2 /\ Rf E2 /\ Rf E2 /\ Rf E2 /\ Rf E2 /\ Rf E2 /\ Rf E2 /\ Rf E2 /\ Rf E3 /\ KW h 0)) (Rf E1 /\ Rf (SV.v (.slice p n c)) /\ Rf (SV.ptr 0 0) /\ Rf (SV.ptr 1 0) /\ Rf (none : Option Nat) /\ Rf (SV.v (.string ⟨#[]⟩)) /\ Rf E2 /\ Rf E2 /\ Rf E2 /\ Rf E2 /\ Rf E2 /\ Rf E2 /\ Rf E2 /\ Rf E2 /\ Rf E3 /\ KW h 0) /\ ∀ (i : Mem), Mem -> g.le i -> ∀ (j k : Int), KW j k -> Ct Tryz.prog (fnv 93) #[.int .u8 j, .int .u8 k] i fun (l : Value) (m : Mem) => ∃ (o : Option Addr) (r s : Nat) (t : Bool), l = .tuple #[.slice o r s, .bool t] /\ Br (!t) (Q (.tuple #[.agg #[.int .u8 j, .int .u8 k, .string ⟨#[]⟩, .int .i64 0, .int .i64 0, .int .i64 0, .int .i64 0, .int .i64 0, .int .i64 0, .int .i64 0, .int .i64 0, .slice none 0 0], .bool false]) m) (Wr .i64 ((n : Int) - 1) (fun (u : Int) => Br ((r : Int) != u) (Q (.tuple #[.agg #[.int .u8 j, .int .u8 k, .string ⟨#[]⟩, .int .i64 0, .int .i64 0, .int .i64 0, .int .i64 0, .int .i64 0, .int .i64 0, .int .i64 0, .int .i64 0, .slice none 0 0], .bool false]) m) ((Rf E1 /\ Rf (SV.v (.slice p n c)) /\ Rf (SV.ptr 0 0) /\ Rf (SV.ptr 1 0) /\ Rf (SV.v (.slice o r s)) /\ Rf (none : Option Nat) /\ AI m 0 [.int .u8 j, .int .u8 k, .string ⟨#[]⟩, .int .i64 0, .int .i64 0, .int .i64 0, .int .i64 0, .int .i64 0, .int .i64 0, .int .i64 0, .int .i64 0, .slice none 0 0]) /\ ∀ (w : Mem), Mem -> m.le w -> ∀ (x y z : Int) (q1 : ByteArray) (n1 n2 n3 n4 n5 n6 n7 n8 : Int) (a1 : Option Addr) (n9 c1 : Nat), AI w x [.int .u8 y, .int .u8 z, .string q1, .int .i64 n1, .int .i64 n2, .int .i64 n3, .int .i64 n4, .int .i64 n5, .int .i64 n6, .int .i64 n7, .int .i64 n8, .slice a1 n9 c1] -> Br (decide (x < (r : Int))) (Wr .i64 (x + 1) (fun (c2 : Int) => 0 <= c2 /\ c2 < (n : Int) /\ p.isSome = true /\ ∃ (q2 : ByteArray), atI w p (c2.toNat * 1 + 0) = some (.string q2) /\ 0 <= x /\ x < (r : Int) /\ o.isSome = true /\ ∃ (n10 : Int), atI w o (x.toNat * 1 + 0) = some (.int .i64 n10) /\ Br (n10 == 2) (Br (decide (0 < (q2.size : Int))) (∃ (c3 : UInt8), q2.data.toList[0]? = some c3 /\ (0 : Int) <= 0 /\ Br ((c3.toNat : Int) == 37) (Ct Tryz.prog (fnv 87) #[.string q2] w (fun (v1 : Value) (I1 : Mem) => ∃ (a2 : Option Addr) (n11 c4 : Nat), v1 = .slice a2 n11 c4 /\ ∃ (q3 : List UInt8), q3.length = n11 /\ (a2 = none -> n11 = 0) /\ (∀ (j1 : Nat) (b1 : UInt8), q3[j1]? = some b1 -> atI I1 a2 j1 = some (.int .u8 (b1.toNat : Int))) /\ Wr .i64 (x + 1) fun (c5 : Int) => Rf E1 /\ Rf (SV.v (.slice p n c)) /\ Rf (SV.ptr 0 0) /\ Rf (SV.ptr 1 0) /\ Rf (SV.v (.slice o r s)) /\ Rf (none : Option Nat) /\ AI I1 c5 [.int .u8 y, .int .u8 z, .string ⟨q3.toArray⟩, .int .i64 n1, .int .i64 n2, .int .i64 n3, .int .i64 n4, .int .i64 n5, .int .i64 n6, .int .i64 n7, .int .i64 n8, .slice a1 n9 c1] /\ Int.toNat (100 - c5) < Int.toNat (100 - x))) (Wr .i64 (x + 1) (fun (c4 : Int) => Rf E1 /\ Rf (SV.v (.slice p n c)) /\ Rf (SV.ptr 0 0) /\ Rf (SV.ptr 1 0) /\ Rf (SV.v (.slice o r s)) /\ Rf (none : Option Nat) /\ AI w c4 [.int .u8 y, .int .u8 z, .string q2, .int .i64 n1, .int .i64 n2, .int .i64 n3, .int .i64 n4, .int .i64 n5, .int .i64 n6, .int .i64 n7, .int .i64 n8, .slice a1 n9 c1] /\ Int.toNat (100 - c4) < Int.toNat (100 - x)))) (Wr .i64 (x + 1) (fun (c3 : Int) => Rf E1 /\ Rf (SV.v (.slice p n c)) /\ Rf (SV.ptr 0 0) /\ Rf (SV.ptr 1 0) /\ Rf (SV.v (.slice o r s)) /\ Rf (none : Option Nat) /\ AI w c3 [.int .u8 y, .int .u8 z, .string q2, .int .i64 n1, .int .i64 n2, .int .i64 n3, .int .i64 n4, .int .i64 n5, .int .i64 n6, .int .i64 n7, .int .i64 n8, .slice a1 n9 c1] /\ Int.toNat (100 - c3) < Int.toNat (100 - x)))) (Br (n10 == 3) (Ct Tryz.prog (fnv 86) #[.string q2] w (fun (v1 : Value) (I1 : Mem) => ∃ (n11 : Int), v1 = .int .i64 n11 /\ Wr .i64 (x + 1) fun (c3 : Int) => Rf E1 /\ Rf (SV.v (.slice p n c)) /\ Rf (SV.ptr 0 0) /\ Rf (SV.ptr 1 0) /\ Rf (SV.v (.slice o r s)) /\ Rf (none : Option Nat) /\ AI I1 c3 [.int .u8 y, .int .u8 z, .string q1, .int .i64 n11, .int .i64 n2, .int .i64 n3, .int .i64 n4, .int .i64 n5, .int .i64 n6, .int .i64 n7, .int .i64 n8, .slice a1 n9 c1] /\ Int.toNat (100 - c3) < Int.toNat (100 - x))) (Br (n10 == 4) (Ct Tryz.prog (fnv 86) #[.string q2] w (fun (v1 : Value) (I1 : Mem) => ∃ (n11 : Int), v1 = .int .i64 n11 /\ Wr .i64 (x + 1) fun (c3 : Int) => Rf E1 /\ Rf (SV.v (.slice p n c)) /\ Rf (SV.ptr 0 0) /\ Rf (SV.ptr 1 0) /\ Rf (SV.v (.slice o r s)) /\ Rf (none : Option Nat) /\ AI I1 c3 [.int .u8 y, .int .u8 z, .string q1, .int .i64 n1, .int .i64 n11, .int .i64 n3, .int .i64 n4, .int .i64 n5, .int .i64 n6, .int .i64 n7, .int .i64 n8, .slice a1 n9 c1] /\ Int.toNat (100 - c3) < Int.toNat (100 - x))) (Br (n10 == 5) (Ct Tryz.prog (fnv 86) #[.string q2] w (fun (v1 : Value) (I1 : Mem) => ∃ (n11 : Int), v1 = .int .i64 n11 /\ Wr .i64 (x + 1) fun (c3 : Int) => Rf E1 /\ Rf (SV.v (.slice p n c)) /\ Rf (SV.ptr 0 0) /\ Rf (SV.ptr 1 0) /\ Rf (SV.v (.slice o r s)) /\ Rf (none : Option Nat) /\ AI I1 c3 [.int .u8 y, .int .u8 z, .string q1, .int .i64 n1, .int .i64 n2, .int .i64 n11, .int .i64 n4, .int .i64 n5, .int .i64 n6, .int .i64 n7, .int .i64 n8, .slice a1 n9 c1] /\ Int.toNat (100 - c3) < Int.toNat (100 - x))) (Br (n10 == 6) (Ct Tryz.prog (fnv 86) #[.string q2] w (fun (v1 : Value) (I1 : Mem) => ∃ (n11 : Int), v1 = .int .i64 n11 /\ Wr .i64 (x + 1) fun (c3 : Int) => Rf E1 /\ Rf (SV.v (.slice p n c)) /\ Rf (SV.ptr 0 0) /\ Rf (SV.ptr 1 0) /\ Rf (SV.v (.slice o r s)) /\ Rf (none : Option Nat) /\ AI I1 c3 [.int .u8 y, .int .u8 z, .string q1, .int .i64 n1, .int .i64 n2, .int .i64 n3, .int .i64 n11, .int .i64 n5, .int .i64 n6, .int .i64 n7, .int .i64 n8, .slice a1 n9 c1] /\ Int.toNat (100 - c3) < Int.toNat (100 - x))) (Br (n10 == 7) (Ct Tryz.prog (fnv 86) #[.string q2] w (fun (v1 : Value) (I1 : Mem) => ∃ (n11 : Int), v1 = .int .i64 n11 /\ Wr .i64 (x + 1) fun (c3 : Int) => Rf E1 /\ Rf (SV.v (.slice p n c)) /\ Rf (SV.ptr 0 0) /\ Rf (SV.ptr 1 0) /\ Rf (SV.v (.slice o r s)) /\ Rf (none : Option Nat) /\ AI I1 c3 [.int .u8 y, .int .u8 z, .string q1, .int .i64 n1, .int .i64 n2, .int .i64 n3, .int .i64 n4, .int .i64 n11, .int .i64 n6, .int .i64 n7, .int .i64 n8, .slice a1 n9 c1] /\ Int.toNat (100 - c3) < Int.toNat (100 - x))) (Br (n10 == 8) (Ct Tryz.prog (fnv 86) #[.string q2] w (fun (v1 : Value) (I1 : Mem) => ∃ (n11 : Int), v1 = .int .i64 n11 /\ Wr .i64 (x + 1) fun (c3 : Int) => Rf E1 /\ Rf (SV.v (.slice p n c)) /\ Rf (SV.ptr 0 0) /\ Rf (SV.ptr 1 0) /\ Rf (SV.v (.slice o r s)) /\ Rf (none : Option Nat) /\ AI I1 c3 [.int .u8 y, .int .u8 z, .string q1, .int .i64 n1, .int .i64 n2, .int .i64 n3, .int .i64 n4, .int .i64 n5, .int .i64 n11, .int .i64 n7, .int .i64 n8, .slice a1 n9 c1] /\ Int.toNat (100 - c3) < Int.toNat (100 - x))) (Br (n10 == 9) (Ct Tryz.prog (fnv 86) #[.string q2] w (fun (v1 : Value) (I1 : Mem) => ∃ (n11 : Int), v1 = .int .i64 n11 /\ Wr .i64 (x + 1) fun (c3 : Int) => Rf E1 /\ Rf (SV.v (.slice p n c)) /\ Rf (SV.ptr 0 0) /\ Rf (SV.ptr 1 0) /\ Rf (SV.v (.slice o r s)) /\ Rf (none : Option Nat) /\ AI I1 c3 [.int .u8 y, .int .u8 z, .string q1, .int .i64 n1, .int .i64 n2, .int .i64 n3, .int .i64 n4, .int .i64 n5, .int .i64 n6, .int .i64 n11, .int .i64 n8, .slice a1 n9 c1] /\ Int.toNat (100 - c3) < Int.toNat (100 - x))) (Br (n10 == 10) (Ct Tryz.prog (fnv 86) #[.string q2] w (fun (v1 : Value) (I1 : Mem) => ∃ (n11 : Int), v1 = .int .i64 n11 /\ Wr .i64 (x + 1) fun (c3 : Int) => Rf E1 /\ Rf (SV.v (.slice p n c)) /\ Rf (SV.ptr 0 0) /\ Rf (SV.ptr 1 0) /\ Rf (SV.v (.slice o r s)) /\ Rf (none : Option Nat) /\ AI I1 c3 [.int .u8 y, .int .u8 z, .string q1, .int .i64 n1, .int .i64 n2, .int .i64 n3, .int .i64 n4, .int .i64 n5, .int .i64 n6, .int .i64 n7, .int .i64 n11, .slice a1 n9 c1] /\ Int.toNat (100 - c3) < Int.toNat (100 - x))) (Br (n10 == 11) (Ct Tryz.prog (fnv 87) #[.string q2] w (fun (v1 : Value) (I1 : Mem) => ∃ (a2 : Option Addr) (n11 c3 : Nat), v1 = .slice a2 n11 c3 /\ Wr .i64 (x + 1) fun (c4 : Int) => Rf E1 /\ Rf (SV.v (.slice p n c)) /\ Rf (SV.ptr 0 0) /\ Rf (SV.ptr 1 0) /\ Rf (SV.v (.slice o r s)) /\ Rf (none : Option Nat) /\ AI I1 c4 [.int .u8 y, .int .u8 z, .string q1, .int .i64 n1, .int .i64 n2, .int .i64 n3, .int .i64 n4, .int .i64 n5, .int .i64 n6, .int .i64 n7, .int .i64 n8, .slice a2 n11 c3] /\ Int.toNat (100 - c4) < Int.toNat (100 - x))) (Wr .i64 (x + 1) (fun (c3 : Int) => Rf E1 /\ Rf (SV.v (.slice p n c)) /\ Rf (SV.ptr 0 0) /\ Rf (SV.ptr 1 0) /\ Rf (SV.v (.slice o r s)) /\ Rf (none : Option Nat) /\ AI w c3 [.int .u8 y, .int .u8 z, .string q1, .int .i64 n1, .int .i64 n2, .int .i64 n3, .int .i64 n4, .int .i64 n5, .int .i64 n6, .int .i64 n7, .int .i64 n8, .slice a1 n9 c1] /\ Int.toNat (100 - c3) < Int.toNat (100 - x)))))))))))))) (Q (.tuple #[.agg #[.int .u8 y, .int .u8 z, .string q1, .int .i64 n1, .int .i64 n2, .int .i64 n3, .int .i64 n4, .int .i64 n5, .int .i64 n6, .int .i64 n7, .int .i64 n8, .slice a1 n9 c1], .bool true]) w))))) /\ Ct Tryz.prog (fnv 120) #[.slice b d e, .string q] a fun (f : Value) (g : Mem) => ∃ (h : Int), f = .int .u8 h /\ Br (h == 7) (Br (decide (1 < (n : Int))) ((0 : Int) <= 1 /\ 1 < (n : Int) /\ p.isSome = true /\ ∃ (i : ByteArray), atI g p 1 = some (.string i) /\ Ct Tryz.prog (fnv 94) #[] g fun (j : Value) (k : Mem) => ∃ (l : Option Addr) (m o : Nat), j = .slice l m o /\ Ct Tryz.prog (fnv 120) #[.slice l m o, .string i] k fun (r : Value) (s : Mem) => ∃ (t : Int), r = .int .u8 t /\ Rf E1 /\ Rf (SV.v (.slice p n c)) /\ Rf (SV.ptr 0 0) /\ Rf (SV.ptr 1 0) /\ Rf (none : Option Nat) /\ Rf (SV.v (.string ⟨#[]⟩)) /\ Rf E2 /\ Rf E2 /\ Rf E2 /\ Rf E2 /\ Rf E2 /\ Rf E2 /\ Rf E2 /\ Rf E2 /\ Rf E3 /\ KW h t) (Rf E1 /\ Rf (SV.v (.slice p n c)) /\ Rf (SV.ptr 0 0) /\ Rf (SV.ptr 1 0) /\ Rf (none : Option Nat) /\ Rf (SV.v (.string ⟨#[]⟩)) /\ Rf E2 /\ Rf E2 /\ Rf E2 /\ Rf E2 /\ Rf E2 /\ Rf E2 /\ Rf E2 /\ Rf E2 /\ Rf E3 /\ KW h 0)) (Rf E1 /\ Rf (SV.v (.slice p n c)) /\ Rf (SV.ptr 0 0) /\ Rf (SV.ptr 1 0) /\ Rf (none : Option Nat) /\ Rf (SV.v (.string ⟨#[]⟩)) /\ Rf E2 /\ Rf E2 /\ Rf E2 /\ Rf E2 /\ Rf E2 /\ Rf E2 /\ Rf E2 /\ Rf E2 /\ Rf E3 /\ KW h 0) /\ ∀ (i : Mem), Mem -> g.le i -> ∀ (j k : Int), KW j k -> Ct Tryz.prog (fnv 93) #[.int .u8 j, .int .u8 k] i fun (l : Value) (m : Mem) => ∃ (o : Option Addr) (r s : Nat) (t : Bool), l = .tuple #[.slice o r s, .bool t] /\ Br (!t) (Q (.tuple #[.agg #[.int .u8 j, .int .u8 k, .string ⟨#[]⟩, .int .i64 0, .int .i64 0, .int .i64 0, .int .i64 0, .int .i64 0, .int .i64 0, .int .i64 0, .int .i64 0, .slice none 0 0], .bool false]) m) (Wr .i64 ((n : Int) - 1) (fun (u : Int) => Br ((r : Int) != u) (Q (.tuple #[.agg #[.int .u8 j, .int .u8 k, .string ⟨#[]⟩, .int .i64 0, .int .i64 0, .int .i64 0, .int .i64 0, .int .i64 0, .int .i64 0, .int .i64 0, .int .i64 0, .slice none 0 0], .bool false]) m) ((Rf E1 /\ Rf (SV.v (.slice p n c)) /\ Rf (SV.ptr 0 0) /\ Rf (SV.ptr 1 0) /\ Rf (SV.v (.slice o r s)) /\ Rf (none : Option Nat) /\ AI m 0 [.int .u8 j, .int .u8 k, .string ⟨#[]⟩, .int .i64 0, .int .i64 0, .int .i64 0, .int .i64 0, .int .i64 0, .int .i64 0, .int .i64 0, .int .i64 0, .slice none 0 0]) /\ ∀ (w : Mem), Mem -> m.le w -> ∀ (x y z : Int) (q1 : ByteArray) (n1 n2 n3 n4 n5 n6 n7 n8 : Int) (a1 : Option Addr) (n9 c1 : Nat), AI w x [.int .u8 y, .int .u8 z, .string q1, .int .i64 n1, .int .i64 n2, .int .i64 n3, .int .i64 n4, .int .i64 n5, .int .i64 n6, .int .i64 n7, .int .i64 n8, .slice a1 n9 c1] -> Br (decide (x < (r : Int))) (Wr .i64 (x + 1) (fun (c2 : Int) => 0 <= c2 /\ c2 < (n : Int) /\ p.isSome = true /\ ∃ (q2 : ByteArray), atI w p (c2.toNat * 1 + 0) = some (.string q2) /\ 0 <= x /\ x < (r : Int) /\ o.isSome = true /\ ∃ (n10 : Int), atI w o (x.toNat * 1 + 0) = some (.int .i64 n10) /\ Br (n10 == 2) (Br (decide (0 < (q2.size : Int))) (∃ (c3 : UInt8), q2.data.toList[0]? = some c3 /\ (0 : Int) <= 0 /\ Br ((c3.toNat : Int) == 37) (Ct Tryz.prog (fnv 87) #[.string q2] w (fun (v1 : Value) (I1 : Mem) => ∃ (a2 : Option Addr) (n11 c4 : Nat), v1 = .slice a2 n11 c4 /\ ∃ (q3 : List UInt8), q3.length = n11 /\ (a2 = none -> n11 = 0) /\ (∀ (j1 : Nat) (b1 : UInt8), q3[j1]? = some b1 -> atI I1 a2 j1 = some (.int .u8 (b1.toNat : Int))) /\ Wr .i64 (x + 1) fun (c5 : Int) => Rf E1 /\ Rf (SV.v (.slice p n c)) /\ Rf (SV.ptr 0 0) /\ Rf (SV.ptr 1 0) /\ Rf (SV.v (.slice o r s)) /\ Rf (none : Option Nat) /\ AI I1 c5 [.int .u8 y, .int .u8 z, .string ⟨q3.toArray⟩, .int .i64 n1, .int .i64 n2, .int .i64 n3, .int .i64 n4, .int .i64 n5, .int .i64 n6, .int .i64 n7, .int .i64 n8, .slice a1 n9 c1] /\ Int.toNat (100 - c5) < Int.toNat (100 - x))) (Wr .i64 (x + 1) (fun (c4 : Int) => Rf E1 /\ Rf (SV.v (.slice p n c)) /\ Rf (SV.ptr 0 0) /\ Rf (SV.ptr 1 0) /\ Rf (SV.v (.slice o r s)) /\ Rf (none : Option Nat) /\ AI w c4 [.int .u8 y, .int .u8 z, .string q2, .int .i64 n1, .int .i64 n2, .int .i64 n3, .int .i64 n4, .int .i64 n5, .int .i64 n6, .int .i64 n7, .int .i64 n8, .slice a1 n9 c1] /\ Int.toNat (100 - c4) < Int.toNat (100 - x)))) (Wr .i64 (x + 1) (fun (c3 : Int) => Rf E1 /\ Rf (SV.v (.slice p n c)) /\ Rf (SV.ptr 0 0) /\ Rf (SV.ptr 1 0) /\ Rf (SV.v (.slice o r s)) /\ Rf (none : Option Nat) /\ AI w c3 [.int .u8 y, .int .u8 z, .string q2, .int .i64 n1, .int .i64 n2, .int .i64 n3, .int .i64 n4, .int .i64 n5, .int .i64 n6, .int .i64 n7, .int .i64 n8, .slice a1 n9 c1] /\ Int.toNat (100 - c3) < Int.toNat (100 - x)))) (Br (n10 == 3) (Ct Tryz.prog (fnv 86) #[.string q2] w (fun (v1 : Value) (I1 : Mem) => ∃ (n11 : Int), v1 = .int .i64 n11 /\ Wr .i64 (x + 1) fun (c3 : Int) => Rf E1 /\ Rf (SV.v (.slice p n c)) /\ Rf (SV.ptr 0 0) /\ Rf (SV.ptr 1 0) /\ Rf (SV.v (.slice o r s)) /\ Rf (none : Option Nat) /\ AI I1 c3 [.int .u8 y, .int .u8 z, .string q1, .int .i64 n11, .int .i64 n2, .int .i64 n3, .int .i64 n4, .int .i64 n5, .int .i64 n6, .int .i64 n7, .int .i64 n8, .slice a1 n9 c1] /\ Int.toNat (100 - c3) < Int.toNat (100 - x))) (Br (n10 == 4) (Ct Tryz.prog (fnv 86) #[.string q2] w (fun (v1 : Value) (I1 : Mem) => ∃ (n11 : Int), v1 = .int .i64 n11 /\ Wr .i64 (x + 1) fun (c3 : Int) => Rf E1 /\ Rf (SV.v (.slice p n c)) /\ Rf (SV.ptr 0 0) /\ Rf (SV.ptr 1 0) /\ Rf (SV.v (.slice o r s)) /\ Rf (none : Option Nat) /\ AI I1 c3 [.int .u8 y, .int .u8 z, .string q1, .int .i64 n1, .int .i64 n11, .int .i64 n3, .int .i64 n4, .int .i64 n5, .int .i64 n6, .int .i64 n7, .int .i64 n8, .slice a1 n9 c1] /\ Int.toNat (100 - c3) < Int.toNat (100 - x))) (Br (n10 == 5) (Ct Tryz.prog (fnv 86) #[.string q2] w (fun (v1 : Value) (I1 : Mem) => ∃ (n11 : Int), v1 = .int .i64 n11 /\ Wr .i64 (x + 1) fun (c3 : Int) => Rf E1 /\ Rf (SV.v (.slice p n c)) /\ Rf (SV.ptr 0 0) /\ Rf (SV.ptr 1 0) /\ Rf (SV.v (.slice o r s)) /\ Rf (none : Option Nat) /\ AI I1 c3 [.int .u8 y, .int .u8 z, .string q1, .int .i64 n1, .int .i64 n2, .int .i64 n11, .int .i64 n4, .int .i64 n5, .int .i64 n6, .int .i64 n7, .int .i64 n8, .slice a1 n9 c1] /\ Int.toNat (100 - c3) < Int.toNat (100 - x))) (Br (n10 == 6) (Ct Tryz.prog (fnv 86) #[.string q2] w (fun (v1 : Value) (I1 : Mem) => ∃ (n11 : Int), v1 = .int .i64 n11 /\ Wr .i64 (x + 1) fun (c3 : Int) => Rf E1 /\ Rf (SV.v (.slice p n c)) /\ Rf (SV.ptr 0 0) /\ Rf (SV.ptr 1 0) /\ Rf (SV.v (.slice o r s)) /\ Rf (none : Option Nat) /\ AI I1 c3 [.int .u8 y, .int .u8 z, .string q1, .int .i64 n1, .int .i64 n2, .int .i64 n3, .int .i64 n11, .int .i64 n5, .int .i64 n6, .int .i64 n7, .int .i64 n8, .slice a1 n9 c1] /\ Int.toNat (100 - c3) < Int.toNat (100 - x))) (Br (n10 == 7) (Ct Tryz.prog (fnv 86) #[.string q2] w (fun (v1 : Value) (I1 : Mem) => ∃ (n11 : Int), v1 = .int .i64 n11 /\ Wr .i64 (x + 1) fun (c3 : Int) => Rf E1 /\ Rf (SV.v (.slice p n c)) /\ Rf (SV.ptr 0 0) /\ Rf (SV.ptr 1 0) /\ Rf (SV.v (.slice o r s)) /\ Rf (none : Option Nat) /\ AI I1 c3 [.int .u8 y, .int .u8 z, .string q1, .int .i64 n1, .int .i64 n2, .int .i64 n3, .int .i64 n4, .int .i64 n11, .int .i64 n6, .int .i64 n7, .int .i64 n8, .slice a1 n9 c1] /\ Int.toNat (100 - c3) < Int.toNat (100 - x))) (Br (n10 == 8) (Ct Tryz.prog (fnv 86) #[.string q2] w (fun (v1 : Value) (I1 : Mem) => ∃ (n11 : Int), v1 = .int .i64 n11 /\ Wr .i64 (x + 1) fun (c3 : Int) => Rf E1 /\ Rf (SV.v (.slice p n c)) /\ Rf (SV.ptr 0 0) /\ Rf (SV.ptr 1 0) /\ Rf (SV.v (.slice o r s)) /\ Rf (none : Option Nat) /\ AI I1 c3 [.int .u8 y, .int .u8 z, .string q1, .int .i64 n1, .int .i64 n2, .int .i64 n3, .int .i64 n4, .int .i64 n5, .int .i64 n11, .int .i64 n7, .int .i64 n8, .slice a1 n9 c1] /\ Int.toNat (100 - c3) < Int.toNat (100 - x))) (Br (n10 == 9) (Ct Tryz.prog (fnv 86) #[.string q2] w (fun (v1 : Value) (I1 : Mem) => ∃ (n11 : Int), v1 = .int .i64 n11 /\ Wr .i64 (x + 1) fun (c3 : Int) => Rf E1 /\ Rf (SV.v (.slice p n c)) /\ Rf (SV.ptr 0 0) /\ Rf (SV.ptr 1 0) /\ Rf (SV.v (.slice o r s)) /\ Rf (none : Option Nat) /\ AI I1 c3 [.int .u8 y, .int .u8 z, .string q1, .int .i64 n1, .int .i64 n2, .int .i64 n3, .int .i64 n4, .int .i64 n5, .int .i64 n6, .int .i64 n11, .int .i64 n8, .slice a1 n9 c1] /\ Int.toNat (100 - c3) < Int.toNat (100 - x))) (Br (n10 == 10) (Ct Tryz.prog (fnv 86) #[.string q2] w (fun (v1 : Value) (I1 : Mem) => ∃ (n11 : Int), v1 = .int .i64 n11 /\ Wr .i64 (x + 1) fun (c3 : Int) => Rf E1 /\ Rf (SV.v (.slice p n c)) /\ Rf (SV.ptr 0 0) /\ Rf (SV.ptr 1 0) /\ Rf (SV.v (.slice o r s)) /\ Rf (none : Option Nat) /\ AI I1 c3 [.int .u8 y, .int .u8 z, .string q1, .int .i64 n1, .int .i64 n2, .int .i64 n3, .int .i64 n4, .int .i64 n5, .int .i64 n6, .int .i64 n7, .int .i64 n11, .slice a1 n9 c1] /\ Int.toNat (100 - c3) < Int.toNat (100 - x))) (Br (n10 == 11) (Ct Tryz.prog (fnv 87) #[.string q2] w (fun (v1 : Value) (I1 : Mem) => ∃ (a2 : Option Addr) (n11 c3 : Nat), v1 = .slice a2 n11 c3 /\ Wr .i64 (x + 1) fun (c4 : Int) => Rf E1 /\ Rf (SV.v (.slice p n c)) /\ Rf (SV.ptr 0 0) /\ Rf (SV.ptr 1 0) /\ Rf (SV.v (.slice o r s)) /\ Rf (none : Option Nat) /\ AI I1 c4 [.int .u8 y, .int .u8 z, .string q1, .int .i64 n1, .int .i64 n2, .int .i64 n3, .int .i64 n4, .int .i64 n5, .int .i64 n6, .int .i64 n7, .int .i64 n8, .slice a2 n11 c3] /\ Int.toNat (100 - c4) < Int.toNat (100 - x))) (Wr .i64 (x + 1) (fun (c3 : Int) => Rf E1 /\ Rf (SV.v (.slice p n c)) /\ Rf (SV.ptr 0 0) /\ Rf (SV.ptr 1 0) /\ Rf (SV.v (.slice o r s)) /\ Rf (none : Option Nat) /\ AI w c3 [.int .u8 y, .int .u8 z, .string q1, .int .i64 n1, .int .i64 n2, .int .i64 n3, .int .i64 n4, .int .i64 n5, .int .i64 n6, .int .i64 n7, .int .i64 n8, .slice a1 n9 c1] /\ Int.toNat (100 - c3) < Int.toNat (100 - x)))))))))))))) (Q (.tuple #[.agg #[.int .u8 y, .int .u8 z, .string q1, .int .i64 n1, .int .i64 n2, .int .i64 n3, .int .i64 n4, .int .i64 n5, .int .i64 n6, .int .i64 n7, .int .i64 n8, .slice a1 n9 c1], .bool true]) w))))) /\ Ct Tryz.prog (fnv 92) #[] I fun (v : Value) (a : Mem) => ∃ (b : Option Addr) (d e : Nat), v = .slice b d e /\ Ct Tryz.prog (fnv 120) #[.slice b d e, .string q] a fun (f : Value) (g : Mem) => ∃ (h : Int), f = .int .u8 h /\ Br (h == 7) (Br (decide (1 < (n : Int))) ((0 : Int) <= 1 /\ 1 < (n : Int) /\ p.isSome = true /\ ∃ (i : ByteArray), atI g p 1 = some (.string i) /\ Ct Tryz.prog (fnv 94) #[] g fun (j : Value) (k : Mem) => ∃ (l : Option Addr) (m o : Nat), j = .slice l m o /\ Ct Tryz.prog (fnv 120) #[.slice l m o, .string i] k fun (r : Value) (s : Mem) => ∃ (t : Int), r = .int .u8 t /\ Rf E1 /\ Rf (SV.v (.slice p n c)) /\ Rf (SV.ptr 0 0) /\ Rf (SV.ptr 1 0) /\ Rf (none : Option Nat) /\ Rf (SV.v (.string ⟨#[]⟩)) /\ Rf E2 /\ Rf E2 /\ Rf E2 /\ Rf E2 /\ Rf E2 /\ Rf E2 /\ Rf E2 /\ Rf E2 /\ Rf E3 /\ KW h t) (Rf E1 /\ Rf (SV.v (.slice p n c)) /\ Rf (SV.ptr 0 0) /\ Rf (SV.ptr 1 0) /\ Rf (none : Option Nat) /\ Rf (SV.v (.string ⟨#[]⟩)) /\ Rf E2 /\ Rf E2 /\ Rf E2 /\ Rf E2 /\ Rf E2 /\ Rf E2 /\ Rf E2 /\ Rf E2 /\ Rf E3 /\ KW h 0)) (Rf E1 /\ Rf (SV.v (.slice p n c)) /\ Rf (SV.ptr 0 0) /\ Rf (SV.ptr 1 0) /\ Rf (none : Option Nat) /\ Rf (SV.v (.string ⟨#[]⟩)) /\ Rf E2 /\ Rf E2 /\ Rf E2 /\ Rf E2 /\ Rf E2 /\ Rf E2 /\ Rf E2 /\ Rf E2 /\ Rf E3 /\ KW h 0) /\ ∀ (i : Mem), Mem -> g.le i -> ∀ (j k : Int), KW j k -> Ct Tryz.prog (fnv 93) #[.int .u8 j, .int .u8 k] i fun (l : Value) (m : Mem) => ∃ (o : Option Addr) (r s : Nat) (t : Bool), l = .tuple #[.slice o r s, .bool t] /\ Br (!t) (Q (.tuple #[.agg #[.int .u8 j, .int .u8 k, .string ⟨#[]⟩, .int .i64 0, .int .i64 0, .int .i64 0, .int .i64 0, .int .i64 0, .int .i64 0, .int .i64 0, .int .i64 0, .slice none 0 0], .bool false]) m) (Wr .i64 ((n : Int) - 1) (fun (u : Int) => Br ((r : Int) != u) (Q (.tuple #[.agg #[.int .u8 j, .int .u8 k, .string ⟨#[]⟩, .int .i64 0, .int .i64 0, .int .i64 0, .int .i64 0, .int .i64 0, .int .i64 0, .int .i64 0, .int .i64 0, .slice none 0 0], .bool false]) m) ((Rf E1 /\ Rf (SV.v (.slice p n c)) /\ Rf (SV.ptr 0 0) /\ Rf (SV.ptr 1 0) /\ Rf (SV.v (.slice o r s)) /\ Rf (none : Option Nat) /\ AI m 0 [.int .u8 j, .int .u8 k, .string ⟨#[]⟩, .int .i64 0, .int .i64 0, .int .i64 0, .int .i64 0, .int .i64 0, .int .i64 0, .int .i64 0, .int .i64 0, .slice none 0 0]) /\ ∀ (w : Mem), Mem -> m.le w -> ∀ (x y z : Int) (q1 : ByteArray) (n1 n2 n3 n4 n5 n6 n7 n8 : Int) (a1 : Option Addr) (n9 c1 : Nat), AI w x [.int .u8 y, .int .u8 z, .string q1, .int .i64 n1, .int .i64 n2, .int .i64 n3, .int .i64 n4, .int .i64 n5, .int .i64 n6, .int .i64 n7, .int .i64 n8, .slice a1 n9 c1] -> Br (decide (x < (r : Int))) (Wr .i64 (x + 1) (fun (c2 : Int) => 0 <= c2 /\ c2 < (n : Int) /\ p.isSome = true /\ ∃ (q2 : ByteArray), atI w p (c2.toNat * 1 + 0) = some (.string q2) /\ 0 <= x /\ x < (r : Int) /\ o.isSome = true /\ ∃ (n10 : Int), atI w o (x.toNat * 1 + 0) = some (.int .i64 n10) /\ Br (n10 == 2) (Br (decide (0 < (q2.size : Int))) (∃ (c3 : UInt8), q2.data.toList[0]? = some c3 /\ (0 : Int) <= 0 /\ Br ((c3.toNat : Int) == 37) (Ct Tryz.prog (fnv 87) #[.string q2] w (fun (v1 : Value) (I1 : Mem) => ∃ (a2 : Option Addr) (n11 c4 : Nat), v1 = .slice a2 n11 c4 /\ ∃ (q3 : List UInt8), q3.length = n11 /\ (a2 = none -> n11 = 0) /\ (∀ (j1 : Nat) (b1 : UInt8), q3[j1]? = some b1 -> atI I1 a2 j1 = some (.int .u8 (b1.toNat : Int))) /\ Wr .i64 (x + 1) fun (c5 : Int) => Rf E1 /\ Rf (SV.v (.slice p n c)) /\ Rf (SV.ptr 0 0) /\ Rf (SV.ptr 1 0) /\ Rf (SV.v (.slice o r s)) /\ Rf (none : Option Nat) /\ AI I1 c5 [.int .u8 y, .int .u8 z, .string ⟨q3.toArray⟩, .int .i64 n1, .int .i64 n2, .int .i64 n3, .int .i64 n4, .int .i64 n5, .int .i64 n6, .int .i64 n7, .int .i64 n8, .slice a1 n9 c1] /\ Int.toNat (100 - c5) < Int.toNat (100 - x))) (Wr .i64 (x + 1) (fun (c4 : Int) => Rf E1 /\ Rf (SV.v (.slice p n c)) /\ Rf (SV.ptr 0 0) /\ Rf (SV.ptr 1 0) /\ Rf (SV.v (.slice o r s)) /\ Rf (none : Option Nat) /\ AI w c4 [.int .u8 y, .int .u8 z, .string q2, .int .i64 n1, .int .i64 n2, .int .i64 n3, .int .i64 n4, .int .i64 n5, .int .i64 n6, .int .i64 n7, .int .i64 n8, .slice a1 n9 c1] /\ Int.toNat (100 - c4) < Int.toNat (100 - x)))) (Wr .i64 (x + 1) (fun (c3 : Int) => Rf E1 /\ Rf (SV.v (.slice p n c)) /\ Rf (SV.ptr 0 0) /\ Rf (SV.ptr 1 0) /\ Rf (SV.v (.slice o r s)) /\ Rf (none : Option Nat) /\ AI w c3 [.int .u8 y, .int .u8 z, .string q2, .int .i64 n1, .int .i64 n2, .int .i64 n3, .int .i64 n4, .int .i64 n5, .int .i64 n6, .int .i64 n7, .int .i64 n8, .slice a1 n9 c1] /\ Int.toNat (100 - c3) < Int.toNat (100 - x)))) (Br (n10 == 3) (Ct Tryz.prog (fnv 86) #[.string q2] w (fun (v1 : Value) (I1 : Mem) => ∃ (n11 : Int), v1 = .int .i64 n11 /\ Wr .i64 (x + 1) fun (c3 : Int) => Rf E1 /\ Rf (SV.v (.slice p n c)) /\ Rf (SV.ptr 0 0) /\ Rf (SV.ptr 1 0) /\ Rf (SV.v (.slice o r s)) /\ Rf (none : Option Nat) /\ AI I1 c3 [.int .u8 y, .int .u8 z, .string q1, .int .i64 n11, .int .i64 n2, .int .i64 n3, .int .i64 n4, .int .i64 n5, .int .i64 n6, .int .i64 n7, .int .i64 n8, .slice a1 n9 c1] /\ Int.toNat (100 - c3) < Int.toNat (100 - x))) (Br (n10 == 4) (Ct Tryz.prog (fnv 86) #[.string q2] w (fun (v1 : Value) (I1 : Mem) => ∃ (n11 : Int), v1 = .int .i64 n11 /\ Wr .i64 (x + 1) fun (c3 : Int) => Rf E1 /\ Rf (SV.v (.slice p n c)) /\ Rf (SV.ptr 0 0) /\ Rf (SV.ptr 1 0) /\ Rf (SV.v (.slice o r s)) /\ Rf (none : Option Nat) /\ AI I1 c3 [.int .u8 y, .int .u8 z, .string q1, .int .i64 n1, .int .i64 n11, .int .i64 n3, .int .i64 n4, .int .i64 n5, .int .i64 n6, .int .i64 n7, .int .i64 n8, .slice a1 n9 c1] /\ Int.toNat (100 - c3) < Int.toNat (100 - x))) (Br (n10 == 5) (Ct Tryz.prog (fnv 86) #[.string q2] w (fun (v1 : Value) (I1 : Mem) => ∃ (n11 : Int), v1 = .int .i64 n11 /\ Wr .i64 (x + 1) fun (c3 : Int) => Rf E1 /\ Rf (SV.v (.slice p n c)) /\ Rf (SV.ptr 0 0) /\ Rf (SV.ptr 1 0) /\ Rf (SV.v (.slice o r s)) /\ Rf (none : Option Nat) /\ AI I1 c3 [.int .u8 y, .int .u8 z, .string q1, .int .i64 n1, .int .i64 n2, .int .i64 n11, .int .i64 n4, .int .i64 n5, .int .i64 n6, .int .i64 n7, .int .i64 n8, .slice a1 n9 c1] /\ Int.toNat (100 - c3) < Int.toNat (100 - x))) (Br (n10 == 6) (Ct Tryz.prog (fnv 86) #[.string q2] w (fun (v1 : Value) (I1 : Mem) => ∃ (n11 : Int), v1 = .int .i64 n11 /\ Wr .i64 (x + 1) fun (c3 : Int) => Rf E1 /\ Rf (SV.v (.slice p n c)) /\ Rf (SV.ptr 0 0) /\ Rf (SV.ptr 1 0) /\ Rf (SV.v (.slice o r s)) /\ Rf (none : Option Nat) /\ AI I1 c3 [.int .u8 y, .int .u8 z, .string q1, .int .i64 n1, .int .i64 n2, .int .i64 n3, .int .i64 n11, .int .i64 n5, .int .i64 n6, .int .i64 n7, .int .i64 n8, .slice a1 n9 c1] /\ Int.toNat (100 - c3) < Int.toNat (100 - x))) (Br (n10 == 7) (Ct Tryz.prog (fnv 86) #[.string q2] w (fun (v1 : Value) (I1 : Mem) => ∃ (n11 : Int), v1 = .int .i64 n11 /\ Wr .i64 (x + 1) fun (c3 : Int) => Rf E1 /\ Rf (SV.v (.slice p n c)) /\ Rf (SV.ptr 0 0) /\ Rf (SV.ptr 1 0) /\ Rf (SV.v (.slice o r s)) /\ Rf (none : Option Nat) /\ AI I1 c3 [.int .u8 y, .int .u8 z, .string q1, .int .i64 n1, .int .i64 n2, .int .i64 n3, .int .i64 n4, .int .i64 n11, .int .i64 n6, .int .i64 n7, .int .i64 n8, .slice a1 n9 c1] /\ Int.toNat (100 - c3) < Int.toNat (100 - x))) (Br (n10 == 8) (Ct Tryz.prog (fnv 86) #[.string q2] w (fun (v1 : Value) (I1 : Mem) => ∃ (n11 : Int), v1 = .int .i64 n11 /\ Wr .i64 (x + 1) fun (c3 : Int) => Rf E1 /\ Rf (SV.v (.slice p n c)) /\ Rf (SV.ptr 0 0) /\ Rf (SV.ptr 1 0) /\ Rf (SV.v (.slice o r s)) /\ Rf (none : Option Nat) /\ AI I1 c3 [.int .u8 y, .int .u8 z, .string q1, .int .i64 n1, .int .i64 n2, .int .i64 n3, .int .i64 n4, .int .i64 n5, .int .i64 n11, .int .i64 n7, .int .i64 n8, .slice a1 n9 c1] /\ Int.toNat (100 - c3) < Int.toNat (100 - x))) (Br (n10 == 9) (Ct Tryz.prog (fnv 86) #[.string q2] w (fun (v1 : Value) (I1 : Mem) => ∃ (n11 : Int), v1 = .int .i64 n11 /\ Wr .i64 (x + 1) fun (c3 : Int) => Rf E1 /\ Rf (SV.v (.slice p n c)) /\ Rf (SV.ptr 0 0) /\ Rf (SV.ptr 1 0) /\ Rf (SV.v (.slice o r s)) /\ Rf (none : Option Nat) /\ AI I1 c3 [.int .u8 y, .int .u8 z, .string q1, .int .i64 n1, .int .i64 n2, .int .i64 n3, .int .i64 n4, .int .i64 n5, .int .i64 n6, .int .i64 n11, .int .i64 n8, .slice a1 n9 c1] /\ Int.toNat (100 - c3) < Int.toNat (100 - x))) (Br (n10 == 10) (Ct Tryz.prog (fnv 86) #[.string q2] w (fun (v1 : Value) (I1 : Mem) => ∃ (n11 : Int), v1 = .int .i64 n11 /\ Wr .i64 (x + 1) fun (c3 : Int) => Rf E1 /\ Rf (SV.v (.slice p n c)) /\ Rf (SV.ptr 0 0) /\ Rf (SV.ptr 1 0) /\ Rf (SV.v (.slice o r s)) /\ Rf (none : Option Nat) /\ AI I1 c3 [.int .u8 y, .int .u8 z, .string q1, .int .i64 n1, .int .i64 n2, .int .i64 n3, .int .i64 n4, .int .i64 n5, .int .i64 n6, .int .i64 n7, .int .i64 n11, .slice a1 n9 c1] /\ Int.toNat (100 - c3) < Int.toNat (100 - x))) (Br (n10 == 11) (Ct Tryz.prog (fnv 87) #[.string q2] w (fun (v1 : Value) (I1 : Mem) => ∃ (a2 : Option Addr) (n11 c3 : Nat), v1 = .slice a2 n11 c3 /\ Wr .i64 (x + 1) fun (c4 : Int) => Rf E1 /\ Rf (SV.v (.slice p n c)) /\ Rf (SV.ptr 0 0) /\ Rf (SV.ptr 1 0) /\ Rf (SV.v (.slice o r s)) /\ Rf (none : Option Nat) /\ AI I1 c4 [.int .u8 y, .int .u8 z, .string q1, .int .i64 n1, .int .i64 n2, .int .i64 n3, .int .i64 n4, .int .i64 n5, .int .i64 n6, .int .i64 n7, .int .i64 n8, .slice a2 n11 c3] /\ Int.toNat (100 - c4) < Int.toNat (100 - x))) (Wr .i64 (x + 1) (fun (c3 : Int) => Rf E1 /\ Rf (SV.v (.slice p n c)) /\ Rf (SV.ptr 0 0) /\ Rf (SV.ptr 1 0) /\ Rf (SV.v (.slice o r s)) /\ Rf (none : Option Nat) /\ AI w c3 [.int .u8 y, .int .u8 z, .string q1, .int .i64 n1, .int .i64 n2, .int .i64 n3, .int .i64 n4, .int .i64 n5, .int .i64 n6, .int .i64 n7, .int .i64 n8, .slice a1 n9 c1] /\ Int.toNat (100 - c3) < Int.toNat (100 - x)))))))))))))) (Q (.tuple #[.agg #[.int .u8 y, .int .u8 z, .string q1, .int .i64 n1, .int .i64 n2, .int .i64 n3, .int .i64 n4, .int .i64 n5, .int .i64 n6, .int .i64 n7, .int .i64 n8, .slice a1 n9 c1], .bool true]) w))))) (by kernel_rfl) ?_
 intro E2 E3 E1;simp only [Rf, true_and]
 have hwn : ws.length = n := by have := hp.len; simp [strs] at this; omega
 have hn1 : 0 < ws.length := List.length_pos_iff.2 hne
 obtain ⟨w0, wr, hw⟩ : ∃ w0 wr, ws = w0 :: wr := by cases ws with | nil => exact absurd rfl hne | cons a b => exact ⟨a, b, rfl⟩
 have hg0 : ws[0]? = some w0 := by rw [hw]; rfl
 have hk : idxL kindsN w0 = qKind ws := by rw [qKind, hw]; rfl
 have hsmall : ∀ {a : Option Addr} {J : Mem} {m : Nat} {l : List ByteArray}, SlM J a m 1 (strs l) -> l.length = m := fun h => by have := h.len; simp [strs] at this; omega
 have hkl : kindsN.length = 10 := rfl;have hmx := hp.max;simp only [maxLen] at hmx;have hal : asksN.length = 6 := rfl
 refine ⟨by decide, by omega, hp.isSome (by omega), w0, hp.at_ _ _ (strs_get hg0), (fun Y => And.intro (Ct.mono Y fun v J l hh => Exists.elim hh fun b hh => Exists.elim hh fun d hh => Exists.elim hh fun e hh => ⟨b, d, e, hh.1, hh.2, hh.2⟩) Y) ?_⟩
 refine (ct92 I).mono fun v I1 l1 ⟨b, d, e, hv, hs, _⟩ => ⟨b, d, e, hv, ?_⟩;have hd := hsmall hs
 refine (ct120 kindsN b d e I1 hs (by omega) w0).mono fun v I2 l2 hv => ⟨_, hv, ?_, fun I3 _ l3 k q hkw => ?_⟩
 · rw [hk, hKW]
   refine Br.mk (fun h => Br.mk (fun h1 => ?_) (fun h1 => ⟨rfl, ?_⟩)) (fun h => ⟨rfl, ?_⟩)
   · have h : qKind ws = 7 := by simpa using h
     have h1 := of_decide_eq_true h1
     obtain ⟨w1, hg1⟩ : ∃ w1, ws[1]? = some w1 := ⟨_, List.getElem?_eq_getElem (by omega)⟩
     refine ⟨by decide, by omega, hp.isSome (by omega), w1, ((hp.mono l1).mono l2).at_ _ _ (strs_get hg1), (ct94 I2).mono fun v I3 l3 ⟨a, m, o, hv, hs, _⟩ => ⟨a, m, o, hv, (ct120 asksN a m o I3 hs (by have := hsmall hs; omega) w1).mono fun v I4 l4 hv => ⟨_, hv, rfl, ?_⟩⟩⟩
     rw [qWhat, if_pos ⟨h, by omega⟩, hg1]; rfl
   · have h1 := of_decide_eq_false h1
     rw [qWhat, if_neg (fun hh => h1 (by have := hh.2; omega))]
   · have h : qKind ws ≠ 7 := by simpa using h
     rw [qWhat, if_neg (fun hh => h hh.1)]
 rw [hKW] at hkw;obtain ⟨rfl, rfl⟩ := hkw;have hq0 := (q0_ok ws).ok;refine (ct93 (qKind ws) (qWhat ws) hq0.kind hq0.what I3).mono fun v I4 l4 ⟨o, m, d2, hv, hts, _⟩ => ⟨o, m, d2, _, hv, ?_⟩
 have htl : (tagsQ ws).length = m := by have := hts.len; simpa [ints, tagsQ] using this
 have no : askOK ws = false -> ∀ J : Mem, Q (.tuple #[.agg #[.int .u8 (qKind ws), .int .u8 (qWhat ws), .string ⟨#[]⟩, .int .i64 0, .int .i64 0, .int .i64 0, .int .i64 0, .int .i64 0, .int .i64 0, .int .i64 0, .int .i64 0, .slice none 0 0], .bool false]) J := fun h J => by
  rw [hQ, askQW, h];exact ⟨_, rfl, bysl_nil _⟩
 refine Br.mk (fun h => no ?_ _) (fun h => wr_i64 (by omega) (by omega) (Br.mk (fun h1 => no ?_ _) (fun h1 => ?_)))
 · have h : (tagL (qKind ws) (qWhat ws)).isSome = false := by simpa using h
   rw [askOK, h, Bool.false_and]
 · have h1 : (m : Int) ≠ (n : Int) - 1 := by simpa using h1
   rw [askOK, decide_eq_false (by rw [<- tagsQ, htl]; omega), Bool.and_false]
 have h : (tagL (qKind ws) (qWhat ws)).isSome = true := by simpa using h
 have h1 : (m : Int) = (n : Int) - 1 := by simpa using h1
 have hok : askOK ws = true := by rw [askOK, h, decide_eq_true (by rw [<- tagsQ, htl]; omega)]; rfl
 have htl4 : m <= 100 := by rw [<- htl]; exact tagL_len _ _
 have hyes : askQW ws = (runQ (tagsQ ws) (ws.drop 1) (q0 ws), true) := by rw [askQW, if_pos hok]; rfl
 refine ⟨?_, fun I5 _ l5 j k' q' nm x3 x4 x5 x6 x7 x8 x9 x10 fa fn fc hA => ?_⟩
 · rw [hAI]
   exact ⟨q0 ws, .slice none 0 0, Int.le_refl _, by omega, rfl, bysl_nil _, rfl⟩
 rw [hAI] at hA;obtain ⟨r, y, j0, j1, hcs, hy, hrun⟩ := hA;simp only [rqV, List.cons.injEq, Value.int.injEq, Value.string.injEq, true_and, and_true] at hcs;obtain ⟨rfl, rfl, rfl, rfl, rfl, rfl, rfl, rfl, rfl, rfl, rfl, rfl⟩ := hcs;refine Br.mk (fun hlt => ?_) (fun hge => ?_)
 · have hlt := of_decide_eq_true hlt
   obtain ⟨t, ht, hat⟩ := ((hts.mono l5).intAt (i := j) j0 hlt);have htr := tagL_rng _ _ t (List.mem_of_getElem? ht)
   obtain ⟨w, hgw⟩ : ∃ w, ws[(j + 1).toNat]? = some w := ⟨_, List.getElem?_eq_getElem (by omega)⟩
   have hws' := hws w (List.mem_of_getElem? hgw);have hp5 := hp.mono (Mem.le_trans l1 (Mem.le_trans l2 (Mem.le_trans l3 (Mem.le_trans l4 l5))))
   have step : runQ (tagsQ ws) (ws.drop 1) (q0 ws) = runQ ((tagsQ ws).drop (j + 1).toNat) ((ws.drop 1).drop (j + 1).toNat) (stepQ r t w) := by
    have ht' : (tagsQ ws)[j.toNat]? = some t := ht
    have hw' : (ws.drop 1)[j.toNat]? = some w := by rw [List.getElem?_drop, show 1 + j.toNat = (j + 1).toNat by omega]; exact hgw
    obtain ⟨e1, e2⟩ := List.getElem?_eq_some_iff.1 ht';obtain ⟨e3, e4⟩ := List.getElem?_eq_some_iff.1 hw'
    rw [hrun, List.drop_eq_getElem_cons e1, List.drop_eq_getElem_cons e3, runQ, e2, e4, show (j + 1).toNat = j.toNat + 1 by omega]
   have adv : ∀ (J : Mem) (y' : Value), BySl J y' (stepQ r t w).fed -> AI J (j + 1) (rqV (stepQ r t w) y') := fun J y' hy' => by
    rw [hAI]; exact ⟨_, _, by omega, by omega, rfl, hy', step⟩
   have num : ∀ {P : Mem -> Int -> Int -> Prop}, (∀ J : Mem, I5.le J -> P J (valI (strL w)) (j + 1)) -> Ct Tryz.prog (fnv 86) #[.string w] I5 fun v J => ∃ z, v = .int .i64 z /\ Wr .i64 (j + 1) fun c => P J z c := fun hP => (ct86 w hws' I5).mono fun v J lJ hv => ⟨_, hv, wr_i64 (by omega) (by omega) (hP J lJ)⟩
   refine wr_i64 (by omega) (by omega) ⟨by omega, by omega, hp.isSome (by omega), w, by rw [Nat.mul_one, Nat.add_zero]; exact hp5.at_ _ _ (strs_get hgw), j0, hlt, hts.isSome (by omega), t, hat, ?_⟩
   have hfs : ∀ c : UInt8, w.data.toList[0]? = some c -> firstI w = some (c.toNat : Int) := fun c hc => str_first hc;refine Br.mk (fun e => ?_) (fun e2 => Br.mk (fun e => ?_) (fun e3 => Br.mk (fun e => ?_) (fun e4 => Br.mk (fun e => ?_) (fun e5 => Br.mk (fun e => ?_) (fun e6 => Br.mk (fun e => ?_) (fun e7 => Br.mk (fun e => ?_) (fun e8 => Br.mk (fun e => ?_) (fun e9 => Br.mk (fun e => ?_) (fun e10 => Br.mk (fun e => ?_) (fun e11 => ?_))))))))))
   · have e : t = 2 := by simpa using e
     subst e
     have keep : firstI w ≠ some 37 -> Wr IntKind.i64 (j + 1) fun c => AI I5 c [.int .u8 r.kind, .int .u8 r.what, .string w, .int .i64 r.p3, .int .i64 r.p4, .int .i64 r.p5, .int .i64 r.p6, .int .i64 r.p7, .int .i64 r.p8, .int .i64 r.p9, .int .i64 r.val, .slice fa fn fc] /\ (100 - c).toNat < (100 - j).toNat := fun h => by
      have hst : stepQ r 2 w = { r with name := w } := by
       show (if firstI w = some 37 then _ else _) = _
       rw [if_neg h]
      have := adv I5 _ (by rw [hst]; exact hy)
      rw [hst] at this
      exact wr_i64 (by omega) (by omega) ⟨this, by omega⟩
     refine Br.mk (fun g => ?_) (fun g => keep ?_)
     · have g := of_decide_eq_true g
       obtain ⟨c0, hc0⟩ : ∃ c0, w.data.toList[0]? = some c0 := ⟨_, List.getElem?_eq_getElem (by rw [Array.length_toList]; show 0 < w.size; omega)⟩
       refine ⟨c0, hc0, by decide, Br.mk (fun g => ?_) (fun g => keep ?_)⟩
       · have g : (c0.toNat : Int) = 37 := by simpa using g
         obtain ⟨u1, u2⟩ := unI_ok w
         refine (ct87 w hws' I5).mono fun v J lJ ⟨a, m2, d3, hv, hsl, _⟩ => ⟨a, m2, d3, hv, u8s (unI w), ?_, (u8s_at u1 hsl).2.1, (u8s_at u1 hsl).2.2, wr_i64 (by omega) (by omega) ⟨?_, by omega⟩⟩
         · rw [u8s, List.length_map]; exact (hsl.numLen).symm
         · have hst : stepQ r 2 w = { r with name := strB (unI w) } := by
            show (if firstI w = some 37 then _ else _) = _
            rw [if_pos (by rw [hfs _ hc0, g])]
           have := adv J _ (by rw [hst]; exact hy.mono lJ)
           rw [hst] at this;exact this
       · have g : (c0.toNat : Int) ≠ 37 := by simpa using g
         rw [hfs _ hc0];exact fun h => g (Option.some.inj h)
     · have g := of_decide_eq_false g
       have : strL w = [] := List.length_eq_zero_iff.1 (by rw [strL_len]; omega)
       rw [firstI, this]
       exact fun h => by cases h
   · obtain rfl : t = 3 := by simpa using e
     exact num fun J lJ => ⟨adv J _ (hy.mono lJ), by omega⟩
   · obtain rfl : t = 4 := by simpa using e
     exact num fun J lJ => ⟨adv J _ (hy.mono lJ), by omega⟩
   · obtain rfl : t = 5 := by simpa using e
     exact num fun J lJ => ⟨adv J _ (hy.mono lJ), by omega⟩
   · obtain rfl : t = 6 := by simpa using e
     exact num fun J lJ => ⟨adv J _ (hy.mono lJ), by omega⟩
   · obtain rfl : t = 7 := by simpa using e
     exact num fun J lJ => ⟨adv J _ (hy.mono lJ), by omega⟩
   · obtain rfl : t = 8 := by simpa using e
     exact num fun J lJ => ⟨adv J _ (hy.mono lJ), by omega⟩
   · obtain rfl : t = 9 := by simpa using e
     exact num fun J lJ => ⟨adv J _ (hy.mono lJ), by omega⟩
   · obtain rfl : t = 10 := by simpa using e
     exact num fun J lJ => ⟨adv J _ (hy.mono lJ), by omega⟩
   · obtain rfl : t = 11 := by simpa using e
     refine (ct87 w hws' I5).mono fun v J lJ hv => ?_;have hv' := hv;obtain ⟨a, m2, d3, rfl, _⟩ := hv'
     exact ⟨a, m2, d3, rfl, wr_i64 (by omega) (by omega) ⟨adv J _ hv, by omega⟩⟩
   · have n2 : t ≠ 2 := by simpa using e2
     have n3 : t ≠ 3 := by simpa using e3
     have n4 : t ≠ 4 := by simpa using e4
     have n5 : t ≠ 5 := by simpa using e5
     have n6 : t ≠ 6 := by simpa using e6
     have n7 : t ≠ 7 := by simpa using e7
     have n8 : t ≠ 8 := by simpa using e8
     have n9 : t ≠ 9 := by simpa using e9
     have n10 : t ≠ 10 := by simpa using e10
     have n11 : t ≠ 11 := by simpa using e11
     obtain rfl : t = 1 := by omega
     exact wr_i64 (by omega) (by omega) ⟨adv I5 _ hy, by omega⟩
 · have hge := of_decide_eq_false hge
   rw [hQ, hyes]
   have hd : (tagsQ ws).drop j.toNat = [] := List.drop_eq_nil_of_le (by omega)
   rw [hrun, hd]
   exact ⟨_, by simp only [runQ]; rfl, by simp only [runQ]; exact hy⟩
def refW (ws : List ByteArray) (t : Tx) : En × Bool :=
 if t = tickB then (⟨2, 0, 0, []⟩, true)
 else if wordAt ws 0 = strT pickB /\ ws.length = 2 then (⟨3, 0, valI (strL (wordAt ws 1)), []⟩, true)
 else if wordAt ws 0 = strT rawB /\ ws.length = 3 then (⟨1, valI (strL (wordAt ws 1)), 0, unI (wordAt ws 2)⟩, true)
 else if wordAt ws 0 = strT askB /\ 2 < ws.length then (if (askQW (ws.drop 2)).2 then ((askE (valI (strL (wordAt ws 1))) (askQW (ws.drop 2)).1).1, true) else (zeroEn, false))
 else (zeroEn, true)
def readQ (t : Tx) : En × Int :=
 if t.length <= 40000 /\ (refW (pieces t) t).2 = true /\ cleanE (refW (pieces t) t).1 = true /\ lineT (refW (pieces t) t).1 = t then ((refW (pieces t) t).1, 0) else (zeroEn, 411)
theorem refW_ok {ws : List ByteArray} (hws : ∀ w ∈ ws, w.size <= 1000000) (t : Tx) : okEn (refW ws t).1 := by
 have hsm := askQ_ok (ws := ws.drop 2) fun w hw => hws w (List.mem_of_mem_drop hw);unfold refW
 repeat' split
 · exact ⟨k255 (.inr (.inr (.inl rfl))), i64R_zero, i64R_zero, byteL_nil⟩
 · exact ⟨k255 (.inr (.inr (.inr rfl))), i64R_zero, valI_rng _, byteL_nil⟩
 · exact ⟨k255 (.inr (.inl rfl)), valI_rng _, i64R_zero, (unI_ok _).1⟩
 · exact askE_ok (valI_rng _) hsm.ok
 · exact zero_okE
 · exact zero_okE
theorem ct41 (s : ByteArray) (hs : s.size <= 1000000) (I : Mem) :
 Ct Tryz.prog (fnv 41) #[.string s] I (fun u I' => ∃ y, u = .tuple #[.agg (enV (readQ (tx s)).1 y).toArray, .int .i64 (readQ (tx s)).2] /\ BySl I' y (readQ (tx s)).1.bs) := by
 obtain ⟨Q, hQ⟩ : ∃ q : Value -> Mem -> Prop, q = fun u I' => ∃ y, u = .tuple #[.agg (enV (readQ (tx s)).1 y).toArray, .int .i64 (readQ (tx s)).2] /\ BySl I' y (readQ (tx s)).1.bs := ⟨_, rfl⟩;obtain ⟨RI, hRI⟩ : ∃ f : Mem -> List Value -> Prop, f = fun I' cs => ∃ y, cs = enV (refW (pieces (tx s)) (tx s)).1 y /\ BySl I' y (refW (pieces (tx s)) (tx s)).1.bs /\ (refW (pieces (tx s)) (tx s)).2 = true /\ (tx s).length <= 40000 := ⟨_, rfl⟩;obtain ⟨ws, hws⟩ : ∃ ws, ws = pieces (tx s) := ⟨_, rfl⟩;obtain ⟨PB, hPB⟩ : ∃ f : Bool -> Prop, f = fun b => b = decide (wordAt ws 0 = strT pickB /\ ws.length = 2) := ⟨_, rfl⟩
 obtain ⟨QB, hQB⟩ : ∃ f : Bool -> Prop, f = fun b => b = decide (wordAt ws 0 = strT rawB /\ ws.length = 3) := ⟨_, rfl⟩;obtain ⟨AB, hAB⟩ : ∃ f : Bool -> Prop, f = fun b => b = decide (wordAt ws 0 = strT askB /\ 2 < ws.length) := ⟨_, rfl⟩;rw [<- hQ]
 refine viaR (ct_via (A := { cuts := [(8, ⟨[(0, .keep), (2, .keep), (4, .keep), (5, .keep), (21, .sh .bool)], [(0, .keep), (1, .keep)], [], fun vals _ _ _ => match vals with | [.bool b] => PB b | _ => False, fun _ _ => 0⟩), (10, ⟨[(0, .keep), (2, .keep), (4, .keep), (5, .keep), (36, .sh .bool)], [(0, .keep), (1, .keep)], [], fun vals _ _ _ => match vals with | [.bool b] => QB b | _ => False, fun _ _ => 0⟩), (12, ⟨[(0, .keep), (2, .keep), (4, .keep), (5, .keep), (55, .sh .bool)], [(0, .keep), (1, .keep)], [], fun vals _ _ _ => match vals with | [.bool b] => AB b | _ => False, fun _ _ => 0⟩), (16, ⟨[(0, .keep), (2, .keep), (5, .keep)], [(0, .keep), (1, .cells [.sh (.int .u8), .sh (.int .i64), .sh (.int .i64), .sh .sl])], [], fun vals _ I' _ => RI I' vals, fun _ _ => 0⟩)] }) Tryz.func41 rfl Tryz.call41 rfl rfl) (let E1 := Ent.mk (.cells [.v (.int .u8 0), .v (.int .i64 0), .v (.int .i64 0), .v (.slice none 0 0)] 72) none
  Br (decide (40000 < (s.size : Int))) (Q (.tuple #[.agg #[.int .u8 0, .int .i64 0, .int .i64 0, .slice none 0 0], .int .i64 411]) I) (Ct Tryz.prog (fnv 85) #[.string s] I (fun v a => ∃ b n c, v = .slice b n c /\ Br (s.toList == (ByteArray.mk #[116, 105, 99, 107]).toList) (Rf E1 /\ Rf (SV.v (.string s)) /\ Rf (SV.ptr 0 0) /\ Rf (SV.ptr 1 0) /\ Rf (none : Option Nat) /\ RI a [.int .u8 2, .int .i64 0, .int .i64 0, .slice none 0 0]) (((0 : Int) <= 0 /\ 0 < (n : Int) /\ b.isSome = true /\ ∃ q, atI a b 0 = some (.string q) /\ Br (q.toList == (ByteArray.mk #[112, 105, 99, 107]).toList) (Rf E1 /\ Rf E1 /\ Rf (SV.v (.string s)) /\ Rf (SV.ptr 0 0) /\ Rf (SV.v (.slice b n c)) /\ Rf (SV.ptr 1 0) /\ PB ((n : Int) == 2)) (Rf E1 /\ Rf E1 /\ Rf (SV.v (.string s)) /\ Rf (SV.ptr 0 0) /\ Rf (SV.v (.slice b n c)) /\ Rf (SV.ptr 1 0) /\ PB false)) /\ ∀ (d : Mem), Mem -> a.le d -> ∀ (e : Bool), PB e -> Br e ((0 : Int) <= 1 /\ 1 < (n : Int) /\ b.isSome = true /\ ∃ q, atI d b 1 = some (.string q) /\ Ct Tryz.prog (fnv 86) #[.string q] d fun f g => ∃ h, f = .int .i64 h /\ Rf E1 /\ Rf (SV.v (.string s)) /\ Rf (SV.ptr 0 0) /\ Rf (SV.ptr 1 0) /\ Rf (none : Option Nat) /\ RI g [.int .u8 3, .int .i64 0, .int .i64 h, .slice none 0 0]) (((0 : Int) <= 0 /\ 0 < (n : Int) /\ b.isSome = true /\ ∃ q, atI d b 0 = some (.string q) /\ Br (q.toList == (ByteArray.mk #[114, 97, 119]).toList) (Rf E1 /\ Rf E1 /\ Rf (SV.v (.string s)) /\ Rf (SV.ptr 0 0) /\ Rf (SV.v (.slice b n c)) /\ Rf (SV.ptr 1 0) /\ QB ((n : Int) == 3)) (Rf E1 /\ Rf E1 /\ Rf (SV.v (.string s)) /\ Rf (SV.ptr 0 0) /\ Rf (SV.v (.slice b n c)) /\ Rf (SV.ptr 1 0) /\ QB false)) /\ ∀ (f : Mem), Mem -> d.le f -> ∀ (g : Bool), QB g -> Br g ((0 : Int) <= 1 /\ 1 < (n : Int) /\ b.isSome = true /\ ∃ q, atI f b 1 = some (.string q) /\ (0 : Int) <= 2 /\ 2 < (n : Int) /\ b.isSome = true /\ ∃ h, atI f b 2 = some (.string h) /\ Ct Tryz.prog (fnv 86) #[.string q] f fun i j => ∃ k, i = .int .i64 k /\ Ct Tryz.prog (fnv 87) #[.string h] j fun l m => ∃ o p r, l = .slice o p r /\ Rf E1 /\ Rf (SV.v (.string s)) /\ Rf (SV.ptr 0 0) /\ Rf (SV.ptr 1 0) /\ Rf (none : Option Nat) /\ RI m [.int .u8 1, .int .i64 k, .int .i64 0, .slice o p r]) (((0 : Int) <= 0 /\ 0 < (n : Int) /\ b.isSome = true /\ ∃ q, atI f b 0 = some (.string q) /\ Br (q.toList == (ByteArray.mk #[97, 115, 107]).toList) (Rf E1 /\ Rf E1 /\ Rf (SV.v (.string s)) /\ Rf (SV.ptr 0 0) /\ Rf (SV.v (.slice b n c)) /\ Rf (SV.ptr 1 0) /\ AB (decide (2 < (n : Int)))) (Rf E1 /\ Rf E1 /\ Rf (SV.v (.string s)) /\ Rf (SV.ptr 0 0) /\ Rf (SV.v (.slice b n c)) /\ Rf (SV.ptr 1 0) /\ AB false)) /\ ∀ (h : Mem), Mem -> f.le h -> ∀ (i : Bool), AB i -> Br i ((0 : Int) <= 2 /\ 2 <= (n : Int) /\ Ct Tryz.prog (fnv 88) #[.slice (sladdr b c 2 1) (n - 2) (c - 2)] h fun j k => ∃ l m q o p r t u w x y z n1 c1 b1, j = .tuple #[.agg #[.int .u8 l, .int .u8 m, .string q, .int .i64 o, .int .i64 p, .int .i64 r, .int .i64 t, .int .i64 u, .int .i64 w, .int .i64 x, .int .i64 y, .slice z n1 c1], .bool b1] /\ Br (!b1) (Q (.tuple #[.agg #[.int .u8 0, .int .i64 0, .int .i64 0, .slice none 0 0], .int .i64 411]) k) ((0 : Int) <= 1 /\ 1 < (n : Int) /\ b.isSome = true /\ ∃ q1, atI k b 1 = some (.string q1) /\ Ct Tryz.prog (fnv 86) #[.string q1] k fun v1 I1 => ∃ n2, v1 = .int .i64 n2 /\ Ct Tryz.prog (fnv 45) #[.int .i64 n2, .agg #[.int .u8 l, .int .u8 m, .string q, .int .i64 o, .int .i64 p, .int .i64 r, .int .i64 t, .int .i64 u, .int .i64 w, .int .i64 x, .int .i64 y, .slice z n1 c1]] I1 fun v2 I2 => ∃ n3 n4 n5 a1 n6 c2 n7, v2 = .tuple #[.agg #[.int .u8 n3, .int .i64 n4, .int .i64 n5, .slice a1 n6 c2], .int .i64 n7] /\ Rf E1 /\ Rf (SV.v (.string s)) /\ Rf (SV.ptr 0 0) /\ Rf (SV.ptr 1 0) /\ Rf (none : Option Nat) /\ RI I2 [.int .u8 n3, .int .i64 n4, .int .i64 n5, .slice a1 n6 c2])) (Rf E1 /\ Rf (SV.v (.string s)) /\ Rf (SV.ptr 0 0) /\ Rf (SV.ptr 1 0) /\ Rf (none : Option Nat) /\ RI h [.int .u8 0, .int .i64 0, .int .i64 0, .slice none 0 0])))) /\ ∀ (d : Mem), Mem -> a.le d -> ∀ (e f g : Int) (h : Option Addr) (i j : Nat), RI d [.int .u8 e, .int .i64 f, .int .i64 g, .slice h i j] -> Ct Tryz.prog (fnv 74) #[.agg #[.int .u8 e, .int .i64 f, .int .i64 g, .slice h i j]] d fun k l => ∃ q m, k = .tuple #[.string q, .int .i64 m] /\ Br (m != 0) (Q (.tuple #[.agg #[.int .u8 0, .int .i64 0, .int .i64 0, .slice none 0 0], .int .i64 411]) l) (Br (!(q.toList == s.toList)) (Q (.tuple #[.agg #[.int .u8 0, .int .i64 0, .int .i64 0, .slice none 0 0], .int .i64 411]) l) (Q (.tuple #[.agg #[.int .u8 e, .int .i64 f, .int .i64 g, .slice h i j], .int .i64 0]) l))))) (by kernel_rfl) ?_
 intro E1;simp only [Rf, true_and];have hl : (tx s).length = s.size := Array.length_toList
 have no : ∀ J : Mem, (¬ ((tx s).length <= 40000 /\ (refW (pieces (tx s)) (tx s)).2 = true /\ cleanE (refW (pieces (tx s)) (tx s)).1 = true /\ lineT (refW (pieces (tx s)) (tx s)).1 = tx s)) -> Q (.tuple #[.agg #[.int .u8 0, .int .i64 0, .int .i64 0, .slice none 0 0], .int .i64 411]) J := fun J h => by
  rw [hQ, readQ, if_neg h];exact ⟨_, rfl, bysl_nil _⟩
 refine Br.mk (fun h => no I fun hh => ?_) (fun h => ?_)
 · have h := of_decide_eq_true h
   have := hh.1;omega
 have h := of_decide_eq_false h
 have h40 : (tx s).length <= 40000 := by omega
 have hwz : ∀ w ∈ ws, w.size <= 1000000 := by rw [hws]; exact pieces_len (by omega)
 have hne : ws ≠ [] := by rw [hws]; exact pieces_ne _
 refine (ct85 s hs I).mono fun v I1 l1 ⟨l, ⟨b, n, c, hv, hsl, hbc, hcm⟩, hls⟩ => ⟨b, n, c, hv, ?_, fun I2 _ l2 ek es en fa fn fc hR => ?_⟩
 · have hlw : l = ws := by rw [hws]; exact pieces_of hls
   rw [hlw] at hsl
   have hn : ws.length = n := by have := hsl.len; simp [strs] at this; omega
   have hn1 : 0 < ws.length := List.length_pos_iff.2 hne
   have wat : ∀ {J : Mem}, I1.le J -> ∀ j : Nat, j < n -> atI J b j = some (.string (wordAt ws j)) := fun {J} hJ j hj => by
    have hg : ws[j]? = some ws[j] := List.getElem?_eq_getElem (by omega)
    have : wordAt ws j = ws[j] := by rw [wordAt, hg]; rfl
    rw [this];exact (hsl.mono hJ).at_ _ _ (strs_get hg)
   have hsome : b.isSome = true := hsl.isSome (by omega)
   have wz : ∀ j : Nat, j < n -> (wordAt ws j).size <= 1000000 := fun j hj => by
    have hg : ws[j]? = some ws[j] := List.getElem?_eq_getElem (by omega)
    have : wordAt ws j = ws[j] := by rw [wordAt, hg]; rfl
    rw [this]; exact hwz _ (List.getElem_mem _)
   refine Br.mk (fun h1 => ?_) (fun h1 => ?_)
   · rw [str_eq] at h1
     have h1 := of_decide_eq_true h1
     have ht : tx s = tickB := by rw [h1]; rfl
     rw [hRI, refW, if_pos ht];exact ⟨_, rfl, bysl_nil _, rfl, h40⟩
   rw [str_eq] at h1;have h1 := of_decide_eq_false h1
   have ht : tx s ≠ tickB := fun e => h1 (by rw [<- strT_tx s, e]; rfl)
   refine ⟨⟨by decide, by omega, hsome, _, wat (Mem.le_refl _) 0 (by omega), Br.mk (fun h2 => ?_) (fun h2 => ?_)⟩, fun I2 _ l2 pb hpb => ?_⟩
   · rw [str_eq] at h2
     rw [hPB]
     have hi : ((((n : Nat) : Int) == 2) = true) ↔ ws.length = 2 := by rw [beq_iff_eq]; omega
     refine Bool.eq_iff_iff.2 ?_;rw [hi, decide_eq_true_eq];exact ⟨fun hq => ⟨of_decide_eq_true h2, hq⟩, fun hq => hq.2⟩
   · rw [str_eq] at h2
     rw [hPB];exact (decide_eq_false fun hh => of_decide_eq_false h2 hh.1).symm
   rw [hPB] at hpb;subst hpb;refine Br.mk (fun h2 => ?_) (fun h2 => ?_)
   · have h2 := of_decide_eq_true h2
     refine ⟨by decide, by omega, hsome, _, wat l2 1 (by omega), (ct86 _ (wz 1 (by omega)) I2).mono fun v I3 l3 hv => ⟨_, hv, ?_⟩⟩
     rw [hRI, <- hws, refW, if_neg ht, if_pos h2];exact ⟨_, rfl, bysl_nil _, rfl, h40⟩
   have h2 := of_decide_eq_false h2
   refine ⟨⟨by decide, by omega, hsome, _, wat l2 0 (by omega), Br.mk (fun h3 => ?_) (fun h3 => ?_)⟩, fun I3 _ l3 pb hpb => ?_⟩
   · rw [str_eq] at h3
     rw [hQB]
     have hi : ((((n : Nat) : Int) == 3) = true) ↔ ws.length = 3 := by rw [beq_iff_eq]; omega
     refine Bool.eq_iff_iff.2 ?_;rw [hi, decide_eq_true_eq];exact ⟨fun hq => ⟨of_decide_eq_true h3, hq⟩, fun hq => hq.2⟩
   · rw [str_eq] at h3
     rw [hQB];exact (decide_eq_false fun hh => of_decide_eq_false h3 hh.1).symm
   rw [hQB] at hpb;subst hpb;have l23 := Mem.le_trans l2 l3;refine Br.mk (fun h3 => ?_) (fun h3 => ?_)
   · have h3 := of_decide_eq_true h3
     refine ⟨by decide, by omega, hsome, _, wat l23 1 (by omega), by decide, by omega, hsome, _, wat l23 2 (by omega), (ct86 _ (wz 1 (by omega)) I3).mono fun v I4 l4 hv => ⟨_, hv, (ct87 _ (wz 2 (by omega)) I4).mono fun v I5 l5 hv => ?_⟩⟩
     have hv' := hv;obtain ⟨a, m, d, rfl, _⟩ := hv';refine ⟨a, m, d, rfl, ?_⟩;rw [hRI, <- hws, refW, if_neg ht, if_neg h2, if_pos h3];exact ⟨_, rfl, hv, rfl, h40⟩
   have h3 := of_decide_eq_false h3
   refine ⟨⟨by decide, by omega, hsome, _, wat l23 0 (by omega), Br.mk (fun h4 => ?_) (fun h4 => ?_)⟩, fun I4 _ l4 pb hpb => ?_⟩
   · rw [str_eq] at h4
     rw [hAB]
     exact decide_eq_decide.2 ⟨fun h5 => ⟨of_decide_eq_true h4, by omega⟩, fun h5 => by have := h5.2; omega⟩
   · rw [str_eq] at h4
     rw [hAB];exact (decide_eq_false fun hh => of_decide_eq_false h4 hh.1).symm
   rw [hAB] at hpb;subst hpb;have l24 := Mem.le_trans l23 l4;refine Br.mk (fun h4 => ?_) (fun h4 => ?_)
   · have h4 := of_decide_eq_true h4
     have hsd : SlM I4 (sladdr b c 2 1) (n - 2) 1 (strs (ws.drop 2)) := by
      have := sl_drop (k := 2) (hsl.mono l24) (by omega) hbc
      simpa [strs] using this
     have hdz : ∀ w ∈ ws.drop 2, w.size <= 1000000 := fun w hw => hwz w (List.mem_of_mem_drop hw);have hsm := askQ_ok hdz
     refine ⟨by decide, by omega, (ct88 (ws.drop 2) hdz (fun e => by have := congrArg List.length e; rw [List.length_drop] at this; simp at this; omega) _ I4 ⟨_, _, _, rfl, hsd, by omega, by omega⟩).mono fun v I5 l5 ⟨y, hv, hy⟩ => ?_⟩
     have hy' := hy;obtain ⟨ya, ym, yd, rfl, _⟩ := hy';refine ⟨_, _, _, _, _, _, _, _, _, _, _, _, _, _, _, hv, Br.mk (fun h5 => no _ fun hh => ?_) (fun h5 => ?_)⟩
     · have h5 : (askQW (ws.drop 2)).2 = false := by simpa using h5
       have := hh.2.1;rw [<- hws, refW, if_neg ht, if_neg h2, if_neg h3, if_pos h4, h5] at this;cases this
     · have h5 : (askQW (ws.drop 2)).2 = true := by simpa using h5
       refine ⟨by decide, by omega, hsome, _, wat (Mem.le_trans l24 l5) 1 (by omega), (ct86 _ (wz 1 (by omega)) I5).mono fun v I6 l6 hv => ⟨_, hv, (ct45 _ (valI_rng _) (askQW (ws.drop 2)).1 hsm.ok hsm.name _ I6 (hy.mono l6) hsm.fed).mono fun v I7 l7 ⟨z, hv, hz⟩ => ?_⟩⟩
       have hz' := hz;obtain ⟨za, zm, zd, rfl, _⟩ := hz';refine ⟨_, _, _, _, _, _, _, hv, ?_⟩;rw [hRI, <- hws, refW, if_neg ht, if_neg h2, if_neg h3, if_pos h4, if_pos h5];exact ⟨_, rfl, hz, rfl, h40⟩
   · have h4 := of_decide_eq_false h4
     rw [hRI, <- hws, refW, if_neg ht, if_neg h2, if_neg h3, if_neg h4];exact ⟨_, rfl, bysl_nil _, rfl, h40⟩
 · rw [hRI, <- hws] at hR
   obtain ⟨y, hcs, hy, hok, _⟩ := hR;have heok := refW_ok hwz (tx s);rw [<- hws] at no
   have hQ2 : readQ (tx s) = if (tx s).length <= 40000 /\ (refW ws (tx s)).2 = true /\ cleanE (refW ws (tx s)).1 = true /\ lineT (refW ws (tx s)).1 = tx s then ((refW ws (tx s)).1, 0) else (zeroEn, 411) := by rw [hws]; rfl
   generalize hE : (refW ws (tx s)).1 = E at hcs hy heok no hQ2;simp only [enV, List.cons.injEq, Value.int.injEq, true_and, and_true] at hcs;obtain ⟨rfl, rfl, rfl, rfl⟩ := hcs;refine (ct74 E heok _ I2 hy).mono fun v I3 l3 hv => ⟨_, _, hv, Br.mk (fun h1 => no _ fun hh => ?_) (fun h1 => Br.mk (fun h2 => no _ fun hh => ?_) (fun h2 => ?_))⟩
   · have h1 : lineE E ≠ 0 := by simpa using h1
     rw [lineE, if_pos hh.2.2.1] at h1;exact h1 rfl
   · rw [str_eq] at h2
     have h2 : strT (lineT E) ≠ s := by simpa using h2
     exact h2 (by rw [hh.2.2.2]; rfl)
   · rw [str_eq] at h2
     have h2 : strT (lineT E) = s := by simpa using h2
     have h1 : lineE E = 0 := by simpa using h1
     have hc : cleanE E = true := by
      rw [lineE] at h1
      split at h1
      · assumption
      · cases h1
     have hlt : lineT E = tx s := by rw [<- h2, tx_strT]
     rw [hQ, hQ2, if_pos ⟨h40, hok, hc, hlt⟩];exact ⟨_, rfl, hy.mono l3⟩
theorem refW_line {e : En} (hk : okEn e) (hc : cleanE e = true) : refW (pieces (lineT e)) (lineT e) = (e, true) := by
 obtain ⟨_, h3⟩ := clean_len hc;obtain ⟨kd, sl, n, bs⟩ := e
 have val : ∀ {n : Int}, i64R n -> valI (strL (strT (Lib.itoa n))) = n := fun hn => by rw [strL_tx, tx_strT, valI_itoa hn]
 simp only at h3
 rcases h3 with rfl | rfl | rfl
 · have hn : n = 0 := by
    simp only [cleanE, if_true, Bool.and_eq_true, decide_eq_true_eq] at hc;exact hc.2.1
   subst hn
   cases ha : accB bs with
   | true =>
    obtain ⟨ho, hr, hw, h0⟩ := read_back hk.bs ha
    have hlt : lineT ⟨1, sl, 0, bs⟩ = askB ++ 32 :: (Lib.itoa sl ++ 32 :: tx (wordsB (readR bs).1)) := by
     have := line_right ho hr (slot := sl) (by rw [hw]; exact hc)
     rwa [hw] at this
    have hsp : pieces (lineT ⟨1, sl, 0, bs⟩) = strT askB :: strT (Lib.itoa sl) :: wordsL (readR bs).1 := by
     rw [hlt, pieces, split_app (by decide), split_app (free_no (itoa_free sl)).1, words_split ho.fed, List.map_cons, List.map_cons, List.map_map]
     have : (strT ∘ tx) = id := by funext s; exact strT_tx s
     rw [this, List.map_id]
    have hwl : 0 < (wordsL (readR bs).1).length := by simp [wordsL]
    have e0 : ∀ (a b : ByteArray) (l : List ByteArray), wordAt (a :: b :: l) 0 = a := fun _ _ _ => rfl;have e1 : ∀ (a b : ByteArray) (l : List ByteArray), wordAt (a :: b :: l) 1 = b := fun _ _ _ => rfl
    have hE : askE sl (readR bs).1 = (⟨1, sl, 0, bs⟩, 0) := by
     rw [askE, if_pos hr, hw, if_pos hc]
    have ht : lineT ⟨1, sl, 0, bs⟩ ≠ tickB := by
     rw [hlt]; intro h; simp [askB, tickB] at h
    rw [hsp, refW, if_neg ht, e0, e1, if_neg (fun h => absurd h.1 (by decide)), if_neg (fun h => absurd h.1 (by decide)), if_pos ⟨rfl, by simp only [List.length_cons]; omega⟩, val hk.slot]
    rw [show (strT askB :: strT (Lib.itoa sl) :: wordsL (readR bs).1).drop 2 = wordsL (readR bs).1 from rfl, askQ_words ho ho.fed hr, if_pos rfl, hE]
   | false =>
    have hlt : lineT ⟨1, sl, 0, bs⟩ = rawB ++ 32 :: (Lib.itoa sl ++ 32 :: wordT bs) := by
     rw [lineT, if_neg (by rw [hc]; decide), if_neg (fun e => absurd (show (1 : Int) = 2 from e) (by decide)), if_neg (fun e => absurd (show (1 : Int) = 3 from e) (by decide)), read_bad ha, if_neg (by decide)]
    have hsp : pieces (lineT ⟨1, sl, 0, bs⟩) = [strT rawB, strT (Lib.itoa sl), strT (wordT bs)] := by
     rw [hlt, pieces, split_app (by decide), split_app (free_no (itoa_free sl)).1, split_free (free_no (word_free hk.bs)).1]; rfl
    have e0 : wordAt [strT rawB, strT (Lib.itoa sl), strT (wordT bs)] 0 = strT rawB := rfl;have e1 : wordAt [strT rawB, strT (Lib.itoa sl), strT (wordT bs)] 1 = strT (Lib.itoa sl) := rfl;have e2 : wordAt [strT rawB, strT (Lib.itoa sl), strT (wordT bs)] 2 = strT (wordT bs) := rfl
    have ht : lineT ⟨1, sl, 0, bs⟩ ≠ tickB := by
     rw [hlt]; intro h; simp [rawB, tickB] at h
    rw [hsp, refW, if_neg ht, e0, e1, e2, if_neg (fun h => absurd h.1 (by decide)), if_pos ⟨rfl, rfl⟩, val hk.slot, unI_word hk.bs]
 · have hz : (⟨2, sl, n, bs⟩ : En) = ⟨2, 0, 0, []⟩ := by
    simp only [cleanE, show ¬ ((2 : Int) = 1) by decide, if_false, if_true, decide_eq_true_eq] at hc
    exact hc
   rw [hz]
   have : lineT ⟨2, 0, 0, []⟩ = tickB := by decide
   rw [this, refW, if_pos rfl]
 · have hz : (⟨3, sl, n, bs⟩ : En) = ⟨3, 0, n, []⟩ := by
    simp only [cleanE, show ¬ ((3 : Int) = 1) by decide, show ¬ ((3 : Int) = 2) by decide, if_false, if_true, Bool.and_eq_true, decide_eq_true_eq] at hc
    exact hc.2
   have hlt : lineT ⟨3, sl, n, bs⟩ = pickB ++ 32 :: Lib.itoa n := by
    rw [lineT, if_neg (by rw [hc]; decide), if_neg (fun e => absurd (show (3 : Int) = 2 from e) (by decide)), if_pos rfl]
   have hsp : pieces (lineT ⟨3, sl, n, bs⟩) = [strT pickB, strT (Lib.itoa n)] := by
    rw [hlt, pieces, split_app (by decide), split_free (free_no (itoa_free n)).1]; rfl
   have ht : lineT ⟨3, sl, n, bs⟩ ≠ tickB := by
    rw [hlt]; intro h; simp [pickB, tickB] at h
   have e0 : wordAt [strT pickB, strT (Lib.itoa n)] 0 = strT pickB := rfl;have e1 : wordAt [strT pickB, strT (Lib.itoa n)] 1 = strT (Lib.itoa n) := rfl;rw [hsp, refW, if_neg ht, e0, e1, if_pos ⟨rfl, rfl⟩, val hk.n, hz]
theorem readQ_eq (t : Tx) : readQ t = readL t := by
 rw [readL];split
 · rename_i h
   obtain ⟨h1, h2, h3, h4⟩ := h
   have hok := entry_ok (ws := pieces t) (pieces_len (by omega))
   generalize (entryW (pieces t)).1 = E at h3 h4 hok;subst h4;have hr := refW_line hok h3
   rw [readQ, hr, if_pos ⟨by omega, rfl, h3, rfl⟩]
 · rename_i h
   rw [readQ];split
   · rename_i h2
     obtain ⟨g1, g2, g3, g4⟩ := h2
     have hok := refW_ok (ws := pieces t) (pieces_len (by omega)) t
     have := read_line hok g3;rw [g4, readL, if_neg h] at this;have := congrArg Prod.snd this;cases this
   · rfl
set_option maxHeartbeats 1000000 in
theorem ct73 (es : List En) (a : Option Addr) (n c : Nat) (I : Mem) (h : EnM I a n es) (hb : ∀ e ∈ es, e.bs.length <= 1000000) (hn : n <= 100000) :
 Ct Tryz.prog (fnv 73) #[.slice a n c] I (fun v I' => ∃ a' c', v = .slice a' n c' /\ EnM I' a' n es /\ n <= c' /\ c' <= maxLen) := by
 obtain ⟨Q, hQ⟩ : ∃ q : Value -> Mem -> Prop, q = fun v I' => ∃ a' c', v = .slice a' n c' /\ EnM I' a' n es /\ n <= c' /\ c' <= maxLen := ⟨_, rfl⟩;rw [<- hQ];obtain ⟨TI, hTI⟩ : ∃ f : Mem -> Int -> List Value -> Prop, f = fun I' (j : Int) xs => 0 <= j /\ j <= n /\ RowR 4 EnC I' xs (es.take j.toNat) := ⟨_, rfl⟩
 refine viaR (ct_via (A := { loops := [(3, ⟨[(3, .row 0), (6, .keep), (7, .keep), (8, .sh (.int .i64))], [(0, .row)], [(3, 4, 72)], fun vals xss I' _ => match vals, xss with | [.int .i64 j], [xs] => TI I' j xs | _, _ => False, fun vals _ => match vals with | [.int .i64 j] => (n - j).toNat | _ => 0⟩)] }) Tryz.func73 rfl Tryz.call73 rfl rfl) (((0 : Nat) = 0 /\ Rf (SV.v (.slice a n c)) /\ Rf (SV.v (.int .i64 (n : Int))) /\ TI I 0 []) /\ ∀ (b : Mem), Mem -> I.le b -> ∀ (x : List Value) (d : Int), TI b d x -> Br (decide (d < (n : Int))) (0 <= d /\ d < (n : Int) /\ a.isSome = true /\ (4 : Nat) = 4 /\ ∃ e, atI b a (d.toNat * 4 + 0) = some (.int .u8 e) /\ ∃ f, atI b a (d.toNat * 4 + 1) = some (.int .i64 f) /\ ∃ g, atI b a (d.toNat * 4 + 2) = some (.int .i64 g) /\ ∃ i j k, atI b a (d.toNat * 4 + 3) = some (.slice i j k) /\ Ct Tryz.prog (fnv 89) #[.slice i j k] b fun v l => ∃ m o p, v = .slice m o p /\ x.length = x.length / 4 * 4 /\ x.length / 4 + 1 <= 9223372036854775807 /\ (x.length / 4 + 1) * 48 <= 140737488355328 /\ Wr .i64 (d + 1) fun q => x.length / 4 + 1 = List.length (x ++ [.int .u8 e, .int .i64 f, .int .i64 g, .slice m o p]) / 4 /\ Rf (SV.v (.slice a n c)) /\ Rf (SV.v (.int .i64 (n : Int))) /\ TI l q (x ++ [.int .u8 e, .int .i64 f, .int .i64 g, .slice m o p]) /\ Int.toNat ((n : Int) - q) < Int.toNat ((n : Int) - d)) (∀ (e : Option Addr) (f : Nat) (g : Mem), b.le g -> RowM g e f 4 x -> Q (.slice e (x.length / 4) f) g)) (by kernel_rfl) ?_
 simp only [Rf, true_and]
 have hes : es.length = n := SlR.len (by decide) h
 refine ⟨by rw [hTI]; exact ⟨by omega, by omega, rfl⟩, fun J _ lJ xs j hj => ?_⟩
 rw [hTI] at hj;obtain ⟨j0, j1, hr⟩ := hj;have hl := hr.len;rw [List.length_take] at hl;refine Br.mk (fun hlt => ?_) (fun hge A cp J2 l2 hrow => ?_)
 · have hlt := of_decide_eq_true hlt
   obtain ⟨e, b, m, cp, g1, g2, g3, g4, g5, g6, g7⟩ := (h.mono lJ).get j0 hlt;have hbe := hb e (List.mem_of_getElem? g1);obtain ⟨_, _, _, e1, g8, g9, g10⟩ := g3;cases e1
   refine ⟨j0, hlt, SlR.isSome h (by omega), _, g4, _, g5, _, g6, _, _, _, g7, (ct89 e.bs b m cp J g8 (by have := g8.numLen; omega)).mono fun v J3 l3 hv => ?_⟩
   have hv' := hv;obtain ⟨p, q, r, rfl, _⟩ := hv'
   refine ⟨p, q, r, rfl, by omega, by omega, by omega, wr_i64 (by omega) (by omega) ⟨by simp only [List.length_append, List.length_cons, List.length_nil]; omega, ?_, by omega⟩⟩
   rw [hTI]
   refine ⟨by omega, by omega, ?_⟩
   rw [show (j + 1).toNat = j.toNat + 1 by omega, List.take_add_one, g1, Option.toList_some]
   exact (hr.mono enC_mono l3).snoc rfl ⟨g2, _, rfl, hv⟩
 · have hge := of_decide_eq_false hge
   rw [List.take_of_length_le (by omega)] at hr
   have hr1 := hrow.1
   have hn4 : xs.length / 4 = n := by omega
   rw [hQ, hn4]
   have := SlR.row (by decide) hrow (hr.mono enC_mono l2)
   rw [hes] at this
   exact ⟨_, _, rfl, this, by omega, hrow.2.1⟩
set_option maxHeartbeats 1000000 in
theorem ct42 (es fs : List En) (a b : Option Addr) (n m c d : Nat) (I : Mem) (h : EnM I a n es) (h2 : EnM I b m fs) (hb : ∀ e ∈ es, e.bs.length <= 1000000) (hn : n <= 100000) :
 Ct Tryz.prog (fnv 42) #[.slice a n c, .slice b m d] I (fun v _ => v = .bool (decide (es = fs))) := by
 obtain ⟨D, hD⟩ : ∃ D, D = decide (es = fs) := ⟨_, rfl⟩;rw [<- hD];obtain ⟨WI, hWI⟩ : ∃ f : Int -> Prop, f = fun (j : Int) => 0 <= j /\ j <= n /\ es.take j.toNat = fs.take j.toNat := ⟨_, rfl⟩
 refine viaR (ct_via (A := { loops := [(4, ⟨[(1, .keep), (13, .keep), (14, .keep), (15, .sh (.int .i64))], [], [], fun vals _ _ _ => match vals with | [.int .i64 j] => WI j | _ => False, fun vals _ => match vals with | [.int .i64 j] => (n - j).toNat | _ => 0⟩)] }) Tryz.func42 rfl Tryz.call42 rfl rfl) (Br ((n : Int) != (m : Int)) (Value.bool false = .bool D) (Ct Tryz.prog (fnv 73) #[.slice a n c] I (fun v e => ∃ f g i, v = .slice f g i /\ (Rf (SV.v (.slice b m d)) /\ Rf (SV.v (.slice f g i)) /\ Rf (SV.v (.int .i64 (g : Int))) /\ WI 0) /\ ∀ (j : Mem), Mem -> e.le j -> ∀ (k : Int), WI k -> Br (decide (k < (g : Int))) (0 <= k /\ k < (g : Int) /\ f.isSome = true /\ (4 : Nat) = 4 /\ ∃ l, atI j f (k.toNat * 4 + 0) = some (.int .u8 l) /\ ∃ o, atI j f (k.toNat * 4 + 1) = some (.int .i64 o) /\ ∃ p, atI j f (k.toNat * 4 + 2) = some (.int .i64 p) /\ ∃ q r s, atI j f (k.toNat * 4 + 3) = some (.slice q r s) /\ 0 <= k /\ k < (m : Int) /\ b.isSome = true /\ (4 : Nat) = 4 /\ ∃ t, atI j b (k.toNat * 4 + 0) = some (.int .u8 t) /\ ∃ u, atI j b (k.toNat * 4 + 1) = some (.int .i64 u) /\ ∃ w, atI j b (k.toNat * 4 + 2) = some (.int .i64 w) /\ ∃ x y z, atI j b (k.toNat * 4 + 3) = some (.slice x y z) /\ Ct Tryz.prog (fnv 76) #[.agg #[.int .u8 l, .int .i64 o, .int .i64 p, .slice q r s], .agg #[.int .u8 t, .int .i64 u, .int .i64 w, .slice x y z]] j fun v1 I1 => ∃ b1, v1 = .bool b1 /\ Br (!b1) (Value.bool false = .bool D) (Wr .i64 (k + 1) (fun c1 => Rf (SV.v (.slice b m d)) /\ Rf (SV.v (.slice f g i)) /\ Rf (SV.v (.int .i64 (g : Int))) /\ WI c1 /\ Int.toNat ((n : Int) - c1) < Int.toNat ((n : Int) - k)))) (Value.bool true = .bool D)))) (by kernel_rfl) ?_
 simp only [Rf, true_and]
 have hes : es.length = n := SlR.len (by decide) h
 have hfs : fs.length = m := SlR.len (by decide) h2
 have no : es ≠ fs -> Value.bool false = Value.bool D := fun hh => by rw [hD, decide_eq_false hh]
 refine Br.mk (fun g => no fun e => ?_) (fun g => ?_)
 · have g : (n : Int) ≠ m := by simpa using g
   rw [e] at hes; omega
 have g : (n : Int) = m := by simpa using g
 refine (ct73 es a n c I h hb hn).mono fun v I1 l1 ⟨a', c', hv, h3, _⟩ => ⟨a', n, c', hv, by rw [hWI]; exact ⟨by omega, by omega, rfl⟩, fun J _ lJ j hj => ?_⟩
 rw [hWI] at hj;obtain ⟨j0, j1, hj⟩ := hj;refine Br.mk (fun hlt => ?_) (fun hge => ?_)
 · have hlt := of_decide_eq_true hlt
   obtain ⟨e, b1, m1, cp1, g1, g2, g3, g4, g5, g6, g7⟩ := (h3.mono lJ).get j0 hlt
   obtain ⟨f, b2, m2, cp2, k1, k2, k3, k4, k5, k6, k7⟩ := ((h2.mono l1).mono lJ).get j0 (by omega)
   refine ⟨j0, hlt, SlR.isSome h3 (by omega), _, g4, _, g5, _, g6, _, _, _, g7, j0, by omega, SlR.isSome h2 (by omega), _, k4, _, k5, _, k6, _, _, _, k7, (ct76 e f _ _ J g3 k3).mono fun v J2 l2 hv => ⟨_, hv, Br.mk (fun q => no fun he => ?_) (fun q => wr_i64 (by omega) (by omega) ⟨?_, by omega⟩)⟩⟩
   · have q : e ≠ f := by simpa using q
     rw [he, k1] at g1;exact q (Option.some.inj g1).symm
   · have q : e = f := by simpa using q
     rw [hWI]
     refine ⟨by omega, by omega, ?_⟩
     rw [show (j + 1).toNat = j.toNat + 1 by omega, List.take_add_one, List.take_add_one, hj, g1, k1, q]
 · have hge := of_decide_eq_false hge
   rw [List.take_of_length_le (by omega), List.take_of_length_le (by omega)] at hj
   rw [hD, decide_eq_true hj]
theorem en_block {J : Mem} {b : Nat} {e : En} {y : Value} {el : TypeId} (h : J b = some (.cells (enV e y).toArray el)) (hk : okEn e) (hy : BySl J y e.bs) : EnM J (some ⟨b, 0, none⟩) 1 [e] := by
 have := sl_cells (n := 1) (sz := 4) h rfl (by decide)
 exact ⟨_, this, RowR.one rfl ⟨hk, y, rfl, hy⟩⟩
theorem readL_good {t : Tx} (ht : t.length <= 100000) : okEn (readL t).1 /\ (readL t).1.bs.length <= 16384 := by
 rw [readL];split
 · rename_i h
   exact ⟨entry_ok (pieces_len (by omega)), (clean_len h.2.2.1).1⟩
 · exact ⟨zero_okE, Nat.zero_le _⟩
theorem ct13 (s : ByteArray) (I : Mem) (hG : Globs I) : Ct Tryz.prog (fnv 13) #[.string s] I (fun v _ => v = .bool true) := by
 refine viaR (ct_via (A := { calls := [(24, .hd)] }) Tryz.func13 rfl Tryz.call13 rfl rfl) (Br (decide (2000 < (s.size : Int))) (Rf (Value.bool true)) (Ct Tryz.prog (fnv 38) #[.string s] I (fun v a => ∃ n b c d e f g, v = .tuple #[.agg #[.int .u8 n, .int .i64 b, .int .i64 c, .slice d e f], .int .i64 g] /\ Ct Tryz.prog (fnv 41) #[.string s] a fun h i => ∃ j k l m o p q, h = .tuple #[.agg #[.int .u8 j, .int .i64 k, .int .i64 l, .slice m o p], .int .i64 q] /\ ∀ (r : Nat) (t : Mem), i.le t -> t r = some (.cells #[.int .u8 n, .int .i64 b, .int .i64 c, .slice d e f] 35 (0, 0)) -> ∀ (u : Nat) (w : Mem), t.le w -> w u = some (.cells #[.int .u8 j, .int .i64 k, .int .i64 l, .slice m o p] 72 (0, 0)) -> Ct Tryz.prog (fnv 42) #[.slice (some ⟨r, 0, none⟩) 1 1, .slice (some ⟨u, 0, none⟩) 1 1] w fun x y => ∃ z, x = .bool z /\ Br z (Value.bool (g == q) = .bool true) (Value.bool false = .bool true)))) (by kernel_rfl) ?_
 refine Br.mk (fun h => rfl) (fun h => ?_);have h := of_decide_eq_false h;have hl : (tx s).length = s.size := Array.length_toList
 obtain ⟨hok, hbl⟩ := readL_good (t := tx s) (by omega)
 refine (ct38 s (by omega) I hG).mono fun v I1 l1 ⟨y, hv, hy⟩ => ?_
 have hy' := hy;obtain ⟨a, n, c, rfl, _⟩ := hy'
 refine ⟨_, _, _, _, _, _, _, hv, (ct41 s (by omega) I1).mono fun v I2 l2 ⟨z, hv, hz⟩ => ?_⟩
 rw [readQ_eq] at hv hz;have hz' := hz;obtain ⟨a2, n2, c2, rfl, _⟩ := hz';refine ⟨_, _, _, _, _, _, _, hv, fun r I3 l3 hr u I4 l4 hu => ?_⟩;have e1 := en_block (e := (readL (tx s)).1) (J := I4) (l4 _ _ hr) hok (((hy.mono l2).mono l3).mono l4);have e2 := en_block (e := (readL (tx s)).1) (J := I4) hu hok ((hz.mono l3).mono l4)
 refine (ct42 _ _ _ _ 1 1 1 1 I4 e1 e2 (fun e he => by rw [List.mem_singleton.1 he]; omega) (by decide)).mono fun v I5 l5 hv => ⟨_, hv, ?_⟩
 rw [decide_eq_true rfl]
 show Value.bool (_ == _) = _
 rw [beq_self_eq_true]
theorem ct3 (s : ByteArray) (I : Mem) (hG : Globs I) : Ct Tryz.prog (fnv 3) #[.string s] I (fun v _ => v = .bool true) := by
 refine viaR (ct_via (A := { }) Tryz.func3 rfl Tryz.call3 rfl rfl) (Ct Tryz.prog (fnv 13) #[.string s] I fun v a => ∃ b, v = .bool b /\ Br b (Ct Tryz.prog (fnv 14) #[] a (fun c d => ∃ e, c = .bool e /\ Value.bool e = .bool true)) (Value.bool false = .bool true)) (by kernel_rfl) ?_
 exact (ct13 s I hG).mono fun v I1 l1 hv => ⟨_, hv, Br.t rfl ((ct14 I1 (hG.mono l1)).mono fun v I2 l2 hv => ⟨_, hv, rfl⟩)⟩
def Q9 (I : Mem) (v : Value) : Prop := ∃ s : ByteArray, v = .string s /\ s.size <= reachBytes
section
variable {H : Type} {enc : TypeId × Value -> H} {W : World} {r : Reach} {b0 : Nat} {v : Value} {d : DataW H} {ps : List MemPlace}
theorem op9 (hval : Value.okWide Tryz.prog W r b0 9 v) (hd : DataW.Trod enc Tryz.prog W 0 (fun _ => true) true 9 v d ps) (hw : ∀ n ∈ d.weights Tryz.prog 9, n <= reachBytes) : Q9 (memW W) v := by
 obtain ⟨s, rfl⟩ := Go.WideShapes.okWide_string Tryz.underlying9 hval;obtain ⟨fuel, hf⟩ := hd;obtain ⟨s', h1, h2⟩ := opc_str Tryz.underlying9 H enc fuel _ d ps hf hw;cases h1;exact ⟨s, rfl, h2⟩
end
theorem ct3Q (I : Mem) (hG : Globs I) (v0 : Value) (h0 : Q9 I v0) : Ct Tryz.prog (fnv 3) #[v0] I (fun v _ => v = .bool true) := by
 obtain ⟨s, rfl, hs⟩ := h0;exact ct3 s I hG
