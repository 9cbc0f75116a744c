/- Part of a proof by the rules of the symbolic walk (see the law's own text): contracts of functions of the program. -/
import Derived.Test.YtglkgdkdcmilcaaRa4
open Go Go.Proofs Go.SE Go.RowKit
theorem ct29' (q : ByteArray) (I : Mem) : Ct Try.prog (fnv 29) #[.string q] I (fun v _ => v = .tuple #[.int .u8 ((readV q).getD 0 : Nat), .int .i64 (if (readV q).isSome then 0 else 222)]) :=
  (ct29 q I).mono fun v _ _ hv => by
    rw [hv]
    unfold readA
    cases readV q <;> rfl
theorem ct30 (q : ByteArray) (I : Mem) : Ct Try.prog (fnv 30) #[.string q, .string ⟨#[43]⟩] I (fun v _ => v = .int .i64 (q.data.toList.count 43 : Nat)) :=
  ct_of_calls Try.call30 fun w _ => (Try.strings_Count_one q 43 w).mono fun e w' ⟨he, hw⟩ => ⟨⟨_, he, rfl⟩, hw ▸ Below.refl _ _⟩
theorem tail11 (q : ByteArray) (I : Mem) : Ct Try.prog (fnv 29) #[.string q] I fun v I' => ∃ n n_4, v = Value.tuple #[Value.int IntKind.u8 n, Value.int IntKind.i64 n_4] ∧ Br (n_4 != 0) (Br (n_4 == 222) (Value.bool (n == 0) = Value.bool true) (Value.bool false = Value.bool true)) (Ct Try.prog (fnv 26) #[Value.int IntKind.u8 n] I' fun v I' => ∃ t n_5, v = Value.tuple #[Value.string t, Value.int IntKind.i64 n_5] ∧ Br (n_5 == 0) (Br (t.toList == q.toList) (Ct Try.prog (fnv 27) #[Value.int IntKind.u8 n] I' fun v I' => ∃ b, v = Value.bool b ∧ Value.bool b = Value.bool true) (Value.bool false = Value.bool true)) (Value.bool false = Value.bool true)) := by
  refine (ct29 q I).mono fun v I1 _ hv => ?_
  unfold readA at hv
  cases hr : readV q with
  | none =>
    simp only [hr] at hv
    exact ⟨_, _, hv, Br.t (by decide) (Br.t (by decide) rfl)⟩
  | some m =>
    simp only [hr] at hv
    have hm := List.find?_some hr
    have hlt : m < 16 := by
      have := List.mem_of_find?_eq_some hr
      simpa using this
    have hok : okM [(m : Int)] = true := okM_lt (by omega)
    refine ⟨_, _, hv, Br.f (by decide) ((ct26 m I1).mono fun v I2 _ hv => ⟨_, _, hv, Br.t (by simp [hok]) (Br.t (by rw [str_eq]; exact hm) ((ct27 m I2).mono fun v I3 _ hv => ⟨_, hv, by rw [hok]⟩))⟩)⟩
set_option maxHeartbeats 2000000 in
theorem ct11 (I : Mem) (p : Int) (hp : 0 ≤ p ∧ p ≤ 255) (q : Int) (hq : 0 ≤ q ∧ q ≤ 255) (s : ByteArray) (hs : s.size ≤ maxLen) : Ct Try.prog (fnv 11) #[.int .u8 p, .int .u8 q, .string s] I (fun v _ => v = .bool true) := by
  refine viaR (ct_via (A := {}) Try.func11 rfl Try.call11 rfl rfl) (Ct Try.prog (Value.func (Fn.func (13 : Nat)) #[] #[]) #[] I fun (v : Value) (I' : Mem) => ∃ (b : Bool), v = Value.bool b ∧ Br (!b) (Value.bool false = Value.bool true) ((16 : Int) ≠ (0 : Int) ∧ (16 : Int) ≠ (0 : Int) ∧ Ct Try.prog (Value.func (Fn.func (26 : Nat)) #[] #[]) #[Value.int IntKind.u8 (Int.tmod p (16 : Int))] I' fun (v : Value) (I' : Mem) => ∃ (q_1 : ByteArray), ∃ (n : Int), v = Value.tuple #[Value.string q_1, Value.int IntKind.i64 n] ∧ Ct Try.prog (Value.func (Fn.func (26 : Nat)) #[] #[]) #[Value.int IntKind.u8 (Int.tmod q (16 : Int))] I' fun (v : Value) (I' : Mem) => ∃ (q_2 : ByteArray), ∃ (n_1 : Int), v = Value.tuple #[Value.string q_2, Value.int IntKind.i64 n_1] ∧ Ct Try.prog (Value.func (Fn.func (29 : Nat)) #[] #[]) #[Value.string q_1] I' fun (v : Value) (I' : Mem) => ∃ (n_2 : Int), ∃ (n_3 : Int), v = Value.tuple #[Value.int IntKind.u8 n_2, Value.int IntKind.i64 n_3] ∧ Wr IntKind.i64 (n + n_1) fun (c : Int) => Wr IntKind.i64 (c + n_3) fun (c : Int) => Br (c != (0 : Int)) (Value.bool false = Value.bool true) (Br (n_2 != Int.tmod p (16 : Int)) (Value.bool false = Value.bool true) (Br (!(ByteArray.toList q_1 == ByteArray.toList q_2) == (Int.tmod p (16 : Int) == Int.tmod q (16 : Int))) (Value.bool false = Value.bool true) (Br (decide ((0 : Int) < Int.tmod p (16 : Int))) (Ct Try.prog (Value.func (Fn.func (30 : Nat)) #[] #[]) #[Value.string q_1, Value.string (ByteArray.mk #[(43 : UInt8)])] I' fun (v : Value) (I' : Mem) => ∃ (n : Int), v = Value.int IntKind.i64 n ∧ Wr IntKind.i64 (n + (1 : Int)) fun (c : Int) => Ct Try.prog (Value.func (Fn.func (23 : Nat)) #[] #[]) #[Value.int IntKind.u8 (Int.tmod p (16 : Int))] I' fun (v : Value) (I' : Mem) => ∃ (n : Int), v = Value.int IntKind.i64 n ∧ Br (c != n) (Value.bool false = Value.bool true) (((0 : Int) ≤ bif false then imax (↑(ByteArray.size s) : Int) (60 : Int) else imin (↑(ByteArray.size s) : Int) (60 : Int)) ∧ (bif false then imax (↑(ByteArray.size s) : Int) (60 : Int) else imin (↑(ByteArray.size s) : Int) (60 : Int)) ≤ (↑(ByteArray.size s) : Int) ∧ Ct Try.prog (Value.func (Fn.func (29 : Nat)) #[] #[]) #[Value.string (ByteArray.extract s (0 : Nat) (Int.toNat (bif false then imax (↑(ByteArray.size s) : Int) (60 : Int) else imin (↑(ByteArray.size s) : Int) (60 : Int))))] I' fun (v : Value) (I' : Mem) => ∃ (n : Int), ∃ (n_4 : Int), v = Value.tuple #[Value.int IntKind.u8 n, Value.int IntKind.i64 n_4] ∧ Br (n_4 != (0 : Int)) (Br (n_4 == (222 : Int)) (Value.bool (n == (0 : Int)) = Value.bool true) (Value.bool false = Value.bool true)) (Ct Try.prog (Value.func (Fn.func (26 : Nat)) #[] #[]) #[Value.int IntKind.u8 n] I' fun (v : Value) (I' : Mem) => ∃ (q : ByteArray), ∃ (n_5 : Int), v = Value.tuple #[Value.string q, Value.int IntKind.i64 n_5] ∧ Br (n_5 == (0 : Int)) (Br (ByteArray.toList q == ByteArray.toList (ByteArray.extract s (0 : Nat) (Int.toNat (bif false then imax (↑(ByteArray.size s) : Int) (60 : Int) else imin (↑(ByteArray.size s) : Int) (60 : Int))))) (Ct Try.prog (Value.func (Fn.func (27 : Nat)) #[] #[]) #[Value.int IntKind.u8 n] I' fun (v : Value) (I' : Mem) => ∃ (b : Bool), v = Value.bool b ∧ Value.bool b = Value.bool true) (Value.bool false = Value.bool true)) (Value.bool false = Value.bool true)))) (((0 : Int) ≤ bif false then imax (↑(ByteArray.size s) : Int) (60 : Int) else imin (↑(ByteArray.size s) : Int) (60 : Int)) ∧ (bif false then imax (↑(ByteArray.size s) : Int) (60 : Int) else imin (↑(ByteArray.size s) : Int) (60 : Int)) ≤ (↑(ByteArray.size s) : Int) ∧ Ct Try.prog (Value.func (Fn.func (29 : Nat)) #[] #[]) #[Value.string (ByteArray.extract s (0 : Nat) (Int.toNat (bif false then imax (↑(ByteArray.size s) : Int) (60 : Int) else imin (↑(ByteArray.size s) : Int) (60 : Int))))] I' fun (v : Value) (I' : Mem) => ∃ (n : Int), ∃ (n_4 : Int), v = Value.tuple #[Value.int IntKind.u8 n, Value.int IntKind.i64 n_4] ∧ Br (n_4 != (0 : Int)) (Br (n_4 == (222 : Int)) (Value.bool (n == (0 : Int)) = Value.bool true) (Value.bool false = Value.bool true)) (Ct Try.prog (Value.func (Fn.func (26 : Nat)) #[] #[]) #[Value.int IntKind.u8 n] I' fun (v : Value) (I' : Mem) => ∃ (q : ByteArray), ∃ (n_5 : Int), v = Value.tuple #[Value.string q, Value.int IntKind.i64 n_5] ∧ Br (n_5 == (0 : Int)) (Br (ByteArray.toList q == ByteArray.toList (ByteArray.extract s (0 : Nat) (Int.toNat (bif false then imax (↑(ByteArray.size s) : Int) (60 : Int) else imin (↑(ByteArray.size s) : Int) (60 : Int))))) (Ct Try.prog (Value.func (Fn.func (27 : Nat)) #[] #[]) #[Value.int IntKind.u8 n] I' fun (v : Value) (I' : Mem) => ∃ (b : Bool), v = Value.bool b ∧ Value.bool b = Value.bool true) (Value.bool false = Value.bool true)) (Value.bool false = Value.bool true)))))))) (by kernel_rfl) ?_
  have htail : ∀ I' : Mem, _ := fun I' => tail11 (s.extract 0 (bif false then imax (s.size : Int) 60 else imin (s.size : Int) 60).toNat) I'
  have h0 : (0 : Int) ≤ (bif false then imax (s.size : Int) 60 else imin (s.size : Int) 60) := by simp only [cond_false, imin]; split <;> omega
  have h1 : (bif false then imax (s.size : Int) 60 else imin (s.size : Int) 60) ≤ (s.size : Int) := by simp only [cond_false, imin]; split <;> omega
  obtain ⟨a, ha⟩ := mod16 hp
  obtain ⟨b, hb⟩ := mod16 hq
  rw [ha, hb]
  clear ha hb hp hq
  simp only [str_eq]
  simp only [str_eq] at htail
  apply startB
  case' h => repeat' first
    | exact leafB
    | apply ifB
    | apply exI
    | apply exBo
    | apply exT2
    | apply exTS
    | apply wrB
    | exact doneB ⟨h0, h1, htail _⟩
    | apply andB (by decide)
    | (apply ctB (ct13 _); intro _ _)
    | (apply ctB (ct16 _ _ _); intro _ _)
    | (apply ctB (ct23 _ _); intro _ _)
    | (apply ctB (ct26 _ _); intro _ _)
    | (apply ctB (ct29' _ _); intro _ _)
    | (apply ctB (ct30 _ _); intro _ _)
  clear htail h0 h1 hs
  clear s
  revert a b
  decide +kernel
