/- Part of a proof by the rules of the symbolic walk (see the law's own text): contracts of functions of the program. -/
import Derived.Test.YtglkgdkdcmilcaaRa11
open Go Go.Proofs Go.SE Go.RowKit
theorem ct8 (I : Mem) (a : Option Addr) (n c : Nat) (zs : List Int) (h : SlM I a n 1 (ints .u8 zs)) (hc : n ≤ c) (hm : c ≤ maxLen) (hz : ∀ z ∈ zs, 0 ≤ z ∧ z ≤ 255) : Ct Try.prog (fnv 8) #[.slice a n c] I (fun v _ => v = .bool true) := by
  refine viaR (ct_via (A := {}) Try.func8 rfl Try.call8 rfl rfl) (Ct Try.prog (Value.func (Fn.func (25 : Nat)) #[] #[]) #[Value.slice a n c] I fun (v : Value) (I' : Mem) => ∃ (b : Bool), v = Value.bool b ∧ Br b (Ct Try.prog (Value.func (Fn.func (13 : Nat)) #[] #[]) #[] I' fun (v : Value) (I' : Mem) => ∃ (b : Bool), v = Value.bool b ∧ Value.bool b = Value.bool true) (Value.bool false = Value.bool true)) (by kernel_rfl) ?_
  exact (ct25 a n c zs I h hz).mono fun v I1 _ hv => ⟨_, hv, Br.t rfl ((ct13 _).mono fun v _ _ hv => ⟨_, hv, rfl⟩)⟩
