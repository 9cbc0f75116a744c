/- Part of a proof by the rules of the symbolic walk (see the law's own text): contracts of functions of the program. -/
import Derived.Test.YtnjbojekknpknaaLR35
open Go Go.Proofs Go.SE Go.RowKit
set_option linter.unusedVariables false
set_option maxRecDepth 100000 in
theorem ct6 (r q : Rq) (hr : okRq r) (hq : okRq q) (y z : Value) (I : Mem) (hy : BySl I y r.fed) (hz : BySl I z q.fed) :
    Ct Try.prog (fnv 6) #[.agg (rqV r y).toArray, .agg (rqV q z).toArray] I (fun v _ => v = .bool true) := by
  refine viaR (ct_via (A := { }) Try.func6 rfl Try.call6 rfl rfl) (Ct Try.prog (Value.func (Fn.func (20 : Nat)) #[] #[]) #[Value.agg #[Value.int IntKind.u8 (Rq.kind r), Value.int IntKind.u8 (Rq.what r), Value.string (Rq.name r), Value.int IntKind.i64 (Rq.p3 r), Value.int IntKind.i64 (Rq.p4 r), Value.int IntKind.i64 (Rq.p5 r), Value.int IntKind.i64 (Rq.p6 r), Value.int IntKind.i64 (Rq.p7 r), Value.int IntKind.i64 (Rq.p8 r), Value.int IntKind.i64 (Rq.p9 r), Value.int IntKind.i64 (Rq.val r), y], Value.agg #[Value.int IntKind.u8 (Rq.kind q), Value.int IntKind.u8 (Rq.what q), Value.string (Rq.name q), Value.int IntKind.i64 (Rq.p3 q), Value.int IntKind.i64 (Rq.p4 q), Value.int IntKind.i64 (Rq.p5 q), Value.int IntKind.i64 (Rq.p6 q), Value.int IntKind.i64 (Rq.p7 q), Value.int IntKind.i64 (Rq.p8 q), Value.int IntKind.i64 (Rq.p9 q), Value.int IntKind.i64 (Rq.val q), z]] I fun (v : Value) (I' : Mem) => ∃ (b : Bool), v = Value.bool b ∧ Br b (Ct Try.prog (Value.func (Fn.func (12 : Nat)) #[] #[]) #[] I' fun (v : Value) (I' : Mem) => ∃ (b : Bool), v = Value.bool b ∧ Value.bool b = Value.bool true) (Value.bool false = Value.bool true)) (by kernel_rfl) ?_
  exact (ct20 r q hr hq y z I hy hz).mono fun v I1 l1 hv => ⟨_, hv, Br.t rfl ((ct12 I1).mono fun v I2 l2 hv => ⟨_, hv, rfl⟩)⟩
theorem ct6Q (I : Mem) (v0 v1 : Value) (h0 : Q29 I v0) (h1 : Q29 I v1) : Ct Try.prog (fnv 6) #[v0, v1] I (fun v _ => v = .bool true) := by
  obtain ⟨r, y, rfl, hr, hy, _⟩ := h0
  obtain ⟨q, z, rfl, hq, hz, _⟩ := h1
  exact ct6 r q hr hq y z I hy hz
