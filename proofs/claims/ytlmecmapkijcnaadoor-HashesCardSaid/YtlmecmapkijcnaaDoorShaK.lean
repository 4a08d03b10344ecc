/- The law Hashes, walked. -/
import Derived.Test.YtlmecmapkijcnaaDoorShaJ
set_option linter.unusedVariables false
namespace Go.Proofs.YtlmecmapkijcnaaDoor
open KL

theorem name11 : (Tryd.f11.name == "runtime.NumGoroutine") = false := by kernel_rfl
theorem name12 : (Tryd.f12.name == "runtime.NumGoroutine") = false := by kernel_rfl

set_option maxRecDepth 100000 in
theorem hashes_wp {main : Bool} (h : Know) (s : ByteArray) (m0 mk : Bool) (t0 tk : TypeId) (f0 fk : Nat × Nat) (h0 : h 0 = some (m0, .cells (U hList) t0 f0)) (hK : h 2 = some (mk, .cells (U kList) tk fk)) (hfit : (s.size : Int) < 9223372036854775808) :
    wpE Tryd.prog main 15 (bodyOf Tryd.f3) (bodyQ Tryd.prog Tryd.f3 (RetLe (.bool true) h)) [] (argsE 0 [Value.string s]) h := by
  refine wpE_seq (wpE_region (op_p tyT_ok rfl (opsE_nil ?_)))
  refine wpE_seq (wpE_seq (wpE_region ?_))
  refine op_p tyT_ok rfl ?_
  refine op_p tyT_ok rfl ?_
  by_cases hbig : (1048576 : Int) < (s.size : Int)
  · refine op_pe tyT_ok rfl (v' := .bool true) (congrArg Value.bool (decide_eq_true hbig)) ?_
    refine opsE_nil (wpE_true rfl (wpE_seq (wpE_region (op_p tyT_ok rfl (opsE_nil (wpE_ret ?_))))))
    exact bodyQ_one (fn := Tryd.f3) rfl rfl ⟨rfl, Know.le_refl _⟩
  · refine op_pe tyT_ok rfl (v' := .bool false) (congrArg Value.bool (decide_eq_false hbig)) ?_
    refine opsE_nil (wpE_false rfl (wpE_skip ?_))
    have hs : s.size ≤ 2 ^ 40 := by omega
    refine wpE_seq (wpE_region ?_)
    refine op_p tyT_ok rfl ?_
    refine op_call (fn := Tryd.f11) rfl rfl rfl name11 rfl rfl (plainHash_S h s kList hList m0 mk t0 tk f0 fk h0 hK rfl rfl hs) (ends_le ?_)
    refine op_p tyT_ok rfl ?_
    refine opsE_nil (wpE_seq (wpE_region ?_))
    refine op_p tyT_ok rfl ?_
    refine op_call (fn := Tryd.f12) rfl rfl rfl name12 rfl rfl (refHash_S h s hs) (ends_le ?_)
    refine op_p tyT_ok rfl ?_
    refine opsE_nil (wpE_seq (wpE_region ?_))
    refine op_p tyT_ok rfl ?_
    refine op_p tyT_ok rfl ?_
    refine op_pe tyT_ok rfl (v' := .bool true) (congrArg Value.bool (beq_self_eq_true _)) ?_
    refine op_p tyT_ok rfl ?_
    exact opsE_nil (wpE_ret (bodyQ_one (fn := Tryd.f3) rfl rfl ⟨rfl, Know.le_refl _⟩))

end Go.Proofs.YtlmecmapkijcnaaDoor
