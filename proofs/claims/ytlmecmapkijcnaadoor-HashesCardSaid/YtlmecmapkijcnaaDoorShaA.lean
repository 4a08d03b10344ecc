/- SHA-256 as the program does it: the turn of a word. -/
import Derived.Test.YtlmecmapkijcnaaDoorProg
import Derived.Test.YtlmecmapkijcnaaDoorKlBuf
set_option linter.unusedVariables false
namespace Go.Proofs.YtlmecmapkijcnaaDoor
open KL

def tyT : Types := [(3, .int .i64), (124, .int .u32), (68, .int .u64), (5, .int .u8), (123, .int .u64), (9, .string), (64, .slice 5)]
theorem tyT_ok : tyT.ok Tryd.prog :=
  Types.ok_cons Tryd.underlying3 (Types.ok_cons Tryd.underlying124 (Types.ok_cons Tryd.underlying68 (Types.ok_cons Tryd.underlying5 (Types.ok_cons Tryd.underlying123 (Types.ok_cons Tryd.underlying9 (Types.ok_cons Tryd.underlying64 (Types.ok_nil _)))))))

/-- A word turned to the left. -/
def rl (x : Int) (s : Nat) : Int := bits .or .u32 (IntKind.u32.wrap (x * 2 ^ s)) (x / 2 ^ (32 - s))

theorem rotl_S {main : Bool} (x k : Int) (s : Nat) (h : Know) (hk : bits .and .u64 (IntKind.u64.wrap k) 31 = (s : Int)) (hs : s < 32) :
    CallS Tryd.prog main 101 #[.int .u32 x, .int .i64 k] h (RetLe (.int .u32 (rl x s)) h) := by
  refine callS_of_wpE (args := [.int .u32 x, .int .i64 k]) Tryd.func101 rfl (by show 2 ≤ 17; decide) ?_
  refine wpE_seq (wpE_region (op_p tyT_ok rfl (opsE_nil ?_)))
  refine wpE_seq (wpE_region (op_p tyT_ok rfl (op_p tyT_ok rfl (op_pe tyT_ok rfl (congrArg (Value.int .u64) hk) (op_p tyT_ok rfl (opsE_nil ?_))))))
  refine wpE_seq (wpE_region (op_p tyT_ok rfl (op_p tyT_ok rfl (op_r rfl (runV_shl rfl rfl rfl (by omega)) (op_p tyT_ok rfl (op_p tyT_ok rfl
    (op_pe tyT_ok rfl (congrArg (Value.int .u64) (?_ : IntKind.u64.wrap (32 - (s : Int)) = ((32 - s : Nat) : Int))) (op_r rfl (runV_shr rfl rfl rfl (by omega)) (op_p tyT_ok rfl (op_p tyT_ok rfl (opsE_nil ?_)))))))))))
  · rw [show IntKind.u64.wrap (32 - (s : Int)) = (32 - (s : Int)) % 18446744073709551616 by simp [IntKind.wrap, IntKind.bits, IntKind.signed]]; omega
  refine wpE_ret (bodyQ_one (fn := Tryd.f101) rfl rfl ⟨?_, Know.le_refl _⟩)
  have h1 : min ((s : Int)).toNat IntKind.u32.bits = s := by show min _ 32 = s; simp; omega
  have h2 : min (((32 - s : Nat) : Int)).toNat IntKind.u32.bits = 32 - s := by show min _ 32 = _; simp
  rw [h1, h2]; rfl

end Go.Proofs.YtlmecmapkijcnaaDoor
