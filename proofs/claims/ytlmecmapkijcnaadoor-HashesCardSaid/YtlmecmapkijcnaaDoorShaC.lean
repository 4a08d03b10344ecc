/- SHA-256 as the program does it: the words of a block, on. -/
import Derived.Test.YtlmecmapkijcnaaDoorShaB
set_option linter.unusedVariables false
namespace Go.Proofs.YtlmecmapkijcnaaDoor
open KL

theorem rot_7 {main : Bool} (x : Int) (h : Know) : CallS Tryd.prog main 101 [Value.int .u32 x, Value.int .i64 (-7)].toArray h (RetLe (.int .u32 (rl x 25)) h) := rotl_S x (-7) 25 h (by decide +kernel) (by decide)
theorem rot_18 {main : Bool} (x : Int) (h : Know) : CallS Tryd.prog main 101 [Value.int .u32 x, Value.int .i64 (-18)].toArray h (RetLe (.int .u32 (rl x 14)) h) := rotl_S x (-18) 14 h (by decide +kernel) (by decide)
theorem rot_17 {main : Bool} (x : Int) (h : Know) : CallS Tryd.prog main 101 [Value.int .u32 x, Value.int .i64 (-17)].toArray h (RetLe (.int .u32 (rl x 15)) h) := rotl_S x (-17) 15 h (by decide +kernel) (by decide)
theorem rot_19 {main : Bool} (x : Int) (h : Know) : CallS Tryd.prog main 101 [Value.int .u32 x, Value.int .i64 (-19)].toArray h (RetLe (.int .u32 (rl x 13)) h) := rotl_S x (-19) 13 h (by decide +kernel) (by decide)
theorem rot_6 {main : Bool} (x : Int) (h : Know) : CallS Tryd.prog main 101 [Value.int .u32 x, Value.int .i64 (-6)].toArray h (RetLe (.int .u32 (rl x 26)) h) := rotl_S x (-6) 26 h (by decide +kernel) (by decide)
theorem rot_11 {main : Bool} (x : Int) (h : Know) : CallS Tryd.prog main 101 [Value.int .u32 x, Value.int .i64 (-11)].toArray h (RetLe (.int .u32 (rl x 21)) h) := rotl_S x (-11) 21 h (by decide +kernel) (by decide)
theorem rot_25 {main : Bool} (x : Int) (h : Know) : CallS Tryd.prog main 101 [Value.int .u32 x, Value.int .i64 (-25)].toArray h (RetLe (.int .u32 (rl x 7)) h) := rotl_S x (-25) 7 h (by decide +kernel) (by decide)
theorem rot_2 {main : Bool} (x : Int) (h : Know) : CallS Tryd.prog main 101 [Value.int .u32 x, Value.int .i64 (-2)].toArray h (RetLe (.int .u32 (rl x 30)) h) := rotl_S x (-2) 30 h (by decide +kernel) (by decide)
theorem rot_13 {main : Bool} (x : Int) (h : Know) : CallS Tryd.prog main 101 [Value.int .u32 x, Value.int .i64 (-13)].toArray h (RetLe (.int .u32 (rl x 19)) h) := rotl_S x (-13) 19 h (by decide +kernel) (by decide)
theorem rot_22 {main : Bool} (x : Int) (h : Know) : CallS Tryd.prog main 101 [Value.int .u32 x, Value.int .i64 (-22)].toArray h (RetLe (.int .u32 (rl x 10)) h) := rotl_S x (-22) 10 h (by decide +kernel) (by decide)
theorem name101 : (Tryd.f101.name == "runtime.NumGoroutine") = false := by kernel_rfl

set_option maxRecDepth 100000 in
theorem block_more {main : Bool} (h : Know) (H rW : Nat) (ws : List Int) (hws : ws.length = 64) (E : Env)
    (e0 : E.look 0 = some (.pointer (some ⟨H, 0, none⟩))) (e4 : E.look 4 = some (.pointer (some ⟨rW, 0, none⟩))) (e6 : E.look 6 = some (.int .i64 16)) :
    wpE Tryd.prog main 196 (seqR (seqL (seqR (seqR (bodyOf Tryd.f72))))) (NormalLe [] [(4, .pointer (some ⟨rW, 0, none⟩)), (0, .pointer (some ⟨H, 0, none⟩))] (h.upd rW (true, .cells (U (moreW ws 48)) 171 (0, 0)))) [] E (h.upd rW (true, .cells (U (moreW ws 0)) 171 (0, 0))) := by
  refine wpE_block (wpE_loopJ (fun m E hh => ∃ k : Nat, m = 48 - k ∧ k ≤ 48 ∧ E = [(6, .int .i64 ((16 + k : Nat) : Int)), (4, .pointer (some ⟨rW, 0, none⟩)), (0, .pointer (some ⟨H, 0, none⟩))] ∧
    hh = h.upd rW (true, .cells (U (moreW ws k)) 171 (0, 0))) (Env.le_cons e6 (Env.le_cons e4 (Env.le_cons e0 (Env.le_nil _)))) (Know.le_refl _) ⟨0, rfl, by omega, rfl, rfl⟩ ?_)
  rintro m E' hh ⟨k, rfl, hk, rfl, rfl⟩
  have hWl : (moreW ws k).length = 64 := by rw [moreW_length]; exact hws
  by_cases hlt : k < 48
  · refine wpE_seq (wpE_seq (wpE_region ?_))
    refine op_p tyT_ok rfl ?_
    refine op_pe tyT_ok rfl (congrArg Value.bool (decide_eq_true (show ((16 + k : Nat) : Int) < 64 by omega))) ?_
    refine opsE_nil (wpE_true rfl (wpE_skip ?_))
    refine wpE_seq (wpE_block (wpE_seq (wpE_drawB 10 (by kernel_rfl) (by kernel_rfl) rfl (by kernel_rfl) ?_)))
    simp only [List.take_succ_cons, List.take_zero, List.drop_succ_cons, List.drop_zero]
    refine head_p tyT_ok rfl ?_
    refine head_pe tyT_ok rfl (v' := .int .i64 ((16 + k - 15 : Nat) : Int)) (wrapv (by omega) (by omega)) ?_
    refine head_re rfl (runV_indexAddr_array rfl Tryd.underlying171 ti124 rfl rfl (by omega) (by omega)) (v' := .pointer (some ⟨rW, 16 + k - 15, none⟩)) (by rw [Int.toNat_natCast, Nat.mul_one, Nat.zero_add]) ?_
    refine head_r rfl (runV_load rfl rfl Tryd.underlying124 rfl (Know.upd_same _ _ _) (U_get (by omega))) ?_
    refine head_p tyT_ok rfl ?_
    refine head_pe tyT_ok rfl (v' := .int .i64 ((16 + k - 2 : Nat) : Int)) (wrapv (by omega) (by omega)) ?_
    refine head_re rfl (runV_indexAddr_array rfl Tryd.underlying171 ti124 rfl rfl (by omega) (by omega)) (v' := .pointer (some ⟨rW, 16 + k - 2, none⟩)) (by rw [Int.toNat_natCast, Nat.mul_one, Nat.zero_add]) ?_
    refine head_r rfl (runV_load rfl rfl Tryd.underlying124 rfl (Know.upd_same _ _ _) (U_get (by omega))) ?_
    refine head_p tyT_ok rfl ?_
    refine head_p tyT_ok rfl ?_
    refine headE_nil ?_
    refine opsE_nil (wpE_drawB 29 (by kernel_rfl) (by kernel_rfl) rfl (by kernel_rfl) ?_)
    simp only [List.take_succ_cons, List.take_zero, List.drop_succ_cons, List.drop_zero]
    refine head_p tyT_ok rfl ?_
    refine head_p tyT_ok rfl ?_
    refine head_pe tyT_ok rfl (v' := .int .i64 ((16 + k - 16 : Nat) : Int)) (wrapv (by omega) (by omega)) ?_
    refine head_re rfl (runV_indexAddr_array rfl Tryd.underlying171 ti124 rfl rfl (by omega) (by omega)) (v' := .pointer (some ⟨rW, 16 + k - 16, none⟩)) (by rw [Int.toNat_natCast, Nat.mul_one, Nat.zero_add]) ?_
    refine head_r rfl (runV_load rfl rfl Tryd.underlying124 rfl (Know.upd_same _ _ _) (U_get (by omega))) ?_
    refine head_p tyT_ok rfl ?_
    refine head_callLe rfl rfl Tryd.func101 name101 rfl (vs := [Value.int .u32 (at0 (moreW ws k) (16 + k - 15)), Value.int .i64 (-7)]) rfl (rot_7 _ _) ?_
    refine head_p tyT_ok rfl ?_
    refine head_callLe rfl rfl Tryd.func101 name101 rfl (vs := [Value.int .u32 (at0 (moreW ws k) (16 + k - 15)), Value.int .i64 (-18)]) rfl (rot_18 _ _) ?_
    refine head_p tyT_ok rfl ?_
    refine head_p tyT_ok rfl ?_
    refine head_re rfl (runV_shr rfl rfl rfl (by decide)) (v' := .int .u32 ((at0 (moreW ws k) (16 + k - 15)) / 2 ^ 3)) rfl ?_
    refine head_p tyT_ok rfl ?_
    refine head_pe tyT_ok rfl (v' := .int .u32 (w32 (at0 (moreW ws k) (16 + k - 16) + sg0 (at0 (moreW ws k) (16 + k - 15))))) rfl ?_
    refine head_p tyT_ok rfl ?_
    refine head_pe tyT_ok rfl (v' := .int .i64 ((16 + k - 7 : Nat) : Int)) (wrapv (by omega) (by omega)) ?_
    refine head_re rfl (runV_indexAddr_array rfl Tryd.underlying171 ti124 rfl rfl (by omega) (by omega)) (v' := .pointer (some ⟨rW, 16 + k - 7, none⟩)) (by rw [Int.toNat_natCast, Nat.mul_one, Nat.zero_add]) ?_
    refine head_r rfl (runV_load rfl rfl Tryd.underlying124 rfl (Know.upd_same _ _ _) (U_get (by omega))) ?_
    refine head_pe tyT_ok rfl (v' := .int .u32 (w32 (w32 (at0 (moreW ws k) (16 + k - 16) + sg0 (at0 (moreW ws k) (16 + k - 15))) + at0 (moreW ws k) (16 + k - 7)))) rfl ?_
    refine head_p tyT_ok rfl ?_
    refine head_callLe rfl rfl Tryd.func101 name101 rfl (vs := [Value.int .u32 (at0 (moreW ws k) (16 + k - 2)), Value.int .i64 (-17)]) rfl (rot_17 _ _) ?_
    refine head_p tyT_ok rfl ?_
    refine head_callLe rfl rfl Tryd.func101 name101 rfl (vs := [Value.int .u32 (at0 (moreW ws k) (16 + k - 2)), Value.int .i64 (-19)]) rfl (rot_19 _ _) ?_
    refine head_p tyT_ok rfl ?_
    refine head_p tyT_ok rfl ?_
    refine head_re rfl (runV_shr rfl rfl rfl (by decide)) (v' := .int .u32 ((at0 (moreW ws k) (16 + k - 2)) / 2 ^ 10)) rfl ?_
    refine head_p tyT_ok rfl ?_
    refine head_pe tyT_ok rfl (v' := .int .u32 (nextW (moreW ws k) (16 + k))) rfl ?_
    refine head_re rfl (runV_indexAddr_array rfl Tryd.underlying171 ti124 rfl rfl (by omega) (by omega)) (v' := .pointer (some ⟨rW, 16 + k, none⟩)) (by rw [Int.toNat_natCast, Nat.mul_one, Nat.zero_add]) ?_
    refine headE_nil ?_
    refine op_store rfl rfl rfl ti124 (Know.upd_same _ _ _) (by rw [U_size, hWl]; omega) (by simp) (h' := h.upd rW (true, .cells (U (moreW ws (k + 1))) 171 (0, 0))) (by rw [upd_upd, U_set]; rfl) ?_
    refine opsE_nil ?_
    refine wpE_region ?_
    refine op_p tyT_ok rfl ?_
    refine op_pe tyT_ok rfl (v' := .int .i64 ((16 + (k + 1) : Nat) : Int)) (wrapv (by omega) (by omega)) ?_
    refine op_p tyT_ok rfl ?_
    refine opsE_nil ⟨rfl, 48 - (k + 1), _, _, by omega, Env.le_cons rfl (Env.le_cons rfl (Env.le_cons rfl (Env.le_nil _))), Know.le_refl _, k + 1, rfl, by omega, rfl, rfl⟩
  · have : k = 48 := by omega
    subst this
    refine wpE_seq (wpE_seq (wpE_region ?_))
    refine op_p tyT_ok rfl ?_
    refine op_p tyT_ok rfl ?_
    refine opsE_nil (wpE_false rfl (wpE_exit ?_))
    repeat refine thenQ_exit ?_
    exact blockQ_exit (normalLe (Env.le_cons rfl (Env.le_cons rfl (Env.le_nil _))) (Know.le_refl _))

end Go.Proofs.YtlmecmapkijcnaaDoor
