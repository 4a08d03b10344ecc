/- SHA-256 as the program does it: the rounds, and the block whole. -/
import Derived.Test.YtlmecmapkijcnaaDoorShaC
set_option linter.unusedVariables false
namespace Go.Proofs.YtlmecmapkijcnaaDoor
open KL

theorem le_fresh {h : Know} {r : Nat} (x : Bool × Obj) (hr : h r = none) : h.le (h.upd r x) := fun b y e => by rw [Know.upd_ne _ _ (ne_fresh e hr)]; exact e
theorem le_both {h h' : Know} (H : Nat) (x : Bool × Obj) (hl : h.le h') : (h.upd H x).le (h'.upd H x) := by
  intro b y e
  by_cases hb : b = H
  · subst hb; rw [Know.upd_same] at e ⊢; exact e
  · rw [Know.upd_ne _ _ hb] at e ⊢; exact hl b y e

set_option maxRecDepth 100000 in
theorem block_rounds {main : Bool} (h : Know) (H rW rV : Nat) (K ws hs : List Int) (mk : Bool) (tk : TypeId) (fk : Nat × Nat) (hK : h 2 = some (mk, .cells (U K) tk fk)) (hKl : K.length = 64) (hws : ws.length = 64) (hhs : hs.length = 8)
    (hW : h rW = some (true, .cells (U ws) 171 (0, 0))) (hr : h rV = none) (E : Env)
    (e0 : E.look 0 = some (.pointer (some ⟨H, 0, none⟩))) (e4 : E.look 4 = some (.pointer (some ⟨rW, 0, none⟩))) (e9 : E.look 9 = some (.pointer (some ⟨rV, 0, none⟩))) (e99 : E.look 99 = some (.int .i64 0)) :
    wpE Tryd.prog main 196 (seqR (seqL (seqR (seqR (seqR (seqR (bodyOf Tryd.f72))))))) (NormalLe [] [(9, .pointer (some ⟨rV, 0, none⟩)), (0, .pointer (some ⟨H, 0, none⟩))] (h.upd rV (true, .cells (U (rnds K ws hs 64)) 126 (0, 0)))) [] E (h.upd rV (true, .cells (U (rnds K ws hs 0)) 126 (0, 0))) := by
  refine wpE_block (wpE_loopJ (fun m E hh => ∃ k : Nat, m = 64 - k ∧ k ≤ 64 ∧ E = [(99, .int .i64 (k : Int)), (9, .pointer (some ⟨rV, 0, none⟩)), (4, .pointer (some ⟨rW, 0, none⟩)), (0, .pointer (some ⟨H, 0, none⟩))] ∧
    hh = h.upd rV (true, .cells (U (rnds K ws hs k)) 126 (0, 0))) (Env.le_cons e99 (Env.le_cons e9 (Env.le_cons e4 (Env.le_cons e0 (Env.le_nil _))))) (Know.le_refl _) ⟨0, rfl, by omega, rfl, rfl⟩ ?_)
  rintro m E' hh ⟨k, rfl, hk, rfl, rfl⟩
  have hvl : (rnds K ws hs k).length = 8 := rnds_length _ _ _ _ hhs
  have hVb : (h.upd rV (true, .cells (U (rnds K ws hs k)) 126 (0, 0))) rV = some (true, .cells (U (rnds K ws hs k)) 126 (0, 0)) := Know.upd_same _ _ _
  have hWb : (h.upd rV (true, .cells (U (rnds K ws hs k)) 126 (0, 0))) rW = some (true, .cells (U ws) 171 (0, 0)) := by rw [Know.upd_ne _ _ (ne_fresh hW hr)]; exact hW
  have hKb : (h.upd rV (true, .cells (U (rnds K ws hs k)) 126 (0, 0))) 2 = some (mk, .cells (U K) tk fk) := by rw [Know.upd_ne _ _ (ne_fresh hK hr)]; exact hK
  by_cases hlt : k < 64
  · refine wpE_seq (wpE_region ?_)
    refine op_pe tyT_ok rfl (congrArg Value.bool (decide_eq_true (show ((k : Nat) : Int) < 64 by omega))) ?_
    refine opsE_nil (wpE_seq (wpE_true rfl (wpE_skip ?_)))
    refine wpE_seq (wpE_block (wpE_seq (wpE_region ?_)))
    refine op_p tyT_ok rfl ?_
    refine op_p tyT_ok rfl ?_
    refine opsE_nil (wpE_seq (wpE_drawB 6 (by kernel_rfl) (by kernel_rfl) rfl (by kernel_rfl) ?_))
    simp only [List.take_succ_cons, List.take_zero, List.drop_succ_cons, List.drop_zero]
    refine head_re rfl (runV_indexAddr_array rfl Tryd.underlying126 ti124 rfl rfl (by decide) (by decide)) (v' := .pointer (some ⟨rV, 0, none⟩)) rfl ?_
    refine head_r rfl (runV_load rfl rfl Tryd.underlying124 rfl hVb (U_get (by omega))) ?_
    refine head_re rfl (runV_indexAddr_array rfl Tryd.underlying126 ti124 rfl rfl (by decide) (by decide)) (v' := .pointer (some ⟨rV, 4, none⟩)) rfl ?_
    refine head_r rfl (runV_load rfl rfl Tryd.underlying124 rfl hVb (U_get (by omega))) ?_
    refine head_p tyT_ok rfl ?_
    refine head_p tyT_ok rfl ?_
    refine headE_nil ?_
    refine opsE_nil (wpE_seq (wpE_drawB 31 (by kernel_rfl) (by kernel_rfl) rfl (by kernel_rfl) ?_))
    simp only [List.take_succ_cons, List.take_zero, List.drop_succ_cons, List.drop_zero]
    refine head_re rfl (runV_indexAddr_array rfl Tryd.underlying126 ti124 rfl rfl (by decide) (by decide)) (v' := .pointer (some ⟨rV, 7, none⟩)) rfl ?_
    refine head_r rfl (runV_load rfl rfl Tryd.underlying124 rfl hVb (U_get (by omega))) ?_
    refine head_p tyT_ok rfl ?_
    refine head_callLe rfl rfl Tryd.func101 name101 rfl (vs := [Value.int .u32 (at0 (rnds K ws hs k) 4), Value.int .i64 (-6)]) rfl (rot_6 _ _) ?_
    refine head_p tyT_ok rfl ?_
    refine head_callLe rfl rfl Tryd.func101 name101 rfl (vs := [Value.int .u32 (at0 (rnds K ws hs k) 4), Value.int .i64 (-11)]) rfl (rot_11 _ _) ?_
    refine head_p tyT_ok rfl ?_
    refine head_p tyT_ok rfl ?_
    refine head_callLe rfl rfl Tryd.func101 name101 rfl (vs := [Value.int .u32 (at0 (rnds K ws hs k) 4), Value.int .i64 (-25)]) rfl (rot_25 _ _) ?_
    refine head_p tyT_ok rfl ?_
    refine head_p tyT_ok rfl ?_
    refine head_p tyT_ok rfl ?_
    refine head_re rfl (runV_indexAddr_array rfl Tryd.underlying126 ti124 rfl rfl (by decide) (by decide)) (v' := .pointer (some ⟨rV, 5, none⟩)) rfl ?_
    refine head_r rfl (runV_load rfl rfl Tryd.underlying124 rfl hVb (U_get (by omega))) ?_
    refine head_p tyT_ok rfl ?_
    refine head_p tyT_ok rfl ?_
    refine head_p tyT_ok rfl ?_
    refine head_re rfl (runV_indexAddr_array rfl Tryd.underlying126 ti124 rfl rfl (by decide) (by decide)) (v' := .pointer (some ⟨rV, 6, none⟩)) rfl ?_
    refine head_r rfl (runV_load rfl rfl Tryd.underlying124 rfl hVb (U_get (by omega))) ?_
    refine head_p tyT_ok rfl ?_
    refine head_p tyT_ok rfl ?_
    refine head_p tyT_ok rfl ?_
    refine head_p tyT_ok rfl ?_
    refine head_re rfl (runV_indexAddr_array rfl Tryd.underlying171 ti124 rfl rfl (by omega) (by omega)) (v' := .pointer (some ⟨2, k, none⟩)) (by rw [Int.toNat_natCast, Nat.mul_one, Nat.zero_add]) ?_
    refine head_r rfl (runV_load rfl rfl Tryd.underlying124 rfl hKb (U_get (by omega))) ?_
    refine head_p tyT_ok rfl ?_
    refine head_p tyT_ok rfl ?_
    refine head_re rfl (runV_indexAddr_array rfl Tryd.underlying171 ti124 rfl rfl (by omega) (by omega)) (v' := .pointer (some ⟨rW, k, none⟩)) (by rw [Int.toNat_natCast, Nat.mul_one, Nat.zero_add]) ?_
    refine head_r rfl (runV_load rfl rfl Tryd.underlying124 rfl hWb (U_get (by omega))) ?_
    refine head_pe tyT_ok rfl (v' := .int .u32 (tR (at0 K k) (at0 ws k) (rnds K ws hs k))) rfl ?_
    refine head_p tyT_ok rfl ?_
    refine headE_nil ?_
    refine opsE_nil (wpE_seq (wpE_drawB 25 (by kernel_rfl) (by kernel_rfl) rfl (by kernel_rfl) ?_))
    simp only [List.take_succ_cons, List.take_zero, List.drop_succ_cons, List.drop_zero]
    refine head_p tyT_ok rfl ?_
    refine head_callLe rfl rfl Tryd.func101 name101 rfl (vs := [Value.int .u32 (at0 (rnds K ws hs k) 0), Value.int .i64 (-2)]) rfl (rot_2 _ _) ?_
    refine head_p tyT_ok rfl ?_
    refine head_callLe rfl rfl Tryd.func101 name101 rfl (vs := [Value.int .u32 (at0 (rnds K ws hs k) 0), Value.int .i64 (-13)]) rfl (rot_13 _ _) ?_
    refine head_p tyT_ok rfl ?_
    refine head_p tyT_ok rfl ?_
    refine head_callLe rfl rfl Tryd.func101 name101 rfl (vs := [Value.int .u32 (at0 (rnds K ws hs k) 0), Value.int .i64 (-22)]) rfl (rot_22 _ _) ?_
    refine head_p tyT_ok rfl ?_
    refine head_p tyT_ok rfl ?_
    refine head_re rfl (runV_indexAddr_array rfl Tryd.underlying126 ti124 rfl rfl (by decide) (by decide)) (v' := .pointer (some ⟨rV, 1, none⟩)) rfl ?_
    refine head_r rfl (runV_load rfl rfl Tryd.underlying124 rfl hVb (U_get (by omega))) ?_
    refine head_p tyT_ok rfl ?_
    refine head_p tyT_ok rfl ?_
    refine head_re rfl (runV_indexAddr_array rfl Tryd.underlying126 ti124 rfl rfl (by decide) (by decide)) (v' := .pointer (some ⟨rV, 2, none⟩)) rfl ?_
    refine head_r rfl (runV_load rfl rfl Tryd.underlying124 rfl hVb (U_get (by omega))) ?_
    refine head_p tyT_ok rfl ?_
    refine head_p tyT_ok rfl ?_
    refine head_re rfl (runV_indexAddr_array rfl Tryd.underlying126 ti124 rfl rfl (by decide) (by decide)) (v' := .pointer (some ⟨rV, 1, none⟩)) rfl ?_
    refine head_r rfl (runV_load rfl rfl Tryd.underlying124 rfl hVb (U_get (by omega))) ?_
    refine head_re rfl (runV_indexAddr_array rfl Tryd.underlying126 ti124 rfl rfl (by decide) (by decide)) (v' := .pointer (some ⟨rV, 2, none⟩)) rfl ?_
    refine head_r rfl (runV_load rfl rfl Tryd.underlying124 rfl hVb (U_get (by omega))) ?_
    refine head_p tyT_ok rfl ?_
    refine head_p tyT_ok rfl ?_
    refine head_pe tyT_ok rfl (v' := .int .u32 (uR (rnds K ws hs k))) rfl ?_
    refine head_p tyT_ok rfl ?_
    refine headE_nil ?_
    refine opsE_nil (wpE_region ?_)
    refine op_p tyT_ok rfl ?_
    refine op_p tyT_ok rfl ?_
    refine op_p tyT_ok rfl ?_
    refine op_re rfl (runV_indexAddr_array rfl Tryd.underlying126 ti124 rfl rfl (by decide) (by decide)) (v' := .pointer (some ⟨rV, 0, none⟩)) rfl ?_
    refine op_r rfl (runV_load rfl rfl Tryd.underlying124 rfl hVb (U_get (by omega))) ?_
    refine op_re rfl (runV_indexAddr_array rfl Tryd.underlying126 ti124 rfl rfl (by decide) (by decide)) (v' := .pointer (some ⟨rV, 1, none⟩)) rfl ?_
    refine op_r rfl (runV_load rfl rfl Tryd.underlying124 rfl hVb (U_get (by omega))) ?_
    refine op_re rfl (runV_indexAddr_array rfl Tryd.underlying126 ti124 rfl rfl (by decide) (by decide)) (v' := .pointer (some ⟨rV, 2, none⟩)) rfl ?_
    refine op_r rfl (runV_load rfl rfl Tryd.underlying124 rfl hVb (U_get (by omega))) ?_
    refine op_re rfl (runV_indexAddr_array rfl Tryd.underlying126 ti124 rfl rfl (by decide) (by decide)) (v' := .pointer (some ⟨rV, 3, none⟩)) rfl ?_
    refine op_r rfl (runV_load rfl rfl Tryd.underlying124 rfl hVb (U_get (by omega))) ?_
    refine op_p tyT_ok rfl ?_
    refine op_p tyT_ok rfl ?_
    refine op_re rfl (runV_indexAddr_array rfl Tryd.underlying126 ti124 rfl rfl (by decide) (by decide)) (v' := .pointer (some ⟨rV, 4, none⟩)) rfl ?_
    refine op_r rfl (runV_load rfl rfl Tryd.underlying124 rfl hVb (U_get (by omega))) ?_
    refine op_re rfl (runV_indexAddr_array rfl Tryd.underlying126 ti124 rfl rfl (by decide) (by decide)) (v' := .pointer (some ⟨rV, 5, none⟩)) rfl ?_
    refine op_r rfl (runV_load rfl rfl Tryd.underlying124 rfl hVb (U_get (by omega))) ?_
    refine op_re rfl (runV_indexAddr_array rfl Tryd.underlying126 ti124 rfl rfl (by decide) (by decide)) (v' := .pointer (some ⟨rV, 6, none⟩)) rfl ?_
    refine op_r rfl (runV_load rfl rfl Tryd.underlying124 rfl hVb (U_get (by omega))) ?_
    refine op_re rfl (runV_build rfl Tryd.underlying126 ti126 ti124 (cs := U (rnds K ws hs (k + 1))) (by kernel_rfl)) rfl ?_
    refine op_store_row rfl rfl (z := .agg (U (List.replicate 8 0))) (bt := 32) (by rw [U_size, rnds_length _ _ _ _ hhs]; exact ti126) hVb (by simp [U, Value.flat]) (by rw [U_size, U_size, rnds_length _ _ _ _ hhs, hvl]) rfl (h' := h.upd rV (true, .cells (U (rnds K ws hs (k + 1))) 126 (0, 0))) (by rw [upd_upd]) ?_
    refine opsE_nil ?_
    refine wpE_region ?_
    refine op_pe tyT_ok rfl (v' := .int .i64 ((k + 1 : Nat) : Int)) (wrapv (by omega) (by omega)) ?_
    refine op_p tyT_ok rfl ?_
    refine opsE_nil ⟨rfl, 64 - (k + 1), _, _, by omega, Env.le_cons rfl (Env.le_cons rfl (Env.le_cons rfl (Env.le_cons rfl (Env.le_nil _)))), Know.le_refl _, k + 1, rfl, by omega, rfl, rfl⟩
  · have : k = 64 := by omega
    subst this
    refine wpE_seq (wpE_region ?_)
    refine op_p tyT_ok rfl ?_
    refine opsE_nil (wpE_seq (wpE_false rfl (wpE_exit ?_)))
    repeat refine thenQ_exit ?_
    exact blockQ_exit (normalLe (Env.le_cons rfl (Env.le_cons rfl (Env.le_nil _))) (Know.le_refl _))

set_option maxRecDepth 100000 in
theorem block_add {main : Bool} (h : Know) (H rV : Nat) (hs v : List Int) (tH : TypeId) (hhs : hs.length = 8) (hv : v.length = 8) (hne : rV ≠ H) (hV : h rV = some (true, .cells (U v) 126 (0, 0))) (E : Env)
    (e0 : E.look 0 = some (.pointer (some ⟨H, 0, none⟩))) (e9 : E.look 9 = some (.pointer (some ⟨rV, 0, none⟩))) (e181 : E.look 181 = some (.int .i64 0)) :
    wpE Tryd.prog main 196 (seqR (seqR (seqR (seqR (seqR (seqR (bodyOf Tryd.f72))))))) (NormalLe [] [] (h.upd H (true, .cells (U (addW hs v 8)) tH (0, 0)))) [] E (h.upd H (true, .cells (U (addW hs v 0)) tH (0, 0))) := by
  refine wpE_block (wpE_loopJ (fun m E hh => ∃ k : Nat, m = 8 - k ∧ k ≤ 8 ∧ E = [(181, .int .i64 (k : Int)), (9, .pointer (some ⟨rV, 0, none⟩)), (0, .pointer (some ⟨H, 0, none⟩))] ∧
    hh = h.upd H (true, .cells (U (addW hs v k)) tH (0, 0))) (Env.le_cons e181 (Env.le_cons e9 (Env.le_cons e0 (Env.le_nil _)))) (Know.le_refl _) ⟨0, rfl, by omega, rfl, rfl⟩ ?_)
  rintro m E' hh ⟨k, rfl, hk, rfl, rfl⟩
  have hal : (addW hs v k).length = 8 := by rw [addW_length]; exact hhs
  have hHb : (h.upd H (true, .cells (U (addW hs v k)) tH (0, 0))) H = some (true, .cells (U (addW hs v k)) tH (0, 0)) := Know.upd_same _ _ _
  have hVb : (h.upd H (true, .cells (U (addW hs v k)) tH (0, 0))) rV = some (true, .cells (U v) 126 (0, 0)) := by rw [Know.upd_ne _ _ hne]; exact hV
  by_cases hlt : k < 8
  · refine wpE_seq (wpE_region ?_)
    refine op_pe tyT_ok rfl (congrArg Value.bool (decide_eq_true (show ((k : Nat) : Int) < 8 by omega))) ?_
    refine opsE_nil (wpE_seq (wpE_true rfl (wpE_skip ?_)))
    refine wpE_seq (wpE_block (wpE_seq (wpE_region ?_)))
    refine op_p tyT_ok rfl ?_
    refine op_p tyT_ok rfl ?_
    refine opsE_nil (wpE_drawB 10 (by kernel_rfl) (by kernel_rfl) rfl (by kernel_rfl) ?_)
    simp only [List.take_succ_cons, List.take_zero, List.drop_succ_cons, List.drop_zero]
    refine head_p tyT_ok rfl ?_
    refine head_p tyT_ok rfl ?_
    refine head_r rfl (runV_nilCheck rfl rfl) ?_
    refine head_re rfl (runV_indexAddr_array rfl Tryd.underlying126 ti124 rfl rfl (by omega) (by omega)) (v' := .pointer (some ⟨H, k, none⟩)) (by rw [Int.toNat_natCast, Nat.mul_one, Nat.zero_add]) ?_
    refine head_r rfl (runV_load rfl rfl Tryd.underlying124 rfl hHb (U_get (by omega))) ?_
    refine head_p tyT_ok rfl ?_
    refine head_re rfl (runV_indexAddr_array rfl Tryd.underlying126 ti124 rfl rfl (by omega) (by omega)) (v' := .pointer (some ⟨rV, k, none⟩)) (by rw [Int.toNat_natCast, Nat.mul_one, Nat.zero_add]) ?_
    refine head_r rfl (runV_load rfl rfl Tryd.underlying124 rfl hVb (U_get (by omega))) ?_
    refine head_pe tyT_ok rfl (v' := .int .u32 (w32 (at0 (addW hs v k) k + at0 v k))) rfl ?_
    refine head_r rfl (runV_nilCheck rfl rfl) ?_
    refine headE_nil ?_
    refine op_re rfl (runV_indexAddr_array rfl Tryd.underlying126 ti124 rfl rfl (by omega) (by omega)) (v' := .pointer (some ⟨H, k, none⟩)) (by rw [Int.toNat_natCast, Nat.mul_one, Nat.zero_add]) ?_
    refine op_store rfl rfl rfl ti124 hHb (by rw [U_size, hal]; omega) (by simp) (h' := h.upd H (true, .cells (U (addW hs v (k + 1))) tH (0, 0))) (by rw [upd_upd, U_set]; rfl) ?_
    refine opsE_nil ?_
    refine wpE_region ?_
    refine op_pe tyT_ok rfl (v' := .int .i64 ((k + 1 : Nat) : Int)) (wrapv (by omega) (by omega)) ?_
    refine op_p tyT_ok rfl ?_
    refine opsE_nil ⟨rfl, 8 - (k + 1), _, _, by omega, Env.le_cons rfl (Env.le_cons rfl (Env.le_cons rfl (Env.le_nil _))), Know.le_refl _, k + 1, rfl, by omega, rfl, rfl⟩
  · have : k = 8 := by omega
    subst this
    refine wpE_seq (wpE_region ?_)
    refine op_p tyT_ok rfl ?_
    refine opsE_nil (wpE_seq (wpE_false rfl (wpE_exit ?_)))
    repeat refine thenQ_exit ?_
    exact blockQ_exit (normalLe (Env.le_nil _) (Know.le_refl _))

set_option maxRecDepth 100000 in
/-- A block of 64 bytes: the state behind it. -/
theorem block_S {main : Bool} (h : Know) (H S off cap : Nat) (K hs bs : List Int) (tH : TypeId) (mk : Bool) (tk : TypeId) (fk : Nat × Nat) (hK : h 2 = some (mk, .cells (U K) tk fk)) (hKl : K.length = 64) (hhs : hs.length = 8)
    (hH : h H = some (true, .cells (U hs) tH (0, 0))) (hS : Bytes64 h S off bs) :
    CallS Tryd.prog main 72 [Value.pointer (some ⟨H, 0, none⟩), Value.slice (some ⟨S, off, none⟩) 64 cap].toArray h (RetLe (.tuple #[]) (h.upd H (true, .cells (U (compress K hs bs)) tH (0, 0)))) := by
  refine callS_of_wpE Tryd.func72 rfl (by show 2 ≤ 196; decide) ?_
  refine wpE_seq (wpE_region (op_n rfl (runN_alloc rfl ti171) fun rW hrW => opsE_nil ?_))
  have hneH : H ≠ rW := ne_fresh hH hrW
  have hS1 : Bytes64 h S off bs := hS
  refine wpE_seqN (E₀ := [(4, .pointer (some ⟨rW, 0, none⟩)), (0, .pointer (some ⟨H, 0, none⟩))]) (h₀ := h.upd rW (true, .cells (U (fillW bs 16)) 171 (0, 0))) (wpE_seq (wpE_region (op_p tyT_ok rfl (opsE_nil ?_)))) ?_
  · exact block_fill h H S off cap rW bs _ hS hrW rfl rfl rfl rfl
  refine wpE_seqN (E₀ := [(4, .pointer (some ⟨rW, 0, none⟩)), (0, .pointer (some ⟨H, 0, none⟩))]) (h₀ := h.upd rW (true, .cells (U (moreW (fillW bs 16) 48)) 171 (0, 0))) (wpE_seq (wpE_region (op_p tyT_ok rfl (opsE_nil ?_)))) ?_
  · exact block_more h H rW (fillW bs 16) (fillW_length _ _) _ rfl rfl rfl
  have hW1 : (h.upd rW (true, .cells (U (moreW (fillW bs 16) 48)) 171 (0, 0))) rW = some (true, .cells (U (moreW (fillW bs 16) 48)) 171 (0, 0)) := Know.upd_same _ _ _
  have hH1 : (h.upd rW (true, .cells (U (moreW (fillW bs 16) 48)) 171 (0, 0))) H = some (true, .cells (U hs) tH (0, 0)) := by rw [Know.upd_ne _ _ hneH]; exact hH
  have hK1 : (h.upd rW (true, .cells (U (moreW (fillW bs 16) 48)) 171 (0, 0))) 2 = some (mk, .cells (U K) tk fk) := by rw [Know.upd_ne _ _ (ne_fresh hK hrW)]; exact hK
  generalize hh1 : h.upd rW (true, .cells (U (moreW (fillW bs 16) 48)) 171 (0, 0)) = h1 at *
  have hle1 : h.le h1 := by rw [← hh1]; exact le_fresh _ hrW
  refine wpE_seq (wpE_region (op_p tyT_ok rfl (op_r rfl (runV_nilCheck rfl rfl) (op_r rfl (runV_load_row rfl rfl Tryd.underlying126 rfl (z := .agg (U (List.replicate 8 0))) (bt := 32) (by rw [U_size, hhs]; exact ti126) hH1) (op_n rfl (runN_alloc rfl ti126) fun rV hrV => ?_)))))
  refine op_store_row rfl rfl (z := .agg (U (List.replicate 8 0))) (bt := 32) (by rw [U_size, hhs]; exact ti126) (Know.upd_same _ _ _) (by simp [U, Value.flat]) (by rw [U_size, hhs]; rfl) rfl (h' := h1.upd rV (true, .cells (U hs) 126 (0, 0))) (by rw [upd_upd]) ?_
  refine opsE_nil ?_
  refine wpE_seqN (E₀ := [(9, .pointer (some ⟨rV, 0, none⟩)), (0, .pointer (some ⟨H, 0, none⟩))]) (h₀ := h1.upd rV (true, .cells (U (rnds K (moreW (fillW bs 16) 48) hs 64)) 126 (0, 0))) (wpE_seq (wpE_region (op_p tyT_ok rfl (opsE_nil ?_)))) ?_
  · exact block_rounds h1 H rW rV K (moreW (fillW bs 16) 48) hs mk tk fk hK1 hKl (by rw [moreW_length, fillW_length]) hhs hW1 hrV _ rfl rfl rfl rfl
  have hneV : H ≠ rV := ne_fresh hH1 hrV
  have hself : (h1.upd rV (true, .cells (U (rnds K (moreW (fillW bs 16) 48) hs 64)) 126 (0, 0))).upd H (true, .cells (U (addW hs (rnds K (moreW (fillW bs 16) 48) hs 64) 0)) tH (0, 0)) = h1.upd rV (true, .cells (U (rnds K (moreW (fillW bs 16) 48) hs 64)) 126 (0, 0)) :=
    upd_self (by rw [Know.upd_ne _ _ hneV]; exact hH1)
  rw [← hself]
  refine wpE_seq (wpE_region (op_p tyT_ok rfl (opsE_nil ?_)))
  refine wpE_mono (block_add _ H rV hs (rnds K (moreW (fillW bs 16) 48) hs 64) tH hhs (rnds_length _ _ _ _ hhs) (Ne.symm hneV) (Know.upd_same _ _ _) _ rfl rfl rfl) ?_
  rintro e ds E' h' ⟨rfl, rfl, _, hle⟩
  exact bodyQ_end (fn := Tryd.f72) rfl ⟨rfl, Know.le_trans (le_both H _ (Know.le_trans hle1 (le_fresh _ hrV))) hle⟩

end Go.Proofs.YtlmecmapkijcnaaDoor
