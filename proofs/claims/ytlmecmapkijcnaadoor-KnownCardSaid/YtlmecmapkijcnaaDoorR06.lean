/- SHA-256 as the program does it: the rounds, and the block whole. SHA-256 as the program does it: a whole text. The reference's words: whole numbers below 2^32, whose sums are cut by a mask. -/
import Derived.Test.YtlmecmapkijcnaaDoorR05
import Derived.Test.YtlmecmapkijcnaaDoorR03
set_option linter.unusedVariables false
namespace Go.Proofs.YtlmecmapkijcnaaDoor
open KL

theorem le_fresh {h : Know} {r : Nat} (x : Bool × Obj) (hr : h r = none) : h.le (h.upd r x) := ⟨rfl, fun b y e => by rw [Know.upd_ne _ _ (ne_fresh e hr)]; exact e⟩
theorem le_both {h h' : Know} (H : Nat) (x : Bool × Obj) (hl : h.le h') : (h.upd H x).le (h'.upd H x) := by
  refine ⟨hl.gh, ?_⟩
  intro b y e
  by_cases hb : b = H
  · subst hb; rw [Know.upd_same] at e ⊢; exact e
  · rw [Know.upd_ne _ _ hb] at e ⊢; exact hl b y e

set_option maxRecDepth 100000 in
theorem block_rounds {A : Acts} [Priv A] {main : Bool} (h : Know) (H rW rV : Nat) (K ws hs : List Int) (mk : Bool) (tk : TypeId) (fk : Nat × Nat) (hK : h 2 = some (mk, .cells (U K) tk fk)) (hKl : K.length = 64) (hws : ws.length = 64) (hhs : hs.length = 8)
    (hW : h rW = some (true, .cells (U ws) 171 (0, 0))) (hr : h rV = none) (E : Env)
    (e0 : E.look 0 = some (.pointer (some ⟨H, 0, none⟩))) (e4 : E.look 4 = some (.pointer (some ⟨rW, 0, none⟩))) (e9 : E.look 9 = some (.pointer (some ⟨rV, 0, none⟩))) (e99 : E.look 99 = some (.int .i64 0)) :
    wpE A Tryd.prog main 196 (seqR (seqL (seqR (seqR (seqR (seqR (bodyOf Tryd.f72))))))) (NormalLe [] [(9, .pointer (some ⟨rV, 0, none⟩)), (0, .pointer (some ⟨H, 0, none⟩))] (h.upd rV (true, .cells (U (rnds K ws hs 64)) 126 (0, 0)))) [] E (h.upd rV (true, .cells (U (rnds K ws hs 0)) 126 (0, 0))) := by
  refine wpE_block (wpE_loopJ (fun m E hh => ∃ k : Nat, m = 64 - k ∧ k ≤ 64 ∧ E = [(99, .int .i64 (k : Int)), (9, .pointer (some ⟨rV, 0, none⟩)), (4, .pointer (some ⟨rW, 0, none⟩)), (0, .pointer (some ⟨H, 0, none⟩))] ∧
    hh = h.upd rV (true, .cells (U (rnds K ws hs k)) 126 (0, 0))) (Env.le_cons e99 (Env.le_cons e9 (Env.le_cons e4 (Env.le_cons e0 (Env.le_nil _))))) (Know.le_refl _) ⟨0, rfl, by omega, rfl, rfl⟩ ?_)
  rintro m E' hh ⟨k, rfl, hk, rfl, rfl⟩
  have hvl : (rnds K ws hs k).length = 8 := rnds_length _ _ _ _ hhs
  have hVb : (h.upd rV (true, .cells (U (rnds K ws hs k)) 126 (0, 0))) rV = some (true, .cells (U (rnds K ws hs k)) 126 (0, 0)) := Know.upd_same _ _ _
  have hWb : (h.upd rV (true, .cells (U (rnds K ws hs k)) 126 (0, 0))) rW = some (true, .cells (U ws) 171 (0, 0)) := by rw [Know.upd_ne _ _ (ne_fresh hW hr)]; exact hW
  have hKb : (h.upd rV (true, .cells (U (rnds K ws hs k)) 126 (0, 0))) 2 = some (mk, .cells (U K) tk fk) := by rw [Know.upd_ne _ _ (ne_fresh hK hr)]; exact hK
  by_cases hlt : k < 64
  · refine wpE_seq (wpE_region ?_)
    refine op_pe tyT_ok rfl (congrArg Value.bool (decide_eq_true (show ((k : Nat) : Int) < 64 by omega))) ?_
    refine opsE_nil (wpE_seq (wpE_true rfl (wpE_skip ?_)))
    refine wpE_seq (wpE_block (wpE_seq (wpE_region ?_)))
    refine op_p tyT_ok rfl ?_
    refine op_p tyT_ok rfl ?_
    refine opsE_nil (wpE_seq (wpE_drawB 6 (by kernel_rfl) (by kernel_rfl) rfl (by kernel_rfl) ?_))
    simp only [List.take_succ_cons, List.take_zero, List.drop_succ_cons, List.drop_zero]
    refine head_re rfl (runV_indexAddr_array rfl Tryd.underlying126 ti124 rfl rfl (by decide) (by decide)) (v' := .pointer (some ⟨rV, 0, none⟩)) rfl ?_
    refine head_r rfl (runV_load rfl rfl Tryd.underlying124 rfl hVb (U_get (by omega))) ?_
    refine head_re rfl (runV_indexAddr_array rfl Tryd.underlying126 ti124 rfl rfl (by decide) (by decide)) (v' := .pointer (some ⟨rV, 4, none⟩)) rfl ?_
    refine head_r rfl (runV_load rfl rfl Tryd.underlying124 rfl hVb (U_get (by omega))) ?_
    refine head_p tyT_ok rfl ?_
    refine head_p tyT_ok rfl ?_
    refine headE_nil ?_
    refine opsE_nil (wpE_seq (wpE_drawB 31 (by kernel_rfl) (by kernel_rfl) rfl (by kernel_rfl) ?_))
    simp only [List.take_succ_cons, List.take_zero, List.drop_succ_cons, List.drop_zero]
    refine head_re rfl (runV_indexAddr_array rfl Tryd.underlying126 ti124 rfl rfl (by decide) (by decide)) (v' := .pointer (some ⟨rV, 7, none⟩)) rfl ?_
    refine head_r rfl (runV_load rfl rfl Tryd.underlying124 rfl hVb (U_get (by omega))) ?_
    refine head_p tyT_ok rfl ?_
    refine head_callLe rfl rfl Tryd.func101 name101 rfl (vs := [Value.int .u32 (at0 (rnds K ws hs k) 4), Value.int .i64 (-6)]) rfl (rot_6 _ _) ?_
    refine head_p tyT_ok rfl ?_
    refine head_callLe rfl rfl Tryd.func101 name101 rfl (vs := [Value.int .u32 (at0 (rnds K ws hs k) 4), Value.int .i64 (-11)]) rfl (rot_11 _ _) ?_
    refine head_p tyT_ok rfl ?_
    refine head_p tyT_ok rfl ?_
    refine head_callLe rfl rfl Tryd.func101 name101 rfl (vs := [Value.int .u32 (at0 (rnds K ws hs k) 4), Value.int .i64 (-25)]) rfl (rot_25 _ _) ?_
    refine head_p tyT_ok rfl ?_
    refine head_p tyT_ok rfl ?_
    refine head_p tyT_ok rfl ?_
    refine head_re rfl (runV_indexAddr_array rfl Tryd.underlying126 ti124 rfl rfl (by decide) (by decide)) (v' := .pointer (some ⟨rV, 5, none⟩)) rfl ?_
    refine head_r rfl (runV_load rfl rfl Tryd.underlying124 rfl hVb (U_get (by omega))) ?_
    refine head_p tyT_ok rfl ?_
    refine head_p tyT_ok rfl ?_
    refine head_p tyT_ok rfl ?_
    refine head_re rfl (runV_indexAddr_array rfl Tryd.underlying126 ti124 rfl rfl (by decide) (by decide)) (v' := .pointer (some ⟨rV, 6, none⟩)) rfl ?_
    refine head_r rfl (runV_load rfl rfl Tryd.underlying124 rfl hVb (U_get (by omega))) ?_
    refine head_p tyT_ok rfl ?_
    refine head_p tyT_ok rfl ?_
    refine head_p tyT_ok rfl ?_
    refine head_p tyT_ok rfl ?_
    refine head_re rfl (runV_indexAddr_array rfl Tryd.underlying171 ti124 rfl rfl (by omega) (by omega)) (v' := .pointer (some ⟨2, k, none⟩)) (by rw [Int.toNat_natCast, Nat.mul_one, Nat.zero_add]) ?_
    refine head_r rfl (runV_load rfl rfl Tryd.underlying124 rfl hKb (U_get (by omega))) ?_
    refine head_p tyT_ok rfl ?_
    refine head_p tyT_ok rfl ?_
    refine head_re rfl (runV_indexAddr_array rfl Tryd.underlying171 ti124 rfl rfl (by omega) (by omega)) (v' := .pointer (some ⟨rW, k, none⟩)) (by rw [Int.toNat_natCast, Nat.mul_one, Nat.zero_add]) ?_
    refine head_r rfl (runV_load rfl rfl Tryd.underlying124 rfl hWb (U_get (by omega))) ?_
    refine head_pe tyT_ok rfl (v' := .int .u32 (tR (at0 K k) (at0 ws k) (rnds K ws hs k))) rfl ?_
    refine head_p tyT_ok rfl ?_
    refine headE_nil ?_
    refine opsE_nil (wpE_seq (wpE_drawB 25 (by kernel_rfl) (by kernel_rfl) rfl (by kernel_rfl) ?_))
    simp only [List.take_succ_cons, List.take_zero, List.drop_succ_cons, List.drop_zero]
    refine head_p tyT_ok rfl ?_
    refine head_callLe rfl rfl Tryd.func101 name101 rfl (vs := [Value.int .u32 (at0 (rnds K ws hs k) 0), Value.int .i64 (-2)]) rfl (rot_2 _ _) ?_
    refine head_p tyT_ok rfl ?_
    refine head_callLe rfl rfl Tryd.func101 name101 rfl (vs := [Value.int .u32 (at0 (rnds K ws hs k) 0), Value.int .i64 (-13)]) rfl (rot_13 _ _) ?_
    refine head_p tyT_ok rfl ?_
    refine head_p tyT_ok rfl ?_
    refine head_callLe rfl rfl Tryd.func101 name101 rfl (vs := [Value.int .u32 (at0 (rnds K ws hs k) 0), Value.int .i64 (-22)]) rfl (rot_22 _ _) ?_
    refine head_p tyT_ok rfl ?_
    refine head_p tyT_ok rfl ?_
    refine head_re rfl (runV_indexAddr_array rfl Tryd.underlying126 ti124 rfl rfl (by decide) (by decide)) (v' := .pointer (some ⟨rV, 1, none⟩)) rfl ?_
    refine head_r rfl (runV_load rfl rfl Tryd.underlying124 rfl hVb (U_get (by omega))) ?_
    refine head_p tyT_ok rfl ?_
    refine head_p tyT_ok rfl ?_
    refine head_re rfl (runV_indexAddr_array rfl Tryd.underlying126 ti124 rfl rfl (by decide) (by decide)) (v' := .pointer (some ⟨rV, 2, none⟩)) rfl ?_
    refine head_r rfl (runV_load rfl rfl Tryd.underlying124 rfl hVb (U_get (by omega))) ?_
    refine head_p tyT_ok rfl ?_
    refine head_p tyT_ok rfl ?_
    refine head_re rfl (runV_indexAddr_array rfl Tryd.underlying126 ti124 rfl rfl (by decide) (by decide)) (v' := .pointer (some ⟨rV, 1, none⟩)) rfl ?_
    refine head_r rfl (runV_load rfl rfl Tryd.underlying124 rfl hVb (U_get (by omega))) ?_
    refine head_re rfl (runV_indexAddr_array rfl Tryd.underlying126 ti124 rfl rfl (by decide) (by decide)) (v' := .pointer (some ⟨rV, 2, none⟩)) rfl ?_
    refine head_r rfl (runV_load rfl rfl Tryd.underlying124 rfl hVb (U_get (by omega))) ?_
    refine head_p tyT_ok rfl ?_
    refine head_p tyT_ok rfl ?_
    refine head_pe tyT_ok rfl (v' := .int .u32 (uR (rnds K ws hs k))) rfl ?_
    refine head_p tyT_ok rfl ?_
    refine headE_nil ?_
    refine opsE_nil (wpE_region ?_)
    refine op_p tyT_ok rfl ?_
    refine op_p tyT_ok rfl ?_
    refine op_p tyT_ok rfl ?_
    refine op_re rfl (runV_indexAddr_array rfl Tryd.underlying126 ti124 rfl rfl (by decide) (by decide)) (v' := .pointer (some ⟨rV, 0, none⟩)) rfl ?_
    refine op_r rfl (runV_load rfl rfl Tryd.underlying124 rfl hVb (U_get (by omega))) ?_
    refine op_re rfl (runV_indexAddr_array rfl Tryd.underlying126 ti124 rfl rfl (by decide) (by decide)) (v' := .pointer (some ⟨rV, 1, none⟩)) rfl ?_
    refine op_r rfl (runV_load rfl rfl Tryd.underlying124 rfl hVb (U_get (by omega))) ?_
    refine op_re rfl (runV_indexAddr_array rfl Tryd.underlying126 ti124 rfl rfl (by decide) (by decide)) (v' := .pointer (some ⟨rV, 2, none⟩)) rfl ?_
    refine op_r rfl (runV_load rfl rfl Tryd.underlying124 rfl hVb (U_get (by omega))) ?_
    refine op_re rfl (runV_indexAddr_array rfl Tryd.underlying126 ti124 rfl rfl (by decide) (by decide)) (v' := .pointer (some ⟨rV, 3, none⟩)) rfl ?_
    refine op_r rfl (runV_load rfl rfl Tryd.underlying124 rfl hVb (U_get (by omega))) ?_
    refine op_p tyT_ok rfl ?_
    refine op_p tyT_ok rfl ?_
    refine op_re rfl (runV_indexAddr_array rfl Tryd.underlying126 ti124 rfl rfl (by decide) (by decide)) (v' := .pointer (some ⟨rV, 4, none⟩)) rfl ?_
    refine op_r rfl (runV_load rfl rfl Tryd.underlying124 rfl hVb (U_get (by omega))) ?_
    refine op_re rfl (runV_indexAddr_array rfl Tryd.underlying126 ti124 rfl rfl (by decide) (by decide)) (v' := .pointer (some ⟨rV, 5, none⟩)) rfl ?_
    refine op_r rfl (runV_load rfl rfl Tryd.underlying124 rfl hVb (U_get (by omega))) ?_
    refine op_re rfl (runV_indexAddr_array rfl Tryd.underlying126 ti124 rfl rfl (by decide) (by decide)) (v' := .pointer (some ⟨rV, 6, none⟩)) rfl ?_
    refine op_r rfl (runV_load rfl rfl Tryd.underlying124 rfl hVb (U_get (by omega))) ?_
    refine op_re rfl (runV_build rfl Tryd.underlying126 ti126 ti124 (cs := U (rnds K ws hs (k + 1))) (by kernel_rfl)) rfl ?_
    refine op_store_row rfl rfl (z := .agg (U (List.replicate 8 0))) (bt := 32) (by rw [U_size, rnds_length _ _ _ _ hhs]; exact ti126) hVb (by simp [U, Value.flat]) (by rw [U_size, U_size, rnds_length _ _ _ _ hhs, hvl]) rfl (h' := h.upd rV (true, .cells (U (rnds K ws hs (k + 1))) 126 (0, 0))) (by rw [upd_upd]) ?_
    refine opsE_nil ?_
    refine wpE_region ?_
    refine op_pe tyT_ok rfl (v' := .int .i64 ((k + 1 : Nat) : Int)) (wrapv (by omega) (by omega)) ?_
    refine op_p tyT_ok rfl ?_
    refine opsE_nil ⟨rfl, 64 - (k + 1), _, _, by omega, Env.le_cons rfl (Env.le_cons rfl (Env.le_cons rfl (Env.le_cons rfl (Env.le_nil _)))), Know.le_refl _, k + 1, rfl, by omega, rfl, rfl⟩
  · have : k = 64 := by omega
    subst this
    refine wpE_seq (wpE_region ?_)
    refine op_p tyT_ok rfl ?_
    refine opsE_nil (wpE_seq (wpE_false rfl (wpE_exit ?_)))
    repeat refine thenQ_exit ?_
    exact blockQ_exit (normalLe (Env.le_cons rfl (Env.le_cons rfl (Env.le_nil _))) (Know.le_refl _))

set_option maxRecDepth 100000 in
theorem block_add {A : Acts} [Priv A] {main : Bool} (h : Know) (H rV : Nat) (hs v : List Int) (tH : TypeId) (hhs : hs.length = 8) (hv : v.length = 8) (hne : rV ≠ H) (hV : h rV = some (true, .cells (U v) 126 (0, 0))) (E : Env)
    (e0 : E.look 0 = some (.pointer (some ⟨H, 0, none⟩))) (e9 : E.look 9 = some (.pointer (some ⟨rV, 0, none⟩))) (e181 : E.look 181 = some (.int .i64 0)) :
    wpE A Tryd.prog main 196 (seqR (seqR (seqR (seqR (seqR (seqR (bodyOf Tryd.f72))))))) (NormalLe [] [] (h.upd H (true, .cells (U (addW hs v 8)) tH (0, 0)))) [] E (h.upd H (true, .cells (U (addW hs v 0)) tH (0, 0))) := by
  refine wpE_block (wpE_loopJ (fun m E hh => ∃ k : Nat, m = 8 - k ∧ k ≤ 8 ∧ E = [(181, .int .i64 (k : Int)), (9, .pointer (some ⟨rV, 0, none⟩)), (0, .pointer (some ⟨H, 0, none⟩))] ∧
    hh = h.upd H (true, .cells (U (addW hs v k)) tH (0, 0))) (Env.le_cons e181 (Env.le_cons e9 (Env.le_cons e0 (Env.le_nil _)))) (Know.le_refl _) ⟨0, rfl, by omega, rfl, rfl⟩ ?_)
  rintro m E' hh ⟨k, rfl, hk, rfl, rfl⟩
  have hal : (addW hs v k).length = 8 := by rw [addW_length]; exact hhs
  have hHb : (h.upd H (true, .cells (U (addW hs v k)) tH (0, 0))) H = some (true, .cells (U (addW hs v k)) tH (0, 0)) := Know.upd_same _ _ _
  have hVb : (h.upd H (true, .cells (U (addW hs v k)) tH (0, 0))) rV = some (true, .cells (U v) 126 (0, 0)) := by rw [Know.upd_ne _ _ hne]; exact hV
  by_cases hlt : k < 8
  · refine wpE_seq (wpE_region ?_)
    refine op_pe tyT_ok rfl (congrArg Value.bool (decide_eq_true (show ((k : Nat) : Int) < 8 by omega))) ?_
    refine opsE_nil (wpE_seq (wpE_true rfl (wpE_skip ?_)))
    refine wpE_seq (wpE_block (wpE_seq (wpE_region ?_)))
    refine op_p tyT_ok rfl ?_
    refine op_p tyT_ok rfl ?_
    refine opsE_nil (wpE_drawB 10 (by kernel_rfl) (by kernel_rfl) rfl (by kernel_rfl) ?_)
    simp only [List.take_succ_cons, List.take_zero, List.drop_succ_cons, List.drop_zero]
    refine head_p tyT_ok rfl ?_
    refine head_p tyT_ok rfl ?_
    refine head_r rfl (runV_nilCheck rfl rfl) ?_
    refine head_re rfl (runV_indexAddr_array rfl Tryd.underlying126 ti124 rfl rfl (by omega) (by omega)) (v' := .pointer (some ⟨H, k, none⟩)) (by rw [Int.toNat_natCast, Nat.mul_one, Nat.zero_add]) ?_
    refine head_r rfl (runV_load rfl rfl Tryd.underlying124 rfl hHb (U_get (by omega))) ?_
    refine head_p tyT_ok rfl ?_
    refine head_re rfl (runV_indexAddr_array rfl Tryd.underlying126 ti124 rfl rfl (by omega) (by omega)) (v' := .pointer (some ⟨rV, k, none⟩)) (by rw [Int.toNat_natCast, Nat.mul_one, Nat.zero_add]) ?_
    refine head_r rfl (runV_load rfl rfl Tryd.underlying124 rfl hVb (U_get (by omega))) ?_
    refine head_pe tyT_ok rfl (v' := .int .u32 (w32 (at0 (addW hs v k) k + at0 v k))) rfl ?_
    refine head_r rfl (runV_nilCheck rfl rfl) ?_
    refine headE_nil ?_
    refine op_re rfl (runV_indexAddr_array rfl Tryd.underlying126 ti124 rfl rfl (by omega) (by omega)) (v' := .pointer (some ⟨H, k, none⟩)) (by rw [Int.toNat_natCast, Nat.mul_one, Nat.zero_add]) ?_
    refine op_store rfl rfl rfl ti124 hHb (by rw [U_size, hal]; omega) (by simp) (h' := h.upd H (true, .cells (U (addW hs v (k + 1))) tH (0, 0))) (by rw [upd_upd, U_set]; rfl) ?_
    refine opsE_nil ?_
    refine wpE_region ?_
    refine op_pe tyT_ok rfl (v' := .int .i64 ((k + 1 : Nat) : Int)) (wrapv (by omega) (by omega)) ?_
    refine op_p tyT_ok rfl ?_
    refine opsE_nil ⟨rfl, 8 - (k + 1), _, _, by omega, Env.le_cons rfl (Env.le_cons rfl (Env.le_cons rfl (Env.le_nil _))), Know.le_refl _, k + 1, rfl, by omega, rfl, rfl⟩
  · have : k = 8 := by omega
    subst this
    refine wpE_seq (wpE_region ?_)
    refine op_p tyT_ok rfl ?_
    refine opsE_nil (wpE_seq (wpE_false rfl (wpE_exit ?_)))
    repeat refine thenQ_exit ?_
    exact blockQ_exit (normalLe (Env.le_nil _) (Know.le_refl _))

set_option maxRecDepth 100000 in
/-- A block of 64 bytes: the state behind it. -/
theorem block_S {A : Acts} [Priv A] {main : Bool} (h : Know) (H S off cap : Nat) (K hs bs : List Int) (tH : TypeId) (mk : Bool) (tk : TypeId) (fk : Nat × Nat) (hK : h 2 = some (mk, .cells (U K) tk fk)) (hKl : K.length = 64) (hhs : hs.length = 8)
    (hH : h H = some (true, .cells (U hs) tH (0, 0))) (hS : Bytes64 h S off bs) :
    CallS A Tryd.prog main 72 [Value.pointer (some ⟨H, 0, none⟩), Value.slice (some ⟨S, off, none⟩) 64 cap].toArray h (RetLe (.tuple #[]) (h.upd H (true, .cells (U (compress K hs bs)) tH (0, 0)))) := by
  refine callS_of_wpE Tryd.func72 rfl (by show 2 ≤ 196; decide) ?_
  refine wpE_seq (wpE_region (op_n rfl (runN_alloc rfl ti171) fun rW hrW => opsE_nil ?_))
  have hneH : H ≠ rW := ne_fresh hH hrW
  have hS1 : Bytes64 h S off bs := hS
  refine wpE_seqN (E₀ := [(4, .pointer (some ⟨rW, 0, none⟩)), (0, .pointer (some ⟨H, 0, none⟩))]) (h₀ := h.upd rW (true, .cells (U (fillW bs 16)) 171 (0, 0))) (wpE_seq (wpE_region (op_p tyT_ok rfl (opsE_nil ?_)))) ?_
  · exact block_fill h H S off cap rW bs _ hS hrW rfl rfl rfl rfl
  refine wpE_seqN (E₀ := [(4, .pointer (some ⟨rW, 0, none⟩)), (0, .pointer (some ⟨H, 0, none⟩))]) (h₀ := h.upd rW (true, .cells (U (moreW (fillW bs 16) 48)) 171 (0, 0))) (wpE_seq (wpE_region (op_p tyT_ok rfl (opsE_nil ?_)))) ?_
  · exact block_more h H rW (fillW bs 16) (fillW_length _ _) _ rfl rfl rfl
  have hW1 : (h.upd rW (true, .cells (U (moreW (fillW bs 16) 48)) 171 (0, 0))) rW = some (true, .cells (U (moreW (fillW bs 16) 48)) 171 (0, 0)) := Know.upd_same _ _ _
  have hH1 : (h.upd rW (true, .cells (U (moreW (fillW bs 16) 48)) 171 (0, 0))) H = some (true, .cells (U hs) tH (0, 0)) := by rw [Know.upd_ne _ _ hneH]; exact hH
  have hK1 : (h.upd rW (true, .cells (U (moreW (fillW bs 16) 48)) 171 (0, 0))) 2 = some (mk, .cells (U K) tk fk) := by rw [Know.upd_ne _ _ (ne_fresh hK hrW)]; exact hK
  generalize hh1 : h.upd rW (true, .cells (U (moreW (fillW bs 16) 48)) 171 (0, 0)) = h1 at *
  have hle1 : h.le h1 := by rw [← hh1]; exact le_fresh _ hrW
  refine wpE_seq (wpE_region (op_p tyT_ok rfl (op_r rfl (runV_nilCheck rfl rfl) (op_r rfl (runV_load_row rfl rfl Tryd.underlying126 rfl (z := .agg (U (List.replicate 8 0))) (bt := 32) (by rw [U_size, hhs]; exact ti126) hH1) (op_n rfl (runN_alloc rfl ti126) fun rV hrV => ?_)))))
  refine op_store_row rfl rfl (z := .agg (U (List.replicate 8 0))) (bt := 32) (by rw [U_size, hhs]; exact ti126) (Know.upd_same _ _ _) (by simp [U, Value.flat]) (by rw [U_size, hhs]; rfl) rfl (h' := h1.upd rV (true, .cells (U hs) 126 (0, 0))) (by rw [upd_upd]) ?_
  refine opsE_nil ?_
  refine wpE_seqN (E₀ := [(9, .pointer (some ⟨rV, 0, none⟩)), (0, .pointer (some ⟨H, 0, none⟩))]) (h₀ := h1.upd rV (true, .cells (U (rnds K (moreW (fillW bs 16) 48) hs 64)) 126 (0, 0))) (wpE_seq (wpE_region (op_p tyT_ok rfl (opsE_nil ?_)))) ?_
  · exact block_rounds h1 H rW rV K (moreW (fillW bs 16) 48) hs mk tk fk hK1 hKl (by rw [moreW_length, fillW_length]) hhs hW1 hrV _ rfl rfl rfl rfl
  have hneV : H ≠ rV := ne_fresh hH1 hrV
  have hself : (h1.upd rV (true, .cells (U (rnds K (moreW (fillW bs 16) 48) hs 64)) 126 (0, 0))).upd H (true, .cells (U (addW hs (rnds K (moreW (fillW bs 16) 48) hs 64) 0)) tH (0, 0)) = h1.upd rV (true, .cells (U (rnds K (moreW (fillW bs 16) 48) hs 64)) 126 (0, 0)) :=
    upd_self (by rw [Know.upd_ne _ _ hneV]; exact hH1)
  rw [← hself]
  refine wpE_seq (wpE_region (op_p tyT_ok rfl (opsE_nil ?_)))
  refine wpE_mono (block_add _ H rV hs (rnds K (moreW (fillW bs 16) 48) hs 64) tH hhs (rnds_length _ _ _ _ hhs) (Ne.symm hneV) (Know.upd_same _ _ _) _ rfl rfl rfl) ?_
  rintro e ds E' h' ⟨rfl, rfl, _, hle⟩
  exact bodyQ_end (fn := Tryd.f72) rfl ⟨rfl, Know.le_trans (le_both H _ (Know.le_trans hle1 (le_fresh _ hrV))) hle⟩

end Go.Proofs.YtlmecmapkijcnaaDoor

set_option linter.unusedVariables false
namespace Go.Proofs.YtlmecmapkijcnaaDoor
namespace KL
section
variable {P : Program} {A : Acts} [Priv A] {main : Bool} {n : Nat} {Q : Post} {ds : List Deferred} {E : Env} {h h' : Know}
/-- Normal, with what M says. -/
def NormalE (ds : List Deferred) (M : Env → Know → Prop) : Post := fun e ds' E h => e = .normal ∧ ds' = ds ∧ ∃ E₀ h₀, E₀.le E ∧ h₀.le h ∧ M E₀ h₀
omit [Priv A] in
theorem wpE_seqE {x y : Code} {M : Env → Know → Prop} (hx : wpE A P main n x (NormalE ds M) ds E h) (hy : ∀ E h, M E h → wpE A P main n y Q ds E h) : wpE A P main n (.seq x y) Q ds E h := by
  refine wpE_seq (wpE_mono hx ?_)
  rintro e ds' E' h' ⟨rfl, rfl, E₀, h₀, h1, h2, h3⟩
  exact wpE_weaken (hy _ _ h3) h1 h2
theorem normalE {M : Env → Know → Prop} {E₀ : Env} {h₀ : Know} (h1 : E₀.le E) (h2 : h₀.le h) (h3 : M E₀ h₀) : NormalE ds M .normal ds E h := ⟨rfl, rfl, E₀, h₀, h1, h2, h3⟩
/-- The result stands in a cell of its own: a row. -/
theorem bodyQ_row {fn : Func} {R : Ending → Know → Prop} {E : Env} {t : Tmp} {ty b : Nat} {d : TypeDesc} {mu : Bool} {c : Array Value} {ty' : TypeId} {fr : Nat × Nat} {z : Value} {bt : Nat} (hr : fn.results = #[.cell t ty]) (hl : E.look t = some (.pointer (some ⟨b, 0, none⟩)))
    (hu : P.underlying ty = some d) (hd : isAggD d = true) (ti : TI P ty z c.size bt) (hb : h b = some (mu, .cells c ty' fr)) (hR : R (.returned (.agg c)) h) : bodyQ P fn R .ret [] E h :=
  ⟨rfl, fun a hf => by
    have e : results fn a.tmps = (do let v ← loadVar ty ⟨b, 0, none⟩; pure v : Sem Value) := by simp [results, hr, hf.look t _ hl, asAddr]
    rw [e, show (do let v ← loadVar ty ⟨b, 0, none⟩; pure v : Sem Value) = loadVar ty ⟨b, 0, none⟩ by simp]
    unfold loadVar
    rw [semS_bind, semS_isAgg hu, hd]
    show semS P _ (do let n ← sizeOf ty; let cs ← loadCells ⟨b, 0, none⟩ n; pure (.agg cs) : Sem Value) h _
    rw [semS_bind, semS_sizeOf ti, semS_bind]
    refine semS_loadCells hb _ _ (by simp) ?_
    show R (.returned (.agg (c.extract 0 (0 + c.size)))) h
    simpa using hR⟩
end
end KL
open KL

/-- Bytes as cells. -/
def B (l : List Int) : List Value := l.map (Value.int .u8)
@[simp] theorem B_length (l : List Int) : (B l).length = l.length := by simp [B]
theorem B_append (l m : List Int) : B (l ++ m) = B l ++ B m := by simp [B]
theorem B_flat (l : List Int) : (B l).all Value.flat = true := by simp [B, Value.flat]
def ints (s : ByteArray) : List Int := s.data.toList.map fun b => (b.toNat : Int)
theorem B_ints (s : ByteArray) : B (ints s) = s.data.toList.map fun b => .int .u8 b.toNat := by simp [B, ints]
theorem ints_length (s : ByteArray) : (ints s).length = s.size := by simp [ints]
def zerosN (len : Nat) : Nat := (119 - len % 64) % 64
def lenByte (L : Int) (i : Nat) : Int := IntKind.u8.wrap (L / 2 ^ (56 - 8 * i))
def lenBytes (L : Int) (n : Nat) : List Int := (List.range n).map (lenByte L)
def padded (bs : List Int) : List Int := bs ++ [128] ++ List.replicate (zerosN bs.length) 0 ++ lenBytes (IntKind.u64.wrap (IntKind.u64.wrap bs.length * 8)) 8
/-- m blocks. -/
def chain (K : List Int) : Nat → List Int → List Int → List Int
  | 0, hs, _ => hs
  | m + 1, hs, bs => chain K m (compress K hs bs) (bs.drop 64)
def four (x : Int) : List Int := [IntKind.u8.wrap (x / 2 ^ 24), IntKind.u8.wrap (x / 2 ^ 16), IntKind.u8.wrap (x / 2 ^ 8), IntKind.u8.wrap x]
/-- The first n words, laid into the answer. -/
def outC (hs : List Int) : Nat → Array Value
  | 0 => (B (List.replicate 32 0)).toArray
  | n + 1 => splice (outC hs n) (4 * n) (B (four (at0 hs n)))
theorem outC_size (hs : List Int) (n : Nat) : (outC hs n).size = 32 := by induction n <;> simp_all [outC, size_splice, B]
theorem splice_flat : ∀ (l : List Value) (c : Array Value) (off : Nat), c.toList.all Value.flat = true → l.all Value.flat = true → (splice c off l).toList.all Value.flat = true := by
  intro l
  induction l with
  | nil => exact fun c off h _ => h
  | cons v l ih =>
    intro c off hc hl
    rw [List.all_cons, Bool.and_eq_true] at hl
    refine ih _ _ ?_ hl.2
    rw [List.all_eq_true] at hc ⊢
    intro x hx
    rw [Array.toList_setIfInBounds] at hx
    rcases List.mem_or_eq_of_mem_set hx with g | g
    · exact hc x g
    · rw [g]; exact hl.1
theorem outC_flat (hs : List Int) (n : Nat) : (outC hs n).toList.all Value.flat = true := by
  induction n with
  | zero => exact B_flat _
  | succ n ih => exact splice_flat _ _ _ ih (B_flat _)
/-- The text's digest. -/
def digest (K hs bs : List Int) : Array Value := outC (chain K ((padded bs).length / 64) hs (padded bs)) 8

theorem ti64u8 : Tryd.prog.underlying 64 = some (.slice 5) := by kernel_rfl
theorem ti106 : TI Tryd.prog 106 (.agg (B (List.replicate 32 0)).toArray) 32 32 := by unfold TI; kernel_rfl
theorem und106 : Tryd.prog.underlying 106 = some (.array 32 5) := by kernel_rfl

/-- The buffer holds xs: its own storage, unknown to h. -/
def Buf (h hh : Know) (v : Value) (xs : List Int) : Prop := SlV hh v 5 (B xs) ∧ h.le hh ∧ ∀ c, blk v = some c → h c = none
theorem Buf.form {h hh : Know} {v : Value} {xs : List Int} (s : Buf h hh v xs) : ∃ p cap, v = .slice p xs.length cap := by
  rcases s.1 with ⟨rfl, e⟩ | ⟨b, cap, rfl, _⟩
  · have : xs = [] := by simpa [B] using e
    subst this; exact ⟨none, 0, rfl⟩
  · exact ⟨_, cap, by rw [B_length]⟩
theorem Buf.push {h hh : Know} {v : Value} {xs : List Int} (s : Buf h hh v xs) {r : Nat} (hr : hh r = none) (x : Int) :
    SlV (hh.upd r (true, .cells #[.int .u8 x] 5 (0, 0))) v 5 (B xs) ∧ SrcV (hh.upd r (true, .cells #[.int .u8 x] 5 (0, 0))) (.slice (some ⟨r, 0, none⟩) 1 1) (B [x]) ∧
    ∀ v' h', Appended (hh.upd r (true, .cells #[.int .u8 x] 5 (0, 0))) v 5 (B xs ++ B [x]) v' h' → Buf h h' v' (xs ++ [x]) := by
  obtain ⟨s1, s2, s3⟩ := s
  have hle : hh.le (hh.upd r (true, .cells #[.int .u8 x] 5 (0, 0))) := le_fresh _ hr
  have known : ∀ b, blk v = some b → ∃ y, hh b = some y := by
    rcases s1 with ⟨rfl, e⟩ | ⟨b, cap, rfl, c, fr, hb, _⟩
    · intro b e; cases e
    · intro b' e; cases e; exact ⟨_, hb⟩
  refine ⟨s1.keep fun b hb => ?_, .inr (.inr ⟨r, 0, 1, true, _, 5, (0, 0), rfl, Know.upd_same _ _ _, by simp [B], by simp [B]⟩), fun v' h' a => ?_⟩
  · obtain ⟨y, hy⟩ := known b hb
    rw [Know.upd_ne _ _ (ne_fresh hy hr)]
  · obtain ⟨a1, a2, a3, a4⟩ := a
    refine ⟨by rw [B_append]; exact a1, ⟨s2.gh.trans a4.symm, fun c y hc => ?_⟩, fun c hc => ?_⟩
    · refine a2 c y (fun e => ?_) (hle c y (s2 c y hc))
      rw [s3 c e] at hc; cases hc
    · rcases a3 c hc with e | e
      · exact s3 c e
      · cases hq : h c with
        | none => rfl
        | some y => rw [hle c y (s2 c y hq)] at e; cases e

theorem bit8 {x : Operand} {y : Int} {ρ : Operand → Value} (e : ρ x = .int .u8 y) : Instr.fill (fun i => some (i * 1, 1)) ((Array.range (1 * 1)).map ((Value.int .u8 0).cells[· % (Value.int .u8 0).cells.size]!)) (#[(0, x)].map fun (i, x) => (i, ρ x)).toList = some #[.int .u8 y] := by
  simp only [List.map_toArray, List.map_cons, List.map_nil, e]; kernel_rfl

set_option maxRecDepth 100000 in
/-- The noughts. -/
theorem of_pad {A : Acts} [Priv A] {main : Bool} (h hh : Know) (v₀ : Value) (bs : List Int) (L : Int) (r2 : Nat) (E : Env) (hlen : bs.length ≤ 2 ^ 40) (hb : Buf h hh v₀ (bs ++ [128]))
    (e2 : E.look 2 = some (.pointer (some ⟨r2, 0, none⟩))) (e3 : E.look 3 = some v₀) (e4 : E.look 4 = some (.int .u64 L)) :
    wpE A Tryd.prog main 71 (seqL (seqR (seqR (seqR (seqR (bodyOf Tryd.f57)))))) (NormalE [] (fun E₁ h₁ => ∃ v, E₁ = [(4, .int .u64 L), (3, v), (2, .pointer (some ⟨r2, 0, none⟩))] ∧ Buf h h₁ v (bs ++ [128] ++ List.replicate (zerosN bs.length) 0))) [] E hh := by
  refine wpE_block (wpE_loopJ (fun m E hh => ∃ k v, m = zerosN bs.length - k ∧ k ≤ zerosN bs.length ∧ E = [(4, .int .u64 L), (3, v), (2, .pointer (some ⟨r2, 0, none⟩))] ∧
    Buf h hh v (bs ++ [128] ++ List.replicate k 0)) (Env.le_cons e4 (Env.le_cons e3 (Env.le_cons e2 (Env.le_nil _)))) (Know.le_refl _) ⟨0, v₀, rfl, by omega, rfl, by simpa using hb⟩ ?_)
  rintro m E' hh ⟨k, v, rfl, hk, rfl, hbuf⟩
  have hz : zerosN bs.length < 64 := by unfold zerosN; omega
  have hzd : zerosN bs.length = (119 - bs.length % 64) % 64 := rfl
  have hl : (bs ++ [128] ++ List.replicate k 0).length = bs.length + 1 + k := by simp only [List.length_append, List.length_replicate, List.length_cons, List.length_nil]
  obtain ⟨p, cap, rfl⟩ := hbuf.form
  rw [hl] at hbuf ⊢
  refine wpE_seq (wpE_seq (wpE_region ?_))
  refine op_p tyT_ok rfl ?_
  refine op_p tyT_ok rfl ?_
  refine op_re rfl (runV_rem rfl rfl rfl (by decide)) (v' := .int .i64 (((bs.length + 1 + k) % 64 : Nat) : Int)) (by rw [Int.ofNat_tmod]; rfl) ?_
  by_cases hlt : k < zerosN bs.length
  · refine op_pe tyT_ok rfl (v' := .bool true) ?_ ?_
    · show Value.bool (!decide _) = _
      rw [decide_eq_false (by omega)]; rfl
    refine opsE_nil (wpE_true rfl (wpE_skip ?_))
    refine wpE_block (wpE_region ?_)
    refine op_p tyT_ok rfl ?_
    refine op_n rfl (runN_buildSlice rfl ti64u8 ti5 (by decide) (by decide) (bit8 rfl)) fun r hr => ?_
    obtain ⟨s1, s2, s3⟩ := hbuf.push hr 0
    refine op_x rfl (runX_append rfl rfl rfl ti64u8 ti64u8 (.inl ⟨_, rfl⟩) ti5 (by decide) rfl s1 s2 (B_flat _) (by simp only [B_length, hl, List.length_singleton]; omega)) fun v' h' ha => ?_
    refine op_p tyT_ok rfl ?_
    refine opsE_nil ⟨rfl, zerosN bs.length - (k + 1), _, _, by omega, Env.le_cons rfl (Env.le_cons rfl (Env.le_cons rfl (Env.le_nil _))), Know.le_refl _, k + 1, v', rfl, by omega, rfl, ?_⟩
    have := s3 _ _ ha
    rwa [List.append_assoc, ← List.replicate_succ'] at this
  · have : k = zerosN bs.length := by omega
    subst this
    refine op_pe tyT_ok rfl (v' := .bool false) ?_ ?_
    · show Value.bool (!decide _) = _
      rw [decide_eq_true (by omega)]; rfl
    refine opsE_nil (wpE_false rfl (wpE_exit ?_))
    repeat refine thenQ_exit ?_
    exact blockQ_exit (normalE (Env.le_cons rfl (Env.le_cons rfl (Env.le_cons rfl (Env.le_nil _)))) (Know.le_refl _) ⟨_, rfl, hbuf⟩)

theorem lenBytes_succ (L : Int) (n : Nat) : lenBytes L (n + 1) = lenBytes L n ++ [lenByte L n] := by simp [lenBytes, List.range_succ]
theorem lenBytes_length (L : Int) (n : Nat) : (lenBytes L n).length = n := by simp [lenBytes]

set_option maxRecDepth 100000 in
/-- The length. -/
theorem of_len {A : Acts} [Priv A] {main : Bool} (h hh : Know) (v₀ : Value) (xs : List Int) (L : Int) (r2 : Nat) (E : Env) (hlen : xs.length ≤ 2 ^ 41) (hb : Buf h hh v₀ xs)
    (e2 : E.look 2 = some (.pointer (some ⟨r2, 0, none⟩))) (e3 : E.look 3 = some v₀) (e4 : E.look 4 = some (.int .u64 L)) (e26 : E.look 26 = some (.int .i64 0)) :
    wpE A Tryd.prog main 71 (seqR (seqL (seqR (seqR (seqR (seqR (seqR (bodyOf Tryd.f57)))))))) (NormalE [] (fun E₁ h₁ => ∃ v, E₁ = [(3, v), (2, .pointer (some ⟨r2, 0, none⟩))] ∧ Buf h h₁ v (xs ++ lenBytes L 8))) [] E hh := by
  refine wpE_block (wpE_loopJ (fun m E hh => ∃ (k : Nat) (v : Value), m = 8 - k ∧ k ≤ 8 ∧ E = [(26, .int .i64 (k : Int)), (4, .int .u64 L), (3, v), (2, .pointer (some ⟨r2, 0, none⟩))] ∧
    Buf h hh v (xs ++ lenBytes L k)) (Env.le_cons e26 (Env.le_cons e4 (Env.le_cons e3 (Env.le_cons e2 (Env.le_nil _))))) (Know.le_refl _) ⟨0, v₀, rfl, by omega, rfl, by simpa [lenBytes] using hb⟩ ?_)
  rintro m E' hh ⟨k, v, rfl, hk, rfl, hbuf⟩
  have hl : (xs ++ lenBytes L k).length = xs.length + k := by simp only [List.length_append, lenBytes_length]
  by_cases hlt : k < 8
  · refine wpE_seq (wpE_region ?_)
    refine op_pe tyT_ok rfl (congrArg Value.bool (decide_eq_true (show ((k : Nat) : Int) < 8 by omega))) ?_
    refine opsE_nil (wpE_seq (wpE_true rfl (wpE_skip ?_)))
    refine wpE_seq (wpE_block (wpE_seq (wpE_region ?_)))
    refine op_p tyT_ok rfl ?_
    refine op_p tyT_ok rfl ?_
    refine opsE_nil (wpE_region ?_)
    refine op_p tyT_ok rfl ?_
    refine op_p tyT_ok rfl ?_
    refine op_p tyT_ok rfl ?_
    refine op_pe tyT_ok rfl (v' := .int .i64 ((8 * k : Nat) : Int)) (wrapv (by omega) (by omega)) ?_
    refine op_pe tyT_ok rfl (v' := .int .i64 ((56 - 8 * k : Nat) : Int)) (wrapv (by omega) (by omega)) ?_
    refine op_re rfl (runV_shr rfl rfl rfl (by omega)) (v' := .int .u64 (L / 2 ^ (56 - 8 * k))) (by rw [Int.toNat_natCast, Nat.min_eq_left (show 56 - 8 * k ≤ IntKind.u64.bits by show _ ≤ 64; omega)]) ?_
    refine op_pe tyT_ok rfl (v' := .int .u8 (lenByte L k)) rfl ?_
    refine op_n rfl (runN_buildSlice rfl ti64u8 ti5 (by decide) (by decide) (bit8 rfl)) fun r hr => ?_
    obtain ⟨s1, s2, s3⟩ := hbuf.push hr (lenByte L k)
    refine op_x rfl (runX_append rfl rfl rfl ti64u8 ti64u8 (.inl ⟨_, rfl⟩) ti5 (by decide) rfl s1 s2 (B_flat _) (by simp only [B_length, hl, List.length_singleton]; omega)) fun v' h' ha => ?_
    refine op_p tyT_ok rfl ?_
    refine opsE_nil (wpE_region ?_)
    refine op_pe tyT_ok rfl (v' := .int .i64 ((k + 1 : Nat) : Int)) (wrapv (by omega) (by omega)) ?_
    refine op_p tyT_ok rfl ?_
    refine opsE_nil ⟨rfl, 8 - (k + 1), _, _, by omega, Env.le_cons rfl (Env.le_cons rfl (Env.le_cons rfl (Env.le_cons rfl (Env.le_nil _)))), Know.le_refl _, k + 1, v', rfl, by omega, rfl, ?_⟩
    have := s3 _ _ ha
    rwa [List.append_assoc, ← lenBytes_succ] at this
  · have : k = 8 := by omega
    subst this
    refine wpE_seq (wpE_region ?_)
    refine op_p tyT_ok rfl ?_
    refine opsE_nil (wpE_seq (wpE_false rfl (wpE_exit ?_)))
    repeat refine thenQ_exit ?_
    exact blockQ_exit (normalE (Env.le_cons rfl (Env.le_cons rfl (Env.le_nil _))) (Know.le_refl _) ⟨_, rfl, hbuf⟩)

theorem chain_succ (K : List Int) : ∀ (m : Nat) (hs bs : List Int), chain K (m + 1) hs bs = compress K (chain K m hs bs) (bs.drop (64 * m)) := by
  intro m
  induction m with
  | zero => intro hs bs; simp [chain]
  | succ m ih =>
    intro hs bs
    have e : chain K (m + 1 + 1) hs bs = chain K (m + 1) (compress K hs bs) (bs.drop 64) := rfl
    have e' : chain K (m + 1) hs bs = chain K m (compress K hs bs) (bs.drop 64) := rfl
    rw [e, ih, e', List.drop_drop]
    congr 2; omega
theorem compress_length (K hs bs : List Int) : (compress K hs bs).length = hs.length := by unfold compress; rw [addW_length]
theorem chain_length (K : List Int) (m : Nat) (hs bs : List Int) : (chain K m hs bs).length = hs.length := by
  induction m generalizing hs bs with
  | zero => rfl
  | succ m ih => rw [chain, ih, compress_length]
theorem name72 : (Tryd.f72.name == "runtime.NumGoroutine") = false := by kernel_rfl

/-- xs stands at the start of block b. -/
theorem bytes64_of {hh : Know} {b cap k : Nat} {xs : List Int} (s : SlB hh b cap 5 (B xs)) (hk : 64 * k + 64 ≤ xs.length) : Bytes64 hh b (64 * k) (xs.drop (64 * k)) := by
  obtain ⟨c, fr, hb, hc, hx, hl, _⟩ := s
  refine ⟨true, c, 5, fr, hb, fun j hj => ?_⟩
  have h1 : (c.toList.take (B xs).length)[64 * k + j]? = c[64 * k + j]? := by
    rw [List.getElem?_take, if_pos (by rw [B_length]; omega), Array.getElem?_toList]
  rw [← h1, hx]
  have hlt : 64 * k + j < xs.length := by omega
  simp [B, at0, hlt]

set_option maxRecDepth 100000 in
/-- The blocks. -/
theorem of_blocks {A : Acts} [Priv A] {main : Bool} (h : Know) (b cap M r2 r6 : Nat) (xs K hs : List Int) (mk : Bool) (tk : TypeId) (fk : Nat × Nat) (hK : h 2 = some (mk, .cells (U K) tk fk)) (hKl : K.length = 64) (hhs : hs.length = 8)
    (hb : SlB h b cap 5 (B xs)) (hM : xs.length = 64 * M) (hbnd : xs.length ≤ 2 ^ 42) (hr : h r6 = none) (E : Env)
    (e2 : E.look 2 = some (.pointer (some ⟨r2, 0, none⟩))) (e3 : E.look 3 = some (.slice (some ⟨b, 0, none⟩) xs.length cap)) (e6 : E.look 6 = some (.pointer (some ⟨r6, 0, none⟩))) :
    wpE A Tryd.prog main 71 (seqL (seqR (seqR (seqR (seqR (seqR (seqR (seqR (bodyOf Tryd.f57))))))))) (NormalLe [] [(6, .pointer (some ⟨r6, 0, none⟩)), (2, .pointer (some ⟨r2, 0, none⟩))] (h.upd r6 (true, .cells (U (chain K M hs xs)) 126 (0, 0)))) [] E (h.upd r6 (true, .cells (U hs) 126 (0, 0))) := by
  have hcap : xs.length ≤ cap := by obtain ⟨c, fr, _, _, _, hl, _⟩ := hb; rwa [B_length] at hl
  have hbne : b ≠ r6 := by obtain ⟨c, fr, hb, _⟩ := hb; exact ne_fresh hb hr
  refine wpE_block (wpE_loopJ (fun m E hh => ∃ (k off : Nat), m = M - k ∧ k ≤ M ∧ (k < M → off = 64 * k) ∧ E = [(6, .pointer (some ⟨r6, 0, none⟩)), (3, .slice (some ⟨b, off, none⟩) (64 * (M - k)) (cap - 64 * k)), (2, .pointer (some ⟨r2, 0, none⟩))] ∧
    hh = h.upd r6 (true, .cells (U (chain K k hs xs)) 126 (0, 0))) (Env.le_cons e6 (Env.le_cons (v := .slice (some ⟨b, 0, none⟩) (64 * (M - 0)) (cap - 64 * 0)) (by rw [e3, hM]; rfl) (Env.le_cons e2 (Env.le_nil _)))) (Know.le_refl _) ⟨0, 0, rfl, by omega, fun _ => rfl, rfl, rfl⟩ ?_)
  rintro m E' hh ⟨k, off, rfl, hk, hoff, rfl, rfl⟩
  by_cases hlt : k < M
  · have := hoff hlt
    subst this
    refine wpE_seq (wpE_seq (wpE_region ?_))
    refine op_p tyT_ok rfl ?_
    refine op_p tyT_ok rfl ?_
    refine op_pe tyT_ok rfl (v' := .bool true) (congrArg Value.bool (decide_eq_true (show (0 : Int) < ((64 * (M - k) : Nat) : Int) by omega))) ?_
    refine opsE_nil (wpE_true rfl (wpE_skip ?_))
    refine wpE_seq (wpE_block (wpE_region ?_))
    refine op_p tyT_ok rfl ?_
    refine op_re rfl (runV_slice_slice rfl ti64u8 ti5 rfl (hh := 64) (l := 0) ⟨_, _, rfl, by omega, by omega, rfl⟩ rfl) (v' := .slice (some ⟨b, 64 * k, none⟩) 64 (cap - 64 * k)) (by simp) ?_
    refine op_call (fn := Tryd.f72) rfl rfl rfl name72 rfl rfl (block_S (h.upd r6 (true, .cells (U (chain K k hs xs)) 126 (0, 0))) r6 b (64 * k) (cap - 64 * k) K (chain K k hs xs) (xs.drop (64 * k)) 126 mk tk fk (by rw [Know.upd_ne _ _ (ne_fresh hK hr)]; exact hK) hKl
      (by rw [chain_length]; exact hhs) (Know.upd_same _ _ _) (bytes64_of (by obtain ⟨c, fr, h1, h2⟩ := hb; exact ⟨c, fr, by rw [Know.upd_ne _ _ hbne]; exact h1, h2⟩) (by omega))) (ends_le ?_)
    refine opsE_nil (wpE_region ?_)
    refine op_p tyT_ok rfl ?_
    refine op_re rfl (runV_slice_slice rfl ti64u8 ti5 rfl (hh := 64 * (M - k)) (l := 64) rfl ⟨_, _, rfl, by omega, by omega, rfl⟩) (v' := .slice (some ⟨b, if k + 1 < M then 64 * (k + 1) else if cap - 64 * k = 64 then 64 * k else 64 * k + 64 * 1, none⟩) (64 * (M - (k + 1))) (cap - 64 * (k + 1))) ?_ ?_
    · have h1 : 64 * (M - k) - 64 = 64 * (M - (k + 1)) := by omega
      have h2 : cap - 64 * k - 64 = cap - 64 * (k + 1) := by omega
      rw [h1, h2]
      by_cases hl : k + 1 < M
      · rw [if_pos hl, if_neg (by omega)]; congr 3
      · rw [if_neg hl]; split <;> rfl
    refine op_p tyT_ok rfl ?_
    refine opsE_nil ⟨rfl, M - (k + 1), _, _, by omega, Env.le_cons rfl (Env.le_cons rfl (Env.le_cons rfl (Env.le_nil _))), Know.le_refl _, k + 1, _, rfl, by omega, fun hl => ?_, rfl, ?_⟩
    · rw [if_pos hl]
    · rw [upd_upd, chain_succ]
  · have : k = M := by omega
    subst this
    refine wpE_seq (wpE_seq (wpE_region ?_))
    refine op_p tyT_ok rfl ?_
    refine op_p tyT_ok rfl ?_
    refine op_pe tyT_ok rfl (v' := .bool false) (congrArg Value.bool (decide_eq_false (show ¬ (0 : Int) < ((64 * (k - k) : Nat) : Int) by omega))) ?_
    refine opsE_nil (wpE_false rfl (wpE_exit ?_))
    repeat refine thenQ_exit ?_
    exact blockQ_exit (normalLe (Env.le_cons rfl (Env.le_cons rfl (Env.le_nil _))) (Know.le_refl _))

theorem le_swap {h : Know} {a b : Nat} {x y : Bool × Obj} (z : Bool × Obj) (hb : h b = none) (hne : a ≠ b) : (h.upd a x).le (((h.upd a y).upd b z).upd a x) := by
  refine ⟨rfl, ?_⟩
  intro c w e
  by_cases hc : c = a
  · subst hc; rw [Know.upd_same] at e ⊢; exact e
  · rw [Know.upd_ne _ _ hc] at e ⊢
    by_cases hd : c = b
    · subst hd; rw [hb] at e; cases e
    · rw [Know.upd_ne _ _ hd, Know.upd_ne _ _ hc]; exact e

set_option maxRecDepth 100000 in
/-- The answer's bytes. -/
theorem of_out {A : Acts} [Priv A] {main : Bool} (h : Know) (r2 r7 : Nat) (hs : List Int) (hhs : hs.length = 8) (hr : h r7 = none) (E : Env)
    (e2 : E.look 2 = some (.pointer (some ⟨r2, 0, none⟩))) (e7 : E.look 7 = some (.pointer (some ⟨r7, 0, none⟩))) (e48 : E.look 48 = some (.agg (U hs))) (e49 : E.look 49 = some (.int .i64 0)) :
    wpE A Tryd.prog main 71 (seqR (seqL (seqR (seqR (seqR (seqR (seqR (seqR (seqR (seqR (seqR (bodyOf Tryd.f57)))))))))))) (NormalLe [] [(7, .pointer (some ⟨r7, 0, none⟩)), (2, .pointer (some ⟨r2, 0, none⟩))] (h.upd r7 (true, .cells (outC hs 8) 106 (0, 0)))) [] E (h.upd r7 (true, .cells (outC hs 0) 106 (0, 0))) := by
  refine wpE_block (wpE_loopJ (fun m E hh => ∃ (k : Nat), m = 8 - k ∧ k ≤ 8 ∧ E = [(49, .int .i64 (k : Int)), (48, .agg (U hs)), (7, .pointer (some ⟨r7, 0, none⟩)), (2, .pointer (some ⟨r2, 0, none⟩))] ∧
    hh = h.upd r7 (true, .cells (outC hs k) 106 (0, 0))) (Env.le_cons e49 (Env.le_cons e48 (Env.le_cons e7 (Env.le_cons e2 (Env.le_nil _))))) (Know.le_refl _) ⟨0, rfl, by omega, rfl, rfl⟩ ?_)
  rintro m E' hh ⟨k, rfl, hk, rfl, rfl⟩
  by_cases hlt : k < 8
  · refine wpE_seq (wpE_region ?_)
    refine op_pe tyT_ok rfl (congrArg Value.bool (decide_eq_true (show ((k : Nat) : Int) < 8 by omega))) ?_
    refine opsE_nil (wpE_seq (wpE_true rfl (wpE_skip ?_)))
    refine wpE_seq (wpE_block (wpE_seq (wpE_region ?_)))
    refine op_p tyT_ok rfl ?_
    refine op_re rfl (runV_index rfl Tryd.underlying126 ti124 Tryd.underlying124 rfl rfl rfl (by omega) (by omega) (U_get (l := hs) (i := k) (by omega))) rfl ?_
    refine op_p tyT_ok rfl ?_
    refine op_p tyT_ok rfl ?_
    refine opsE_nil (wpE_region ?_)
    refine op_p tyT_ok rfl ?_
    refine op_pe tyT_ok rfl (v' := .int .i64 ((4 * k : Nat) : Int)) (wrapv (by omega) (by omega)) ?_
    refine op_re rfl (runV_slice_array rfl und106 ti5 rfl (hh := 32) (l := 4 * k) rfl ⟨_, _, rfl, by omega, by omega, rfl⟩ (by omega)) (v' := .slice (some ⟨r7, 4 * k, none⟩) (32 - 4 * k) (32 - 4 * k)) (by rw [Nat.zero_add]) ?_
    refine op_p tyT_ok rfl ?_
    refine op_re rfl (runV_shr rfl rfl rfl (by decide)) (v' := .int .u32 (at0 hs k / 2 ^ 24)) rfl ?_
    refine op_p tyT_ok rfl ?_
    refine op_p tyT_ok rfl ?_
    refine op_re rfl (runV_shr rfl rfl rfl (by decide)) (v' := .int .u32 (at0 hs k / 2 ^ 16)) rfl ?_
    refine op_p tyT_ok rfl ?_
    refine op_p tyT_ok rfl ?_
    refine op_re rfl (runV_shr rfl rfl rfl (by decide)) (v' := .int .u32 (at0 hs k / 2 ^ 8)) rfl ?_
    refine op_p tyT_ok rfl ?_
    refine op_p tyT_ok rfl ?_
    refine op_p tyT_ok rfl ?_
    refine op_n rfl (runN_buildSlice (cs := (B (four (at0 hs k))).toArray) rfl ti64u8 ti5 (by decide) (by decide) (by kernel_rfl)) fun r hr' => ?_
    have hne : r7 ≠ r := ne_fresh (Know.upd_same _ _ _) hr'
    refine op_r rfl (runV_copy (ys := B (four (at0 hs k))) rfl rfl rfl ti64u8 ti5 (.inr (.inr ⟨r, 0, 4, true, _, 5, (0, 0), rfl, Know.upd_same _ _ _, by simp [B, four], by simp [B, four]⟩)) (B_flat _) (by rw [B_length]; show 4 ≤ _; omega)
      (b := r7) (off := 4 * k) (c := outC hs k) (ty := 106) (fr := (0, 0)) (by rw [Know.upd_ne _ _ hne]; exact Know.upd_same _ _ _) (by rw [outC_size, B_length]; show _ + 4 ≤ _; omega) (fun j _ _ => by omega)) ?_
    refine opsE_nil (wpE_region ?_)
    refine op_pe tyT_ok rfl (v' := .int .i64 ((k + 1 : Nat) : Int)) (wrapv (by omega) (by omega)) ?_
    refine op_p tyT_ok rfl ?_
    refine opsE_nil ⟨rfl, 8 - (k + 1), _, _, by omega, Env.le_cons rfl (Env.le_cons rfl (Env.le_cons rfl (Env.le_cons rfl (Env.le_nil _)))), ?_, k + 1, rfl, by omega, rfl, rfl⟩
    have hr'' : h r = none := by rw [Know.upd_ne _ _ (Ne.symm hne)] at hr'; exact hr'
    exact le_swap _ hr'' hne
  · have : k = 8 := by omega
    subst this
    refine wpE_seq (wpE_region ?_)
    refine op_p tyT_ok rfl ?_
    refine opsE_nil (wpE_seq (wpE_false rfl (wpE_exit ?_)))
    repeat refine thenQ_exit ?_
    exact blockQ_exit (normalLe (Env.le_cons rfl (Env.le_cons rfl (Env.le_nil _))) (Know.le_refl _))

theorem Buf.block {h hh : Know} {v : Value} {xs : List Int} (s : Buf h hh v xs) (hne : xs ≠ []) : ∃ b cap, v = .slice (some ⟨b, 0, none⟩) xs.length cap ∧ SlB hh b cap 5 (B xs) ∧ h b = none := by
  obtain ⟨s1, s2, s3⟩ := s
  rcases s1 with ⟨rfl, e⟩ | ⟨b, cap, rfl, hb⟩
  · exact absurd (by simpa [B] using e) hne
  · exact ⟨b, cap, by rw [B_length], hb, s3 b rfl⟩
theorem padded_length (bs : List Int) : (padded bs).length = 64 * ((padded bs).length / 64) ∧ (padded bs).length ≤ bs.length + 73 := by
  have : (padded bs).length = bs.length + 1 + zerosN bs.length + 8 := by
    unfold padded
    simp only [List.length_append, lenBytes_length, List.length_replicate, List.length_cons, List.length_nil]
  have hz : zerosN bs.length = (119 - bs.length % 64) % 64 := rfl
  omega

set_option maxRecDepth 100000 in
/-- The digest of a text. -/
theorem of_S {A : Acts} [Priv A] {main : Bool} (h : Know) (s : ByteArray) (K hs : List Int) (m0 mk : Bool) (t0 tk : TypeId) (f0 fk : Nat × Nat) (h0 : h 0 = some (m0, .cells (U hs) t0 f0)) (hK : h 2 = some (mk, .cells (U K) tk fk)) (hKl : K.length = 64) (hhs : hs.length = 8)
    (hlen : s.size ≤ 2 ^ 40) : CallS A Tryd.prog main 57 [Value.string s].toArray h (RetLe (.agg (digest K hs (ints s))) h) := by
  refine callS_of_wpE Tryd.func57 rfl (by show 1 ≤ 71; decide) ?_
  have hil : (ints s).length = s.size := ints_length s
  refine wpE_seq (wpE_region (op_n rfl (runN_alloc rfl ti106) fun r2 hr2 => opsE_nil ?_))
  have hle1 : h.le (h.upd r2 (true, .cells (B (List.replicate 32 0)).toArray 106 (0, 0))) := le_fresh _ hr2
  have hat2 : (h.upd r2 (true, .cells (B (List.replicate 32 0)).toArray 106 (0, 0))) r2 = some (true, .cells (B (List.replicate 32 0)).toArray 106 (0, 0)) := Know.upd_same _ _ _
  change wpE _ _ _ _ _ _ _ _ (h.upd r2 (true, .cells (B (List.replicate 32 0)).toArray 106 (0, 0)))
  generalize h.upd r2 (true, .cells (B (List.replicate 32 0)).toArray 106 (0, 0)) = h1 at *
  refine wpE_seq (wpE_region (op_p tyT_ok rfl (op_x rfl (runX_bytes (ds := .string) rfl rfl (by kernel_rfl) ti64u8 (by kernel_rfl)) fun v1 h2 hv1 => op_p tyT_ok rfl (opsE_nil ?_))))
  obtain ⟨s1, s2, s3⟩ := hv1
  rw [← B_ints] at s1
  have hb1 : Buf h1 h2 v1 (ints s) := ⟨s1, s2, s3⟩
  clear s1 s2 s3
  obtain ⟨p1, c1, rfl⟩ := hb1.form
  refine wpE_seq (wpE_region ?_)
  refine op_p tyT_ok rfl ?_
  refine op_p tyT_ok rfl ?_
  refine op_p tyT_ok rfl ?_
  refine op_p tyT_ok rfl ?_
  refine op_p tyT_ok rfl ?_
  refine opsE_nil (wpE_seq (wpE_region ?_))
  refine op_p tyT_ok rfl ?_
  refine op_n rfl (runN_buildSlice rfl ti64u8 ti5 (by decide) (by decide) (bit8 rfl)) fun r hr => ?_
  obtain ⟨s1, s2, s3⟩ := hb1.push hr 128
  refine op_x rfl (runX_append rfl rfl rfl ti64u8 ti64u8 (.inl ⟨_, rfl⟩) ti5 (by decide) rfl s1 s2 (B_flat _) (by simp only [B_length, List.length_singleton]; omega)) fun v3 h3 ha => ?_
  refine op_p tyT_ok rfl ?_
  refine opsE_nil ?_
  refine wpE_seqE (of_pad h1 h3 v3 (ints s) (IntKind.u64.wrap (IntKind.u64.wrap (ints s).length * 8)) r2 _ (by omega) (s3 _ _ ha) rfl rfl rfl) ?_
  rintro E4 h4 ⟨v4, rfl, hb4⟩
  have hz : zerosN (ints s).length < 64 := by unfold zerosN; omega
  refine wpE_seqE (M := fun E₁ h₁ => ∃ v, E₁ = [(3, v), (2, .pointer (some ⟨r2, 0, none⟩))] ∧ Buf h1 h₁ v (padded (ints s))) (wpE_seq (wpE_region (op_p tyT_ok rfl (opsE_nil ?_)))) ?_
  · exact of_len h1 h4 v4 _ _ r2 _ (by simp only [List.length_append, List.length_replicate, List.length_singleton]; omega) hb4 rfl rfl rfl rfl
  rintro E5 h5 ⟨v5, rfl, hb5⟩
  obtain ⟨hpl, hpb⟩ := padded_length (ints s)
  have hne5 : padded (ints s) ≠ [] := by unfold padded; simp
  have hle5 : h1.le h5 := hb5.2.1
  obtain ⟨b, cap, rfl, hslb, hfb⟩ := hb5.block hne5
  have h05 : h5 0 = some (m0, .cells (U hs) t0 f0) := hle5 _ _ (hle1 _ _ h0)
  have hK5 : h5 2 = some (mk, .cells (U K) tk fk) := hle5 _ _ (hle1 _ _ hK)
  have hat5 := hle5 _ _ hat2
  refine wpE_seq (wpE_region (op_r rfl (runV_load_row rfl rfl Tryd.underlying126 rfl (z := .agg (U (List.replicate 8 0))) (bt := 32) (by rw [U_size, hhs]; exact ti126) h05) (op_n rfl (runN_alloc rfl ti126) fun r6 hr6 => ?_)))
  refine op_store_row rfl rfl (z := .agg (U (List.replicate 8 0))) (bt := 32) (by rw [U_size, hhs]; exact ti126) (Know.upd_same _ _ _) (by simp [U, Value.flat]) (by rw [U_size, hhs]; rfl) rfl (h' := h5.upd r6 (true, .cells (U hs) 126 (0, 0))) (by rw [upd_upd]) ?_
  refine opsE_nil ?_
  refine wpE_seqN (of_blocks h5 b cap ((padded (ints s)).length / 64) r2 r6 (padded (ints s)) K hs mk tk fk hK5 hKl hhs hslb hpl (by omega) hr6 _ rfl rfl rfl) ?_
  have hle6 : h5.le (h5.upd r6 (true, .cells (U (chain K ((padded (ints s)).length / 64) hs (padded (ints s)))) 126 (0, 0))) := le_fresh _ hr6
  have hat6 : (h5.upd r6 (true, .cells (U (chain K ((padded (ints s)).length / 64) hs (padded (ints s)))) 126 (0, 0))) r6 = some (true, .cells (U (chain K ((padded (ints s)).length / 64) hs (padded (ints s)))) 126 (0, 0)) := Know.upd_same _ _ _
  generalize h5.upd r6 (true, .cells (U (chain K ((padded (ints s)).length / 64) hs (padded (ints s)))) 126 (0, 0)) = h6 at *
  have hcl : (chain K ((padded (ints s)).length / 64) hs (padded (ints s))).length = 8 := by rw [chain_length]; exact hhs
  have hdig : digest K hs (ints s) = outC (chain K ((padded (ints s)).length / 64) hs (padded (ints s))) 8 := rfl
  rw [hdig]
  generalize chain K ((padded (ints s)).length / 64) hs (padded (ints s)) = hs' at *
  refine wpE_seq (wpE_region (op_n rfl (runN_alloc rfl ti106) fun r7 hr7 => opsE_nil ?_))
  have hne67 : r6 ≠ r7 := ne_fresh hat6 hr7
  have hne27 : r2 ≠ r7 := ne_fresh (hle6 _ _ hat5) hr7
  refine wpE_seqN (E₀ := [(7, .pointer (some ⟨r7, 0, none⟩)), (2, .pointer (some ⟨r2, 0, none⟩))]) (h₀ := h6.upd r7 (true, .cells (outC hs' 8) 106 (0, 0))) (wpE_seq (wpE_region ?_)) ?_
  · refine op_r rfl (runV_load_row rfl rfl Tryd.underlying126 rfl (z := .agg (U (List.replicate 8 0))) (bt := 32) (by rw [U_size, hcl]; exact ti126) (by rw [Know.upd_ne _ _ hne67]; exact hat6)) ?_
    refine op_p tyT_ok rfl ?_
    refine opsE_nil ?_
    exact of_out h6 r2 r7 hs' hcl hr7 _ rfl rfl rfl rfl
  refine wpE_seq (wpE_region ?_)
  refine op_r rfl (runV_load_row rfl rfl und106 rfl (z := .agg (B (List.replicate 32 0)).toArray) (bt := 32) (by rw [outC_size]; exact ti106) (Know.upd_same _ _ _)) ?_
  refine op_store_row rfl rfl (z := .agg (B (List.replicate 32 0)).toArray) (bt := 32) (by rw [outC_size]; exact ti106) (by rw [Know.upd_ne _ _ hne27]; exact hle6 _ _ hat5) (outC_flat _ _) (by rw [outC_size]; simp [B]) rfl rfl ?_
  refine opsE_nil (wpE_ret ?_)
  refine bodyQ_row (fn := Tryd.f57) rfl rfl und106 rfl (z := .agg (B (List.replicate 32 0)).toArray) (bt := 32) (by rw [outC_size]; exact ti106) (Know.upd_same _ _ _) ⟨rfl, ?_⟩
  -- what was known stands
  refine ⟨hle1.gh.trans (hle5.gh.trans hle6.gh), ?_⟩
  intro c w e
  have hc2 : c ≠ r2 := ne_fresh e hr2
  have e6 : h6 c = some w := hle6 _ _ (hle5 _ _ (hle1 _ _ e))
  rw [Know.upd_ne _ _ hc2, Know.upd_ne _ _ (ne_fresh e6 hr7)]
  exact e6

end Go.Proofs.YtlmecmapkijcnaaDoor

set_option linter.unusedVariables false
namespace Go.Proofs.YtlmecmapkijcnaaDoor
open KL

/-- A word. -/
def Wd (x : Int) : Prop := 0 ≤ x ∧ x < 4294967296
theorem w32_eq (x : Int) : w32 x = x % 4294967296 := by simp [w32, IntKind.wrap, IntKind.bits, IntKind.signed]
theorem w32_wd (x : Int) : Wd (w32 x) := by rw [w32_eq]; unfold Wd; omega
theorem w32_of {x : Int} (h : Wd x) : w32 x = x := by rw [w32_eq]; unfold Wd at h; omega
theorem wd_nat {x : Int} (h : Wd x) : ∃ m : Nat, m < 2 ^ 32 ∧ x = (m : Int) := ⟨x.toNat, by unfold Wd at h; omega, by unfold Wd at h; omega⟩
theorem nat_wd {m : Nat} (h : m < 2 ^ 32) : Wd (m : Int) := by unfold Wd; omega

theorem bits_u32_xor {m k : Nat} (hm : m < 2 ^ 32) (hk : k < 2 ^ 32) : bits .xor .u32 (m : Int) (k : Int) = ((m ^^^ k : Nat) : Int) := by
  have hx : m ^^^ k < 2 ^ 32 := Nat.xor_lt_two_pow hm hk
  show IntKind.u32.wrap ((BitVec.ofInt 32 m ^^^ BitVec.ofInt 32 k).toNat : Int) = _
  rw [BitVec.ofInt_natCast, BitVec.ofInt_natCast, BitVec.toNat_xor, BitVec.toNat_ofNat, BitVec.toNat_ofNat, Nat.mod_eq_of_lt hm, Nat.mod_eq_of_lt hk]
  exact w32_of (nat_wd hx)
theorem bits_u32_and {m k : Nat} (hm : m < 2 ^ 32) (hk : k < 2 ^ 32) : bits .and .u32 (m : Int) (k : Int) = ((m &&& k : Nat) : Int) := by
  have hx : m &&& k < 2 ^ 32 := Nat.and_lt_two_pow _ hk
  show IntKind.u32.wrap ((BitVec.ofInt 32 m &&& BitVec.ofInt 32 k).toNat : Int) = _
  rw [BitVec.ofInt_natCast, BitVec.ofInt_natCast, BitVec.toNat_and, BitVec.toNat_ofNat, BitVec.toNat_ofNat, Nat.mod_eq_of_lt hm, Nat.mod_eq_of_lt hk]
  exact w32_of (nat_wd hx)
theorem bits_u32_or {m k : Nat} (hm : m < 2 ^ 32) (hk : k < 2 ^ 32) : bits .or .u32 (m : Int) (k : Int) = ((m ||| k : Nat) : Int) := by
  have hx : m ||| k < 2 ^ 32 := Nat.or_lt_two_pow hm hk
  show IntKind.u32.wrap ((BitVec.ofInt 32 m ||| BitVec.ofInt 32 k).toNat : Int) = _
  rw [BitVec.ofInt_natCast, BitVec.ofInt_natCast, BitVec.toNat_or, BitVec.toNat_ofNat, BitVec.toNat_ofNat, Nat.mod_eq_of_lt hm, Nat.mod_eq_of_lt hk]
  exact w32_of (nat_wd hx)
theorem wrap64 {m : Nat} (h : m < 2 ^ 63) : IntKind.i64.wrap (m : Int) = (m : Int) := wrapi _ (by omega) (by omega)
theorem bits_i64_xor {m k : Nat} (hm : m < 2 ^ 63) (hk : k < 2 ^ 63) : bits .xor .i64 (m : Int) (k : Int) = ((m ^^^ k : Nat) : Int) := by
  have hx : m ^^^ k < 2 ^ 63 := Nat.xor_lt_two_pow hm hk
  show IntKind.i64.wrap ((BitVec.ofInt 64 m ^^^ BitVec.ofInt 64 k).toNat : Int) = _
  rw [BitVec.ofInt_natCast, BitVec.ofInt_natCast, BitVec.toNat_xor, BitVec.toNat_ofNat, BitVec.toNat_ofNat, Nat.mod_eq_of_lt (by omega), Nat.mod_eq_of_lt (by omega)]
  exact wrap64 hx
theorem bits_i64_and {m k : Nat} (hm : m < 2 ^ 63) (hk : k < 2 ^ 63) : bits .and .i64 (m : Int) (k : Int) = ((m &&& k : Nat) : Int) := by
  have hx : m &&& k < 2 ^ 63 := Nat.and_lt_two_pow _ hk
  show IntKind.i64.wrap ((BitVec.ofInt 64 m &&& BitVec.ofInt 64 k).toNat : Int) = _
  rw [BitVec.ofInt_natCast, BitVec.ofInt_natCast, BitVec.toNat_and, BitVec.toNat_ofNat, BitVec.toNat_ofNat, Nat.mod_eq_of_lt (by omega), Nat.mod_eq_of_lt (by omega)]
  exact wrap64 hx
theorem bits_i64_or {m k : Nat} (hm : m < 2 ^ 63) (hk : k < 2 ^ 63) : bits .or .i64 (m : Int) (k : Int) = ((m ||| k : Nat) : Int) := by
  have hx : m ||| k < 2 ^ 63 := Nat.or_lt_two_pow hm hk
  show IntKind.i64.wrap ((BitVec.ofInt 64 m ||| BitVec.ofInt 64 k).toNat : Int) = _
  rw [BitVec.ofInt_natCast, BitVec.ofInt_natCast, BitVec.toNat_or, BitVec.toNat_ofNat, BitVec.toNat_ofNat, Nat.mod_eq_of_lt (by omega), Nat.mod_eq_of_lt (by omega)]
  exact wrap64 hx

theorem xor_wd {x y : Int} (hx : Wd x) (hy : Wd y) : Wd (bits .xor .u32 x y) := by
  obtain ⟨m, hm, rfl⟩ := wd_nat hx; obtain ⟨k, hk, rfl⟩ := wd_nat hy
  rw [bits_u32_xor hm hk]; exact nat_wd (Nat.xor_lt_two_pow hm hk)
theorem and_wd {x y : Int} (hx : Wd x) (hy : Wd y) : Wd (bits .and .u32 x y) := by
  obtain ⟨m, hm, rfl⟩ := wd_nat hx; obtain ⟨k, hk, rfl⟩ := wd_nat hy
  rw [bits_u32_and hm hk]; exact nat_wd (Nat.and_lt_two_pow _ hk)
theorem or_wd {x y : Int} (hx : Wd x) (hy : Wd y) : Wd (bits .or .u32 x y) := by
  obtain ⟨m, hm, rfl⟩ := wd_nat hx; obtain ⟨k, hk, rfl⟩ := wd_nat hy
  rw [bits_u32_or hm hk]; exact nat_wd (Nat.or_lt_two_pow hm hk)
theorem xor_i {x y : Int} (hx : Wd x) (hy : Wd y) : bits .xor .i64 x y = bits .xor .u32 x y := by
  obtain ⟨m, hm, rfl⟩ := wd_nat hx; obtain ⟨k, hk, rfl⟩ := wd_nat hy
  rw [bits_u32_xor hm hk, bits_i64_xor (by omega) (by omega)]
theorem and_i {x y : Int} (hx : Wd x) (hy : Wd y) : bits .and .i64 x y = bits .and .u32 x y := by
  obtain ⟨m, hm, rfl⟩ := wd_nat hx; obtain ⟨k, hk, rfl⟩ := wd_nat hy
  rw [bits_u32_and hm hk, bits_i64_and (by omega) (by omega)]
theorem or_i {x y : Int} (hx : Wd x) (hy : Wd y) : bits .or .i64 x y = bits .or .u32 x y := by
  obtain ⟨m, hm, rfl⟩ := wd_nat hx; obtain ⟨k, hk, rfl⟩ := wd_nat hy
  rw [bits_u32_or hm hk, bits_i64_or (by omega) (by omega)]
theorem mask_i {x : Int} (h0 : 0 ≤ x) (h1 : x < 9223372036854775808) : bits .and .i64 x 4294967295 = w32 x := by
  have e : x = (x.toNat : Int) := by omega
  rw [e, show (4294967295 : Int) = ((4294967295 : Nat) : Int) from rfl, bits_i64_and (by omega) (by omega), show (4294967295 : Nat) = 2 ^ 32 - 1 from rfl, Nat.and_two_pow_sub_one_eq_mod, w32_eq]
  omega
theorem shr_wd {x : Int} (h : Wd x) (n : Nat) : Wd (x / 2 ^ n) := by
  obtain ⟨m, hm, rfl⟩ := wd_nat h
  have e : ((m : Int) / 2 ^ n) = ((m / 2 ^ n : Nat) : Int) := by simp
  rw [e]; exact nat_wd (Nat.lt_of_le_of_lt (Nat.div_le_self _ _) hm)
theorem rl_wd {x : Int} (h : Wd x) (s : Nat) : Wd (rl x s) := or_wd (w32_wd _) (shr_wd h _)

/-- The reference's turn to the right is the program's turn to the left. -/
theorem turn_rl {x : Int} (h : Wd x) (s : Nat) (hs : s < 32) : bits .and .i64 (bits .or .i64 (x / 2 ^ (32 - s)) (IntKind.i64.wrap (x * 2 ^ s))) 4294967295 = rl x s := by
  obtain ⟨m, hm, rfl⟩ := wd_nat h
  have h2 : 2 ^ s ≤ 2 ^ 31 := Nat.pow_le_pow_right (by decide) (by omega)
  have hml : m * 2 ^ s < 2 ^ 63 := Nat.lt_of_le_of_lt (Nat.mul_le_mul_left _ h2) (by omega)
  have e1 : ((m : Int) / 2 ^ (32 - s)) = ((m / 2 ^ (32 - s) : Nat) : Int) := by simp
  have e2 : ((m : Int) * 2 ^ s) = ((m * 2 ^ s : Nat) : Int) := by simp
  have hd : m / 2 ^ (32 - s) < 2 ^ 32 := Nat.lt_of_le_of_lt (Nat.div_le_self _ _) hm
  unfold rl
  rw [e1, e2, wrap64 hml, bits_i64_or (by omega) hml, mask_i (by omega) (by have := Nat.or_lt_two_pow (show m / 2 ^ (32 - s) < 2 ^ 63 by omega) hml; omega), w32_eq]
  have e3 : IntKind.u32.wrap ((m * 2 ^ s : Nat) : Int) = ((m * 2 ^ s % 2 ^ 32 : Nat) : Int) := by
    rw [show IntKind.u32.wrap ((m * 2 ^ s : Nat) : Int) = w32 ((m * 2 ^ s : Nat) : Int) from rfl, w32_eq]; omega
  rw [e3, bits_u32_or (Nat.mod_lt _ (by decide)) hd]
  have e4 : (m / 2 ^ (32 - s) ||| m * 2 ^ s) % 2 ^ 32 = (m * 2 ^ s % 2 ^ 32) ||| (m / 2 ^ (32 - s)) := by
    rw [Nat.or_mod_two_pow, Nat.mod_eq_of_lt hd, Nat.or_comm]
  rw [← e4]; omega

/-! ### Lists of words -/
def WdL (l : List Int) : Prop := ∀ x ∈ l, Wd x
theorem wd0 : Wd 0 := by unfold Wd; omega
theorem WdL.at {l : List Int} (h : WdL l) (i : Nat) : Wd (at0 l i) := by
  unfold at0
  rcases Nat.lt_or_ge i l.length with g | g
  · rw [List.getD_eq_getElem?_getD, List.getElem?_eq_getElem g]; exact h _ (List.getElem_mem g)
  · rw [List.getD_eq_getElem?_getD, List.getElem?_eq_none g]; exact wd0
theorem WdL.set {l : List Int} (h : WdL l) (i : Nat) {x : Int} (hx : Wd x) : WdL (l.set i x) := fun y hy => by
  rcases List.mem_or_eq_of_mem_set hy with g | g
  · exact h y g
  · rw [g]; exact hx
theorem wdL_zeros (n : Nat) : WdL (List.replicate n 0) := fun x hx => by rw [List.eq_of_mem_replicate hx]; exact wd0
theorem be4_wd (a b c d : Int) : Wd (be4 a b c d) := or_wd (or_wd (or_wd (w32_wd _) (w32_wd _)) (w32_wd _)) (w32_wd _)
theorem fillW_wd (bs : List Int) (n : Nat) : WdL (fillW bs n) := by
  induction n with
  | zero => exact wdL_zeros 64
  | succ n ih => exact ih.set _ (be4_wd _ _ _ _)
theorem nextW_wd (p : List Int) (i : Nat) : Wd (nextW p i) := w32_wd _
theorem moreW_wd {ws : List Int} (h : WdL ws) (n : Nat) : WdL (moreW ws n) := by
  induction n with
  | zero => exact h
  | succ n ih => exact ih.set _ (nextW_wd _ _)
theorem rnd_wd {v : List Int} (h : WdL v) (k w : Int) : WdL (rnd k w v) := by
  intro x hx
  simp only [rnd, List.mem_cons, List.not_mem_nil, or_false] at hx
  rcases hx with e | e | e | e | e | e | e | e <;> rw [e]
  · exact w32_wd _
  · exact h.at _
  · exact h.at _
  · exact h.at _
  · exact w32_wd _
  · exact h.at _
  · exact h.at _
  · exact h.at _
theorem rnds_wd {v : List Int} (h : WdL v) (K ws : List Int) (n : Nat) : WdL (rnds K ws v n) := by
  induction n with
  | zero => exact h
  | succ n ih => exact rnd_wd ih _ _
theorem addW_wd {hs : List Int} (h : WdL hs) (v : List Int) (n : Nat) : WdL (addW hs v n) := by
  induction n with
  | zero => exact h
  | succ n ih => exact ih.set _ (w32_wd _)
theorem compress_wd {K hs bs : List Int} (h : WdL hs) : WdL (compress K hs bs) := addW_wd h _ _
theorem chain_wd {K : List Int} (m : Nat) {hs bs : List Int} (h : WdL hs) : WdL (chain K m hs bs) := by
  induction m generalizing hs bs with
  | zero => exact h
  | succ m ih => exact ih (compress_wd h)
def Byt (x : Int) : Prop := 0 ≤ x ∧ x < 256
def BytL (l : List Int) : Prop := ∀ x ∈ l, Byt x
theorem Byt.wd {x : Int} (h : Byt x) : Wd x := by unfold Byt at h; unfold Wd; omega
theorem BytL.at {l : List Int} (h : BytL l) (i : Nat) : Byt (at0 l i) := by
  unfold at0
  rcases Nat.lt_or_ge i l.length with g | g
  · rw [List.getD_eq_getElem?_getD, List.getElem?_eq_getElem g]; exact h _ (List.getElem_mem g)
  · rw [List.getD_eq_getElem?_getD, List.getElem?_eq_none g]; unfold Byt; simp

/-! ### The reference's terms -/
theorem sh_i {x : Int} (h : Byt x) (n : Nat) (hn : n ≤ 24) : IntKind.i64.wrap (x * 2 ^ n) = w32 (w32 x * 2 ^ n) := by
  have e : x = (x.toNat : Int) := by unfold Byt at h; omega
  have h8 : x.toNat < 256 := by unfold Byt at h; omega
  have h2 : 2 ^ n ≤ 2 ^ 24 := Nat.pow_le_pow_right (by decide) hn
  have hm : x.toNat * 2 ^ n < 2 ^ 32 := Nat.lt_of_le_of_lt (Nat.mul_le_mul_left _ h2) (by omega)
  rw [w32_of h.wd]
  have e2 : x * 2 ^ n = ((x.toNat * 2 ^ n : Nat) : Int) := by rw [Int.natCast_mul, ← e]; simp
  rw [e2, wrap64 (by omega), w32_of (nat_wd hm)]
theorem be4_i {a b c d : Int} (ha : Byt a) (hb : Byt b) (hc : Byt c) (hd : Byt d) :
    bits .or .i64 (bits .or .i64 (bits .or .i64 (IntKind.i64.wrap (a * 2 ^ 24)) (IntKind.i64.wrap (b * 2 ^ 16))) (IntKind.i64.wrap (c * 2 ^ 8))) d = be4 a b c d := by
  rw [sh_i ha 24 (by decide), sh_i hb 16 (by decide), sh_i hc 8 (by decide), or_i (w32_wd _) (w32_wd _), or_i (or_wd (w32_wd _) (w32_wd _)) (w32_wd _), or_i (or_wd (or_wd (w32_wd _) (w32_wd _)) (w32_wd _)) hd.wd]
  unfold be4
  rw [w32_of hd.wd]
theorem w32_add (a b : Int) : w32 (w32 a + b) = w32 (a + b) := by rw [w32_eq, w32_eq, w32_eq]; omega
theorem sg0_wd {x : Int} (h : Wd x) : Wd (sg0 x) := xor_wd (xor_wd (rl_wd h _) (rl_wd h _)) (shr_wd h _)
theorem sg1_wd {x : Int} (h : Wd x) : Wd (sg1 x) := xor_wd (xor_wd (rl_wd h _) (rl_wd h _)) (shr_wd h _)
theorem sg0_i {x : Int} (h : Wd x) : bits .xor .i64 (bits .xor .i64 (rl x 25) (rl x 14)) (x / 2 ^ 3) = sg0 x := by
  rw [xor_i (rl_wd h _) (rl_wd h _), xor_i (xor_wd (rl_wd h _) (rl_wd h _)) (shr_wd h _)]; rfl
theorem sg1_i {x : Int} (h : Wd x) : bits .xor .i64 (bits .xor .i64 (rl x 15) (rl x 13)) (x / 2 ^ 10) = sg1 x := by
  rw [xor_i (rl_wd h _) (rl_wd h _), xor_i (xor_wd (rl_wd h _) (rl_wd h _)) (shr_wd h _)]; rfl
theorem bs0_i {x : Int} (h : Wd x) : bits .xor .i64 (bits .xor .i64 (rl x 30) (rl x 19)) (rl x 10) = bs0 x := by
  rw [xor_i (rl_wd h _) (rl_wd h _), xor_i (xor_wd (rl_wd h _) (rl_wd h _)) (rl_wd h _)]; rfl
theorem bs1_i {x : Int} (h : Wd x) : bits .xor .i64 (bits .xor .i64 (rl x 26) (rl x 21)) (rl x 7) = bs1 x := by
  rw [xor_i (rl_wd h _) (rl_wd h _), xor_i (xor_wd (rl_wd h _) (rl_wd h _)) (rl_wd h _)]; rfl
theorem bs0_wd {x : Int} (h : Wd x) : Wd (bs0 x) := xor_wd (xor_wd (rl_wd h _) (rl_wd h _)) (rl_wd h _)
theorem bs1_wd {x : Int} (h : Wd x) : Wd (bs1 x) := xor_wd (xor_wd (rl_wd h _) (rl_wd h _)) (rl_wd h _)
theorem max_wd : Wd (4294967295 : Int) := by unfold Wd; omega
theorem chW_eq (e f g : Int) : chW e f g = bits .xor .u32 (bits .and .u32 e f) (bits .and .u32 (bits .xor .u32 4294967295 e) g) := rfl
theorem chW_wd {e f g : Int} (he : Wd e) (hf : Wd f) (hg : Wd g) : Wd (chW e f g) := by rw [chW_eq]; exact xor_wd (and_wd he hf) (and_wd (xor_wd max_wd he) hg)
theorem chW_i {e f g : Int} (he : Wd e) (hf : Wd f) (hg : Wd g) : bits .xor .i64 (bits .and .i64 e f) (bits .and .i64 (bits .xor .i64 4294967295 e) g) = chW e f g := by
  rw [chW_eq, xor_i max_wd he, and_i he hf, and_i (xor_wd max_wd he) hg, xor_i (and_wd he hf) (and_wd (xor_wd max_wd he) hg)]
theorem majW_wd {a b c : Int} (ha : Wd a) (hb : Wd b) (hc : Wd c) : Wd (majW a b c) := xor_wd (xor_wd (and_wd ha hb) (and_wd ha hc)) (and_wd hb hc)
theorem majW_i {a b c : Int} (ha : Wd a) (hb : Wd b) (hc : Wd c) : bits .xor .i64 (bits .xor .i64 (bits .and .i64 a b) (bits .and .i64 a c)) (bits .and .i64 b c) = majW a b c := by
  rw [and_i ha hb, and_i ha hc, and_i hb hc, xor_i (and_wd ha hb) (and_wd ha hc), xor_i (xor_wd (and_wd ha hb) (and_wd ha hc)) (and_wd hb hc)]; rfl
/-- Sums, before they are cut. -/
def t1s (k w : Int) (v : List Int) : Int := at0 v 7 + bs1 (at0 v 4) + chW (at0 v 4) (at0 v 5) (at0 v 6) + k + w
def t2s (v : List Int) : Int := bs0 (at0 v 0) + majW (at0 v 0) (at0 v 1) (at0 v 2)
theorem wrap_add {x y : Int} (hx : 0 ≤ x) (hy : 0 ≤ y) (hl : x + y < 9223372036854775808) : IntKind.i64.wrap (x + y) = x + y := wrapi _ (by omega) hl
theorem t1s_i {v : List Int} (hv : WdL v) {k w : Int} (hk : Wd k) (hw : Wd w) :
    IntKind.i64.wrap (IntKind.i64.wrap (IntKind.i64.wrap (IntKind.i64.wrap (at0 v 7 + bs1 (at0 v 4)) + chW (at0 v 4) (at0 v 5) (at0 v 6)) + k) + w) = t1s k w v := by
  have h7 := hv.at 7
  have h1 := bs1_wd (hv.at 4)
  have h2 := chW_wd (hv.at 4) (hv.at 5) (hv.at 6)
  unfold Wd at *
  rw [wrapi (at0 v 7 + bs1 (at0 v 4)) (by omega) (by omega), wrapi (_ + chW _ _ _) (by omega) (by omega), wrapi (_ + k) (by omega) (by omega), wrapi (_ + w) (by omega) (by omega)]
  rfl
theorem t2s_i {v : List Int} (hv : WdL v) : IntKind.i64.wrap (bs0 (at0 v 0) + majW (at0 v 0) (at0 v 1) (at0 v 2)) = t2s v := by
  have h1 := bs0_wd (hv.at 0)
  have h2 := majW_wd (hv.at 0) (hv.at 1) (hv.at 2)
  unfold Wd at *
  rw [wrapi _ (by omega) (by omega)]; rfl
theorem t1s_b {v : List Int} (hv : WdL v) {k w : Int} (hk : Wd k) (hw : Wd w) : 0 ≤ t1s k w v ∧ t1s k w v < 34359738368 ∧ w32 (t1s k w v) = tR k w v := by
  have h7 := hv.at 7
  have h1 := bs1_wd (hv.at 4)
  have h2 := chW_wd (hv.at 4) (hv.at 5) (hv.at 6)
  refine ⟨?_, ?_, ?_⟩
  · unfold Wd at *; unfold t1s; omega
  · unfold Wd at *; unfold t1s; omega
  · unfold t1s tR; simp only [w32_eq]; omega
theorem t2s_b {v : List Int} (hv : WdL v) : 0 ≤ t2s v ∧ t2s v < 34359738368 ∧ w32 (t2s v) = uR v := by
  have h1 := bs0_wd (hv.at 0)
  have h2 := majW_wd (hv.at 0) (hv.at 1) (hv.at 2)
  refine ⟨?_, ?_, rfl⟩
  · unfold Wd at *; unfold t2s; omega
  · unfold Wd at *; unfold t2s; omega
theorem new0_i {v : List Int} (hv : WdL v) {k w : Int} (hk : Wd k) (hw : Wd w) : bits .and .i64 (IntKind.i64.wrap (t1s k w v + t2s v)) 4294967295 = w32 (tR k w v + uR v) := by
  obtain ⟨a1, a2, a3⟩ := t1s_b hv hk hw
  obtain ⟨b1, b2, b3⟩ := t2s_b hv
  rw [wrapi _ (by omega) (by omega), mask_i (by omega) (by omega), ← a3, ← b3, w32_eq, w32_eq, w32_eq, w32_eq]; omega
theorem new4_i {v : List Int} (hv : WdL v) {k w : Int} (hk : Wd k) (hw : Wd w) : bits .and .i64 (IntKind.i64.wrap (at0 v 3 + t1s k w v)) 4294967295 = w32 (at0 v 3 + tR k w v) := by
  obtain ⟨a1, a2, a3⟩ := t1s_b hv hk hw
  have h3 := hv.at 3
  unfold Wd at h3
  rw [wrapi _ (by omega) (by omega), mask_i (by omega) (by omega), ← a3, w32_eq, w32_eq, w32_eq]; omega
theorem next_i {p : List Int} (hp : WdL p) (i : Nat) : bits .and .i64 (IntKind.i64.wrap (IntKind.i64.wrap (IntKind.i64.wrap (at0 p (i - 16) + sg0 (at0 p (i - 15))) + at0 p (i - 7)) + sg1 (at0 p (i - 2)))) 4294967295 = nextW p i := by
  have h1 := hp.at (i - 16)
  have h2 := sg0_wd (hp.at (i - 15))
  have h3 := hp.at (i - 7)
  have h4 := sg1_wd (hp.at (i - 2))
  unfold Wd at h1 h2 h3 h4
  rw [wrapi (_ + sg0 _) (by omega) (by omega), wrapi (_ + at0 p (i - 7)) (by omega) (by omega), wrapi (_ + sg1 _) (by omega) (by omega), mask_i (by omega) (by omega)]
  unfold nextW; simp only [w32_eq]; omega
theorem add_i {a b : Int} (ha : Wd a) (hb : Wd b) : bits .and .i64 (IntKind.i64.wrap (a + b)) 4294967295 = w32 (a + b) := by
  unfold Wd at ha hb
  rw [wrapi _ (by omega) (by omega), mask_i (by omega) (by omega)]

end Go.Proofs.YtlmecmapkijcnaaDoor
