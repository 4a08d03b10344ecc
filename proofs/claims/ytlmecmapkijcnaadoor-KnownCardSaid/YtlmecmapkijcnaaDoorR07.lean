/- The reference's walk: a turn, the constants, a block. The reference's walk: the rounds, and the block whole. -/
import Derived.Test.YtlmecmapkijcnaaDoorR06
import Derived.Test.YtlmecmapkijcnaaDoorR03
set_option linter.unusedVariables false
namespace Go.Proofs.YtlmecmapkijcnaaDoor
open KL

set_option maxRecDepth 100000 in
theorem turn_S {A : Acts} [Priv A] {main : Bool} (x : Int) (s : Nat) (h : Know) (hx : Wd x) (hs : s < 32) :
    CallS A Tryd.prog main 59 [Value.int .i64 x, Value.int .i64 ((32 - s : Nat) : Int)].toArray h (RetLe (.int .i64 (rl x s)) h) := by
  refine callS_of_wpE Tryd.func59 rfl (by show 2 ≤ 14; decide) ?_
  refine wpE_seq (wpE_region (op_p tyT_ok rfl (opsE_nil ?_)))
  refine wpE_seq (wpE_drawTB 10 (by kernel_rfl) (by kernel_rfl) rfl (by kernel_rfl) ?_)
  simp only [List.take_succ_cons, List.take_zero, List.drop_succ_cons, List.drop_zero]
  refine hd_p tyT_ok rfl ?_
  refine hd_p tyT_ok rfl ?_
  refine hd_fe rfl (fun _ => runV_shr rfl rfl rfl (by omega)) (v' := .int .i64 (x / 2 ^ (32 - s))) (by rw [Int.toNat_natCast, Nat.min_eq_left (show 32 - s ≤ IntKind.i64.bits by show _ ≤ 64; omega)]) ?_
  refine hd_p tyT_ok rfl ?_
  refine hd_p tyT_ok rfl ?_
  refine hd_pe tyT_ok rfl (v' := .int .i64 (s : Int)) (wrapv (by omega) (by omega)) ?_
  refine hd_fe rfl (fun _ => runV_shl rfl rfl rfl (by omega)) (v' := .int .i64 (IntKind.i64.wrap (x * 2 ^ s))) (by rw [Int.toNat_natCast, Nat.min_eq_left (show s ≤ IntKind.i64.bits by show _ ≤ 64; omega)]) ?_
  refine hd_p tyT_ok rfl ?_
  refine hd_pe tyT_ok rfl (v' := .int .i64 (rl x s)) (congrArg (Value.int .i64) (turn_rl hx s hs)) ?_
  refine hd_p tyT_ok rfl ?_
  refine hd_nil (tl_nil ?_)
  exact wpE_ret (bodyQ_one (fn := Tryd.f59) rfl rfl ⟨rfl, Know.le_refl _⟩)

theorem name59 : (Tryd.f59.name == "runtime.NumGoroutine") = false := by kernel_rfl
/-- Words as whole numbers. -/
def Z (l : List Int) : Array Value := (l.map (Value.int .i64)).toArray
theorem Z_get {l : List Int} {i : Nat} (hi : i < l.length) : (Z l)[i]? = some (.int .i64 (at0 l i)) := by simp [Z, at0, hi]
theorem Z_set (l : List Int) (i : Nat) (x : Int) : (Z l).setIfInBounds i (.int .i64 x) = Z (l.set i x) := by simp [Z]
theorem Z_size (l : List Int) : (Z l).size = l.length := by simp [Z]
theorem ti65 : Tryd.prog.underlying 65 = some (.slice 3) := by kernel_rfl

/-- A slice of whole numbers that may be read. -/
def SlZ (h : Know) (b cap : Nat) (xs : List Int) : Prop := ∃ mu ty fr, h b = some (mu, .cells (Z xs) ty fr)

theorem wrapB {x : Int} (h : Byt x) : Value.int .i64 (IntKind.i64.wrap x) = Value.int .i64 x := by unfold Byt at h; rw [wrapi _ (by omega) (by omega)]

set_option maxRecDepth 100000 in
theorem chunk_fill {A : Acts} [Priv A] {main : Bool} (h : Know) (v0 v2 : Value) (S off cap rW : Nat) (bs : List Int) (E : Env) (hB : BytL bs) (hS : Bytes64 h S off bs) (hr : h rW = none)
    (e0 : E.look 0 = some v0) (e1 : E.look 1 = some (.slice (some ⟨S, off, none⟩) 64 cap)) (e2 : E.look 2 = some v2) (e7 : E.look 7 = some (.slice (some ⟨rW, 0, none⟩) 64 64)) (e8 : E.look 8 = some (.int .i64 0)) :
    wpE A Tryd.prog main 243 (seqR (seqL (seqR (seqR (bodyOf Tryd.f34))))) (NormalLe [] [(7, .slice (some ⟨rW, 0, none⟩) 64 64), (2, v2), (0, v0)] (h.upd rW (true, .cells (Z (fillW bs 16)) 3 (0, 0)))) [] E (h.upd rW (true, .cells (Z (fillW bs 0)) 3 (0, 0))) := by
  refine wpE_block (wpE_loopJ (fun m E hh => ∃ k : Nat, m = 16 - k ∧ k ≤ 16 ∧ E = [(8, .int .i64 k), (7, .slice (some ⟨rW, 0, none⟩) 64 64), (2, v2), (1, .slice (some ⟨S, off, none⟩) 64 cap), (0, v0)] ∧
    hh = h.upd rW (true, .cells (Z (fillW bs k)) 3 (0, 0))) (Env.le_cons e8 (Env.le_cons e7 (Env.le_cons e2 (Env.le_cons e1 (Env.le_cons e0 (Env.le_nil _)))))) (Know.le_refl _) ⟨0, rfl, by omega, rfl, rfl⟩ ?_)
  rintro m E' hh ⟨k, rfl, hk, rfl, rfl⟩
  obtain ⟨mu, c, ty, fr, hSb, hc⟩ := hS
  have hSW : (h.upd rW (true, .cells (Z (fillW bs k)) 3 (0, 0))) S = some (mu, .cells c ty fr) := by rw [Know.upd_ne _ _ (ne_fresh hSb hr)]; exact hSb
  have hWb : (h.upd rW (true, .cells (Z (fillW bs k)) 3 (0, 0))) rW = some (true, .cells (Z (fillW bs k)) 3 (0, 0)) := Know.upd_same _ _ _
  by_cases hlt : k < 16
  · refine wpE_seq (wpE_seq (wpE_region ?_))
    refine op_p tyT_ok rfl ?_
    refine op_pe tyT_ok rfl (congrArg Value.bool (decide_eq_true (show ((k : Nat) : Int) < 16 by omega))) ?_
    refine opsE_nil (wpE_true rfl (wpE_skip ?_))
    refine wpE_seq (wpE_block (wpE_drawTB 35 (by kernel_rfl) (by kernel_rfl) rfl (by kernel_rfl) ?_))
    simp only [List.take_succ_cons, List.take_zero, List.drop_succ_cons, List.drop_zero]
    refine hd_p tyT_ok rfl ?_
    refine hd_p tyT_ok rfl ?_
    refine hd_p tyT_ok rfl ?_
    refine hd_p tyT_ok rfl ?_
    refine hd_pe tyT_ok rfl (v' := .int .i64 ((4 * k : Nat) : Int)) (wrapv (by omega) (by omega)) ?_
    refine hd_re rfl rfl (runV_indexAddr_slice rfl ti64u8 ti5 rfl rfl (by omega) (by omega)) (v' := .pointer (some ⟨S, off + (4 * k), none⟩)) (by rw [Int.toNat_natCast, Nat.mul_one]) ?_
    refine hd_r rfl rfl (runV_load rfl rfl Tryd.underlying5 rfl hSW (hc (4 * k) (by omega))) ?_
    refine hd_pe tyT_ok rfl (v' := .int .i64 (at0 bs (4 * k))) (wrapB (hB.at _)) ?_
    refine hd_fe rfl (fun _ => runV_shl rfl rfl rfl (by decide)) (v' := .int .i64 (IntKind.i64.wrap (at0 bs (4 * k) * 2 ^ 24))) rfl ?_
    refine hd_p tyT_ok rfl ?_
    refine hd_p tyT_ok rfl ?_
    refine hd_pe tyT_ok rfl (v' := .int .i64 ((4 * k : Nat) : Int)) (wrapv (by omega) (by omega)) ?_
    refine hd_pe tyT_ok rfl (v' := .int .i64 ((4 * k + 1 : Nat) : Int)) (wrapv (by omega) (by omega)) ?_
    refine hd_re rfl rfl (runV_indexAddr_slice rfl ti64u8 ti5 rfl rfl (by omega) (by omega)) (v' := .pointer (some ⟨S, off + (4 * k + 1), none⟩)) (by rw [Int.toNat_natCast, Nat.mul_one]) ?_
    refine hd_r rfl rfl (runV_load rfl rfl Tryd.underlying5 rfl hSW (hc (4 * k + 1) (by omega))) ?_
    refine hd_pe tyT_ok rfl (v' := .int .i64 (at0 bs (4 * k + 1))) (wrapB (hB.at _)) ?_
    refine hd_fe rfl (fun _ => runV_shl rfl rfl rfl (by decide)) (v' := .int .i64 (IntKind.i64.wrap (at0 bs (4 * k + 1) * 2 ^ 16))) rfl ?_
    refine hd_p tyT_ok rfl ?_
    refine hd_p tyT_ok rfl ?_
    refine hd_p tyT_ok rfl ?_
    refine hd_pe tyT_ok rfl (v' := .int .i64 ((4 * k : Nat) : Int)) (wrapv (by omega) (by omega)) ?_
    refine hd_pe tyT_ok rfl (v' := .int .i64 ((4 * k + 2 : Nat) : Int)) (wrapv (by omega) (by omega)) ?_
    refine hd_re rfl rfl (runV_indexAddr_slice rfl ti64u8 ti5 rfl rfl (by omega) (by omega)) (v' := .pointer (some ⟨S, off + (4 * k + 2), none⟩)) (by rw [Int.toNat_natCast, Nat.mul_one]) ?_
    refine hd_r rfl rfl (runV_load rfl rfl Tryd.underlying5 rfl hSW (hc (4 * k + 2) (by omega))) ?_
    refine hd_pe tyT_ok rfl (v' := .int .i64 (at0 bs (4 * k + 2))) (wrapB (hB.at _)) ?_
    refine hd_fe rfl (fun _ => runV_shl rfl rfl rfl (by decide)) (v' := .int .i64 (IntKind.i64.wrap (at0 bs (4 * k + 2) * 2 ^ 8))) rfl ?_
    refine hd_p tyT_ok rfl ?_
    refine hd_p tyT_ok rfl ?_
    refine hd_p tyT_ok rfl ?_
    refine hd_pe tyT_ok rfl (v' := .int .i64 ((4 * k : Nat) : Int)) (wrapv (by omega) (by omega)) ?_
    refine hd_pe tyT_ok rfl (v' := .int .i64 ((4 * k + 3 : Nat) : Int)) (wrapv (by omega) (by omega)) ?_
    refine hd_re rfl rfl (runV_indexAddr_slice rfl ti64u8 ti5 rfl rfl (by omega) (by omega)) (v' := .pointer (some ⟨S, off + (4 * k + 3), none⟩)) (by rw [Int.toNat_natCast, Nat.mul_one]) ?_
    refine hd_r rfl rfl (runV_load rfl rfl Tryd.underlying5 rfl hSW (hc (4 * k + 3) (by omega))) ?_
    refine hd_pe tyT_ok rfl (v' := .int .i64 (at0 bs (4 * k + 3))) (wrapB (hB.at _)) ?_
    refine hd_pe tyT_ok rfl (v' := .int .i64 (be4 (at0 bs (4 * k)) (at0 bs (4 * k + 1)) (at0 bs (4 * k + 2)) (at0 bs (4 * k + 3)))) (congrArg (Value.int .i64) (be4_i (hB.at _) (hB.at _) (hB.at _) (hB.at _))) ?_
    refine hd_nil ?_
    refine tl_re rfl (runV_indexAddr_slice rfl ti65 ti3 rfl rfl (by omega) (by omega)) (v' := .pointer (some ⟨rW, k, none⟩)) (by rw [Int.toNat_natCast, Nat.mul_one, Nat.zero_add]) ?_
    refine tl_store rfl rfl rfl ti3 hWb (by rw [Z_size, fillW_length]; omega) (by simp) (h' := h.upd rW (true, .cells (Z (fillW bs (k + 1))) 3 (0, 0))) (by rw [upd_upd, Z_set]; rfl) ?_
    refine tl_nil (wpE_region ?_)
    refine op_p tyT_ok rfl ?_
    refine op_pe tyT_ok rfl (v' := .int .i64 ((k + 1 : Nat) : Int)) (wrapv (by omega) (by omega)) ?_
    refine op_p tyT_ok rfl ?_
    refine opsE_nil ⟨rfl, 16 - (k + 1), _, _, by omega, Env.le_cons rfl (Env.le_cons rfl (Env.le_cons rfl (Env.le_cons rfl (Env.le_cons rfl (Env.le_nil _))))), Know.le_refl _, k + 1, rfl, by omega, rfl, rfl⟩
  · have : k = 16 := by omega
    subst this
    refine wpE_seq (wpE_seq (wpE_region ?_))
    refine op_p tyT_ok rfl ?_
    refine op_p tyT_ok rfl ?_
    refine opsE_nil (wpE_false rfl (wpE_exit ?_))
    repeat refine thenQ_exit ?_
    exact blockQ_exit (normalLe (Env.le_cons rfl (Env.le_cons rfl (Env.le_cons rfl (Env.le_nil _)))) (Know.le_refl _))

set_option maxRecDepth 100000 in
theorem chunk_more {A : Acts} [Priv A] {main : Bool} (h : Know) (v0 v2 : Value) (rW : Nat) (ws : List Int) (E : Env) (hwl : ws.length = 64) (hw : WdL ws)
    (e0 : E.look 0 = some v0) (e2 : E.look 2 = some v2) (e7 : E.look 7 = some (.slice (some ⟨rW, 0, none⟩) 64 64)) (e9 : E.look 9 = some (.int .i64 16)) :
    wpE A Tryd.prog main 243 (seqR (seqL (seqR (seqR (seqR (bodyOf Tryd.f34)))))) (NormalLe [] [(7, .slice (some ⟨rW, 0, none⟩) 64 64), (2, v2), (0, v0)] (h.upd rW (true, .cells (Z (moreW ws 48)) 3 (0, 0)))) [] E (h.upd rW (true, .cells (Z (moreW ws 0)) 3 (0, 0))) := by
  refine wpE_block (wpE_loopJ (fun m E hh => ∃ k : Nat, m = 48 - k ∧ k ≤ 48 ∧ E = [(9, .int .i64 ((16 + k : Nat) : Int)), (7, .slice (some ⟨rW, 0, none⟩) 64 64), (2, v2), (0, v0)] ∧
    hh = h.upd rW (true, .cells (Z (moreW ws k)) 3 (0, 0))) (Env.le_cons e9 (Env.le_cons e7 (Env.le_cons e2 (Env.le_cons e0 (Env.le_nil _))))) (Know.le_refl _) ⟨0, rfl, by omega, rfl, rfl⟩ ?_)
  rintro m E' hh ⟨k, rfl, hk, rfl, rfl⟩
  have hl : (moreW ws k).length = 64 := by rw [moreW_length]; exact hwl
  have hp : WdL (moreW ws k) := moreW_wd hw k
  have hWb : (h.upd rW (true, .cells (Z (moreW ws k)) 3 (0, 0))) rW = some (true, .cells (Z (moreW ws k)) 3 (0, 0)) := Know.upd_same _ _ _
  by_cases hlt : k < 48
  · refine wpE_seq (wpE_seq (wpE_region ?_))
    refine op_p tyT_ok rfl ?_
    refine op_pe tyT_ok rfl (congrArg Value.bool (decide_eq_true (show ((16 + k : Nat) : Int) < 64 by omega))) ?_
    refine opsE_nil (wpE_true rfl (wpE_skip ?_))
    refine wpE_seq (wpE_block (wpE_seq (wpE_region ?_)))
    refine op_p tyT_ok rfl ?_
    refine op_p tyT_ok rfl ?_
    refine op_pe tyT_ok rfl (v' := .int .i64 ((16 + k - 15 : Nat) : Int)) (wrapv (by omega) (by omega)) ?_
    refine op_re rfl (runV_indexAddr_slice rfl ti65 ti3 rfl rfl (by omega) (by omega)) (v' := .pointer (some ⟨rW, 16 + k - 15, none⟩)) (by rw [Int.toNat_natCast, Nat.mul_one, Nat.zero_add]) ?_
    refine op_r rfl (runV_load rfl rfl Tryd.underlying3 rfl hWb (Z_get (l := (moreW ws k)) (i := 16 + k - 15) (by omega))) ?_
    refine op_p tyT_ok rfl ?_
    refine opsE_nil (wpE_seq (wpE_region ?_))
    refine op_p tyT_ok rfl ?_
    refine op_p tyT_ok rfl ?_
    refine op_pe tyT_ok rfl (v' := .int .i64 ((16 + k - 2 : Nat) : Int)) (wrapv (by omega) (by omega)) ?_
    refine op_re rfl (runV_indexAddr_slice rfl ti65 ti3 rfl rfl (by omega) (by omega)) (v' := .pointer (some ⟨rW, 16 + k - 2, none⟩)) (by rw [Int.toNat_natCast, Nat.mul_one, Nat.zero_add]) ?_
    refine op_r rfl (runV_load rfl rfl Tryd.underlying3 rfl hWb (Z_get (l := (moreW ws k)) (i := 16 + k - 2) (by omega))) ?_
    refine op_p tyT_ok rfl ?_
    refine opsE_nil (wpE_seq (wpE_region ?_))
    refine op_p tyT_ok rfl ?_
    refine op_call (fn := Tryd.f59) rfl rfl rfl name59 rfl rfl (turn_S _ 25 _ (hp.at (16 + k - 15)) (by decide)) (ends_le ?_)
    refine op_p tyT_ok rfl ?_
    refine op_call (fn := Tryd.f59) rfl rfl rfl name59 rfl rfl (turn_S _ 14 _ (hp.at (16 + k - 15)) (by decide)) (ends_le ?_)
    refine op_p tyT_ok rfl ?_
    refine op_p tyT_ok rfl ?_
    refine op_re rfl (runV_shr rfl rfl rfl (by decide)) (v' := .int .i64 ((at0 (moreW ws k) (16 + k - 15)) / 2 ^ 3)) rfl ?_
    refine op_pe tyT_ok rfl (v' := .int .i64 (sg0 (at0 (moreW ws k) (16 + k - 15)))) (congrArg (Value.int .i64) (sg0_i (hp.at _))) ?_
    refine op_p tyT_ok rfl ?_
    refine opsE_nil (wpE_seq (wpE_region ?_))
    refine op_p tyT_ok rfl ?_
    refine op_call (fn := Tryd.f59) rfl rfl rfl name59 rfl rfl (turn_S _ 15 _ (hp.at (16 + k - 2)) (by decide)) (ends_le ?_)
    refine op_p tyT_ok rfl ?_
    refine op_call (fn := Tryd.f59) rfl rfl rfl name59 rfl rfl (turn_S _ 13 _ (hp.at (16 + k - 2)) (by decide)) (ends_le ?_)
    refine op_p tyT_ok rfl ?_
    refine op_p tyT_ok rfl ?_
    refine op_re rfl (runV_shr rfl rfl rfl (by decide)) (v' := .int .i64 ((at0 (moreW ws k) (16 + k - 2)) / 2 ^ 10)) rfl ?_
    refine op_pe tyT_ok rfl (v' := .int .i64 (sg1 (at0 (moreW ws k) (16 + k - 2)))) (congrArg (Value.int .i64) (sg1_i (hp.at _))) ?_
    refine op_p tyT_ok rfl ?_
    refine opsE_nil (wpE_drawTB 18 (by kernel_rfl) (by kernel_rfl) rfl (by kernel_rfl) ?_)
    simp only [List.take_succ_cons, List.take_zero, List.drop_succ_cons, List.drop_zero]
    refine hd_p tyT_ok rfl ?_
    refine hd_p tyT_ok rfl ?_
    refine hd_p tyT_ok rfl ?_
    refine hd_p tyT_ok rfl ?_
    refine hd_pe tyT_ok rfl (v' := .int .i64 ((16 + k - 16 : Nat) : Int)) (wrapv (by omega) (by omega)) ?_
    refine hd_re rfl rfl (runV_indexAddr_slice rfl ti65 ti3 rfl rfl (by omega) (by omega)) (v' := .pointer (some ⟨rW, 16 + k - 16, none⟩)) (by rw [Int.toNat_natCast, Nat.mul_one, Nat.zero_add]) ?_
    refine hd_r rfl rfl (runV_load rfl rfl Tryd.underlying3 rfl hWb (Z_get (l := (moreW ws k)) (i := 16 + k - 16) (by omega))) ?_
    refine hd_p tyT_ok rfl ?_
    refine hd_p tyT_ok rfl ?_
    refine hd_p tyT_ok rfl ?_
    refine hd_p tyT_ok rfl ?_
    refine hd_pe tyT_ok rfl (v' := .int .i64 ((16 + k - 7 : Nat) : Int)) (wrapv (by omega) (by omega)) ?_
    refine hd_re rfl rfl (runV_indexAddr_slice rfl ti65 ti3 rfl rfl (by omega) (by omega)) (v' := .pointer (some ⟨rW, 16 + k - 7, none⟩)) (by rw [Int.toNat_natCast, Nat.mul_one, Nat.zero_add]) ?_
    refine hd_r rfl rfl (runV_load rfl rfl Tryd.underlying3 rfl hWb (Z_get (l := (moreW ws k)) (i := 16 + k - 7) (by omega))) ?_
    refine hd_p tyT_ok rfl ?_
    refine hd_p tyT_ok rfl ?_
    refine hd_p tyT_ok rfl ?_
    refine hd_pe tyT_ok rfl (v' := .int .i64 (nextW (moreW ws k) (16 + k))) (congrArg (Value.int .i64) (next_i hp (16 + k))) ?_
    refine hd_nil ?_
    refine tl_re rfl (runV_indexAddr_slice rfl ti65 ti3 rfl rfl (by omega) (by omega)) (v' := .pointer (some ⟨rW, 16 + k, none⟩)) (by rw [Int.toNat_natCast, Nat.mul_one, Nat.zero_add]) ?_
    refine tl_store rfl rfl rfl ti3 hWb (by rw [Z_size, hl]; omega) (by simp) (h' := h.upd rW (true, .cells (Z (moreW ws (k + 1))) 3 (0, 0))) (by rw [upd_upd, Z_set]; rfl) ?_
    refine tl_nil (wpE_region ?_)
    refine op_p tyT_ok rfl ?_
    refine op_pe tyT_ok rfl (v' := .int .i64 ((16 + (k + 1) : Nat) : Int)) (wrapv (by omega) (by omega)) ?_
    refine op_p tyT_ok rfl ?_
    refine opsE_nil ⟨rfl, 48 - (k + 1), _, _, by omega, Env.le_cons rfl (Env.le_cons rfl (Env.le_cons rfl (Env.le_cons rfl (Env.le_nil _)))), Know.le_refl _, k + 1, rfl, by omega, rfl, rfl⟩
  · have : k = 48 := by omega
    subst this
    refine wpE_seq (wpE_seq (wpE_region ?_))
    refine op_p tyT_ok rfl ?_
    refine op_p tyT_ok rfl ?_
    refine opsE_nil (wpE_false rfl (wpE_exit ?_))
    repeat refine thenQ_exit ?_
    exact blockQ_exit (normalLe (Env.le_cons rfl (Env.le_cons rfl (Env.le_cons rfl (Env.le_nil _)))) (Know.le_refl _))

end Go.Proofs.YtlmecmapkijcnaaDoor

set_option linter.unusedVariables false
namespace Go.Proofs.YtlmecmapkijcnaaDoor
open KL

set_option maxRecDepth 100000 in
theorem chunk_rounds {A : Acts} [Priv A] {main : Bool} (h : Know) (v0 : Value) (rW rV rK capK : Nat) (K ws hs : List Int) (mk : Bool) (tk : TypeId) (fk : Nat × Nat) (hK : h rK = some (mk, .cells (Z K) tk fk)) (hKl : K.length = 64) (hKw : WdL K) (hwl : ws.length = 64) (hww : WdL ws)
    (hhs : hs.length = 8) (hhw : WdL hs) (hW : h rW = some (true, .cells (Z ws) 3 (0, 0))) (hr : h rV = none) (E : Env)
    (e0 : E.look 0 = some v0) (e2 : E.look 2 = some (.slice (some ⟨rK, 0, none⟩) 64 capK)) (e7 : E.look 7 = some (.slice (some ⟨rW, 0, none⟩) 64 64)) (e14 : E.look 14 = some (.slice (some ⟨rV, 0, none⟩) 8 8)) (e15 : E.look 15 = some (.int .i64 0)) :
    wpE A Tryd.prog main 243 (seqR (seqL (seqR (seqR (seqR (seqR (seqR (seqR (bodyOf Tryd.f34))))))))) (NormalE [] (fun E₁ h₁ => ∃ r, h r = none ∧ E₁ = [(14, .slice (some ⟨r, 0, none⟩) 8 8), (0, v0)] ∧ h₁ = h.upd r (true, .cells (Z (rnds K ws hs 64)) 3 (0, 0)))) [] E (h.upd rV (true, .cells (Z (rnds K ws hs 0)) 3 (0, 0))) := by
  refine wpE_block (wpE_loopJ (fun m E hh => ∃ k r : Nat, m = 64 - k ∧ k ≤ 64 ∧ h r = none ∧ E = [(15, .int .i64 (k : Int)), (14, .slice (some ⟨r, 0, none⟩) 8 8), (7, .slice (some ⟨rW, 0, none⟩) 64 64), (2, .slice (some ⟨rK, 0, none⟩) 64 capK), (0, v0)] ∧
    hh = h.upd r (true, .cells (Z (rnds K ws hs k)) 3 (0, 0))) (Env.le_cons e15 (Env.le_cons e14 (Env.le_cons e7 (Env.le_cons e2 (Env.le_cons e0 (Env.le_nil _)))))) (Know.le_refl _) ⟨0, rV, rfl, by omega, hr, rfl, rfl⟩ ?_)
  rintro m E' hh ⟨k, r, rfl, hk, hrn, rfl, rfl⟩
  have hvl : (rnds K ws hs k).length = 8 := rnds_length _ _ _ _ hhs
  have hvw : WdL (rnds K ws hs k) := rnds_wd hhw K ws k
  have hkw : Wd (at0 K k) := hKw.at k
  have hwk : Wd (at0 ws k) := hww.at k
  have hVb : (h.upd r (true, .cells (Z (rnds K ws hs k)) 3 (0, 0))) r = some (true, .cells (Z (rnds K ws hs k)) 3 (0, 0)) := Know.upd_same _ _ _
  have hWb : (h.upd r (true, .cells (Z (rnds K ws hs k)) 3 (0, 0))) rW = some (true, .cells (Z ws) 3 (0, 0)) := by rw [Know.upd_ne _ _ (ne_fresh hW hrn)]; exact hW
  have hKb : (h.upd r (true, .cells (Z (rnds K ws hs k)) 3 (0, 0))) rK = some (mk, .cells (Z K) tk fk) := by rw [Know.upd_ne _ _ (ne_fresh hK hrn)]; exact hK
  by_cases hlt : k < 64
  · refine wpE_seq (wpE_seq (wpE_region ?_))
    refine op_p tyT_ok rfl ?_
    refine op_pe tyT_ok rfl (congrArg Value.bool (decide_eq_true (show ((k : Nat) : Int) < 64 by omega))) ?_
    refine opsE_nil (wpE_true rfl (wpE_skip ?_))
    refine wpE_seq (wpE_block (wpE_seq (wpE_region ?_)))
    refine op_p tyT_ok rfl ?_
    refine op_re rfl (runV_indexAddr_slice rfl ti65 ti3 rfl rfl (by decide) (by decide)) (v' := .pointer (some ⟨r, 0, none⟩)) rfl ?_
    refine op_r rfl (runV_load rfl rfl Tryd.underlying3 rfl hVb (Z_get (l := (rnds K ws hs k)) (i := 0) (by omega))) ?_
    refine op_p tyT_ok rfl ?_
    refine opsE_nil (wpE_seq (wpE_region ?_))
    refine op_p tyT_ok rfl ?_
    refine op_re rfl (runV_indexAddr_slice rfl ti65 ti3 rfl rfl (by decide) (by decide)) (v' := .pointer (some ⟨r, 4, none⟩)) rfl ?_
    refine op_r rfl (runV_load rfl rfl Tryd.underlying3 rfl hVb (Z_get (l := (rnds K ws hs k)) (i := 4) (by omega))) ?_
    refine op_p tyT_ok rfl ?_
    refine opsE_nil (wpE_seq (wpE_region ?_))
    refine op_p tyT_ok rfl ?_
    refine op_call (fn := Tryd.f59) rfl rfl rfl name59 rfl rfl (turn_S _ 26 _ (hvw.at 4) (by decide)) (ends_le ?_)
    refine op_p tyT_ok rfl ?_
    refine op_call (fn := Tryd.f59) rfl rfl rfl name59 rfl rfl (turn_S _ 21 _ (hvw.at 4) (by decide)) (ends_le ?_)
    refine op_p tyT_ok rfl ?_
    refine op_p tyT_ok rfl ?_
    refine op_call (fn := Tryd.f59) rfl rfl rfl name59 rfl rfl (turn_S _ 7 _ (hvw.at 4) (by decide)) (ends_le ?_)
    refine op_pe tyT_ok rfl (v' := .int .i64 (bs1 (at0 (rnds K ws hs k) 4))) (congrArg (Value.int .i64) (bs1_i (hvw.at 4))) ?_
    refine op_p tyT_ok rfl ?_
    refine opsE_nil (wpE_seq (wpE_drawTB 13 (by kernel_rfl) (by kernel_rfl) rfl (by kernel_rfl) ?_))
    simp only [List.take_succ_cons, List.take_zero, List.drop_succ_cons, List.drop_zero]
    refine hd_p tyT_ok rfl ?_
    refine hd_p tyT_ok rfl ?_
    refine hd_re rfl rfl (runV_indexAddr_slice rfl ti65 ti3 rfl rfl (by decide) (by decide)) (v' := .pointer (some ⟨r, 5, none⟩)) rfl ?_
    refine hd_r rfl rfl (runV_load rfl rfl Tryd.underlying3 rfl hVb (Z_get (l := (rnds K ws hs k)) (i := 5) (by omega))) ?_
    refine hd_p tyT_ok rfl ?_
    refine hd_p tyT_ok rfl ?_
    refine hd_p tyT_ok rfl ?_
    refine hd_p tyT_ok rfl ?_
    refine hd_re rfl rfl (runV_indexAddr_slice rfl ti65 ti3 rfl rfl (by decide) (by decide)) (v' := .pointer (some ⟨r, 6, none⟩)) rfl ?_
    refine hd_r rfl rfl (runV_load rfl rfl Tryd.underlying3 rfl hVb (Z_get (l := (rnds K ws hs k)) (i := 6) (by omega))) ?_
    refine hd_p tyT_ok rfl ?_
    refine hd_pe tyT_ok rfl (v' := .int .i64 (chW (at0 (rnds K ws hs k) 4) (at0 (rnds K ws hs k) 5) (at0 (rnds K ws hs k) 6))) (congrArg (Value.int .i64) (chW_i (hvw.at 4) (hvw.at 5) (hvw.at 6))) ?_
    refine hd_p tyT_ok rfl ?_
    refine hd_nil (tl_nil ?_)
    refine wpE_seq (wpE_drawTB 18 (by kernel_rfl) (by kernel_rfl) rfl (by kernel_rfl) ?_)
    simp only [List.take_succ_cons, List.take_zero, List.drop_succ_cons, List.drop_zero]
    refine hd_p tyT_ok rfl ?_
    refine hd_re rfl rfl (runV_indexAddr_slice rfl ti65 ti3 rfl rfl (by decide) (by decide)) (v' := .pointer (some ⟨r, 7, none⟩)) rfl ?_
    refine hd_r rfl rfl (runV_load rfl rfl Tryd.underlying3 rfl hVb (Z_get (l := (rnds K ws hs k)) (i := 7) (by omega))) ?_
    refine hd_p tyT_ok rfl ?_
    refine hd_p tyT_ok rfl ?_
    refine hd_p tyT_ok rfl ?_
    refine hd_p tyT_ok rfl ?_
    refine hd_p tyT_ok rfl ?_
    refine hd_p tyT_ok rfl ?_
    refine hd_re rfl rfl (runV_indexAddr_slice rfl ti65 ti3 rfl rfl (by omega) (by omega)) (v' := .pointer (some ⟨rK, k, none⟩)) (by rw [Int.toNat_natCast, Nat.mul_one, Nat.zero_add]) ?_
    refine hd_r rfl rfl (runV_load rfl rfl Tryd.underlying3 rfl hKb (Z_get (l := K) (i := k) (by omega))) ?_
    refine hd_p tyT_ok rfl ?_
    refine hd_p tyT_ok rfl ?_
    refine hd_p tyT_ok rfl ?_
    refine hd_re rfl rfl (runV_indexAddr_slice rfl ti65 ti3 rfl rfl (by omega) (by omega)) (v' := .pointer (some ⟨rW, k, none⟩)) (by rw [Int.toNat_natCast, Nat.mul_one, Nat.zero_add]) ?_
    refine hd_r rfl rfl (runV_load rfl rfl Tryd.underlying3 rfl hWb (Z_get (l := ws) (i := k) (by omega))) ?_
    refine hd_pe tyT_ok rfl (v' := .int .i64 (t1s (at0 K k) (at0 ws k) (rnds K ws hs k))) (congrArg (Value.int .i64) (t1s_i hvw hkw hwk)) ?_
    refine hd_p tyT_ok rfl ?_
    refine hd_nil (tl_nil ?_)
    refine wpE_seq (wpE_region ?_)
    refine op_p tyT_ok rfl ?_
    refine op_call (fn := Tryd.f59) rfl rfl rfl name59 rfl rfl (turn_S _ 30 _ (hvw.at 0) (by decide)) (ends_le ?_)
    refine op_p tyT_ok rfl ?_
    refine op_call (fn := Tryd.f59) rfl rfl rfl name59 rfl rfl (turn_S _ 19 _ (hvw.at 0) (by decide)) (ends_le ?_)
    refine op_p tyT_ok rfl ?_
    refine op_p tyT_ok rfl ?_
    refine op_call (fn := Tryd.f59) rfl rfl rfl name59 rfl rfl (turn_S _ 10 _ (hvw.at 0) (by decide)) (ends_le ?_)
    refine op_pe tyT_ok rfl (v' := .int .i64 (bs0 (at0 (rnds K ws hs k) 0))) (congrArg (Value.int .i64) (bs0_i (hvw.at 0))) ?_
    refine op_p tyT_ok rfl ?_
    refine opsE_nil (wpE_seq (wpE_drawTB 20 (by kernel_rfl) (by kernel_rfl) rfl (by kernel_rfl) ?_))
    simp only [List.take_succ_cons, List.take_zero, List.drop_succ_cons, List.drop_zero]
    refine hd_p tyT_ok rfl ?_
    refine hd_p tyT_ok rfl ?_
    refine hd_re rfl rfl (runV_indexAddr_slice rfl ti65 ti3 rfl rfl (by decide) (by decide)) (v' := .pointer (some ⟨r, 1, none⟩)) rfl ?_
    refine hd_r rfl rfl (runV_load rfl rfl Tryd.underlying3 rfl hVb (Z_get (l := (rnds K ws hs k)) (i := 1) (by omega))) ?_
    refine hd_p tyT_ok rfl ?_
    refine hd_p tyT_ok rfl ?_
    refine hd_p tyT_ok rfl ?_
    refine hd_re rfl rfl (runV_indexAddr_slice rfl ti65 ti3 rfl rfl (by decide) (by decide)) (v' := .pointer (some ⟨r, 2, none⟩)) rfl ?_
    refine hd_r rfl rfl (runV_load rfl rfl Tryd.underlying3 rfl hVb (Z_get (l := (rnds K ws hs k)) (i := 2) (by omega))) ?_
    refine hd_p tyT_ok rfl ?_
    refine hd_p tyT_ok rfl ?_
    refine hd_p tyT_ok rfl ?_
    refine hd_re rfl rfl (runV_indexAddr_slice rfl ti65 ti3 rfl rfl (by decide) (by decide)) (v' := .pointer (some ⟨r, 1, none⟩)) rfl ?_
    refine hd_r rfl rfl (runV_load rfl rfl Tryd.underlying3 rfl hVb (Z_get (l := (rnds K ws hs k)) (i := 1) (by omega))) ?_
    refine hd_p tyT_ok rfl ?_
    refine hd_re rfl rfl (runV_indexAddr_slice rfl ti65 ti3 rfl rfl (by decide) (by decide)) (v' := .pointer (some ⟨r, 2, none⟩)) rfl ?_
    refine hd_r rfl rfl (runV_load rfl rfl Tryd.underlying3 rfl hVb (Z_get (l := (rnds K ws hs k)) (i := 2) (by omega))) ?_
    refine hd_p tyT_ok rfl ?_
    refine hd_pe tyT_ok rfl (v' := .int .i64 (majW (at0 (rnds K ws hs k) 0) (at0 (rnds K ws hs k) 1) (at0 (rnds K ws hs k) 2))) (congrArg (Value.int .i64) (majW_i (hvw.at 0) (hvw.at 1) (hvw.at 2))) ?_
    refine hd_p tyT_ok rfl ?_
    refine hd_nil (tl_nil ?_)
    refine wpE_seq (wpE_region ?_)
    refine op_p tyT_ok rfl ?_
    refine op_p tyT_ok rfl ?_
    refine op_pe tyT_ok rfl (v' := .int .i64 (t2s (rnds K ws hs k))) (congrArg (Value.int .i64) (t2s_i hvw)) ?_
    refine op_p tyT_ok rfl ?_
    refine opsE_nil (wpE_drawTB 28 (by kernel_rfl) (by kernel_rfl) rfl (by kernel_rfl) ?_)
    simp only [List.take_succ_cons, List.take_zero, List.drop_succ_cons, List.drop_zero]
    refine hd_p tyT_ok rfl ?_
    refine hd_p tyT_ok rfl ?_
    refine hd_p tyT_ok rfl ?_
    refine hd_pe tyT_ok rfl (v' := .int .i64 (w32 (tR (at0 K k) (at0 ws k) (rnds K ws hs k) + uR (rnds K ws hs k)))) (congrArg (Value.int .i64) (new0_i hvw hkw hwk)) ?_
    refine hd_p tyT_ok rfl ?_
    refine hd_re rfl rfl (runV_indexAddr_slice rfl ti65 ti3 rfl rfl (by decide) (by decide)) (v' := .pointer (some ⟨r, 0, none⟩)) rfl ?_
    refine hd_r rfl rfl (runV_load rfl rfl Tryd.underlying3 rfl hVb (Z_get (l := (rnds K ws hs k)) (i := 0) (by omega))) ?_
    refine hd_p tyT_ok rfl ?_
    refine hd_re rfl rfl (runV_indexAddr_slice rfl ti65 ti3 rfl rfl (by decide) (by decide)) (v' := .pointer (some ⟨r, 1, none⟩)) rfl ?_
    refine hd_r rfl rfl (runV_load rfl rfl Tryd.underlying3 rfl hVb (Z_get (l := (rnds K ws hs k)) (i := 1) (by omega))) ?_
    refine hd_p tyT_ok rfl ?_
    refine hd_re rfl rfl (runV_indexAddr_slice rfl ti65 ti3 rfl rfl (by decide) (by decide)) (v' := .pointer (some ⟨r, 2, none⟩)) rfl ?_
    refine hd_r rfl rfl (runV_load rfl rfl Tryd.underlying3 rfl hVb (Z_get (l := (rnds K ws hs k)) (i := 2) (by omega))) ?_
    refine hd_p tyT_ok rfl ?_
    refine hd_re rfl rfl (runV_indexAddr_slice rfl ti65 ti3 rfl rfl (by decide) (by decide)) (v' := .pointer (some ⟨r, 3, none⟩)) rfl ?_
    refine hd_r rfl rfl (runV_load rfl rfl Tryd.underlying3 rfl hVb (Z_get (l := (rnds K ws hs k)) (i := 3) (by omega))) ?_
    refine hd_p tyT_ok rfl ?_
    refine hd_p tyT_ok rfl ?_
    refine hd_pe tyT_ok rfl (v' := .int .i64 (w32 (at0 (rnds K ws hs k) 3 + tR (at0 K k) (at0 ws k) (rnds K ws hs k)))) (congrArg (Value.int .i64) (new4_i hvw hkw hwk)) ?_
    refine hd_p tyT_ok rfl ?_
    refine hd_re rfl rfl (runV_indexAddr_slice rfl ti65 ti3 rfl rfl (by decide) (by decide)) (v' := .pointer (some ⟨r, 4, none⟩)) rfl ?_
    refine hd_r rfl rfl (runV_load rfl rfl Tryd.underlying3 rfl hVb (Z_get (l := (rnds K ws hs k)) (i := 4) (by omega))) ?_
    refine hd_p tyT_ok rfl ?_
    refine hd_re rfl rfl (runV_indexAddr_slice rfl ti65 ti3 rfl rfl (by decide) (by decide)) (v' := .pointer (some ⟨r, 5, none⟩)) rfl ?_
    refine hd_r rfl rfl (runV_load rfl rfl Tryd.underlying3 rfl hVb (Z_get (l := (rnds K ws hs k)) (i := 5) (by omega))) ?_
    refine hd_p tyT_ok rfl ?_
    refine hd_re rfl rfl (runV_indexAddr_slice rfl ti65 ti3 rfl rfl (by decide) (by decide)) (v' := .pointer (some ⟨r, 6, none⟩)) rfl ?_
    refine hd_r rfl rfl (runV_load rfl rfl Tryd.underlying3 rfl hVb (Z_get (l := (rnds K ws hs k)) (i := 6) (by omega))) ?_
    refine hd_nil ?_
    refine tl_n rfl (runN_buildSlice (cs := Z (rnds K ws hs (k + 1))) rfl ti65 ti3 (by decide) (by decide) (by kernel_rfl)) fun r' hr' => ?_
    have hr'' : h r' = none := by rw [Know.upd_ne _ _ (Ne.symm (ne_fresh hVb hr'))] at hr'; exact hr'
    refine tl_p tyT_ok rfl ?_
    refine tl_nil (wpE_region ?_)
    refine op_p tyT_ok rfl ?_
    refine op_pe tyT_ok rfl (v' := .int .i64 ((k + 1 : Nat) : Int)) (wrapv (by omega) (by omega)) ?_
    refine op_p tyT_ok rfl ?_
    refine opsE_nil ⟨rfl, 64 - (k + 1), _, _, by omega, Env.le_cons rfl (Env.le_cons rfl (Env.le_cons rfl (Env.le_cons rfl (Env.le_cons rfl (Env.le_nil _))))), ?_, k + 1, r', rfl, by omega, hr'', rfl, rfl⟩
    exact le_both r' _ (le_fresh _ hrn)
  · have : k = 64 := by omega
    subst this
    refine wpE_seq (wpE_seq (wpE_region ?_))
    refine op_p tyT_ok rfl ?_
    refine op_p tyT_ok rfl ?_
    refine opsE_nil (wpE_false rfl (wpE_exit ?_))
    repeat refine thenQ_exit ?_
    exact blockQ_exit (normalE (Env.le_cons rfl (Env.le_cons rfl (Env.le_nil _))) (Know.le_refl _) ⟨r, hrn, rfl, rfl⟩)

/-- The first n sums, laid into noughts. -/
def addO (hs v : List Int) : Nat → List Int
  | 0 => List.replicate 8 0
  | n + 1 => (addO hs v n).set n (w32 (at0 hs n + at0 v n))
theorem addO_length (hs v : List Int) (n : Nat) : (addO hs v n).length = 8 := by induction n <;> simp_all [addO]

set_option maxRecDepth 100000 in
theorem chunk_add {A : Acts} [Priv A] {main : Bool} (h : Know) (rH capH rV rO : Nat) (hs v : List Int) (mh : Bool) (th : TypeId) (fh : Nat × Nat) (hH : h rH = some (mh, .cells (Z hs) th fh)) (hhl : hs.length = 8) (hhw : WdL hs)
    (mv : Bool) (tv : TypeId) (fv : Nat × Nat) (hV : h rV = some (mv, .cells (Z v) tv fv)) (hvl : v.length = 8) (hvw : WdL v) (hr : h rO = none) (E : Env)
    (e0 : E.look 0 = some (.slice (some ⟨rH, 0, none⟩) 8 capH)) (e14 : E.look 14 = some (.slice (some ⟨rV, 0, none⟩) 8 8)) (e22 : E.look 22 = some (.slice (some ⟨rO, 0, none⟩) 8 8)) (e23 : E.look 23 = some (.int .i64 0)) :
    wpE A Tryd.prog main 243 (seqR (seqL (seqR (seqR (seqR (seqR (seqR (seqR (seqR (seqR (bodyOf Tryd.f34))))))))))) (NormalLe [] [(22, .slice (some ⟨rO, 0, none⟩) 8 8)] (h.upd rO (true, .cells (Z (addO hs v 8)) 3 (0, 0)))) [] E (h.upd rO (true, .cells (Z (addO hs v 0)) 3 (0, 0))) := by
  refine wpE_block (wpE_loopJ (fun m E hh => ∃ k : Nat, m = 8 - k ∧ k ≤ 8 ∧ E = [(23, .int .i64 (k : Int)), (22, .slice (some ⟨rO, 0, none⟩) 8 8), (14, .slice (some ⟨rV, 0, none⟩) 8 8), (0, .slice (some ⟨rH, 0, none⟩) 8 capH)] ∧
    hh = h.upd rO (true, .cells (Z (addO hs v k)) 3 (0, 0))) (Env.le_cons e23 (Env.le_cons e22 (Env.le_cons e14 (Env.le_cons e0 (Env.le_nil _))))) (Know.le_refl _) ⟨0, rfl, by omega, rfl, rfl⟩ ?_)
  rintro m E' hh ⟨k, rfl, hk, rfl, rfl⟩
  have hOb : (h.upd rO (true, .cells (Z (addO hs v k)) 3 (0, 0))) rO = some (true, .cells (Z (addO hs v k)) 3 (0, 0)) := Know.upd_same _ _ _
  have hHb : (h.upd rO (true, .cells (Z (addO hs v k)) 3 (0, 0))) rH = some (mh, .cells (Z hs) th fh) := by rw [Know.upd_ne _ _ (ne_fresh hH hr)]; exact hH
  have hVb : (h.upd rO (true, .cells (Z (addO hs v k)) 3 (0, 0))) rV = some (mv, .cells (Z v) tv fv) := by rw [Know.upd_ne _ _ (ne_fresh hV hr)]; exact hV
  by_cases hlt : k < 8
  · refine wpE_seq (wpE_seq (wpE_region ?_))
    refine op_p tyT_ok rfl ?_
    refine op_pe tyT_ok rfl (congrArg Value.bool (decide_eq_true (show ((k : Nat) : Int) < 8 by omega))) ?_
    refine opsE_nil (wpE_true rfl (wpE_skip ?_))
    refine wpE_seq (wpE_block (wpE_drawTB 12 (by kernel_rfl) (by kernel_rfl) rfl (by kernel_rfl) ?_))
    simp only [List.take_succ_cons, List.take_zero, List.drop_succ_cons, List.drop_zero]
    refine hd_p tyT_ok rfl ?_
    refine hd_p tyT_ok rfl ?_
    refine hd_p tyT_ok rfl ?_
    refine hd_p tyT_ok rfl ?_
    refine hd_re rfl rfl (runV_indexAddr_slice rfl ti65 ti3 rfl rfl (by omega) (by omega)) (v' := .pointer (some ⟨rH, k, none⟩)) (by rw [Int.toNat_natCast, Nat.mul_one, Nat.zero_add]) ?_
    refine hd_r rfl rfl (runV_load rfl rfl Tryd.underlying3 rfl hHb (Z_get (l := hs) (i := k) (by omega))) ?_
    refine hd_p tyT_ok rfl ?_
    refine hd_p tyT_ok rfl ?_
    refine hd_re rfl rfl (runV_indexAddr_slice rfl ti65 ti3 rfl rfl (by omega) (by omega)) (v' := .pointer (some ⟨rV, k, none⟩)) (by rw [Int.toNat_natCast, Nat.mul_one, Nat.zero_add]) ?_
    refine hd_r rfl rfl (runV_load rfl rfl Tryd.underlying3 rfl hVb (Z_get (l := v) (i := k) (by omega))) ?_
    refine hd_p tyT_ok rfl ?_
    refine hd_pe tyT_ok rfl (v' := .int .i64 (w32 (at0 hs k + at0 v k))) (congrArg (Value.int .i64) (add_i (hhw.at k) (hvw.at k))) ?_
    refine hd_nil ?_
    refine tl_re rfl (runV_indexAddr_slice rfl ti65 ti3 rfl rfl (by omega) (by omega)) (v' := .pointer (some ⟨rO, k, none⟩)) (by rw [Int.toNat_natCast, Nat.mul_one, Nat.zero_add]) ?_
    refine tl_store rfl rfl rfl ti3 hOb (by rw [Z_size, addO_length]; omega) (by simp) (h' := h.upd rO (true, .cells (Z (addO hs v (k + 1))) 3 (0, 0))) (by rw [upd_upd, Z_set]; rfl) ?_
    refine tl_nil (wpE_region ?_)
    refine op_p tyT_ok rfl ?_
    refine op_pe tyT_ok rfl (v' := .int .i64 ((k + 1 : Nat) : Int)) (wrapv (by omega) (by omega)) ?_
    refine op_p tyT_ok rfl ?_
    refine opsE_nil ⟨rfl, 8 - (k + 1), _, _, by omega, Env.le_cons rfl (Env.le_cons rfl (Env.le_cons rfl (Env.le_cons rfl (Env.le_nil _)))), Know.le_refl _, k + 1, rfl, by omega, rfl, rfl⟩
  · have : k = 8 := by omega
    subst this
    refine wpE_seq (wpE_seq (wpE_region ?_))
    refine op_p tyT_ok rfl ?_
    refine op_p tyT_ok rfl ?_
    refine opsE_nil (wpE_false rfl (wpE_exit ?_))
    repeat refine thenQ_exit ?_
    exact blockQ_exit (normalLe (Env.le_cons rfl (Env.le_nil _)) (Know.le_refl _))

theorem addO_at (hs v : List Int) : ∀ (n i : Nat), n ≤ 8 → i < 8 → at0 (addO hs v n) i = if i < n then w32 (at0 hs i + at0 v i) else 0 := by
  intro n
  induction n with
  | zero => intro i _ hi; rw [if_neg (by omega)]; simp only [addO, at0]; rw [List.getD_eq_getElem?_getD, List.getElem?_replicate, if_pos hi]; rfl
  | succ n ih =>
    intro i hn hi
    simp only [addO, at0]
    rw [List.getD_eq_getElem?_getD, List.getElem?_set]
    by_cases e : n = i
    · subst e
      rw [if_pos rfl, if_pos (by rw [addO_length]; omega), if_pos (by omega)]; rfl
    · rw [if_neg e, ← List.getD_eq_getElem?_getD]
      have := ih i (by omega) hi
      unfold at0 at this
      rw [this]
      by_cases g : i < n
      · rw [if_pos g, if_pos (by omega)]
      · rw [if_neg g, if_neg (by omega)]
theorem addW_at (hs v : List Int) (hl : hs.length = 8) : ∀ (n i : Nat), n ≤ 8 → i < 8 → at0 (addW hs v n) i = if i < n then w32 (at0 hs i + at0 v i) else at0 hs i := by
  intro n
  induction n with
  | zero => intro i _ hi; rw [if_neg (by omega)]; rfl
  | succ n ih =>
    intro i hn hi
    have hself := ih n (by omega) (by omega)
    rw [if_neg (Nat.lt_irrefl _)] at hself
    simp only [addW]
    rw [hself]
    unfold at0
    rw [List.getD_eq_getElem?_getD, List.getElem?_set]
    by_cases e : n = i
    · subst e
      rw [if_pos rfl, if_pos (by rw [addW_length]; omega), if_pos (by omega)]; rfl
    · rw [if_neg e, ← List.getD_eq_getElem?_getD]
      have := ih i (by omega) hi
      unfold at0 at this
      rw [this]
      by_cases g : i < n
      · rw [if_pos g, if_pos (by omega)]
      · rw [if_neg g, if_neg (by omega)]
theorem addO_eq (hs v : List Int) (hl : hs.length = 8) : addO hs v 8 = addW hs v 8 := by
  apply List.ext_getElem
  · rw [addO_length, addW_length, hl]
  · intro i h1 h2
    have hi : i < 8 := by rw [addO_length] at h1; exact h1
    have a := addO_at hs v 8 i (by omega) hi
    have b := addW_at hs v hl 8 i (by omega) hi
    rw [if_pos hi] at a b
    have : at0 (addO hs v 8) i = at0 (addW hs v 8) i := by rw [a, b]
    simpa [at0, h1, h2] using this

theorem made64 : ((Array.range (64 * 1)).map ((Value.int .i64 0).cells[· % (Value.int .i64 0).cells.size]!)) = Z (List.replicate 64 0) := by kernel_rfl
theorem made8 : ((Array.range (8 * 1)).map ((Value.int .i64 0).cells[· % (Value.int .i64 0).cells.size]!)) = Z (List.replicate 8 0) := by kernel_rfl
theorem flatZ (l : List Int) : (l.map (Value.int .i64)).all Value.flat = true := by simp [Value.flat]

theorem srcZ {h : Know} {b cap : Nat} {hs : List Int} {mu : Bool} {t : TypeId} {f : Nat × Nat} (hb : h b = some (mu, .cells (Z hs) t f)) (hl : hs.length = 8) : SrcV h (.slice (some ⟨b, 0, none⟩) 8 cap) (hs.map (Value.int .i64)) := by
  refine .inr (.inr ⟨b, 0, cap, mu, Z hs, t, f, by rw [List.length_map, hl], hb, by rw [Z_size, List.length_map, Nat.zero_add]; exact Nat.le_refl _, ?_⟩)
  apply Array.ext'
  have e : 0 + (hs.map (Value.int .i64)).length = (Z hs).size := by simp [Z]
  rw [e, Array.extract_size]
  rfl

set_option maxRecDepth 100000 in
/-- A block of 64 bytes, as the reference takes it in: the same state. -/
theorem chunk_S {A : Acts} [Priv A] {main : Bool} (h : Know) (rH capH S off cap rK capK : Nat) (K hs bs : List Int) (mh mk : Bool) (th tk : TypeId) (fh fk : Nat × Nat) (hH : h rH = some (mh, .cells (Z hs) th fh)) (hhl : hs.length = 8) (hhw : WdL hs)
    (hK : h rK = some (mk, .cells (Z K) tk fk)) (hKl : K.length = 64) (hKw : WdL K) (hB : BytL bs) (hS : Bytes64 h S off bs) :
    CallS A Tryd.prog main 34 [Value.slice (some ⟨rH, 0, none⟩) 8 capH, Value.slice (some ⟨S, off, none⟩) 64 cap, Value.slice (some ⟨rK, 0, none⟩) 64 capK].toArray h
      (fun e h' => ∃ v, e = .returned v ∧ ∃ r, v = .slice (some ⟨r, 0, none⟩) 8 8 ∧ h r = none ∧ (h.upd r (true, .cells (Z (compress K hs bs)) 3 (0, 0))).le h') := by
  refine callS_of_wpE Tryd.func34 rfl (by show 3 ≤ 243; decide) ?_
  refine wpE_seq (wpE_region (op_p tyT_ok rfl (opsE_nil ?_)))
  refine wpE_seq (wpE_region (op_n rfl (runN_makeSlice (m := 64) rfl rfl rfl ti65 ti3 (by decide) (by decide) (by decide)) fun rW hrW => op_p tyT_ok rfl (opsE_nil ?_)))
  rw [made64]
  have hww : WdL (moreW (fillW bs 16) 48) := moreW_wd (fillW_wd bs 16) 48
  have hwl : (moreW (fillW bs 16) 48).length = 64 := by rw [moreW_length, fillW_length]
  refine wpE_seqN (E₀ := [(7, .slice (some ⟨rW, 0, none⟩) 64 64), (2, .slice (some ⟨rK, 0, none⟩) 64 capK), (0, .slice (some ⟨rH, 0, none⟩) 8 capH)]) (h₀ := h.upd rW (true, .cells (Z (fillW bs 16)) 3 (0, 0))) (wpE_seq (wpE_region (op_p tyT_ok rfl (opsE_nil ?_)))) ?_
  · exact chunk_fill h _ _ S off cap rW bs _ hB hS hrW rfl rfl rfl rfl rfl
  refine wpE_seqN (E₀ := [(7, .slice (some ⟨rW, 0, none⟩) 64 64), (2, .slice (some ⟨rK, 0, none⟩) 64 capK), (0, .slice (some ⟨rH, 0, none⟩) 8 capH)]) (h₀ := h.upd rW (true, .cells (Z (moreW (fillW bs 16) 48)) 3 (0, 0))) (wpE_seq (wpE_region (op_p tyT_ok rfl (opsE_nil ?_)))) ?_
  · exact chunk_more h _ _ rW (fillW bs 16) _ (fillW_length _ _) (fillW_wd _ _) rfl rfl rfl rfl
  have hW1 : (h.upd rW (true, .cells (Z (moreW (fillW bs 16) 48)) 3 (0, 0))) rW = some (true, .cells (Z (moreW (fillW bs 16) 48)) 3 (0, 0)) := Know.upd_same _ _ _
  have hH1 : (h.upd rW (true, .cells (Z (moreW (fillW bs 16) 48)) 3 (0, 0))) rH = some (mh, .cells (Z hs) th fh) := by rw [Know.upd_ne _ _ (ne_fresh hH hrW)]; exact hH
  have hK1 : (h.upd rW (true, .cells (Z (moreW (fillW bs 16) 48)) 3 (0, 0))) rK = some (mk, .cells (Z K) tk fk) := by rw [Know.upd_ne _ _ (ne_fresh hK hrW)]; exact hK
  have hle1 : h.le (h.upd rW (true, .cells (Z (moreW (fillW bs 16) 48)) 3 (0, 0))) := le_fresh _ hrW
  have hc : compress K hs bs = addW hs (rnds K (moreW (fillW bs 16) 48) hs 64) 8 := rfl
  rw [hc]
  generalize h.upd rW (true, .cells (Z (moreW (fillW bs 16) 48)) 3 (0, 0)) = h1 at *
  generalize moreW (fillW bs 16) 48 = ws at *
  refine wpE_seq (wpE_region (op_n rfl (runN_makeSlice (m := 8) rfl rfl rfl ti65 ti3 (by decide) (by decide) (by decide)) fun rV hrV => op_p tyT_ok rfl (opsE_nil ?_)))
  rw [made8]
  have hneV : rH ≠ rV := ne_fresh hH1 hrV
  refine wpE_seq (wpE_region (op_p tyT_ok rfl (op_p tyT_ok rfl ?_)))
  refine op_r rfl (runV_copy (ys := hs.map (Value.int .i64)) rfl rfl rfl ti65 ti3 (srcZ (by rw [Know.upd_ne _ _ hneV]; exact hH1) hhl) (flatZ hs) (by rw [List.length_map, hhl]; exact Nat.le_refl 8)
    (b := rV) (off := 0) (c := Z (List.replicate 8 0)) (ty := 3) (fr := (0, 0)) (Know.upd_same _ _ _) (by rw [Z_size, List.length_map, hhl]; exact Nat.le_refl 8) (fun j _ _ => by omega)) ?_
  rw [upd_upd, splice_all _ _ _ (by rw [List.length_map, hhl]; rfl)]
  refine opsE_nil ?_
  change wpE _ _ _ _ _ _ _ _ (h1.upd rV (true, .cells (Z (rnds K ws hs 0)) 3 (0, 0)))
  refine wpE_seqE (M := fun E₁ h₂ => ∃ r, h1 r = none ∧ E₁ = [(14, .slice (some ⟨r, 0, none⟩) 8 8), (0, .slice (some ⟨rH, 0, none⟩) 8 capH)] ∧ h₂ = h1.upd r (true, .cells (Z (rnds K ws hs 64)) 3 (0, 0))) (wpE_seq (wpE_region (op_p tyT_ok rfl (opsE_nil ?_)))) ?_
  · exact chunk_rounds h1 _ rW rV rK capK K ws hs mk tk fk hK1 hKl hKw hwl hww hhl hhw hW1 hrV _ rfl rfl rfl rfl rfl
  rintro E5 h5 ⟨r, hr, rfl, rfl⟩
  have hvl : (rnds K ws hs 64).length = 8 := rnds_length _ _ _ _ hhl
  have hvw : WdL (rnds K ws hs 64) := rnds_wd hhw _ _ _
  refine wpE_seq (wpE_region (op_n rfl (runN_makeSlice (m := 8) rfl rfl rfl ti65 ti3 (by decide) (by decide) (by decide)) fun rO hrO => op_p tyT_ok rfl (opsE_nil ?_)))
  rw [made8]
  have hneO : r ≠ rO := ne_fresh (Know.upd_same _ _ _) hrO
  have hrO1 : h1 rO = none := by rw [Know.upd_ne _ _ (Ne.symm hneO)] at hrO; exact hrO
  have hrO0 : h rO = none := by
    cases e : h rO with
    | none => rfl
    | some y => rw [hle1 _ _ e] at hrO1; cases hrO1
  refine wpE_seqN (E₀ := [(22, .slice (some ⟨rO, 0, none⟩) 8 8)]) (h₀ := (h1.upd r (true, .cells (Z (rnds K ws hs 64)) 3 (0, 0))).upd rO (true, .cells (Z (addO hs (rnds K ws hs 64) 8)) 3 (0, 0))) (wpE_seq (wpE_region (op_p tyT_ok rfl (opsE_nil ?_)))) ?_
  · exact chunk_add _ rH capH r rO hs (rnds K ws hs 64) mh th fh (by rw [Know.upd_ne _ _ (ne_fresh hH1 hr)]; exact hH1) hhl hhw true 3 (0, 0) (Know.upd_same _ _ _) hvl hvw hrO _ rfl rfl rfl rfl
  refine wpE_seq (wpE_region (op_p tyT_ok rfl (op_p tyT_ok rfl (opsE_nil ?_))))
  refine wpE_ret (bodyQ_one (fn := Tryd.f34) rfl rfl ⟨_, rfl, rO, rfl, hrO0, ?_⟩)
  rw [addO_eq _ _ hhl]
  exact le_both rO _ (Know.le_trans hle1 (le_fresh _ hr))

end Go.Proofs.YtlmecmapkijcnaaDoor
