/- The reference's walk: a turn, the constants, a block. -/
import Derived.Test.YtlmecmapkijcnaaDoorShaF
import Derived.Test.YtlmecmapkijcnaaDoorKlMake
set_option linter.unusedVariables false
namespace Go.Proofs.YtlmecmapkijcnaaDoor
open KL

set_option maxRecDepth 100000 in
theorem turn_S {main : Bool} (x : Int) (s : Nat) (h : Know) (hx : Wd x) (hs : s < 32) :
    CallS Tryd.prog main 59 [Value.int .i64 x, Value.int .i64 ((32 - s : Nat) : Int)].toArray h (RetLe (.int .i64 (rl x s)) h) := by
  refine callS_of_wpE Tryd.func59 rfl (by show 2 ≤ 14; decide) ?_
  refine wpE_seq (wpE_region (op_p tyT_ok rfl (opsE_nil ?_)))
  refine wpE_seq (wpE_drawTB 10 (by kernel_rfl) (by kernel_rfl) rfl (by kernel_rfl) ?_)
  simp only [List.take_succ_cons, List.take_zero, List.drop_succ_cons, List.drop_zero]
  refine hd_p tyT_ok rfl ?_
  refine hd_p tyT_ok rfl ?_
  refine hd_fe rfl (fun _ => runV_shr rfl rfl rfl (by omega)) (v' := .int .i64 (x / 2 ^ (32 - s))) (by rw [Int.toNat_natCast, Nat.min_eq_left (show 32 - s ≤ IntKind.i64.bits by show _ ≤ 64; omega)]) ?_
  refine hd_p tyT_ok rfl ?_
  refine hd_p tyT_ok rfl ?_
  refine hd_pe tyT_ok rfl (v' := .int .i64 (s : Int)) (wrapv (by omega) (by omega)) ?_
  refine hd_fe rfl (fun _ => runV_shl rfl rfl rfl (by omega)) (v' := .int .i64 (IntKind.i64.wrap (x * 2 ^ s))) (by rw [Int.toNat_natCast, Nat.min_eq_left (show s ≤ IntKind.i64.bits by show _ ≤ 64; omega)]) ?_
  refine hd_p tyT_ok rfl ?_
  refine hd_pe tyT_ok rfl (v' := .int .i64 (rl x s)) (congrArg (Value.int .i64) (turn_rl hx s hs)) ?_
  refine hd_p tyT_ok rfl ?_
  refine hd_nil (tl_nil ?_)
  exact wpE_ret (bodyQ_one (fn := Tryd.f59) rfl rfl ⟨rfl, Know.le_refl _⟩)

theorem name59 : (Tryd.f59.name == "runtime.NumGoroutine") = false := by kernel_rfl
/-- Words as whole numbers. -/
def Z (l : List Int) : Array Value := (l.map (Value.int .i64)).toArray
theorem Z_get {l : List Int} {i : Nat} (hi : i < l.length) : (Z l)[i]? = some (.int .i64 (at0 l i)) := by simp [Z, at0, hi]
theorem Z_set (l : List Int) (i : Nat) (x : Int) : (Z l).setIfInBounds i (.int .i64 x) = Z (l.set i x) := by simp [Z]
theorem Z_size (l : List Int) : (Z l).size = l.length := by simp [Z]
theorem ti65 : Tryd.prog.underlying 65 = some (.slice 3) := by kernel_rfl

/-- A slice of whole numbers that may be read. -/
def SlZ (h : Know) (b cap : Nat) (xs : List Int) : Prop := ∃ mu ty fr, h b = some (mu, .cells (Z xs) ty fr)

theorem wrapB {x : Int} (h : Byt x) : Value.int .i64 (IntKind.i64.wrap x) = Value.int .i64 x := by unfold Byt at h; rw [wrapi _ (by omega) (by omega)]

set_option maxRecDepth 100000 in
theorem chunk_fill {main : Bool} (h : Know) (v0 v2 : Value) (S off cap rW : Nat) (bs : List Int) (E : Env) (hB : BytL bs) (hS : Bytes64 h S off bs) (hr : h rW = none)
    (e0 : E.look 0 = some v0) (e1 : E.look 1 = some (.slice (some ⟨S, off, none⟩) 64 cap)) (e2 : E.look 2 = some v2) (e7 : E.look 7 = some (.slice (some ⟨rW, 0, none⟩) 64 64)) (e8 : E.look 8 = some (.int .i64 0)) :
    wpE Tryd.prog main 243 (seqR (seqL (seqR (seqR (bodyOf Tryd.f34))))) (NormalLe [] [(7, .slice (some ⟨rW, 0, none⟩) 64 64), (2, v2), (0, v0)] (h.upd rW (true, .cells (Z (fillW bs 16)) 3 (0, 0)))) [] E (h.upd rW (true, .cells (Z (fillW bs 0)) 3 (0, 0))) := by
  refine wpE_block (wpE_loopJ (fun m E hh => ∃ k : Nat, m = 16 - k ∧ k ≤ 16 ∧ E = [(8, .int .i64 k), (7, .slice (some ⟨rW, 0, none⟩) 64 64), (2, v2), (1, .slice (some ⟨S, off, none⟩) 64 cap), (0, v0)] ∧
    hh = h.upd rW (true, .cells (Z (fillW bs k)) 3 (0, 0))) (Env.le_cons e8 (Env.le_cons e7 (Env.le_cons e2 (Env.le_cons e1 (Env.le_cons e0 (Env.le_nil _)))))) (Know.le_refl _) ⟨0, rfl, by omega, rfl, rfl⟩ ?_)
  rintro m E' hh ⟨k, rfl, hk, rfl, rfl⟩
  obtain ⟨mu, c, ty, fr, hSb, hc⟩ := hS
  have hSW : (h.upd rW (true, .cells (Z (fillW bs k)) 3 (0, 0))) S = some (mu, .cells c ty fr) := by rw [Know.upd_ne _ _ (ne_fresh hSb hr)]; exact hSb
  have hWb : (h.upd rW (true, .cells (Z (fillW bs k)) 3 (0, 0))) rW = some (true, .cells (Z (fillW bs k)) 3 (0, 0)) := Know.upd_same _ _ _
  by_cases hlt : k < 16
  · refine wpE_seq (wpE_seq (wpE_region ?_))
    refine op_p tyT_ok rfl ?_
    refine op_pe tyT_ok rfl (congrArg Value.bool (decide_eq_true (show ((k : Nat) : Int) < 16 by omega))) ?_
    refine opsE_nil (wpE_true rfl (wpE_skip ?_))
    refine wpE_seq (wpE_block (wpE_drawTB 35 (by kernel_rfl) (by kernel_rfl) rfl (by kernel_rfl) ?_))
    simp only [List.take_succ_cons, List.take_zero, List.drop_succ_cons, List.drop_zero]
    refine hd_p tyT_ok rfl ?_
    refine hd_p tyT_ok rfl ?_
    refine hd_p tyT_ok rfl ?_
    refine hd_p tyT_ok rfl ?_
    refine hd_pe tyT_ok rfl (v' := .int .i64 ((4 * k : Nat) : Int)) (wrapv (by omega) (by omega)) ?_
    refine hd_re rfl rfl (runV_indexAddr_slice rfl ti64u8 ti5 rfl rfl (by omega) (by omega)) (v' := .pointer (some ⟨S, off + (4 * k), none⟩)) (by rw [Int.toNat_natCast, Nat.mul_one]) ?_
    refine hd_r rfl rfl (runV_load rfl rfl Tryd.underlying5 rfl hSW (hc (4 * k) (by omega))) ?_
    refine hd_pe tyT_ok rfl (v' := .int .i64 (at0 bs (4 * k))) (wrapB (hB.at _)) ?_
    refine hd_fe rfl (fun _ => runV_shl rfl rfl rfl (by decide)) (v' := .int .i64 (IntKind.i64.wrap (at0 bs (4 * k) * 2 ^ 24))) rfl ?_
    refine hd_p tyT_ok rfl ?_
    refine hd_p tyT_ok rfl ?_
    refine hd_pe tyT_ok rfl (v' := .int .i64 ((4 * k : Nat) : Int)) (wrapv (by omega) (by omega)) ?_
    refine hd_pe tyT_ok rfl (v' := .int .i64 ((4 * k + 1 : Nat) : Int)) (wrapv (by omega) (by omega)) ?_
    refine hd_re rfl rfl (runV_indexAddr_slice rfl ti64u8 ti5 rfl rfl (by omega) (by omega)) (v' := .pointer (some ⟨S, off + (4 * k + 1), none⟩)) (by rw [Int.toNat_natCast, Nat.mul_one]) ?_
    refine hd_r rfl rfl (runV_load rfl rfl Tryd.underlying5 rfl hSW (hc (4 * k + 1) (by omega))) ?_
    refine hd_pe tyT_ok rfl (v' := .int .i64 (at0 bs (4 * k + 1))) (wrapB (hB.at _)) ?_
    refine hd_fe rfl (fun _ => runV_shl rfl rfl rfl (by decide)) (v' := .int .i64 (IntKind.i64.wrap (at0 bs (4 * k + 1) * 2 ^ 16))) rfl ?_
    refine hd_p tyT_ok rfl ?_
    refine hd_p tyT_ok rfl ?_
    refine hd_p tyT_ok rfl ?_
    refine hd_pe tyT_ok rfl (v' := .int .i64 ((4 * k : Nat) : Int)) (wrapv (by omega) (by omega)) ?_
    refine hd_pe tyT_ok rfl (v' := .int .i64 ((4 * k + 2 : Nat) : Int)) (wrapv (by omega) (by omega)) ?_
    refine hd_re rfl rfl (runV_indexAddr_slice rfl ti64u8 ti5 rfl rfl (by omega) (by omega)) (v' := .pointer (some ⟨S, off + (4 * k + 2), none⟩)) (by rw [Int.toNat_natCast, Nat.mul_one]) ?_
    refine hd_r rfl rfl (runV_load rfl rfl Tryd.underlying5 rfl hSW (hc (4 * k + 2) (by omega))) ?_
    refine hd_pe tyT_ok rfl (v' := .int .i64 (at0 bs (4 * k + 2))) (wrapB (hB.at _)) ?_
    refine hd_fe rfl (fun _ => runV_shl rfl rfl rfl (by decide)) (v' := .int .i64 (IntKind.i64.wrap (at0 bs (4 * k + 2) * 2 ^ 8))) rfl ?_
    refine hd_p tyT_ok rfl ?_
    refine hd_p tyT_ok rfl ?_
    refine hd_p tyT_ok rfl ?_
    refine hd_pe tyT_ok rfl (v' := .int .i64 ((4 * k : Nat) : Int)) (wrapv (by omega) (by omega)) ?_
    refine hd_pe tyT_ok rfl (v' := .int .i64 ((4 * k + 3 : Nat) : Int)) (wrapv (by omega) (by omega)) ?_
    refine hd_re rfl rfl (runV_indexAddr_slice rfl ti64u8 ti5 rfl rfl (by omega) (by omega)) (v' := .pointer (some ⟨S, off + (4 * k + 3), none⟩)) (by rw [Int.toNat_natCast, Nat.mul_one]) ?_
    refine hd_r rfl rfl (runV_load rfl rfl Tryd.underlying5 rfl hSW (hc (4 * k + 3) (by omega))) ?_
    refine hd_pe tyT_ok rfl (v' := .int .i64 (at0 bs (4 * k + 3))) (wrapB (hB.at _)) ?_
    refine hd_pe tyT_ok rfl (v' := .int .i64 (be4 (at0 bs (4 * k)) (at0 bs (4 * k + 1)) (at0 bs (4 * k + 2)) (at0 bs (4 * k + 3)))) (congrArg (Value.int .i64) (be4_i (hB.at _) (hB.at _) (hB.at _) (hB.at _))) ?_
    refine hd_nil ?_
    refine tl_re rfl (runV_indexAddr_slice rfl ti65 ti3 rfl rfl (by omega) (by omega)) (v' := .pointer (some ⟨rW, k, none⟩)) (by rw [Int.toNat_natCast, Nat.mul_one, Nat.zero_add]) ?_
    refine tl_store rfl rfl rfl ti3 hWb (by rw [Z_size, fillW_length]; omega) (by simp) (h' := h.upd rW (true, .cells (Z (fillW bs (k + 1))) 3 (0, 0))) (by rw [upd_upd, Z_set]; rfl) ?_
    refine tl_nil (wpE_region ?_)
    refine op_p tyT_ok rfl ?_
    refine op_pe tyT_ok rfl (v' := .int .i64 ((k + 1 : Nat) : Int)) (wrapv (by omega) (by omega)) ?_
    refine op_p tyT_ok rfl ?_
    refine opsE_nil ⟨rfl, 16 - (k + 1), _, _, by omega, Env.le_cons rfl (Env.le_cons rfl (Env.le_cons rfl (Env.le_cons rfl (Env.le_cons rfl (Env.le_nil _))))), Know.le_refl _, k + 1, rfl, by omega, rfl, rfl⟩
  · have : k = 16 := by omega
    subst this
    refine wpE_seq (wpE_seq (wpE_region ?_))
    refine op_p tyT_ok rfl ?_
    refine op_p tyT_ok rfl ?_
    refine opsE_nil (wpE_false rfl (wpE_exit ?_))
    repeat refine thenQ_exit ?_
    exact blockQ_exit (normalLe (Env.le_cons rfl (Env.le_cons rfl (Env.le_cons rfl (Env.le_nil _)))) (Know.le_refl _))

set_option maxRecDepth 100000 in
theorem chunk_more {main : Bool} (h : Know) (v0 v2 : Value) (rW : Nat) (ws : List Int) (E : Env) (hwl : ws.length = 64) (hw : WdL ws)
    (e0 : E.look 0 = some v0) (e2 : E.look 2 = some v2) (e7 : E.look 7 = some (.slice (some ⟨rW, 0, none⟩) 64 64)) (e9 : E.look 9 = some (.int .i64 16)) :
    wpE Tryd.prog main 243 (seqR (seqL (seqR (seqR (seqR (bodyOf Tryd.f34)))))) (NormalLe [] [(7, .slice (some ⟨rW, 0, none⟩) 64 64), (2, v2), (0, v0)] (h.upd rW (true, .cells (Z (moreW ws 48)) 3 (0, 0)))) [] E (h.upd rW (true, .cells (Z (moreW ws 0)) 3 (0, 0))) := by
  refine wpE_block (wpE_loopJ (fun m E hh => ∃ k : Nat, m = 48 - k ∧ k ≤ 48 ∧ E = [(9, .int .i64 ((16 + k : Nat) : Int)), (7, .slice (some ⟨rW, 0, none⟩) 64 64), (2, v2), (0, v0)] ∧
    hh = h.upd rW (true, .cells (Z (moreW ws k)) 3 (0, 0))) (Env.le_cons e9 (Env.le_cons e7 (Env.le_cons e2 (Env.le_cons e0 (Env.le_nil _))))) (Know.le_refl _) ⟨0, rfl, by omega, rfl, rfl⟩ ?_)
  rintro m E' hh ⟨k, rfl, hk, rfl, rfl⟩
  have hl : (moreW ws k).length = 64 := by rw [moreW_length]; exact hwl
  have hp : WdL (moreW ws k) := moreW_wd hw k
  have hWb : (h.upd rW (true, .cells (Z (moreW ws k)) 3 (0, 0))) rW = some (true, .cells (Z (moreW ws k)) 3 (0, 0)) := Know.upd_same _ _ _
  by_cases hlt : k < 48
  · refine wpE_seq (wpE_seq (wpE_region ?_))
    refine op_p tyT_ok rfl ?_
    refine op_pe tyT_ok rfl (congrArg Value.bool (decide_eq_true (show ((16 + k : Nat) : Int) < 64 by omega))) ?_
    refine opsE_nil (wpE_true rfl (wpE_skip ?_))
    refine wpE_seq (wpE_block (wpE_seq (wpE_region ?_)))
    refine op_p tyT_ok rfl ?_
    refine op_p tyT_ok rfl ?_
    refine op_pe tyT_ok rfl (v' := .int .i64 ((16 + k - 15 : Nat) : Int)) (wrapv (by omega) (by omega)) ?_
    refine op_re rfl (runV_indexAddr_slice rfl ti65 ti3 rfl rfl (by omega) (by omega)) (v' := .pointer (some ⟨rW, 16 + k - 15, none⟩)) (by rw [Int.toNat_natCast, Nat.mul_one, Nat.zero_add]) ?_
    refine op_r rfl (runV_load rfl rfl Tryd.underlying3 rfl hWb (Z_get (l := (moreW ws k)) (i := 16 + k - 15) (by omega))) ?_
    refine op_p tyT_ok rfl ?_
    refine opsE_nil (wpE_seq (wpE_region ?_))
    refine op_p tyT_ok rfl ?_
    refine op_p tyT_ok rfl ?_
    refine op_pe tyT_ok rfl (v' := .int .i64 ((16 + k - 2 : Nat) : Int)) (wrapv (by omega) (by omega)) ?_
    refine op_re rfl (runV_indexAddr_slice rfl ti65 ti3 rfl rfl (by omega) (by omega)) (v' := .pointer (some ⟨rW, 16 + k - 2, none⟩)) (by rw [Int.toNat_natCast, Nat.mul_one, Nat.zero_add]) ?_
    refine op_r rfl (runV_load rfl rfl Tryd.underlying3 rfl hWb (Z_get (l := (moreW ws k)) (i := 16 + k - 2) (by omega))) ?_
    refine op_p tyT_ok rfl ?_
    refine opsE_nil (wpE_seq (wpE_region ?_))
    refine op_p tyT_ok rfl ?_
    refine op_call (fn := Tryd.f59) rfl rfl rfl name59 rfl rfl (turn_S _ 25 _ (hp.at (16 + k - 15)) (by decide)) (ends_le ?_)
    refine op_p tyT_ok rfl ?_
    refine op_call (fn := Tryd.f59) rfl rfl rfl name59 rfl rfl (turn_S _ 14 _ (hp.at (16 + k - 15)) (by decide)) (ends_le ?_)
    refine op_p tyT_ok rfl ?_
    refine op_p tyT_ok rfl ?_
    refine op_re rfl (runV_shr rfl rfl rfl (by decide)) (v' := .int .i64 ((at0 (moreW ws k) (16 + k - 15)) / 2 ^ 3)) rfl ?_
    refine op_pe tyT_ok rfl (v' := .int .i64 (sg0 (at0 (moreW ws k) (16 + k - 15)))) (congrArg (Value.int .i64) (sg0_i (hp.at _))) ?_
    refine op_p tyT_ok rfl ?_
    refine opsE_nil (wpE_seq (wpE_region ?_))
    refine op_p tyT_ok rfl ?_
    refine op_call (fn := Tryd.f59) rfl rfl rfl name59 rfl rfl (turn_S _ 15 _ (hp.at (16 + k - 2)) (by decide)) (ends_le ?_)
    refine op_p tyT_ok rfl ?_
    refine op_call (fn := Tryd.f59) rfl rfl rfl name59 rfl rfl (turn_S _ 13 _ (hp.at (16 + k - 2)) (by decide)) (ends_le ?_)
    refine op_p tyT_ok rfl ?_
    refine op_p tyT_ok rfl ?_
    refine op_re rfl (runV_shr rfl rfl rfl (by decide)) (v' := .int .i64 ((at0 (moreW ws k) (16 + k - 2)) / 2 ^ 10)) rfl ?_
    refine op_pe tyT_ok rfl (v' := .int .i64 (sg1 (at0 (moreW ws k) (16 + k - 2)))) (congrArg (Value.int .i64) (sg1_i (hp.at _))) ?_
    refine op_p tyT_ok rfl ?_
    refine opsE_nil (wpE_drawTB 18 (by kernel_rfl) (by kernel_rfl) rfl (by kernel_rfl) ?_)
    simp only [List.take_succ_cons, List.take_zero, List.drop_succ_cons, List.drop_zero]
    refine hd_p tyT_ok rfl ?_
    refine hd_p tyT_ok rfl ?_
    refine hd_p tyT_ok rfl ?_
    refine hd_p tyT_ok rfl ?_
    refine hd_pe tyT_ok rfl (v' := .int .i64 ((16 + k - 16 : Nat) : Int)) (wrapv (by omega) (by omega)) ?_
    refine hd_re rfl rfl (runV_indexAddr_slice rfl ti65 ti3 rfl rfl (by omega) (by omega)) (v' := .pointer (some ⟨rW, 16 + k - 16, none⟩)) (by rw [Int.toNat_natCast, Nat.mul_one, Nat.zero_add]) ?_
    refine hd_r rfl rfl (runV_load rfl rfl Tryd.underlying3 rfl hWb (Z_get (l := (moreW ws k)) (i := 16 + k - 16) (by omega))) ?_
    refine hd_p tyT_ok rfl ?_
    refine hd_p tyT_ok rfl ?_
    refine hd_p tyT_ok rfl ?_
    refine hd_p tyT_ok rfl ?_
    refine hd_pe tyT_ok rfl (v' := .int .i64 ((16 + k - 7 : Nat) : Int)) (wrapv (by omega) (by omega)) ?_
    refine hd_re rfl rfl (runV_indexAddr_slice rfl ti65 ti3 rfl rfl (by omega) (by omega)) (v' := .pointer (some ⟨rW, 16 + k - 7, none⟩)) (by rw [Int.toNat_natCast, Nat.mul_one, Nat.zero_add]) ?_
    refine hd_r rfl rfl (runV_load rfl rfl Tryd.underlying3 rfl hWb (Z_get (l := (moreW ws k)) (i := 16 + k - 7) (by omega))) ?_
    refine hd_p tyT_ok rfl ?_
    refine hd_p tyT_ok rfl ?_
    refine hd_p tyT_ok rfl ?_
    refine hd_pe tyT_ok rfl (v' := .int .i64 (nextW (moreW ws k) (16 + k))) (congrArg (Value.int .i64) (next_i hp (16 + k))) ?_
    refine hd_nil ?_
    refine tl_re rfl (runV_indexAddr_slice rfl ti65 ti3 rfl rfl (by omega) (by omega)) (v' := .pointer (some ⟨rW, 16 + k, none⟩)) (by rw [Int.toNat_natCast, Nat.mul_one, Nat.zero_add]) ?_
    refine tl_store rfl rfl rfl ti3 hWb (by rw [Z_size, hl]; omega) (by simp) (h' := h.upd rW (true, .cells (Z (moreW ws (k + 1))) 3 (0, 0))) (by rw [upd_upd, Z_set]; rfl) ?_
    refine tl_nil (wpE_region ?_)
    refine op_p tyT_ok rfl ?_
    refine op_pe tyT_ok rfl (v' := .int .i64 ((16 + (k + 1) : Nat) : Int)) (wrapv (by omega) (by omega)) ?_
    refine op_p tyT_ok rfl ?_
    refine opsE_nil ⟨rfl, 48 - (k + 1), _, _, by omega, Env.le_cons rfl (Env.le_cons rfl (Env.le_cons rfl (Env.le_cons rfl (Env.le_nil _)))), Know.le_refl _, k + 1, rfl, by omega, rfl, rfl⟩
  · have : k = 48 := by omega
    subst this
    refine wpE_seq (wpE_seq (wpE_region ?_))
    refine op_p tyT_ok rfl ?_
    refine op_p tyT_ok rfl ?_
    refine opsE_nil (wpE_false rfl (wpE_exit ?_))
    repeat refine thenQ_exit ?_
    exact blockQ_exit (normalLe (Env.le_cons rfl (Env.le_cons rfl (Env.le_cons rfl (Env.le_nil _)))) (Know.le_refl _))

end Go.Proofs.YtlmecmapkijcnaaDoor
