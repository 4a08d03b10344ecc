/- A text's digest as a text: the program's. -/
import Derived.Test.YtlmecmapkijcnaaDoorShaH
set_option linter.unusedVariables false
namespace Go.Proofs.YtlmecmapkijcnaaDoor
open KL

def outL (hs : List Int) : Nat → List Int
  | 0 => []
  | n + 1 => outL hs n ++ four (at0 hs n)
theorem outL_length (hs : List Int) (n : Nat) : (outL hs n).length = 4 * n := by
  induction n with
  | zero => rfl
  | succ n ih => simp only [outL, List.length_append, ih, four, List.length_cons, List.length_nil]; omega
theorem splice_mid : ∀ (l xs ys : List Value), l.length ≤ ys.length → splice (xs ++ ys).toArray xs.length l = (xs ++ l ++ ys.drop l.length).toArray := by
  intro l
  induction l with
  | nil => intro xs ys _; simp [splice]
  | cons v l ih =>
    intro xs ys h
    cases ys with
    | nil => simp at h
    | cons y ys =>
      simp only [splice]
      have e : (xs ++ y :: ys).toArray.setIfInBounds xs.length v = ((xs ++ [v]) ++ ys).toArray := by
        apply Array.ext'; simp
      have e2 : xs.length + 1 = (xs ++ [v]).length := by simp
      rw [e, e2, ih _ _ (by simpa using h)]
      simp
theorem outC_eq (hs : List Int) : ∀ n, n ≤ 8 → outC hs n = (B (outL hs n ++ List.replicate (32 - 4 * n) 0)).toArray := by
  intro n
  induction n with
  | zero => intro _; simp [outC, outL]
  | succ n ih =>
    intro hn
    simp only [outC]
    rw [ih (by omega), B_append]
    have hl4 : (B (four (at0 hs n))).length = 4 := rfl
    have := splice_mid (B (four (at0 hs n))) (B (outL hs n)) (B (List.replicate (32 - 4 * n) 0)) (by rw [hl4, B_length, List.length_replicate]; omega)
    rw [B_length, outL_length, hl4] at this
    rw [this]
    congr 1
    simp only [outL, B_append]
    congr 1
    have e : 32 - 4 * n - 4 = 32 - 4 * (n + 1) := by omega
    simp [B, e]
theorem outC_full (hs : List Int) : outC hs 8 = (B (outL hs 8)).toArray := by rw [outC_eq _ _ (Nat.le_refl 8)]; simp

/-- Bytes as a text. -/
def strOf (bs : List Int) : ByteArray := ⟨(bs.map fun i => UInt8.ofNat i.toNat).toArray⟩
theorem und9 : Tryd.prog.underlying 9 = some .string := by kernel_rfl
theorem und5 : Tryd.prog.underlying 5 = some (.int .u8) := by kernel_rfl
theorem name58 : (Tryd.f58.name == "runtime.NumGoroutine") = false := by kernel_rfl
theorem name57 : (Tryd.f57.name == "runtime.NumGoroutine") = false := by kernel_rfl
theorem name32 : (Tryd.f32.name == "runtime.NumGoroutine") = false := by kernel_rfl
theorem name33 : (Tryd.f33.name == "runtime.NumGoroutine") = false := by kernel_rfl
theorem name34 : (Tryd.f34.name == "runtime.NumGoroutine") = false := by kernel_rfl

set_option maxRecDepth 100000 in
theorem text_S {main : Bool} (h : Know) (c : Array Value) (bs : List Int) (hc : c = (B bs).toArray) (hl : bs.length = 32) : CallS Tryd.prog main 58 [Value.agg c].toArray h (RetLe (.string (strOf bs)) h) := by
  refine callS_of_wpE Tryd.func58 rfl (by show 1 ≤ 5; decide) ?_
  refine wpE_seq (wpE_region (op_n rfl (runN_box rfl rfl) fun r hr => op_p tyT_ok rfl (opsE_nil ?_)))
  refine wpE_seq (wpE_region ?_)
  have hcs : c.size = 32 := by rw [hc]; simp [hl]
  refine op_re rfl (runV_slice_array rfl und106 ti5 rfl (hh := 32) (l := 0) rfl rfl (by decide)) (v' := .slice (some ⟨r, 0, none⟩) 32 32) rfl ?_
  refine op_r rfl (runV_text (dd := .string) (bs := bs) (c := c) rfl rfl ti64u8 und9 und5 (Know.upd_same _ _ _) (by rw [hcs]; exact Nat.le_refl _) ?_) ?_
  · have e : 0 + 32 = c.size := by rw [hcs]
    rw [e, Array.extract_size, hc]; rfl
  refine op_p tyT_ok rfl ?_
  refine opsE_nil (wpE_ret (bodyQ_one (fn := Tryd.f58) rfl rfl ⟨rfl, le_fresh _ hr⟩))

def stateOf (K hs bs : List Int) : List Int := chain K ((padded bs).length / 64) hs (padded bs)
set_option maxRecDepth 100000 in
theorem hash_S {main : Bool} (h : Know) (s : ByteArray) (K hs : List Int) (m0 mk : Bool) (t0 tk : TypeId) (f0 fk : Nat × Nat) (h0 : h 0 = some (m0, .cells (U hs) t0 f0)) (hK : h 2 = some (mk, .cells (U K) tk fk)) (hKl : K.length = 64) (hhs : hs.length = 8)
    (hlen : s.size ≤ 2 ^ 40) : CallS Tryd.prog main 32 [Value.string s].toArray h (RetLe (.string (strOf (outL (stateOf K hs (ints s)) 8))) h) := by
  refine callS_of_wpE Tryd.func32 rfl (by show 1 ≤ 6; decide) ?_
  refine wpE_seq (wpE_region (op_p tyT_ok rfl (opsE_nil ?_)))
  refine wpE_seq (wpE_region ?_)
  refine op_p tyT_ok rfl ?_
  refine op_call (fn := Tryd.f57) rfl rfl rfl name57 rfl rfl (of_S h s K hs m0 mk t0 tk f0 fk h0 hK hKl hhs hlen) (ends_le ?_)
  refine op_call (fn := Tryd.f58) rfl rfl rfl name58 rfl rfl (text_S h (digest K hs (ints s)) (outL (stateOf K hs (ints s)) 8) (outC_full _) (outL_length _ _)) (ends_le ?_)
  refine op_p tyT_ok rfl ?_
  exact opsE_nil (wpE_ret (bodyQ_one (fn := Tryd.f32) rfl rfl ⟨rfl, Know.le_refl _⟩))
set_option maxRecDepth 100000 in
theorem plainHash_S {main : Bool} (h : Know) (s : ByteArray) (K hs : List Int) (m0 mk : Bool) (t0 tk : TypeId) (f0 fk : Nat × Nat) (h0 : h 0 = some (m0, .cells (U hs) t0 f0)) (hK : h 2 = some (mk, .cells (U K) tk fk)) (hKl : K.length = 64) (hhs : hs.length = 8)
    (hlen : s.size ≤ 2 ^ 40) : CallS Tryd.prog main 11 [Value.string s].toArray h (RetLe (.string (strOf (outL (stateOf K hs (ints s)) 8))) h) := by
  refine callS_of_wpE Tryd.func11 rfl (by show 1 ≤ 5; decide) ?_
  refine wpE_seq (wpE_region (op_p tyT_ok rfl (opsE_nil ?_)))
  refine wpE_seq (wpE_region ?_)
  refine op_p tyT_ok rfl ?_
  refine op_call (fn := Tryd.f32) rfl rfl rfl name32 rfl rfl (hash_S h s K hs m0 mk t0 tk f0 fk h0 hK hKl hhs hlen) (ends_le ?_)
  refine op_p tyT_ok rfl ?_
  exact opsE_nil (wpE_ret (bodyQ_one (fn := Tryd.f11) rfl rfl ⟨rfl, Know.le_refl _⟩))

end Go.Proofs.YtlmecmapkijcnaaDoor
