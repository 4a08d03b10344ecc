/- SHA-256 as the program does it: the turn of a word. SHA-256 as the program does it: a block of 64 bytes. SHA-256 as the program does it: the words of a block, on. -/
import Derived.Test.YtlmecmapkijcnaaDoorProg
import Derived.Test.YtlmecmapkijcnaaDoorR02
set_option linter.unusedVariables false
namespace Go.Proofs.YtlmecmapkijcnaaDoor
open KL

def tyT : Types := [(3, .int .i64), (124, .int .u32), (68, .int .u64), (5, .int .u8), (123, .int .u64), (9, .string), (64, .slice 5)]
theorem tyT_ok : tyT.ok Tryd.prog :=
  Types.ok_cons Tryd.underlying3 (Types.ok_cons Tryd.underlying124 (Types.ok_cons Tryd.underlying68 (Types.ok_cons Tryd.underlying5 (Types.ok_cons Tryd.underlying123 (Types.ok_cons Tryd.underlying9 (Types.ok_cons Tryd.underlying64 (Types.ok_nil _)))))))

/-- A word turned to the left. -/
def rl (x : Int) (s : Nat) : Int := bits .or .u32 (IntKind.u32.wrap (x * 2 ^ s)) (x / 2 ^ (32 - s))

theorem rotl_S {A : Acts} [Priv A] {main : Bool} (x k : Int) (s : Nat) (h : Know) (hk : bits .and .u64 (IntKind.u64.wrap k) 31 = (s : Int)) (hs : s < 32) :
    CallS A Tryd.prog main 101 #[.int .u32 x, .int .i64 k] h (RetLe (.int .u32 (rl x s)) h) := by
  refine callS_of_wpE (args := [.int .u32 x, .int .i64 k]) Tryd.func101 rfl (by show 2 ≤ 17; decide) ?_
  refine wpE_seq (wpE_region (op_p tyT_ok rfl (opsE_nil ?_)))
  refine wpE_seq (wpE_region (op_p tyT_ok rfl (op_p tyT_ok rfl (op_pe tyT_ok rfl (congrArg (Value.int .u64) hk) (op_p tyT_ok rfl (opsE_nil ?_))))))
  refine wpE_seq (wpE_region (op_p tyT_ok rfl (op_p tyT_ok rfl (op_r rfl (runV_shl rfl rfl rfl (by omega)) (op_p tyT_ok rfl (op_p tyT_ok rfl
    (op_pe tyT_ok rfl (congrArg (Value.int .u64) (?_ : IntKind.u64.wrap (32 - (s : Int)) = ((32 - s : Nat) : Int))) (op_r rfl (runV_shr rfl rfl rfl (by omega)) (op_p tyT_ok rfl (op_p tyT_ok rfl (opsE_nil ?_)))))))))))
  · rw [show IntKind.u64.wrap (32 - (s : Int)) = (32 - (s : Int)) % 18446744073709551616 by simp [IntKind.wrap, IntKind.bits, IntKind.signed]]; omega
  refine wpE_ret (bodyQ_one (fn := Tryd.f101) rfl rfl ⟨?_, Know.le_refl _⟩)
  have h1 : min ((s : Int)).toNat IntKind.u32.bits = s := by show min _ 32 = s; simp; omega
  have h2 : min (((32 - s : Nat) : Int)).toNat IntKind.u32.bits = 32 - s := by show min _ 32 = _; simp
  rw [h1, h2]; rfl

end Go.Proofs.YtlmecmapkijcnaaDoor

set_option linter.unusedVariables false
namespace Go.Proofs.YtlmecmapkijcnaaDoor
open KL

def w32 (x : Int) : Int := IntKind.u32.wrap x
/-- The word that four bytes are. -/
def be4 (a b c d : Int) : Int := bits .or .u32 (bits .or .u32 (bits .or .u32 (w32 (w32 a * 2 ^ 24)) (w32 (w32 b * 2 ^ 16))) (w32 (w32 c * 2 ^ 8))) (w32 d)
def at0 (l : List Int) (i : Nat) : Int := l.getD i 0
/-- The first n words of a block, laid into an array of noughts. -/
def fillW (bs : List Int) : Nat → List Int
  | 0 => List.replicate 64 0
  | n + 1 => (fillW bs n).set n (be4 (at0 bs (4 * n)) (at0 bs (4 * n + 1)) (at0 bs (4 * n + 2)) (at0 bs (4 * n + 3)))
def sg0 (x : Int) : Int := bits .xor .u32 (bits .xor .u32 (rl x 25) (rl x 14)) (x / 2 ^ 3)
def sg1 (x : Int) : Int := bits .xor .u32 (bits .xor .u32 (rl x 15) (rl x 13)) (x / 2 ^ 10)
def nextW (p : List Int) (i : Nat) : Int := w32 (w32 (w32 (at0 p (i - 16) + sg0 (at0 p (i - 15))) + at0 p (i - 7)) + sg1 (at0 p (i - 2)))
/-- n words more, from place 16 on. -/
def moreW (ws : List Int) : Nat → List Int
  | 0 => ws
  | n + 1 => (moreW ws n).set (16 + n) (nextW (moreW ws n) (16 + n))
def bs0 (x : Int) : Int := bits .xor .u32 (bits .xor .u32 (rl x 30) (rl x 19)) (rl x 10)
def bs1 (x : Int) : Int := bits .xor .u32 (bits .xor .u32 (rl x 26) (rl x 21)) (rl x 7)
def chW (e f g : Int) : Int := bits .xor .u32 (bits .and .u32 e f) (bits .and .u32 (bits .xor .u32 (if IntKind.u32.signed then -1 else IntKind.u32.max) e) g)
def majW (a b c : Int) : Int := bits .xor .u32 (bits .xor .u32 (bits .and .u32 a b) (bits .and .u32 a c)) (bits .and .u32 b c)
def tR (k w : Int) (v : List Int) : Int := w32 (w32 (w32 (w32 (at0 v 7 + bs1 (at0 v 4)) + chW (at0 v 4) (at0 v 5) (at0 v 6)) + k) + w)
def uR (v : List Int) : Int := w32 (bs0 (at0 v 0) + majW (at0 v 0) (at0 v 1) (at0 v 2))
/-- One round, by a constant and a word. -/
def rnd (k w : Int) (v : List Int) : List Int := [w32 (tR k w v + uR v), at0 v 0, at0 v 1, at0 v 2, w32 (at0 v 3 + tR k w v), at0 v 4, at0 v 5, at0 v 6]
def rnds (K ws v : List Int) : Nat → List Int
  | 0 => v
  | n + 1 => rnd (at0 K n) (at0 ws n) (rnds K ws v n)
/-- The first n words of v are added. -/
def addW (hs v : List Int) : Nat → List Int
  | 0 => hs
  | n + 1 => (addW hs v n).set n (w32 (at0 (addW hs v n) n + at0 v n))
def compress (K hs bs : List Int) : List Int := addW hs (rnds K (moreW (fillW bs 16) 48) hs 64) 8

theorem fillW_length (bs : List Int) (n : Nat) : (fillW bs n).length = 64 := by induction n <;> simp_all [fillW]
theorem moreW_length (ws : List Int) (n : Nat) : (moreW ws n).length = ws.length := by induction n <;> simp_all [moreW]
theorem rnds_length (K ws v : List Int) (n : Nat) (hv : v.length = 8) : (rnds K ws v n).length = 8 := by cases n <;> simp_all [rnds, rnd]
theorem addW_length (hs v : List Int) (n : Nat) : (addW hs v n).length = hs.length := by induction n <;> simp_all [addW]

/-- Words as cells; bytes as cells. -/
def U (l : List Int) : Array Value := (l.map (Value.int .u32)).toArray
theorem U_get {l : List Int} {i : Nat} (hi : i < l.length) : (U l)[i]? = some (.int .u32 (at0 l i)) := by simp [U, at0, hi]
theorem U_set (l : List Int) (i : Nat) (x : Int) : (U l).setIfInBounds i (.int .u32 x) = U (l.set i x) := by simp [U]
theorem U_size (l : List Int) : (U l).size = l.length := by simp [U]
theorem wrapi (x : Int) (h0 : 0 ≤ x) (h1 : x < 9223372036854775808) : IntKind.i64.wrap x = x := by
  rw [IntKind.wrap_i64]; omega
theorem wrapv {x : Int} {n : Nat} (e : x = (n : Int)) (hb : n < 9223372036854775808) : Value.int .i64 (IntKind.i64.wrap x) = Value.int .i64 (n : Int) := by
  rw [e, wrapi _ (by omega) (by omega)]
theorem natInt {a b : Nat} (h : a = b) : (Value.int .i64 ((a : Nat) : Int)) = Value.int .i64 ((b : Nat) : Int) := by rw [h]
theorem ne_fresh {h : Know} {b r : Nat} {x : Bool × Obj} (e : h b = some x) (hr : h r = none) : b ≠ r := fun e' => by subst e'; rw [hr] at e; cases e

theorem ti3 : TI Tryd.prog 3 (.int .i64 0) 1 8 := by unfold TI; kernel_rfl
theorem ti5 : TI Tryd.prog 5 (.int .u8 0) 1 1 := by unfold TI; kernel_rfl
theorem ti124 : TI Tryd.prog 124 (.int .u32 0) 1 4 := by unfold TI; kernel_rfl
theorem ti126 : TI Tryd.prog 126 (.agg (U (List.replicate 8 0))) 8 32 := by unfold TI; kernel_rfl
theorem ti171 : TI Tryd.prog 171 (.agg (U (List.replicate 64 0))) 64 256 := by unfold TI; kernel_rfl

/-- Sixty-four bytes that may be read. -/
def Bytes64 (h : Know) (S off : Nat) (bs : List Int) : Prop := ∃ mu c ty fr, h S = some (mu, .cells c ty fr) ∧ ∀ j, j < 64 → c[off + j]? = some (.int .u8 (at0 bs j))

set_option maxRecDepth 100000 in
theorem block_fill {A : Acts} [Priv A] {main : Bool} (h : Know) (H S off cap rW : Nat) (bs : List Int) (E : Env) (hS : Bytes64 h S off bs) (hr : h rW = none)
    (e0 : E.look 0 = some (.pointer (some ⟨H, 0, none⟩))) (e1 : E.look 1 = some (.slice (some ⟨S, off, none⟩) 64 cap)) (e4 : E.look 4 = some (.pointer (some ⟨rW, 0, none⟩))) (e16 : E.look 16 = some (.int .i64 0)) :
    wpE A Tryd.prog main 196 (seqR (seqL (seqR (bodyOf Tryd.f72)))) (NormalLe [] [(4, .pointer (some ⟨rW, 0, none⟩)), (0, .pointer (some ⟨H, 0, none⟩))] (h.upd rW (true, .cells (U (fillW bs 16)) 171 (0, 0)))) [] E (h.upd rW (true, .cells (U (fillW bs 0)) 171 (0, 0))) := by
  refine wpE_block (wpE_loopJ (fun m E hh => ∃ k : Nat, m = 16 - k ∧ k ≤ 16 ∧ E = [(16, .int .i64 k), (4, .pointer (some ⟨rW, 0, none⟩)), (1, .slice (some ⟨S, off, none⟩) 64 cap), (0, .pointer (some ⟨H, 0, none⟩))] ∧
    hh = h.upd rW (true, .cells (U (fillW bs k)) 171 (0, 0))) (Env.le_cons e16 (Env.le_cons e4 (Env.le_cons e1 (Env.le_cons e0 (Env.le_nil _))))) (Know.le_refl _) ⟨0, rfl, by omega, rfl, rfl⟩ ?_)
  rintro m E' hh ⟨k, rfl, hk, rfl, rfl⟩
  obtain ⟨mu, c, ty, fr, hSb, hc⟩ := hS
  have hne : S ≠ rW := ne_fresh hSb hr
  have hS' : ∀ x, (h.upd rW x) S = some (mu, .cells c ty fr) := fun x => by rw [Know.upd_ne _ _ hne]; exact hSb
  have hWl := fillW_length bs k
  by_cases hlt : k < 16
  · refine wpE_seq (wpE_region ?_)
    refine op_pe tyT_ok rfl (congrArg Value.bool (decide_eq_true (show (k : Int) < 16 by omega))) ?_
    refine opsE_nil (wpE_seq (wpE_true rfl (wpE_skip ?_)))
    refine wpE_seq (wpE_block (wpE_seq (wpE_region ?_)))
    refine op_p tyT_ok rfl ?_
    refine op_p tyT_ok rfl ?_
    refine opsE_nil (wpE_drawB 35 (by kernel_rfl) (by kernel_rfl) rfl (by kernel_rfl) ?_)
    simp only [List.take_succ_cons, List.take_zero, List.drop_succ_cons, List.drop_zero]
    refine head_p tyT_ok rfl ?_
    refine head_p tyT_ok rfl ?_
    refine head_p tyT_ok rfl ?_
    refine head_pe tyT_ok rfl (v' := .int .i64 ((4 * k : Nat) : Int)) (wrapv (by omega) (by omega)) ?_
    refine head_re rfl (runV_indexAddr_slice rfl Tryd.underlying64 ti5 rfl rfl (by omega) (by omega)) (v' := .pointer (some ⟨S, off + (4 * k), none⟩)) (by rw [Int.toNat_natCast, Nat.mul_one]) ?_
    refine head_r rfl (runV_load rfl rfl Tryd.underlying5 rfl (hS' _) (hc _ (by omega))) ?_
    refine head_p tyT_ok rfl ?_
    refine head_re rfl (runV_shl rfl rfl rfl (by decide)) (v' := .int .u32 (w32 (w32 (at0 bs (4 * k)) * 2 ^ 24))) rfl ?_
    refine head_p tyT_ok rfl ?_
    refine head_p tyT_ok rfl ?_
    refine head_pe tyT_ok rfl (v' := .int .i64 ((4 * k : Nat) : Int)) (wrapv (by omega) (by omega)) ?_
    refine head_pe tyT_ok rfl (v' := .int .i64 ((4 * k + 1 : Nat) : Int)) (wrapv (by omega) (by omega)) ?_
    refine head_re rfl (runV_indexAddr_slice rfl Tryd.underlying64 ti5 rfl rfl (by omega) (by omega)) (v' := .pointer (some ⟨S, off + (4 * k + 1), none⟩)) (by rw [Int.toNat_natCast, Nat.mul_one]) ?_
    refine head_r rfl (runV_load rfl rfl Tryd.underlying5 rfl (hS' _) (hc _ (by omega))) ?_
    refine head_p tyT_ok rfl ?_
    refine head_re rfl (runV_shl rfl rfl rfl (by decide)) (v' := .int .u32 (w32 (w32 (at0 bs (4 * k + 1)) * 2 ^ 16))) rfl ?_
    refine head_p tyT_ok rfl ?_
    refine head_p tyT_ok rfl ?_
    refine head_p tyT_ok rfl ?_
    refine head_pe tyT_ok rfl (v' := .int .i64 ((4 * k : Nat) : Int)) (wrapv (by omega) (by omega)) ?_
    refine head_pe tyT_ok rfl (v' := .int .i64 ((4 * k + 2 : Nat) : Int)) (wrapv (by omega) (by omega)) ?_
    refine head_re rfl (runV_indexAddr_slice rfl Tryd.underlying64 ti5 rfl rfl (by omega) (by omega)) (v' := .pointer (some ⟨S, off + (4 * k + 2), none⟩)) (by rw [Int.toNat_natCast, Nat.mul_one]) ?_
    refine head_r rfl (runV_load rfl rfl Tryd.underlying5 rfl (hS' _) (hc _ (by omega))) ?_
    refine head_p tyT_ok rfl ?_
    refine head_re rfl (runV_shl rfl rfl rfl (by decide)) (v' := .int .u32 (w32 (w32 (at0 bs (4 * k + 2)) * 2 ^ 8))) rfl ?_
    refine head_p tyT_ok rfl ?_
    refine head_p tyT_ok rfl ?_
    refine head_p tyT_ok rfl ?_
    refine head_pe tyT_ok rfl (v' := .int .i64 ((4 * k : Nat) : Int)) (wrapv (by omega) (by omega)) ?_
    refine head_pe tyT_ok rfl (v' := .int .i64 ((4 * k + 3 : Nat) : Int)) (wrapv (by omega) (by omega)) ?_
    refine head_re rfl (runV_indexAddr_slice rfl Tryd.underlying64 ti5 rfl rfl (by omega) (by omega)) (v' := .pointer (some ⟨S, off + (4 * k + 3), none⟩)) (by rw [Int.toNat_natCast, Nat.mul_one]) ?_
    refine head_r rfl (runV_load rfl rfl Tryd.underlying5 rfl (hS' _) (hc _ (by omega))) ?_
    refine head_p tyT_ok rfl ?_
    refine head_p tyT_ok rfl ?_
    refine head_re rfl (runV_indexAddr_array rfl Tryd.underlying171 ti124 rfl rfl (by omega) (by omega)) (v' := .pointer (some ⟨rW, k, none⟩)) (by rw [Int.toNat_natCast, Nat.mul_one, Nat.zero_add]) ?_
    refine headE_nil ?_
    refine op_store rfl rfl rfl ti124 (Know.upd_same _ _ _) (by rw [U_size, hWl]; omega) (by simp) (h' := h.upd rW (true, .cells (U (fillW bs (k + 1))) 171 (0, 0))) (by rw [upd_upd, U_set]; rfl) ?_
    refine opsE_nil ?_
    refine wpE_region ?_
    refine op_pe tyT_ok rfl (v' := .int .i64 ((k + 1 : Nat) : Int)) (wrapv (by omega) (by omega)) ?_
    refine op_p tyT_ok rfl ?_
    refine opsE_nil ⟨rfl, 16 - (k + 1), _, _, by omega, Env.le_cons rfl (Env.le_cons rfl (Env.le_cons rfl (Env.le_cons rfl (Env.le_nil _)))), Know.le_refl _, k + 1, rfl, by omega, rfl, rfl⟩
  · have : k = 16 := by omega
    subst this
    refine wpE_seq (wpE_region ?_)
    refine op_p tyT_ok rfl ?_
    refine opsE_nil (wpE_seq (wpE_false rfl (wpE_exit ?_)))
    repeat refine thenQ_exit ?_
    exact blockQ_exit (normalLe (Env.le_cons rfl (Env.le_cons rfl (Env.le_nil _))) (Know.le_refl _))

end Go.Proofs.YtlmecmapkijcnaaDoor

set_option linter.unusedVariables false
namespace Go.Proofs.YtlmecmapkijcnaaDoor
open KL

theorem rot_7 {A : Acts} [Priv A] {main : Bool} (x : Int) (h : Know) : CallS A Tryd.prog main 101 [Value.int .u32 x, Value.int .i64 (-7)].toArray h (RetLe (.int .u32 (rl x 25)) h) := rotl_S x (-7) 25 h (by decide +kernel) (by decide)
theorem rot_18 {A : Acts} [Priv A] {main : Bool} (x : Int) (h : Know) : CallS A Tryd.prog main 101 [Value.int .u32 x, Value.int .i64 (-18)].toArray h (RetLe (.int .u32 (rl x 14)) h) := rotl_S x (-18) 14 h (by decide +kernel) (by decide)
theorem rot_17 {A : Acts} [Priv A] {main : Bool} (x : Int) (h : Know) : CallS A Tryd.prog main 101 [Value.int .u32 x, Value.int .i64 (-17)].toArray h (RetLe (.int .u32 (rl x 15)) h) := rotl_S x (-17) 15 h (by decide +kernel) (by decide)
theorem rot_19 {A : Acts} [Priv A] {main : Bool} (x : Int) (h : Know) : CallS A Tryd.prog main 101 [Value.int .u32 x, Value.int .i64 (-19)].toArray h (RetLe (.int .u32 (rl x 13)) h) := rotl_S x (-19) 13 h (by decide +kernel) (by decide)
theorem rot_6 {A : Acts} [Priv A] {main : Bool} (x : Int) (h : Know) : CallS A Tryd.prog main 101 [Value.int .u32 x, Value.int .i64 (-6)].toArray h (RetLe (.int .u32 (rl x 26)) h) := rotl_S x (-6) 26 h (by decide +kernel) (by decide)
theorem rot_11 {A : Acts} [Priv A] {main : Bool} (x : Int) (h : Know) : CallS A Tryd.prog main 101 [Value.int .u32 x, Value.int .i64 (-11)].toArray h (RetLe (.int .u32 (rl x 21)) h) := rotl_S x (-11) 21 h (by decide +kernel) (by decide)
theorem rot_25 {A : Acts} [Priv A] {main : Bool} (x : Int) (h : Know) : CallS A Tryd.prog main 101 [Value.int .u32 x, Value.int .i64 (-25)].toArray h (RetLe (.int .u32 (rl x 7)) h) := rotl_S x (-25) 7 h (by decide +kernel) (by decide)
theorem rot_2 {A : Acts} [Priv A] {main : Bool} (x : Int) (h : Know) : CallS A Tryd.prog main 101 [Value.int .u32 x, Value.int .i64 (-2)].toArray h (RetLe (.int .u32 (rl x 30)) h) := rotl_S x (-2) 30 h (by decide +kernel) (by decide)
theorem rot_13 {A : Acts} [Priv A] {main : Bool} (x : Int) (h : Know) : CallS A Tryd.prog main 101 [Value.int .u32 x, Value.int .i64 (-13)].toArray h (RetLe (.int .u32 (rl x 19)) h) := rotl_S x (-13) 19 h (by decide +kernel) (by decide)
theorem rot_22 {A : Acts} [Priv A] {main : Bool} (x : Int) (h : Know) : CallS A Tryd.prog main 101 [Value.int .u32 x, Value.int .i64 (-22)].toArray h (RetLe (.int .u32 (rl x 10)) h) := rotl_S x (-22) 10 h (by decide +kernel) (by decide)
theorem name101 : (Tryd.f101.name == "runtime.NumGoroutine") = false := by kernel_rfl

set_option maxRecDepth 100000 in
theorem block_more {A : Acts} [Priv A] {main : Bool} (h : Know) (H rW : Nat) (ws : List Int) (hws : ws.length = 64) (E : Env)
    (e0 : E.look 0 = some (.pointer (some ⟨H, 0, none⟩))) (e4 : E.look 4 = some (.pointer (some ⟨rW, 0, none⟩))) (e6 : E.look 6 = some (.int .i64 16)) :
    wpE A Tryd.prog main 196 (seqR (seqL (seqR (seqR (bodyOf Tryd.f72))))) (NormalLe [] [(4, .pointer (some ⟨rW, 0, none⟩)), (0, .pointer (some ⟨H, 0, none⟩))] (h.upd rW (true, .cells (U (moreW ws 48)) 171 (0, 0)))) [] E (h.upd rW (true, .cells (U (moreW ws 0)) 171 (0, 0))) := by
  refine wpE_block (wpE_loopJ (fun m E hh => ∃ k : Nat, m = 48 - k ∧ k ≤ 48 ∧ E = [(6, .int .i64 ((16 + k : Nat) : Int)), (4, .pointer (some ⟨rW, 0, none⟩)), (0, .pointer (some ⟨H, 0, none⟩))] ∧
    hh = h.upd rW (true, .cells (U (moreW ws k)) 171 (0, 0))) (Env.le_cons e6 (Env.le_cons e4 (Env.le_cons e0 (Env.le_nil _)))) (Know.le_refl _) ⟨0, rfl, by omega, rfl, rfl⟩ ?_)
  rintro m E' hh ⟨k, rfl, hk, rfl, rfl⟩
  have hWl : (moreW ws k).length = 64 := by rw [moreW_length]; exact hws
  by_cases hlt : k < 48
  · refine wpE_seq (wpE_seq (wpE_region ?_))
    refine op_p tyT_ok rfl ?_
    refine op_pe tyT_ok rfl (congrArg Value.bool (decide_eq_true (show ((16 + k : Nat) : Int) < 64 by omega))) ?_
    refine opsE_nil (wpE_true rfl (wpE_skip ?_))
    refine wpE_seq (wpE_block (wpE_seq (wpE_drawB 10 (by kernel_rfl) (by kernel_rfl) rfl (by kernel_rfl) ?_)))
    simp only [List.take_succ_cons, List.take_zero, List.drop_succ_cons, List.drop_zero]
    refine head_p tyT_ok rfl ?_
    refine head_pe tyT_ok rfl (v' := .int .i64 ((16 + k - 15 : Nat) : Int)) (wrapv (by omega) (by omega)) ?_
    refine head_re rfl (runV_indexAddr_array rfl Tryd.underlying171 ti124 rfl rfl (by omega) (by omega)) (v' := .pointer (some ⟨rW, 16 + k - 15, none⟩)) (by rw [Int.toNat_natCast, Nat.mul_one, Nat.zero_add]) ?_
    refine head_r rfl (runV_load rfl rfl Tryd.underlying124 rfl (Know.upd_same _ _ _) (U_get (by omega))) ?_
    refine head_p tyT_ok rfl ?_
    refine head_pe tyT_ok rfl (v' := .int .i64 ((16 + k - 2 : Nat) : Int)) (wrapv (by omega) (by omega)) ?_
    refine head_re rfl (runV_indexAddr_array rfl Tryd.underlying171 ti124 rfl rfl (by omega) (by omega)) (v' := .pointer (some ⟨rW, 16 + k - 2, none⟩)) (by rw [Int.toNat_natCast, Nat.mul_one, Nat.zero_add]) ?_
    refine head_r rfl (runV_load rfl rfl Tryd.underlying124 rfl (Know.upd_same _ _ _) (U_get (by omega))) ?_
    refine head_p tyT_ok rfl ?_
    refine head_p tyT_ok rfl ?_
    refine headE_nil ?_
    refine opsE_nil (wpE_drawB 29 (by kernel_rfl) (by kernel_rfl) rfl (by kernel_rfl) ?_)
    simp only [List.take_succ_cons, List.take_zero, List.drop_succ_cons, List.drop_zero]
    refine head_p tyT_ok rfl ?_
    refine head_p tyT_ok rfl ?_
    refine head_pe tyT_ok rfl (v' := .int .i64 ((16 + k - 16 : Nat) : Int)) (wrapv (by omega) (by omega)) ?_
    refine head_re rfl (runV_indexAddr_array rfl Tryd.underlying171 ti124 rfl rfl (by omega) (by omega)) (v' := .pointer (some ⟨rW, 16 + k - 16, none⟩)) (by rw [Int.toNat_natCast, Nat.mul_one, Nat.zero_add]) ?_
    refine head_r rfl (runV_load rfl rfl Tryd.underlying124 rfl (Know.upd_same _ _ _) (U_get (by omega))) ?_
    refine head_p tyT_ok rfl ?_
    refine head_callLe rfl rfl Tryd.func101 name101 rfl (vs := [Value.int .u32 (at0 (moreW ws k) (16 + k - 15)), Value.int .i64 (-7)]) rfl (rot_7 _ _) ?_
    refine head_p tyT_ok rfl ?_
    refine head_callLe rfl rfl Tryd.func101 name101 rfl (vs := [Value.int .u32 (at0 (moreW ws k) (16 + k - 15)), Value.int .i64 (-18)]) rfl (rot_18 _ _) ?_
    refine head_p tyT_ok rfl ?_
    refine head_p tyT_ok rfl ?_
    refine head_re rfl (runV_shr rfl rfl rfl (by decide)) (v' := .int .u32 ((at0 (moreW ws k) (16 + k - 15)) / 2 ^ 3)) rfl ?_
    refine head_p tyT_ok rfl ?_
    refine head_pe tyT_ok rfl (v' := .int .u32 (w32 (at0 (moreW ws k) (16 + k - 16) + sg0 (at0 (moreW ws k) (16 + k - 15))))) rfl ?_
    refine head_p tyT_ok rfl ?_
    refine head_pe tyT_ok rfl (v' := .int .i64 ((16 + k - 7 : Nat) : Int)) (wrapv (by omega) (by omega)) ?_
    refine head_re rfl (runV_indexAddr_array rfl Tryd.underlying171 ti124 rfl rfl (by omega) (by omega)) (v' := .pointer (some ⟨rW, 16 + k - 7, none⟩)) (by rw [Int.toNat_natCast, Nat.mul_one, Nat.zero_add]) ?_
    refine head_r rfl (runV_load rfl rfl Tryd.underlying124 rfl (Know.upd_same _ _ _) (U_get (by omega))) ?_
    refine head_pe tyT_ok rfl (v' := .int .u32 (w32 (w32 (at0 (moreW ws k) (16 + k - 16) + sg0 (at0 (moreW ws k) (16 + k - 15))) + at0 (moreW ws k) (16 + k - 7)))) rfl ?_
    refine head_p tyT_ok rfl ?_
    refine head_callLe rfl rfl Tryd.func101 name101 rfl (vs := [Value.int .u32 (at0 (moreW ws k) (16 + k - 2)), Value.int .i64 (-17)]) rfl (rot_17 _ _) ?_
    refine head_p tyT_ok rfl ?_
    refine head_callLe rfl rfl Tryd.func101 name101 rfl (vs := [Value.int .u32 (at0 (moreW ws k) (16 + k - 2)), Value.int .i64 (-19)]) rfl (rot_19 _ _) ?_
    refine head_p tyT_ok rfl ?_
    refine head_p tyT_ok rfl ?_
    refine head_re rfl (runV_shr rfl rfl rfl (by decide)) (v' := .int .u32 ((at0 (moreW ws k) (16 + k - 2)) / 2 ^ 10)) rfl ?_
    refine head_p tyT_ok rfl ?_
    refine head_pe tyT_ok rfl (v' := .int .u32 (nextW (moreW ws k) (16 + k))) rfl ?_
    refine head_re rfl (runV_indexAddr_array rfl Tryd.underlying171 ti124 rfl rfl (by omega) (by omega)) (v' := .pointer (some ⟨rW, 16 + k, none⟩)) (by rw [Int.toNat_natCast, Nat.mul_one, Nat.zero_add]) ?_
    refine headE_nil ?_
    refine op_store rfl rfl rfl ti124 (Know.upd_same _ _ _) (by rw [U_size, hWl]; omega) (by simp) (h' := h.upd rW (true, .cells (U (moreW ws (k + 1))) 171 (0, 0))) (by rw [upd_upd, U_set]; rfl) ?_
    refine opsE_nil ?_
    refine wpE_region ?_
    refine op_p tyT_ok rfl ?_
    refine op_pe tyT_ok rfl (v' := .int .i64 ((16 + (k + 1) : Nat) : Int)) (wrapv (by omega) (by omega)) ?_
    refine op_p tyT_ok rfl ?_
    refine opsE_nil ⟨rfl, 48 - (k + 1), _, _, by omega, Env.le_cons rfl (Env.le_cons rfl (Env.le_cons rfl (Env.le_nil _))), Know.le_refl _, k + 1, rfl, by omega, rfl, rfl⟩
  · have : k = 48 := by omega
    subst this
    refine wpE_seq (wpE_seq (wpE_region ?_))
    refine op_p tyT_ok rfl ?_
    refine op_p tyT_ok rfl ?_
    refine opsE_nil (wpE_false rfl (wpE_exit ?_))
    repeat refine thenQ_exit ?_
    exact blockQ_exit (normalLe (Env.le_cons rfl (Env.le_cons rfl (Env.le_nil _))) (Know.le_refl _))

end Go.Proofs.YtlmecmapkijcnaaDoor
