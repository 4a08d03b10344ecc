/- The reference's words: whole numbers below 2^32, whose sums are cut by a mask. -/
import Derived.Test.YtlmecmapkijcnaaDoorShaE
import Derived.Test.YtlmecmapkijcnaaDoorKlTail
set_option linter.unusedVariables false
namespace Go.Proofs.YtlmecmapkijcnaaDoor
open KL

/-- A word. -/
def Wd (x : Int) : Prop := 0 ≤ x ∧ x < 4294967296
theorem w32_eq (x : Int) : w32 x = x % 4294967296 := by simp [w32, IntKind.wrap, IntKind.bits, IntKind.signed]
theorem w32_wd (x : Int) : Wd (w32 x) := by rw [w32_eq]; unfold Wd; omega
theorem w32_of {x : Int} (h : Wd x) : w32 x = x := by rw [w32_eq]; unfold Wd at h; omega
theorem wd_nat {x : Int} (h : Wd x) : ∃ m : Nat, m < 2 ^ 32 ∧ x = (m : Int) := ⟨x.toNat, by unfold Wd at h; omega, by unfold Wd at h; omega⟩
theorem nat_wd {m : Nat} (h : m < 2 ^ 32) : Wd (m : Int) := by unfold Wd; omega

theorem bits_u32_xor {m k : Nat} (hm : m < 2 ^ 32) (hk : k < 2 ^ 32) : bits .xor .u32 (m : Int) (k : Int) = ((m ^^^ k : Nat) : Int) := by
  have hx : m ^^^ k < 2 ^ 32 := Nat.xor_lt_two_pow hm hk
  show IntKind.u32.wrap ((BitVec.ofInt 32 m ^^^ BitVec.ofInt 32 k).toNat : Int) = _
  rw [BitVec.ofInt_natCast, BitVec.ofInt_natCast, BitVec.toNat_xor, BitVec.toNat_ofNat, BitVec.toNat_ofNat, Nat.mod_eq_of_lt hm, Nat.mod_eq_of_lt hk]
  exact w32_of (nat_wd hx)
theorem bits_u32_and {m k : Nat} (hm : m < 2 ^ 32) (hk : k < 2 ^ 32) : bits .and .u32 (m : Int) (k : Int) = ((m &&& k : Nat) : Int) := by
  have hx : m &&& k < 2 ^ 32 := Nat.and_lt_two_pow _ hk
  show IntKind.u32.wrap ((BitVec.ofInt 32 m &&& BitVec.ofInt 32 k).toNat : Int) = _
  rw [BitVec.ofInt_natCast, BitVec.ofInt_natCast, BitVec.toNat_and, BitVec.toNat_ofNat, BitVec.toNat_ofNat, Nat.mod_eq_of_lt hm, Nat.mod_eq_of_lt hk]
  exact w32_of (nat_wd hx)
theorem bits_u32_or {m k : Nat} (hm : m < 2 ^ 32) (hk : k < 2 ^ 32) : bits .or .u32 (m : Int) (k : Int) = ((m ||| k : Nat) : Int) := by
  have hx : m ||| k < 2 ^ 32 := Nat.or_lt_two_pow hm hk
  show IntKind.u32.wrap ((BitVec.ofInt 32 m ||| BitVec.ofInt 32 k).toNat : Int) = _
  rw [BitVec.ofInt_natCast, BitVec.ofInt_natCast, BitVec.toNat_or, BitVec.toNat_ofNat, BitVec.toNat_ofNat, Nat.mod_eq_of_lt hm, Nat.mod_eq_of_lt hk]
  exact w32_of (nat_wd hx)
theorem wrap64 {m : Nat} (h : m < 2 ^ 63) : IntKind.i64.wrap (m : Int) = (m : Int) := wrapi _ (by omega) (by omega)
theorem bits_i64_xor {m k : Nat} (hm : m < 2 ^ 63) (hk : k < 2 ^ 63) : bits .xor .i64 (m : Int) (k : Int) = ((m ^^^ k : Nat) : Int) := by
  have hx : m ^^^ k < 2 ^ 63 := Nat.xor_lt_two_pow hm hk
  show IntKind.i64.wrap ((BitVec.ofInt 64 m ^^^ BitVec.ofInt 64 k).toNat : Int) = _
  rw [BitVec.ofInt_natCast, BitVec.ofInt_natCast, BitVec.toNat_xor, BitVec.toNat_ofNat, BitVec.toNat_ofNat, Nat.mod_eq_of_lt (by omega), Nat.mod_eq_of_lt (by omega)]
  exact wrap64 hx
theorem bits_i64_and {m k : Nat} (hm : m < 2 ^ 63) (hk : k < 2 ^ 63) : bits .and .i64 (m : Int) (k : Int) = ((m &&& k : Nat) : Int) := by
  have hx : m &&& k < 2 ^ 63 := Nat.and_lt_two_pow _ hk
  show IntKind.i64.wrap ((BitVec.ofInt 64 m &&& BitVec.ofInt 64 k).toNat : Int) = _
  rw [BitVec.ofInt_natCast, BitVec.ofInt_natCast, BitVec.toNat_and, BitVec.toNat_ofNat, BitVec.toNat_ofNat, Nat.mod_eq_of_lt (by omega), Nat.mod_eq_of_lt (by omega)]
  exact wrap64 hx
theorem bits_i64_or {m k : Nat} (hm : m < 2 ^ 63) (hk : k < 2 ^ 63) : bits .or .i64 (m : Int) (k : Int) = ((m ||| k : Nat) : Int) := by
  have hx : m ||| k < 2 ^ 63 := Nat.or_lt_two_pow hm hk
  show IntKind.i64.wrap ((BitVec.ofInt 64 m ||| BitVec.ofInt 64 k).toNat : Int) = _
  rw [BitVec.ofInt_natCast, BitVec.ofInt_natCast, BitVec.toNat_or, BitVec.toNat_ofNat, BitVec.toNat_ofNat, Nat.mod_eq_of_lt (by omega), Nat.mod_eq_of_lt (by omega)]
  exact wrap64 hx

theorem xor_wd {x y : Int} (hx : Wd x) (hy : Wd y) : Wd (bits .xor .u32 x y) := by
  obtain ⟨m, hm, rfl⟩ := wd_nat hx; obtain ⟨k, hk, rfl⟩ := wd_nat hy
  rw [bits_u32_xor hm hk]; exact nat_wd (Nat.xor_lt_two_pow hm hk)
theorem and_wd {x y : Int} (hx : Wd x) (hy : Wd y) : Wd (bits .and .u32 x y) := by
  obtain ⟨m, hm, rfl⟩ := wd_nat hx; obtain ⟨k, hk, rfl⟩ := wd_nat hy
  rw [bits_u32_and hm hk]; exact nat_wd (Nat.and_lt_two_pow _ hk)
theorem or_wd {x y : Int} (hx : Wd x) (hy : Wd y) : Wd (bits .or .u32 x y) := by
  obtain ⟨m, hm, rfl⟩ := wd_nat hx; obtain ⟨k, hk, rfl⟩ := wd_nat hy
  rw [bits_u32_or hm hk]; exact nat_wd (Nat.or_lt_two_pow hm hk)
theorem xor_i {x y : Int} (hx : Wd x) (hy : Wd y) : bits .xor .i64 x y = bits .xor .u32 x y := by
  obtain ⟨m, hm, rfl⟩ := wd_nat hx; obtain ⟨k, hk, rfl⟩ := wd_nat hy
  rw [bits_u32_xor hm hk, bits_i64_xor (by omega) (by omega)]
theorem and_i {x y : Int} (hx : Wd x) (hy : Wd y) : bits .and .i64 x y = bits .and .u32 x y := by
  obtain ⟨m, hm, rfl⟩ := wd_nat hx; obtain ⟨k, hk, rfl⟩ := wd_nat hy
  rw [bits_u32_and hm hk, bits_i64_and (by omega) (by omega)]
theorem or_i {x y : Int} (hx : Wd x) (hy : Wd y) : bits .or .i64 x y = bits .or .u32 x y := by
  obtain ⟨m, hm, rfl⟩ := wd_nat hx; obtain ⟨k, hk, rfl⟩ := wd_nat hy
  rw [bits_u32_or hm hk, bits_i64_or (by omega) (by omega)]
theorem mask_i {x : Int} (h0 : 0 ≤ x) (h1 : x < 9223372036854775808) : bits .and .i64 x 4294967295 = w32 x := by
  have e : x = (x.toNat : Int) := by omega
  rw [e, show (4294967295 : Int) = ((4294967295 : Nat) : Int) from rfl, bits_i64_and (by omega) (by omega), show (4294967295 : Nat) = 2 ^ 32 - 1 from rfl, Nat.and_two_pow_sub_one_eq_mod, w32_eq]
  omega
theorem shr_wd {x : Int} (h : Wd x) (n : Nat) : Wd (x / 2 ^ n) := by
  obtain ⟨m, hm, rfl⟩ := wd_nat h
  have e : ((m : Int) / 2 ^ n) = ((m / 2 ^ n : Nat) : Int) := by simp
  rw [e]; exact nat_wd (Nat.lt_of_le_of_lt (Nat.div_le_self _ _) hm)
theorem rl_wd {x : Int} (h : Wd x) (s : Nat) : Wd (rl x s) := or_wd (w32_wd _) (shr_wd h _)

/-- The reference's turn to the right is the program's turn to the left. -/
theorem turn_rl {x : Int} (h : Wd x) (s : Nat) (hs : s < 32) : bits .and .i64 (bits .or .i64 (x / 2 ^ (32 - s)) (IntKind.i64.wrap (x * 2 ^ s))) 4294967295 = rl x s := by
  obtain ⟨m, hm, rfl⟩ := wd_nat h
  have h2 : 2 ^ s ≤ 2 ^ 31 := Nat.pow_le_pow_right (by decide) (by omega)
  have hml : m * 2 ^ s < 2 ^ 63 := Nat.lt_of_le_of_lt (Nat.mul_le_mul_left _ h2) (by omega)
  have e1 : ((m : Int) / 2 ^ (32 - s)) = ((m / 2 ^ (32 - s) : Nat) : Int) := by simp
  have e2 : ((m : Int) * 2 ^ s) = ((m * 2 ^ s : Nat) : Int) := by simp
  have hd : m / 2 ^ (32 - s) < 2 ^ 32 := Nat.lt_of_le_of_lt (Nat.div_le_self _ _) hm
  unfold rl
  rw [e1, e2, wrap64 hml, bits_i64_or (by omega) hml, mask_i (by omega) (by have := Nat.or_lt_two_pow (show m / 2 ^ (32 - s) < 2 ^ 63 by omega) hml; omega), w32_eq]
  have e3 : IntKind.u32.wrap ((m * 2 ^ s : Nat) : Int) = ((m * 2 ^ s % 2 ^ 32 : Nat) : Int) := by
    rw [show IntKind.u32.wrap ((m * 2 ^ s : Nat) : Int) = w32 ((m * 2 ^ s : Nat) : Int) from rfl, w32_eq]; omega
  rw [e3, bits_u32_or (Nat.mod_lt _ (by decide)) hd]
  have e4 : (m / 2 ^ (32 - s) ||| m * 2 ^ s) % 2 ^ 32 = (m * 2 ^ s % 2 ^ 32) ||| (m / 2 ^ (32 - s)) := by
    rw [Nat.or_mod_two_pow, Nat.mod_eq_of_lt hd, Nat.or_comm]
  rw [← e4]; omega

/-! ### Lists of words -/
def WdL (l : List Int) : Prop := ∀ x ∈ l, Wd x
theorem wd0 : Wd 0 := by unfold Wd; omega
theorem WdL.at {l : List Int} (h : WdL l) (i : Nat) : Wd (at0 l i) := by
  unfold at0
  rcases Nat.lt_or_ge i l.length with g | g
  · rw [List.getD_eq_getElem?_getD, List.getElem?_eq_getElem g]; exact h _ (List.getElem_mem g)
  · rw [List.getD_eq_getElem?_getD, List.getElem?_eq_none g]; exact wd0
theorem WdL.set {l : List Int} (h : WdL l) (i : Nat) {x : Int} (hx : Wd x) : WdL (l.set i x) := fun y hy => by
  rcases List.mem_or_eq_of_mem_set hy with g | g
  · exact h y g
  · rw [g]; exact hx
theorem wdL_zeros (n : Nat) : WdL (List.replicate n 0) := fun x hx => by rw [List.eq_of_mem_replicate hx]; exact wd0
theorem be4_wd (a b c d : Int) : Wd (be4 a b c d) := or_wd (or_wd (or_wd (w32_wd _) (w32_wd _)) (w32_wd _)) (w32_wd _)
theorem fillW_wd (bs : List Int) (n : Nat) : WdL (fillW bs n) := by
  induction n with
  | zero => exact wdL_zeros 64
  | succ n ih => exact ih.set _ (be4_wd _ _ _ _)
theorem nextW_wd (p : List Int) (i : Nat) : Wd (nextW p i) := w32_wd _
theorem moreW_wd {ws : List Int} (h : WdL ws) (n : Nat) : WdL (moreW ws n) := by
  induction n with
  | zero => exact h
  | succ n ih => exact ih.set _ (nextW_wd _ _)
theorem rnd_wd {v : List Int} (h : WdL v) (k w : Int) : WdL (rnd k w v) := by
  intro x hx
  simp only [rnd, List.mem_cons, List.not_mem_nil, or_false] at hx
  rcases hx with e | e | e | e | e | e | e | e <;> rw [e]
  · exact w32_wd _
  · exact h.at _
  · exact h.at _
  · exact h.at _
  · exact w32_wd _
  · exact h.at _
  · exact h.at _
  · exact h.at _
theorem rnds_wd {v : List Int} (h : WdL v) (K ws : List Int) (n : Nat) : WdL (rnds K ws v n) := by
  induction n with
  | zero => exact h
  | succ n ih => exact rnd_wd ih _ _
theorem addW_wd {hs : List Int} (h : WdL hs) (v : List Int) (n : Nat) : WdL (addW hs v n) := by
  induction n with
  | zero => exact h
  | succ n ih => exact ih.set _ (w32_wd _)
theorem compress_wd {K hs bs : List Int} (h : WdL hs) : WdL (compress K hs bs) := addW_wd h _ _
theorem chain_wd {K : List Int} (m : Nat) {hs bs : List Int} (h : WdL hs) : WdL (chain K m hs bs) := by
  induction m generalizing hs bs with
  | zero => exact h
  | succ m ih => exact ih (compress_wd h)
def Byt (x : Int) : Prop := 0 ≤ x ∧ x < 256
def BytL (l : List Int) : Prop := ∀ x ∈ l, Byt x
theorem Byt.wd {x : Int} (h : Byt x) : Wd x := by unfold Byt at h; unfold Wd; omega
theorem BytL.at {l : List Int} (h : BytL l) (i : Nat) : Byt (at0 l i) := by
  unfold at0
  rcases Nat.lt_or_ge i l.length with g | g
  · rw [List.getD_eq_getElem?_getD, List.getElem?_eq_getElem g]; exact h _ (List.getElem_mem g)
  · rw [List.getD_eq_getElem?_getD, List.getElem?_eq_none g]; unfold Byt; simp

/-! ### The reference's terms -/
theorem sh_i {x : Int} (h : Byt x) (n : Nat) (hn : n ≤ 24) : IntKind.i64.wrap (x * 2 ^ n) = w32 (w32 x * 2 ^ n) := by
  have e : x = (x.toNat : Int) := by unfold Byt at h; omega
  have h8 : x.toNat < 256 := by unfold Byt at h; omega
  have h2 : 2 ^ n ≤ 2 ^ 24 := Nat.pow_le_pow_right (by decide) hn
  have hm : x.toNat * 2 ^ n < 2 ^ 32 := Nat.lt_of_le_of_lt (Nat.mul_le_mul_left _ h2) (by omega)
  rw [w32_of h.wd]
  have e2 : x * 2 ^ n = ((x.toNat * 2 ^ n : Nat) : Int) := by rw [Int.natCast_mul, ← e]; simp
  rw [e2, wrap64 (by omega), w32_of (nat_wd hm)]
theorem be4_i {a b c d : Int} (ha : Byt a) (hb : Byt b) (hc : Byt c) (hd : Byt d) :
    bits .or .i64 (bits .or .i64 (bits .or .i64 (IntKind.i64.wrap (a * 2 ^ 24)) (IntKind.i64.wrap (b * 2 ^ 16))) (IntKind.i64.wrap (c * 2 ^ 8))) d = be4 a b c d := by
  rw [sh_i ha 24 (by decide), sh_i hb 16 (by decide), sh_i hc 8 (by decide), or_i (w32_wd _) (w32_wd _), or_i (or_wd (w32_wd _) (w32_wd _)) (w32_wd _), or_i (or_wd (or_wd (w32_wd _) (w32_wd _)) (w32_wd _)) hd.wd]
  unfold be4
  rw [w32_of hd.wd]
theorem w32_add (a b : Int) : w32 (w32 a + b) = w32 (a + b) := by rw [w32_eq, w32_eq, w32_eq]; omega
theorem sg0_wd {x : Int} (h : Wd x) : Wd (sg0 x) := xor_wd (xor_wd (rl_wd h _) (rl_wd h _)) (shr_wd h _)
theorem sg1_wd {x : Int} (h : Wd x) : Wd (sg1 x) := xor_wd (xor_wd (rl_wd h _) (rl_wd h _)) (shr_wd h _)
theorem sg0_i {x : Int} (h : Wd x) : bits .xor .i64 (bits .xor .i64 (rl x 25) (rl x 14)) (x / 2 ^ 3) = sg0 x := by
  rw [xor_i (rl_wd h _) (rl_wd h _), xor_i (xor_wd (rl_wd h _) (rl_wd h _)) (shr_wd h _)]; rfl
theorem sg1_i {x : Int} (h : Wd x) : bits .xor .i64 (bits .xor .i64 (rl x 15) (rl x 13)) (x / 2 ^ 10) = sg1 x := by
  rw [xor_i (rl_wd h _) (rl_wd h _), xor_i (xor_wd (rl_wd h _) (rl_wd h _)) (shr_wd h _)]; rfl
theorem bs0_i {x : Int} (h : Wd x) : bits .xor .i64 (bits .xor .i64 (rl x 30) (rl x 19)) (rl x 10) = bs0 x := by
  rw [xor_i (rl_wd h _) (rl_wd h _), xor_i (xor_wd (rl_wd h _) (rl_wd h _)) (rl_wd h _)]; rfl
theorem bs1_i {x : Int} (h : Wd x) : bits .xor .i64 (bits .xor .i64 (rl x 26) (rl x 21)) (rl x 7) = bs1 x := by
  rw [xor_i (rl_wd h _) (rl_wd h _), xor_i (xor_wd (rl_wd h _) (rl_wd h _)) (rl_wd h _)]; rfl
theorem bs0_wd {x : Int} (h : Wd x) : Wd (bs0 x) := xor_wd (xor_wd (rl_wd h _) (rl_wd h _)) (rl_wd h _)
theorem bs1_wd {x : Int} (h : Wd x) : Wd (bs1 x) := xor_wd (xor_wd (rl_wd h _) (rl_wd h _)) (rl_wd h _)
theorem max_wd : Wd (4294967295 : Int) := by unfold Wd; omega
theorem chW_eq (e f g : Int) : chW e f g = bits .xor .u32 (bits .and .u32 e f) (bits .and .u32 (bits .xor .u32 4294967295 e) g) := rfl
theorem chW_wd {e f g : Int} (he : Wd e) (hf : Wd f) (hg : Wd g) : Wd (chW e f g) := by rw [chW_eq]; exact xor_wd (and_wd he hf) (and_wd (xor_wd max_wd he) hg)
theorem chW_i {e f g : Int} (he : Wd e) (hf : Wd f) (hg : Wd g) : bits .xor .i64 (bits .and .i64 e f) (bits .and .i64 (bits .xor .i64 4294967295 e) g) = chW e f g := by
  rw [chW_eq, xor_i max_wd he, and_i he hf, and_i (xor_wd max_wd he) hg, xor_i (and_wd he hf) (and_wd (xor_wd max_wd he) hg)]
theorem majW_wd {a b c : Int} (ha : Wd a) (hb : Wd b) (hc : Wd c) : Wd (majW a b c) := xor_wd (xor_wd (and_wd ha hb) (and_wd ha hc)) (and_wd hb hc)
theorem majW_i {a b c : Int} (ha : Wd a) (hb : Wd b) (hc : Wd c) : bits .xor .i64 (bits .xor .i64 (bits .and .i64 a b) (bits .and .i64 a c)) (bits .and .i64 b c) = majW a b c := by
  rw [and_i ha hb, and_i ha hc, and_i hb hc, xor_i (and_wd ha hb) (and_wd ha hc), xor_i (xor_wd (and_wd ha hb) (and_wd ha hc)) (and_wd hb hc)]; rfl
/-- Sums, before they are cut. -/
def t1s (k w : Int) (v : List Int) : Int := at0 v 7 + bs1 (at0 v 4) + chW (at0 v 4) (at0 v 5) (at0 v 6) + k + w
def t2s (v : List Int) : Int := bs0 (at0 v 0) + majW (at0 v 0) (at0 v 1) (at0 v 2)
theorem wrap_add {x y : Int} (hx : 0 ≤ x) (hy : 0 ≤ y) (hl : x + y < 9223372036854775808) : IntKind.i64.wrap (x + y) = x + y := wrapi _ (by omega) hl
theorem t1s_i {v : List Int} (hv : WdL v) {k w : Int} (hk : Wd k) (hw : Wd w) :
    IntKind.i64.wrap (IntKind.i64.wrap (IntKind.i64.wrap (IntKind.i64.wrap (at0 v 7 + bs1 (at0 v 4)) + chW (at0 v 4) (at0 v 5) (at0 v 6)) + k) + w) = t1s k w v := by
  have h7 := hv.at 7
  have h1 := bs1_wd (hv.at 4)
  have h2 := chW_wd (hv.at 4) (hv.at 5) (hv.at 6)
  unfold Wd at *
  rw [wrapi (at0 v 7 + bs1 (at0 v 4)) (by omega) (by omega), wrapi (_ + chW _ _ _) (by omega) (by omega), wrapi (_ + k) (by omega) (by omega), wrapi (_ + w) (by omega) (by omega)]
  rfl
theorem t2s_i {v : List Int} (hv : WdL v) : IntKind.i64.wrap (bs0 (at0 v 0) + majW (at0 v 0) (at0 v 1) (at0 v 2)) = t2s v := by
  have h1 := bs0_wd (hv.at 0)
  have h2 := majW_wd (hv.at 0) (hv.at 1) (hv.at 2)
  unfold Wd at *
  rw [wrapi _ (by omega) (by omega)]; rfl
theorem t1s_b {v : List Int} (hv : WdL v) {k w : Int} (hk : Wd k) (hw : Wd w) : 0 ≤ t1s k w v ∧ t1s k w v < 34359738368 ∧ w32 (t1s k w v) = tR k w v := by
  have h7 := hv.at 7
  have h1 := bs1_wd (hv.at 4)
  have h2 := chW_wd (hv.at 4) (hv.at 5) (hv.at 6)
  refine ⟨?_, ?_, ?_⟩
  · unfold Wd at *; unfold t1s; omega
  · unfold Wd at *; unfold t1s; omega
  · unfold t1s tR; simp only [w32_eq]; omega
theorem t2s_b {v : List Int} (hv : WdL v) : 0 ≤ t2s v ∧ t2s v < 34359738368 ∧ w32 (t2s v) = uR v := by
  have h1 := bs0_wd (hv.at 0)
  have h2 := majW_wd (hv.at 0) (hv.at 1) (hv.at 2)
  refine ⟨?_, ?_, rfl⟩
  · unfold Wd at *; unfold t2s; omega
  · unfold Wd at *; unfold t2s; omega
theorem new0_i {v : List Int} (hv : WdL v) {k w : Int} (hk : Wd k) (hw : Wd w) : bits .and .i64 (IntKind.i64.wrap (t1s k w v + t2s v)) 4294967295 = w32 (tR k w v + uR v) := by
  obtain ⟨a1, a2, a3⟩ := t1s_b hv hk hw
  obtain ⟨b1, b2, b3⟩ := t2s_b hv
  rw [wrapi _ (by omega) (by omega), mask_i (by omega) (by omega), ← a3, ← b3, w32_eq, w32_eq, w32_eq, w32_eq]; omega
theorem new4_i {v : List Int} (hv : WdL v) {k w : Int} (hk : Wd k) (hw : Wd w) : bits .and .i64 (IntKind.i64.wrap (at0 v 3 + t1s k w v)) 4294967295 = w32 (at0 v 3 + tR k w v) := by
  obtain ⟨a1, a2, a3⟩ := t1s_b hv hk hw
  have h3 := hv.at 3
  unfold Wd at h3
  rw [wrapi _ (by omega) (by omega), mask_i (by omega) (by omega), ← a3, w32_eq, w32_eq, w32_eq]; omega
theorem next_i {p : List Int} (hp : WdL p) (i : Nat) : bits .and .i64 (IntKind.i64.wrap (IntKind.i64.wrap (IntKind.i64.wrap (at0 p (i - 16) + sg0 (at0 p (i - 15))) + at0 p (i - 7)) + sg1 (at0 p (i - 2)))) 4294967295 = nextW p i := by
  have h1 := hp.at (i - 16)
  have h2 := sg0_wd (hp.at (i - 15))
  have h3 := hp.at (i - 7)
  have h4 := sg1_wd (hp.at (i - 2))
  unfold Wd at h1 h2 h3 h4
  rw [wrapi (_ + sg0 _) (by omega) (by omega), wrapi (_ + at0 p (i - 7)) (by omega) (by omega), wrapi (_ + sg1 _) (by omega) (by omega), mask_i (by omega) (by omega)]
  unfold nextW; simp only [w32_eq]; omega
theorem add_i {a b : Int} (ha : Wd a) (hb : Wd b) : bits .and .i64 (IntKind.i64.wrap (a + b)) 4294967295 = w32 (a + b) := by
  unfold Wd at ha hb
  rw [wrapi _ (by omega) (by omega), mask_i (by omega) (by omega)]

end Go.Proofs.YtlmecmapkijcnaaDoor
