/- A text's digest as a text: the program's. The reference's walk: a whole text. -/
import Derived.Test.YtlmecmapkijcnaaDoorR07
set_option linter.unusedVariables false
namespace Go.Proofs.YtlmecmapkijcnaaDoor
open KL

def outL (hs : List Int) : Nat → List Int
  | 0 => []
  | n + 1 => outL hs n ++ four (at0 hs n)
theorem outL_length (hs : List Int) (n : Nat) : (outL hs n).length = 4 * n := by
  induction n with
  | zero => rfl
  | succ n ih => simp only [outL, List.length_append, ih, four, List.length_cons, List.length_nil]; omega
theorem splice_mid : ∀ (l xs ys : List Value), l.length ≤ ys.length → splice (xs ++ ys).toArray xs.length l = (xs ++ l ++ ys.drop l.length).toArray := by
  intro l
  induction l with
  | nil => intro xs ys _; simp [splice]
  | cons v l ih =>
    intro xs ys h
    cases ys with
    | nil => simp at h
    | cons y ys =>
      simp only [splice]
      have e : (xs ++ y :: ys).toArray.setIfInBounds xs.length v = ((xs ++ [v]) ++ ys).toArray := by
        apply Array.ext'; simp
      have e2 : xs.length + 1 = (xs ++ [v]).length := by simp
      rw [e, e2, ih _ _ (by simpa using h)]
      simp
theorem outC_eq (hs : List Int) : ∀ n, n ≤ 8 → outC hs n = (B (outL hs n ++ List.replicate (32 - 4 * n) 0)).toArray := by
  intro n
  induction n with
  | zero => intro _; simp [outC, outL]
  | succ n ih =>
    intro hn
    simp only [outC]
    rw [ih (by omega), B_append]
    have hl4 : (B (four (at0 hs n))).length = 4 := rfl
    have := splice_mid (B (four (at0 hs n))) (B (outL hs n)) (B (List.replicate (32 - 4 * n) 0)) (by rw [hl4, B_length, List.length_replicate]; omega)
    rw [B_length, outL_length, hl4] at this
    rw [this]
    congr 1
    simp only [outL, B_append]
    congr 1
    have e : 32 - 4 * n - 4 = 32 - 4 * (n + 1) := by omega
    simp [B, e]
theorem outC_full (hs : List Int) : outC hs 8 = (B (outL hs 8)).toArray := by rw [outC_eq _ _ (Nat.le_refl 8)]; simp

/-- Bytes as a text. -/
def strOf (bs : List Int) : ByteArray := ⟨(bs.map fun i => UInt8.ofNat i.toNat).toArray⟩
theorem und9 : Tryd.prog.underlying 9 = some .string := by kernel_rfl
theorem und5 : Tryd.prog.underlying 5 = some (.int .u8) := by kernel_rfl
theorem name58 : (Tryd.f58.name == "runtime.NumGoroutine") = false := by kernel_rfl
theorem name57 : (Tryd.f57.name == "runtime.NumGoroutine") = false := by kernel_rfl
theorem name32 : (Tryd.f32.name == "runtime.NumGoroutine") = false := by kernel_rfl
theorem name33 : (Tryd.f33.name == "runtime.NumGoroutine") = false := by kernel_rfl
theorem name34 : (Tryd.f34.name == "runtime.NumGoroutine") = false := by kernel_rfl

set_option maxRecDepth 100000 in
theorem text_S {A : Acts} [Priv A] {main : Bool} (h : Know) (c : Array Value) (bs : List Int) (hc : c = (B bs).toArray) (hl : bs.length = 32) : CallS A Tryd.prog main 58 [Value.agg c].toArray h (RetLe (.string (strOf bs)) h) := by
  refine callS_of_wpE Tryd.func58 rfl (by show 1 ≤ 5; decide) ?_
  refine wpE_seq (wpE_region (op_n rfl (runN_box rfl rfl) fun r hr => op_p tyT_ok rfl (opsE_nil ?_)))
  refine wpE_seq (wpE_region ?_)
  have hcs : c.size = 32 := by rw [hc]; simp [hl]
  refine op_re rfl (runV_slice_array rfl und106 ti5 rfl (hh := 32) (l := 0) rfl rfl (by decide)) (v' := .slice (some ⟨r, 0, none⟩) 32 32) rfl ?_
  refine op_r rfl (runV_text (dd := .string) (bs := bs) (c := c) rfl rfl ti64u8 und9 und5 (Know.upd_same _ _ _) (by rw [hcs]; exact Nat.le_refl _) ?_) ?_
  · have e : 0 + 32 = c.size := by rw [hcs]
    rw [e, Array.extract_size, hc]; rfl
  refine op_p tyT_ok rfl ?_
  refine opsE_nil (wpE_ret (bodyQ_one (fn := Tryd.f58) rfl rfl ⟨rfl, le_fresh _ hr⟩))

def stateOf (K hs bs : List Int) : List Int := chain K ((padded bs).length / 64) hs (padded bs)
set_option maxRecDepth 100000 in
theorem hash_S {A : Acts} [Priv A] {main : Bool} (h : Know) (s : ByteArray) (K hs : List Int) (m0 mk : Bool) (t0 tk : TypeId) (f0 fk : Nat × Nat) (h0 : h 0 = some (m0, .cells (U hs) t0 f0)) (hK : h 2 = some (mk, .cells (U K) tk fk)) (hKl : K.length = 64) (hhs : hs.length = 8)
    (hlen : s.size ≤ 2 ^ 40) : CallS A Tryd.prog main 32 [Value.string s].toArray h (RetLe (.string (strOf (outL (stateOf K hs (ints s)) 8))) h) := by
  refine callS_of_wpE Tryd.func32 rfl (by show 1 ≤ 6; decide) ?_
  refine wpE_seq (wpE_region (op_p tyT_ok rfl (opsE_nil ?_)))
  refine wpE_seq (wpE_region ?_)
  refine op_p tyT_ok rfl ?_
  refine op_call (fn := Tryd.f57) rfl rfl rfl name57 rfl rfl (of_S h s K hs m0 mk t0 tk f0 fk h0 hK hKl hhs hlen) (ends_le ?_)
  refine op_call (fn := Tryd.f58) rfl rfl rfl name58 rfl rfl (text_S h (digest K hs (ints s)) (outL (stateOf K hs (ints s)) 8) (outC_full _) (outL_length _ _)) (ends_le ?_)
  refine op_p tyT_ok rfl ?_
  exact opsE_nil (wpE_ret (bodyQ_one (fn := Tryd.f32) rfl rfl ⟨rfl, Know.le_refl _⟩))
set_option maxRecDepth 100000 in
theorem plainHash_S {A : Acts} [Priv A] {main : Bool} (h : Know) (s : ByteArray) (K hs : List Int) (m0 mk : Bool) (t0 tk : TypeId) (f0 fk : Nat × Nat) (h0 : h 0 = some (m0, .cells (U hs) t0 f0)) (hK : h 2 = some (mk, .cells (U K) tk fk)) (hKl : K.length = 64) (hhs : hs.length = 8)
    (hlen : s.size ≤ 2 ^ 40) : CallS A Tryd.prog main 11 [Value.string s].toArray h (RetLe (.string (strOf (outL (stateOf K hs (ints s)) 8))) h) := by
  refine callS_of_wpE Tryd.func11 rfl (by show 1 ≤ 5; decide) ?_
  refine wpE_seq (wpE_region (op_p tyT_ok rfl (opsE_nil ?_)))
  refine wpE_seq (wpE_region ?_)
  refine op_p tyT_ok rfl ?_
  refine op_call (fn := Tryd.f32) rfl rfl rfl name32 rfl rfl (hash_S h s K hs m0 mk t0 tk f0 fk h0 hK hKl hhs hlen) (ends_le ?_)
  refine op_p tyT_ok rfl ?_
  exact opsE_nil (wpE_ret (bodyQ_one (fn := Tryd.f11) rfl rfl ⟨rfl, Know.le_refl _⟩))

end Go.Proofs.YtlmecmapkijcnaaDoor

set_option linter.unusedVariables false
namespace Go.Proofs.YtlmecmapkijcnaaDoor
open KL

def kList : List Int := [1116352408, 1899447441, 3049323471, 3921009573, 961987163, 1508970993, 2453635748, 2870763221, 3624381080, 310598401, 607225278, 1426881987, 1925078388, 2162078206, 2614888103, 3248222580, 3835390401, 4022224774, 264347078, 604807628, 770255983, 1249150122, 1555081692, 1996064986, 2554220882, 2821834349, 2952996808, 3210313671, 3336571891, 3584528711, 113926993, 338241895, 666307205, 773529912, 1294757372, 1396182291, 1695183700, 1986661051, 2177026350, 2456956037, 2730485921, 2820302411, 3259730800, 3345764771, 3516065817, 3600352804, 4094571909, 275423344, 430227734, 506948616, 659060556, 883997877, 958139571, 1322822218, 1537002063, 1747873779, 1955562222, 2024104815, 2227730452, 2361852424, 2428436474, 2756734187, 3204031479, 3329325298]
def hList : List Int := [1779033703, 3144134277, 1013904242, 2773480762, 1359893119, 2600822924, 528734635, 1541459225]
theorem kList_wd : WdL kList := by
  intro x hx
  have : kList.all (fun x => decide (0 ≤ x) && decide (x < 4294967296)) = true := by decide
  rw [List.all_eq_true] at this
  have := this x hx
  rw [Bool.and_eq_true, decide_eq_true_eq, decide_eq_true_eq] at this
  exact this
theorem hList_wd : WdL hList := by
  intro x hx
  have : hList.all (fun x => decide (0 ≤ x) && decide (x < 4294967296)) = true := by decide
  rw [List.all_eq_true] at this
  have := this x hx
  rw [Bool.and_eq_true, decide_eq_true_eq, decide_eq_true_eq] at this
  exact this

set_option maxRecDepth 100000 in
theorem consts_S {A : Acts} [Priv A] {main : Bool} (h : Know) : CallS A Tryd.prog main 33 ([] : List Value).toArray h (fun e h' => ∃ v, e = .returned v ∧ ∃ r, v = .slice (some ⟨r, 0, none⟩) 64 64 ∧ h r = none ∧ (h.upd r (true, .cells (Z kList) 3 (0, 0))).le h') := by
  refine callS_of_wpE Tryd.func33 rfl (by show 0 ≤ 2; decide) ?_
  refine wpE_seq (wpE_region (op_p tyT_ok rfl (opsE_nil ?_)))
  refine wpE_seq (wpE_region (op_n rfl (runN_buildSlice (cs := Z kList) rfl ti65 ti3 (by decide) (by decide) (by kernel_rfl)) fun r hr => op_p tyT_ok rfl (opsE_nil ?_)))
  exact wpE_ret (bodyQ_one (fn := Tryd.f33) rfl rfl ⟨_, rfl, r, rfl, hr, Know.le_refl _⟩)

namespace KL
theorem ends_ex {K : Value → Know → Prop} {Pn : List PanicEntry → Know → Prop} {R : Value → Know → Prop} (next : ∀ v h', R v h' → K v h') : EndsV K Pn (fun e h' => ∃ v, e = .returned v ∧ R v h') :=
  ⟨fun v' h' ⟨v, e1, e2⟩ => by cases e1; exact next _ _ e2, fun ch h' ⟨v, e1, _⟩ => (by cases e1), fun h' ⟨v, e1, _⟩ => (by cases e1)⟩
end KL
theorem Buf.pushL {h hh : Know} {v : Value} {xs : List Int} (s : Buf h hh v xs) {r : Nat} (hr : hh r = none) (ys : List Int) :
    SlV (hh.upd r (true, .cells (B ys).toArray 5 (0, 0))) v 5 (B xs) ∧ SrcV (hh.upd r (true, .cells (B ys).toArray 5 (0, 0))) (.slice (some ⟨r, 0, none⟩) ys.length ys.length) (B ys) ∧
    ∀ v' h', Appended (hh.upd r (true, .cells (B ys).toArray 5 (0, 0))) v 5 (B xs ++ B ys) v' h' → Buf h h' v' (xs ++ ys) := by
  obtain ⟨s1, s2, s3⟩ := s
  have hle : hh.le (hh.upd r (true, .cells (B ys).toArray 5 (0, 0))) := le_fresh _ hr
  have known : ∀ b, blk v = some b → ∃ y, hh b = some y := by
    rcases s1 with ⟨rfl, e⟩ | ⟨b, cap, rfl, c, fr, hb, _⟩
    · intro b e; cases e
    · intro b' e; cases e; exact ⟨_, hb⟩
  refine ⟨s1.keep fun b hb => ?_, .inr (.inr ⟨r, 0, ys.length, true, _, 5, (0, 0), by rw [B_length], Know.upd_same _ _ _, by simp [B], ?_⟩), fun v' h' a => ?_⟩
  · obtain ⟨y, hy⟩ := known b hb
    rw [Know.upd_ne _ _ (ne_fresh hy hr)]
  · have e : 0 + (B ys).length = (B ys).toArray.size := by simp
    rw [e, Array.extract_size]
  · obtain ⟨a1, a2, a3, a4⟩ := a
    refine ⟨by rw [B_append]; exact a1, ⟨s2.gh.trans a4.symm, fun c y hc => ?_⟩, fun c hc => ?_⟩
    · refine a2 c y (fun e => ?_) (hle c y (s2 c y hc))
      rw [s3 c e] at hc; cases hc
    · rcases a3 c hc with e | e
      · exact s3 c e
      · cases hq : h c with
        | none => rfl
        | some y => rw [hle c y (s2 c y hq)] at e; cases e

set_option maxRecDepth 100000 in
theorem ref_pad {A : Acts} [Priv A] {main : Bool} (h hh : Know) (v₀ v1 : Value) (bs : List Int) (E : Env) (hlen : bs.length ≤ 2 ^ 40) (hb : Buf h hh v₀ (bs ++ [128]))
    (e0 : E.look 0 = some v1) (e3 : E.look 3 = some v₀) :
    wpE A Tryd.prog main 84 (seqL (seqR (seqR (seqR (bodyOf Tryd.f12))))) (NormalE [] (fun E₁ h₁ => ∃ v, E₁ = [(3, v), (0, v1)] ∧ Buf h h₁ v (bs ++ [128] ++ List.replicate (zerosN bs.length) 0))) [] E hh := by
  refine wpE_block (wpE_loopJ (fun m E hh => ∃ k v, m = zerosN bs.length - k ∧ k ≤ zerosN bs.length ∧ E = [(3, v), (0, v1)] ∧
    Buf h hh v (bs ++ [128] ++ List.replicate k 0)) (Env.le_cons e3 (Env.le_cons e0 (Env.le_nil _))) (Know.le_refl _) ⟨0, v₀, rfl, by omega, rfl, by simpa using hb⟩ ?_)
  rintro m E' hh ⟨k, v, rfl, hk, rfl, hbuf⟩
  have hz : zerosN bs.length < 64 := by unfold zerosN; omega
  have hzd : zerosN bs.length = (119 - bs.length % 64) % 64 := rfl
  have hl : (bs ++ [128] ++ List.replicate k 0).length = bs.length + 1 + k := by simp only [List.length_append, List.length_replicate, List.length_cons, List.length_nil]
  obtain ⟨p, cap, rfl⟩ := hbuf.form
  rw [hl] at hbuf ⊢
  refine wpE_seq (wpE_seq (wpE_region ?_))
  refine op_p tyT_ok rfl ?_
  refine op_p tyT_ok rfl ?_
  refine op_re rfl (runV_rem rfl rfl rfl (by decide)) (v' := .int .i64 (((bs.length + 1 + k) % 64 : Nat) : Int)) (by rw [Int.ofNat_tmod]; rfl) ?_
  by_cases hlt : k < zerosN bs.length
  · refine op_pe tyT_ok rfl (v' := .bool true) ?_ ?_
    · show Value.bool (!decide _) = _
      rw [decide_eq_false (by omega)]; rfl
    refine opsE_nil (wpE_true rfl (wpE_skip ?_))
    refine wpE_block (wpE_region ?_)
    refine op_p tyT_ok rfl ?_
    refine op_n rfl (runN_buildSlice rfl ti64u8 ti5 (by decide) (by decide) (bit8 rfl)) fun r hr => ?_
    obtain ⟨s1, s2, s3⟩ := hbuf.push hr 0
    refine op_x rfl (runX_append rfl rfl rfl ti64u8 ti64u8 (.inl ⟨_, rfl⟩) ti5 (by decide) rfl s1 s2 (B_flat _) (by simp only [B_length, hl, List.length_singleton]; omega)) fun v' h' ha => ?_
    refine op_p tyT_ok rfl ?_
    refine opsE_nil ⟨rfl, zerosN bs.length - (k + 1), _, _, by omega, Env.le_cons rfl (Env.le_cons rfl (Env.le_nil _)), Know.le_refl _, k + 1, v', rfl, by omega, rfl, ?_⟩
    have := s3 _ _ ha
    rwa [List.append_assoc, ← List.replicate_succ'] at this
  · have : k = zerosN bs.length := by omega
    subst this
    refine op_pe tyT_ok rfl (v' := .bool false) ?_ ?_
    · show Value.bool (!decide _) = _
      rw [decide_eq_true (by omega)]; rfl
    refine opsE_nil (wpE_false rfl (wpE_exit ?_))
    repeat refine thenQ_exit ?_
    exact blockQ_exit (normalE (Env.le_cons rfl (Env.le_cons rfl (Env.le_nil _))) (Know.le_refl _) ⟨_, rfl, hbuf⟩)

set_option maxRecDepth 100000 in
theorem ref_len {A : Acts} [Priv A] {main : Bool} (h hh : Know) (v₀ : Value) (s : ByteArray) (xs : List Int) (E : Env) (hsz : s.size ≤ 2 ^ 40) (hlen : xs.length ≤ 2 ^ 41) (hb : Buf h hh v₀ xs)
    (e0 : E.look 0 = some (.string s)) (e3 : E.look 3 = some v₀) (e4 : E.look 4 = some (.int .i64 7)) :
    wpE A Tryd.prog main 84 (seqR (seqL (seqR (seqR (seqR (seqR (bodyOf Tryd.f12))))))) (NormalE [] (fun E₁ h₁ => ∃ v, E₁ = [(3, v)] ∧ Buf h h₁ v (xs ++ lenBytes ((8 * s.size : Nat) : Int) 8))) [] E hh := by
  refine wpE_block (wpE_loopJ (fun m E hh => ∃ (k : Nat) (v : Value), m = 8 - k ∧ k ≤ 8 ∧ E = [(4, .int .i64 (7 - (k : Int))), (3, v), (0, .string s)] ∧
    Buf h hh v (xs ++ lenBytes ((8 * s.size : Nat) : Int) k)) (Env.le_cons e4 (Env.le_cons e3 (Env.le_cons e0 (Env.le_nil _)))) (Know.le_refl _) ⟨0, v₀, rfl, by omega, rfl, by simpa [lenBytes] using hb⟩ ?_)
  rintro m E' hh ⟨k, v, rfl, hk, rfl, hbuf⟩
  have hl : (xs ++ lenBytes ((8 * s.size : Nat) : Int) k).length = xs.length + k := by simp only [List.length_append, lenBytes_length]
  by_cases hlt : k < 8
  · refine wpE_seq (wpE_seq (wpE_region ?_))
    refine op_p tyT_ok rfl ?_
    refine op_pe tyT_ok rfl (v' := .bool true) (congrArg Value.bool (decide_eq_true (by omega))) ?_
    refine opsE_nil (wpE_true rfl (wpE_skip ?_))
    refine wpE_seq (wpE_block (wpE_region ?_))
    refine op_p tyT_ok rfl ?_
    refine op_p tyT_ok rfl ?_
    refine op_p tyT_ok rfl ?_
    refine op_pe tyT_ok rfl (v' := .int .i64 ((8 * s.size : Nat) : Int)) (wrapv (by omega) (by omega)) ?_
    refine op_p tyT_ok rfl ?_
    refine op_pe tyT_ok rfl (v' := .int .i64 ((56 - 8 * k : Nat) : Int)) (wrapv (by omega) (by omega)) ?_
    refine op_re rfl (runV_shr rfl rfl rfl (by omega)) (v' := .int .i64 (((8 * s.size : Nat) : Int) / 2 ^ (56 - 8 * k))) (by rw [Int.toNat_natCast, Nat.min_eq_left (show 56 - 8 * k ≤ IntKind.i64.bits by show _ ≤ 64; omega)]) ?_
    refine op_pe tyT_ok rfl (v' := .int .u8 (lenByte ((8 * s.size : Nat) : Int) k)) rfl ?_
    refine op_n rfl (runN_buildSlice rfl ti64u8 ti5 (by decide) (by decide) (bit8 rfl)) fun r hr => ?_
    obtain ⟨s1, s2, s3⟩ := hbuf.push hr (lenByte ((8 * s.size : Nat) : Int) k)
    refine op_x rfl (runX_append rfl rfl rfl ti64u8 ti64u8 (.inl ⟨_, rfl⟩) ti5 (by decide) rfl s1 s2 (B_flat _) (by simp only [B_length, hl, List.length_singleton]; omega)) fun v' h' ha => ?_
    refine op_p tyT_ok rfl ?_
    refine opsE_nil (wpE_region ?_)
    refine op_p tyT_ok rfl ?_
    refine op_pe tyT_ok rfl (v' := .int .i64 (7 - ((k + 1 : Nat) : Int))) (by congr 1; rw [IntKind.wrap_i64]; omega) ?_
    refine op_p tyT_ok rfl ?_
    refine opsE_nil ⟨rfl, 8 - (k + 1), _, _, by omega, Env.le_cons rfl (Env.le_cons rfl (Env.le_cons rfl (Env.le_nil _))), Know.le_refl _, k + 1, v', rfl, by omega, rfl, ?_⟩
    have := s3 _ _ ha
    rwa [List.append_assoc, ← lenBytes_succ] at this
  · have : k = 8 := by omega
    subst this
    refine wpE_seq (wpE_seq (wpE_region ?_))
    refine op_p tyT_ok rfl ?_
    refine op_pe tyT_ok rfl (v' := .bool false) (congrArg Value.bool (decide_eq_false (by omega))) ?_
    refine opsE_nil (wpE_false rfl (wpE_exit ?_))
    repeat refine thenQ_exit ?_
    exact blockQ_exit (normalE (Env.le_cons rfl (Env.le_nil _)) (Know.le_refl _) ⟨_, rfl, hbuf⟩)

theorem ints_byt (s : ByteArray) : BytL (ints s) := by
  intro x hx
  simp only [ints, List.mem_map] at hx
  obtain ⟨b, _, rfl⟩ := hx
  have := b.toNat_lt
  unfold Byt; omega
theorem u8_byt (x : Int) : Byt (IntKind.u8.wrap x) := by
  have : IntKind.u8.wrap x = x % 256 := by simp [IntKind.wrap, IntKind.bits, IntKind.signed]
  rw [this]; unfold Byt; omega
theorem lenBytes_byt (L : Int) (n : Nat) : BytL (lenBytes L n) := by
  intro x hx
  simp only [lenBytes, List.mem_map] at hx
  obtain ⟨i, _, rfl⟩ := hx
  exact u8_byt _
theorem BytL.app {l m : List Int} (h1 : BytL l) (h2 : BytL m) : BytL (l ++ m) := fun x hx => by
  rcases List.mem_append.1 hx with g | g
  · exact h1 x g
  · exact h2 x g
theorem BytL.drop {l : List Int} (h : BytL l) (n : Nat) : BytL (l.drop n) := fun x hx => h x (List.mem_of_mem_drop hx)
theorem padded_byt (s : ByteArray) : BytL (padded (ints s)) := by
  unfold padded
  refine BytL.app (BytL.app (BytL.app (ints_byt s) fun x hx => ?_) fun x hx => ?_) (lenBytes_byt _ _)
  · rw [List.mem_singleton] at hx; subst hx; unfold Byt; omega
  · rw [List.eq_of_mem_replicate hx]; unfold Byt; omega
theorem padded_i64 {bs : List Int} (h : bs.length ≤ 2 ^ 40) : bs ++ [128] ++ List.replicate (zerosN bs.length) 0 ++ lenBytes ((8 * bs.length : Nat) : Int) 8 = padded bs := by
  unfold padded
  have e : IntKind.u64.wrap (IntKind.u64.wrap bs.length * 8) = ((8 * bs.length : Nat) : Int) := by
    have u : ∀ x, IntKind.u64.wrap x = x % 18446744073709551616 := fun x => by simp [IntKind.wrap, IntKind.bits, IntKind.signed]
    rw [u, u]; omega
  rw [e]

set_option maxRecDepth 100000 in
theorem ref_blocks {A : Acts} [Priv A] {main : Bool} (h : Know) (b cap M rK capK rH : Nat) (xs K hs : List Int) (mk : Bool) (tk : TypeId) (fk : Nat × Nat) (hK : h rK = some (mk, .cells (Z K) tk fk)) (hKl : K.length = 64) (hKw : WdL K) (hhs : hs.length = 8) (hhw : WdL hs)
    (hb : SlB h b cap 5 (B xs)) (hx : BytL xs) (hM : xs.length = 64 * M) (hbnd : xs.length ≤ 2 ^ 42) (hr : h rH = none) (E : Env)
    (e3 : E.look 3 = some (.slice (some ⟨b, 0, none⟩) xs.length cap)) (e5 : E.look 5 = some (.slice (some ⟨rH, 0, none⟩) 8 8)) (e6 : E.look 6 = some (.slice (some ⟨rK, 0, none⟩) 64 capK)) (e7 : E.look 7 = some (.int .i64 0)) :
    wpE A Tryd.prog main 84 (seqR (seqL (seqR (seqR (seqR (seqR (seqR (seqR (seqR (bodyOf Tryd.f12)))))))))) (NormalE [] (fun E₁ h₁ => ∃ r, h r = none ∧ E₁ = [(5, .slice (some ⟨r, 0, none⟩) 8 8)] ∧ h₁ = h.upd r (true, .cells (Z (chain K M hs xs)) 3 (0, 0)))) [] E (h.upd rH (true, .cells (Z hs) 3 (0, 0))) := by
  have hcap : xs.length ≤ cap := by obtain ⟨c, fr, _, _, _, hl, _⟩ := hb; rwa [B_length] at hl
  refine wpE_block (wpE_loopJ (fun m E hh => ∃ (k r : Nat), m = M - k ∧ k ≤ M ∧ h r = none ∧ E = [(7, .int .i64 ((64 * k : Nat) : Int)), (6, .slice (some ⟨rK, 0, none⟩) 64 capK), (5, .slice (some ⟨r, 0, none⟩) 8 8), (3, .slice (some ⟨b, 0, none⟩) (64 * M) cap)] ∧
    hh = h.upd r (true, .cells (Z (chain K k hs xs)) 3 (0, 0))) (Env.le_cons e7 (Env.le_cons e6 (Env.le_cons e5 (Env.le_cons (by rw [e3, hM]) (Env.le_nil _))))) (Know.le_refl _) ⟨0, rH, rfl, by omega, hr, rfl, rfl⟩ ?_)
  rintro m E' hh ⟨k, r, rfl, hk, hrn, rfl, rfl⟩
  have hbne : b ≠ r := by obtain ⟨c, fr, hb, _⟩ := hb; exact ne_fresh hb hrn
  have hsl : SlB (h.upd r (true, .cells (Z (chain K k hs xs)) 3 (0, 0))) b cap 5 (B xs) := by
    obtain ⟨c, fr, h1, h2⟩ := hb; exact ⟨c, fr, by rw [Know.upd_ne _ _ hbne]; exact h1, h2⟩
  by_cases hlt : k < M
  · refine wpE_seq (wpE_seq (wpE_region ?_))
    refine op_p tyT_ok rfl ?_
    refine op_p tyT_ok rfl ?_
    refine op_p tyT_ok rfl ?_
    refine op_pe tyT_ok rfl (v' := .bool true) (congrArg Value.bool (decide_eq_true (show ((64 * k : Nat) : Int) < ((64 * M : Nat) : Int) by omega))) ?_
    refine opsE_nil (wpE_true rfl (wpE_skip ?_))
    refine wpE_seq (wpE_block (wpE_region ?_))
    refine op_p tyT_ok rfl ?_
    refine op_p tyT_ok rfl ?_
    refine op_p tyT_ok rfl ?_
    refine op_p tyT_ok rfl ?_
    refine op_pe tyT_ok rfl (v' := .int .i64 ((64 * k + 64 : Nat) : Int)) (wrapv (by omega) (by omega)) ?_
    refine op_re rfl (runV_slice_slice rfl ti64u8 ti5 rfl (hh := 64 * k + 64) (l := 64 * k) ⟨_, _, rfl, by omega, by omega, by omega⟩ ⟨_, _, rfl, by omega, by omega, by omega⟩) (v' := .slice (some ⟨b, 64 * k, none⟩) 64 (cap - 64 * k)) ?_ ?_
    · rw [if_neg (by omega), Nat.zero_add, Nat.mul_one, Nat.add_sub_cancel_left]
    refine op_p tyT_ok rfl ?_
    refine op_call (fn := Tryd.f34) rfl rfl rfl name34 rfl rfl (chunk_S (h.upd r (true, .cells (Z (chain K k hs xs)) 3 (0, 0))) r 8 b (64 * k) (cap - 64 * k) rK capK K (chain K k hs xs) (xs.drop (64 * k)) true mk 3 tk (0, 0) fk (Know.upd_same _ _ _) (by rw [chain_length]; exact hhs) (chain_wd k hhw)
      (by rw [Know.upd_ne _ _ (ne_fresh hK hrn)]; exact hK) hKl hKw (hx.drop _) (bytes64_of hsl (by omega))) (ends_ex ?_)
    rintro v h' ⟨r', rfl, hr', hle'⟩
    have hr'' : h r' = none := by
      have hne : r ≠ r' := ne_fresh (Know.upd_same _ _ _) hr'
      rw [Know.upd_ne _ _ (Ne.symm hne)] at hr'; exact hr'
    refine op_p tyT_ok rfl ?_
    refine opsE_nil (wpE_region ?_)
    refine op_p tyT_ok rfl ?_
    refine op_pe tyT_ok rfl (v' := .int .i64 ((64 * (k + 1) : Nat) : Int)) (wrapv (by omega) (by omega)) ?_
    refine op_p tyT_ok rfl ?_
    refine opsE_nil ⟨rfl, M - (k + 1), _, _, by omega, Env.le_cons rfl (Env.le_cons rfl (Env.le_cons rfl (Env.le_cons rfl (Env.le_nil _)))), ?_, k + 1, r', rfl, by omega, hr'', rfl, rfl⟩
    rw [chain_succ]
    exact Know.le_trans (le_both r' _ (le_fresh _ hrn)) hle'
  · have : k = M := by omega
    subst this
    refine wpE_seq (wpE_seq (wpE_region ?_))
    refine op_p tyT_ok rfl ?_
    refine op_p tyT_ok rfl ?_
    refine op_p tyT_ok rfl ?_
    refine op_pe tyT_ok rfl (v' := .bool false) (congrArg Value.bool (decide_eq_false (Int.lt_irrefl _))) ?_
    refine opsE_nil (wpE_false rfl (wpE_exit ?_))
    repeat refine thenQ_exit ?_
    exact blockQ_exit (normalE (Env.le_cons rfl (Env.le_nil _)) (Know.le_refl _) ⟨r, hrn, rfl, rfl⟩)

set_option maxRecDepth 100000 in
theorem ref_out {A : Acts} [Priv A] {main : Bool} (h : Know) (rH : Nat) (hs : List Int) (mh : Bool) (th : TypeId) (fh : Nat × Nat) (hH : h rH = some (mh, .cells (Z hs) th fh)) (hhs : hs.length = 8) (E : Env)
    (e5 : E.look 5 = some (.slice (some ⟨rH, 0, none⟩) 8 8)) (e8 : E.look 8 = some (.slice none 0 0)) (e9 : E.look 9 = some (.int .i64 0)) :
    wpE A Tryd.prog main 84 (seqR (seqL (seqR (seqR (seqR (seqR (seqR (seqR (seqR (seqR (seqR (bodyOf Tryd.f12)))))))))))) (NormalE [] (fun E₁ h₁ => ∃ v, E₁ = [(8, v)] ∧ Buf h h₁ v (outL hs 8))) [] E h := by
  refine wpE_block (wpE_loopJ (fun m E hh => ∃ (k : Nat) (v : Value), m = 8 - k ∧ k ≤ 8 ∧ E = [(9, .int .i64 (k : Int)), (8, v), (5, .slice (some ⟨rH, 0, none⟩) 8 8)] ∧
    Buf h hh v (outL hs k)) (Env.le_cons e9 (Env.le_cons e8 (Env.le_cons e5 (Env.le_nil _)))) (Know.le_refl _) ⟨0, _, rfl, by omega, rfl, ⟨.inl ⟨rfl, rfl⟩, Know.le_refl _, fun c e => by cases e⟩⟩ ?_)
  rintro m E' hh ⟨k, v, rfl, hk, rfl, hbuf⟩
  have hl := outL_length hs k
  have hHb : hh rH = some (mh, .cells (Z hs) th fh) := hbuf.2.1 _ _ hH
  by_cases hlt : k < 8
  · refine wpE_seq (wpE_seq (wpE_region ?_))
    refine op_p tyT_ok rfl ?_
    refine op_pe tyT_ok rfl (v' := .bool true) (congrArg Value.bool (decide_eq_true (show ((k : Nat) : Int) < 8 by omega))) ?_
    refine opsE_nil (wpE_true rfl (wpE_skip ?_))
    refine wpE_seq (wpE_block (wpE_drawTB 24 (by kernel_rfl) (by kernel_rfl) rfl (by kernel_rfl) ?_))
    simp only [List.take_succ_cons, List.take_zero, List.drop_succ_cons, List.drop_zero]
    refine hd_p tyT_ok rfl ?_
    refine hd_p tyT_ok rfl ?_
    refine hd_p tyT_ok rfl ?_
    refine hd_re rfl rfl (runV_indexAddr_slice rfl ti65 ti3 rfl rfl (by omega) (by omega)) (v' := .pointer (some ⟨rH, k, none⟩)) (by rw [Int.toNat_natCast, Nat.mul_one, Nat.zero_add]) ?_
    refine hd_r rfl rfl (runV_load rfl rfl Tryd.underlying3 rfl hHb (Z_get (l := hs) (i := k) (by omega))) ?_
    refine hd_fe rfl (fun _ => runV_shr rfl rfl rfl (by decide)) (v' := .int .i64 (at0 hs k / 2 ^ 24)) rfl ?_
    refine hd_p tyT_ok rfl ?_
    refine hd_p tyT_ok rfl ?_
    refine hd_p tyT_ok rfl ?_
    refine hd_re rfl rfl (runV_indexAddr_slice rfl ti65 ti3 rfl rfl (by omega) (by omega)) (v' := .pointer (some ⟨rH, k, none⟩)) (by rw [Int.toNat_natCast, Nat.mul_one, Nat.zero_add]) ?_
    refine hd_r rfl rfl (runV_load rfl rfl Tryd.underlying3 rfl hHb (Z_get (l := hs) (i := k) (by omega))) ?_
    refine hd_fe rfl (fun _ => runV_shr rfl rfl rfl (by decide)) (v' := .int .i64 (at0 hs k / 2 ^ 16)) rfl ?_
    refine hd_p tyT_ok rfl ?_
    refine hd_p tyT_ok rfl ?_
    refine hd_p tyT_ok rfl ?_
    refine hd_re rfl rfl (runV_indexAddr_slice rfl ti65 ti3 rfl rfl (by omega) (by omega)) (v' := .pointer (some ⟨rH, k, none⟩)) (by rw [Int.toNat_natCast, Nat.mul_one, Nat.zero_add]) ?_
    refine hd_r rfl rfl (runV_load rfl rfl Tryd.underlying3 rfl hHb (Z_get (l := hs) (i := k) (by omega))) ?_
    refine hd_fe rfl (fun _ => runV_shr rfl rfl rfl (by decide)) (v' := .int .i64 (at0 hs k / 2 ^ 8)) rfl ?_
    refine hd_p tyT_ok rfl ?_
    refine hd_p tyT_ok rfl ?_
    refine hd_p tyT_ok rfl ?_
    refine hd_re rfl rfl (runV_indexAddr_slice rfl ti65 ti3 rfl rfl (by omega) (by omega)) (v' := .pointer (some ⟨rH, k, none⟩)) (by rw [Int.toNat_natCast, Nat.mul_one, Nat.zero_add]) ?_
    refine hd_r rfl rfl (runV_load rfl rfl Tryd.underlying3 rfl hHb (Z_get (l := hs) (i := k) (by omega))) ?_
    refine hd_p tyT_ok rfl ?_
    refine hd_nil ?_
    refine tl_n rfl (runN_buildSlice (cs := (B (four (at0 hs k))).toArray) rfl ti64u8 ti5 (by decide) (by decide) (by kernel_rfl)) fun r hr => ?_
    obtain ⟨s1, s2, s3⟩ := hbuf.pushL hr (four (at0 hs k))
    refine tl_x rfl (runX_append rfl rfl rfl ti64u8 ti64u8 (.inl ⟨_, rfl⟩) ti5 (by decide) rfl s1 s2 (B_flat _) (by rw [B_length, B_length, hl]; show 2 * (4 * k + 4) * 1 ≤ _; omega)) fun v' h' ha => ?_
    refine tl_p tyT_ok rfl ?_
    refine tl_nil (wpE_region ?_)
    refine op_p tyT_ok rfl ?_
    refine op_pe tyT_ok rfl (v' := .int .i64 ((k + 1 : Nat) : Int)) (wrapv (by omega) (by omega)) ?_
    refine op_p tyT_ok rfl ?_
    exact opsE_nil ⟨rfl, 8 - (k + 1), _, _, by omega, Env.le_cons rfl (Env.le_cons rfl (Env.le_cons rfl (Env.le_nil _))), Know.le_refl _, k + 1, v', rfl, by omega, rfl, s3 _ _ ha⟩
  · have : k = 8 := by omega
    subst this
    refine wpE_seq (wpE_seq (wpE_region ?_))
    refine op_p tyT_ok rfl ?_
    refine op_p tyT_ok rfl ?_
    refine opsE_nil (wpE_false rfl (wpE_exit ?_))
    repeat refine thenQ_exit ?_
    exact blockQ_exit (normalE (Env.le_cons rfl (Env.le_nil _)) (Know.le_refl _) ⟨_, rfl, hbuf⟩)

set_option maxRecDepth 100000 in
/-- The reference's digest, as a text. -/
theorem refHash_S {A : Acts} [Priv A] {main : Bool} (h : Know) (s : ByteArray) (hlen : s.size ≤ 2 ^ 40) : CallS A Tryd.prog main 12 [Value.string s].toArray h (RetLe (.string (strOf (outL (stateOf kList hList (ints s)) 8))) h) := by
  refine callS_of_wpE Tryd.func12 rfl (by show 1 ≤ 84; decide) ?_
  have hil : (ints s).length = s.size := ints_length s
  refine wpE_seq (wpE_region (op_p tyT_ok rfl (opsE_nil ?_)))
  refine wpE_seq (wpE_region (op_p tyT_ok rfl (op_x rfl (runX_bytes (ds := .string) rfl rfl (by kernel_rfl) ti64u8 (by kernel_rfl)) fun v1 h2 hv1 => op_p tyT_ok rfl (opsE_nil ?_))))
  obtain ⟨s1, s2, s3⟩ := hv1
  rw [← B_ints] at s1
  have hb1 : Buf h h2 v1 (ints s) := ⟨s1, s2, s3⟩
  clear s1 s2 s3
  refine wpE_seq (wpE_region ?_)
  refine op_p tyT_ok rfl ?_
  refine op_n rfl (runN_buildSlice rfl ti64u8 ti5 (by decide) (by decide) (bit8 rfl)) fun r hr => ?_
  obtain ⟨s1, s2, s3⟩ := hb1.push hr 128
  refine op_x rfl (runX_append rfl rfl rfl ti64u8 ti64u8 (.inl ⟨_, rfl⟩) ti5 (by decide) rfl s1 s2 (B_flat _) (by simp only [B_length, List.length_singleton]; omega)) fun v3 h3 ha => ?_
  refine op_p tyT_ok rfl ?_
  refine opsE_nil ?_
  refine wpE_seqE (ref_pad h h3 v3 (.string s) (ints s) _ (by omega) (s3 _ _ ha) rfl rfl) ?_
  rintro E4 h4 ⟨v4, rfl, hb4⟩
  have hz : zerosN (ints s).length < 64 := by unfold zerosN; omega
  refine wpE_seqE (M := fun E₁ h₁ => ∃ v, E₁ = [(3, v)] ∧ Buf h h₁ v (padded (ints s))) (wpE_seq (wpE_region (op_p tyT_ok rfl (opsE_nil ?_)))) ?_
  · rw [← padded_i64 (by omega : (ints s).length ≤ 2 ^ 40), hil]
    rw [hil] at hb4 hz
    exact ref_len h h4 v4 s _ _ hlen (by simp only [List.length_append, List.length_replicate, List.length_singleton]; omega) hb4 rfl rfl rfl
  rintro E5 h5 ⟨v5, rfl, hb5⟩
  obtain ⟨hpl, hpb⟩ := padded_length (ints s)
  have hne5 : padded (ints s) ≠ [] := by unfold padded; simp
  have hle5 : h.le h5 := hb5.2.1
  obtain ⟨b, cap, rfl, hslb, hfb⟩ := hb5.block hne5
  refine wpE_seq (wpE_region (op_n rfl (runN_buildSlice (cs := Z hList) rfl ti65 ti3 (by decide) (by decide) (by kernel_rfl)) fun rH hrH => op_p tyT_ok rfl (opsE_nil ?_)))
  refine wpE_seq (wpE_region (op_call (fn := Tryd.f33) rfl rfl rfl name33 rfl rfl (consts_S (h5.upd rH (true, .cells (Z hList) 3 (0, 0)))) (ends_ex ?_)))
  rintro v h6 ⟨rK, rfl, hrK, hle6⟩
  refine op_p tyT_ok rfl (opsE_nil ?_)
  have hneK : rH ≠ rK := ne_fresh (Know.upd_same _ _ _) hrK
  have hrK5 : h5 rK = none := by rw [Know.upd_ne _ _ (Ne.symm hneK)] at hrK; exact hrK
  -- the state's block is laid over the constants'
  have hX : ((h5.upd rK (true, .cells (Z kList) 3 (0, 0))).upd rH (true, .cells (Z hList) 3 (0, 0))).le h6 := by
    refine Know.le_trans ?_ hle6
    refine ⟨rfl, ?_⟩
    intro c w e
    by_cases hc : c = rK
    · subst hc
      rw [Know.upd_ne _ _ (Ne.symm hneK), Know.upd_same] at e
      rw [Know.upd_same]; exact e
    · rw [Know.upd_ne _ _ hc]
      by_cases hd : c = rH
      · subst hd; rw [Know.upd_same] at e ⊢; exact e
      · rw [Know.upd_ne _ _ hd, Know.upd_ne _ _ hc] at e
        rw [Know.upd_ne _ _ hd]; exact e
  refine wpE_weaken ?_ (Env.le_self _) hX
  have hX5 : h5.le (h5.upd rK (true, .cells (Z kList) 3 (0, 0))) := le_fresh _ hrK5
  have hXH : (h5.upd rK (true, .cells (Z kList) 3 (0, 0))) rH = none := by rw [Know.upd_ne _ _ hneK]; exact hrH
  have hXK : (h5.upd rK (true, .cells (Z kList) 3 (0, 0))) rK = some (true, .cells (Z kList) 3 (0, 0)) := Know.upd_same _ _ _
  have hslX : SlB (h5.upd rK (true, .cells (Z kList) 3 (0, 0))) b cap 5 (B (padded (ints s))) := by
    obtain ⟨c, fr, h1, h2⟩ := hslb; exact ⟨c, fr, hX5 _ _ h1, h2⟩
  have hleX : h.le (h5.upd rK (true, .cells (Z kList) 3 (0, 0))) := Know.le_trans hle5 hX5
  generalize h5.upd rK (true, .cells (Z kList) 3 (0, 0)) = hX0 at *
  refine wpE_seqE (M := fun E₁ h₁ => ∃ r, hX0 r = none ∧ E₁ = [(5, .slice (some ⟨r, 0, none⟩) 8 8)] ∧ h₁ = hX0.upd r (true, .cells (Z (chain kList ((padded (ints s)).length / 64) hList (padded (ints s)))) 3 (0, 0))) (wpE_seq (wpE_region (op_p tyT_ok rfl (opsE_nil ?_)))) ?_
  · exact ref_blocks hX0 b cap ((padded (ints s)).length / 64) rK 64 rH (padded (ints s)) kList hList true 3 (0, 0) hXK rfl kList_wd rfl hList_wd hslX (padded_byt s) hpl (by omega) hXH _ rfl rfl rfl rfl
  rintro E7 h7 ⟨r7, hr7, rfl, rfl⟩
  have hst : stateOf kList hList (ints s) = chain kList ((padded (ints s)).length / 64) hList (padded (ints s)) := rfl
  have hcl : (chain kList ((padded (ints s)).length / 64) hList (padded (ints s))).length = 8 := by rw [chain_length]; rfl
  rw [hst]
  generalize chain kList ((padded (ints s)).length / 64) hList (padded (ints s)) = hs' at *
  have hle7 : hX0.le (hX0.upd r7 (true, .cells (Z hs') 3 (0, 0))) := le_fresh _ hr7
  have hat7 : (hX0.upd r7 (true, .cells (Z hs') 3 (0, 0))) r7 = some (true, .cells (Z hs') 3 (0, 0)) := Know.upd_same _ _ _
  generalize hX0.upd r7 (true, .cells (Z hs') 3 (0, 0)) = h7 at *
  refine wpE_seq (wpE_region (op_p tyT_ok rfl (opsE_nil ?_)))
  refine wpE_seqE (M := fun E₁ h₁ => ∃ v, E₁ = [(8, v)] ∧ Buf h7 h₁ v (outL hs' 8)) (wpE_seq (wpE_region (op_p tyT_ok rfl (opsE_nil ?_)))) ?_
  · exact ref_out h7 r7 hs' true 3 (0, 0) hat7 hcl _ rfl rfl rfl
  rintro E8 h8 ⟨v8, rfl, hb8⟩
  have hol := outL_length hs' 8
  obtain ⟨b8, cap8, rfl, hsl8, _⟩ := hb8.block (by intro e; rw [e] at hol; cases hol)
  obtain ⟨c8, fr8, hc8, hs8, ht8, hn8, _⟩ := hsl8
  rw [hol]
  refine wpE_seq (wpE_region ?_)
  refine op_p tyT_ok rfl ?_
  refine op_r rfl (runV_text (dd := .string) (bs := outL hs' 8) (c := c8) rfl rfl ti64u8 und9 und5 hc8 (by rw [B_length, hol] at hn8; omega) ?_) ?_
  · have := extract_take ht8
    rw [B_length, hol] at this
    rw [Nat.zero_add]; exact this
  refine op_p tyT_ok rfl ?_
  exact opsE_nil (wpE_ret (bodyQ_one (fn := Tryd.f12) rfl rfl ⟨rfl, Know.le_trans hleX (Know.le_trans hle7 hb8.2.1)⟩))

end Go.Proofs.YtlmecmapkijcnaaDoor
