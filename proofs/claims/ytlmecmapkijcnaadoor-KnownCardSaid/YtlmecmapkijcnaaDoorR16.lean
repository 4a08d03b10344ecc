/- The law 'Roots': the root by workers is the document's. -/
import Derived.Test.YtlmecmapkijcnaaDoorR12
import Derived.Test.YtlmecmapkijcnaaDoorR15
set_option linter.unusedVariables false
set_option maxRecDepth 100000
namespace Go.Proofs.YtlmecmapkijcnaaDoor
namespace KL
open Go.Conc (G solo)
attribute [local irreducible] digC digT

section
variable {P : Program} {ρ : Operand → Value} {o : Oper}
theorem sil_max {x y : Operand} {ats : Array TypeId} {k : IntKind} {a b : Int} (ho : o.op = .call { callee := .builtin .max, args := #[x, y], argTypes := ats }) (hx : ρ x = .int k a) (hy : ρ y = .int k b) : sil P (execOp ρ o) (.value (.int k (if b > a then b else a))) := by
  simp only [execOp, ho, resolve, invoke, builtin, List.map_toArray, List.map_cons, List.map_nil, hx, hy]
  exact sil_bind _ _ (sil_pure _) (sil_pure _)
theorem sil_min {x y : Operand} {ats : Array TypeId} {k : IntKind} {a b : Int} (ho : o.op = .call { callee := .builtin .min, args := #[x, y], argTypes := ats }) (hx : ρ x = .int k a) (hy : ρ y = .int k b) : sil P (execOp ρ o) (.value (.int k (if b < a then b else a))) := by
  simp only [execOp, ho, resolve, invoke, builtin, List.map_toArray, List.map_cons, List.map_nil, hx, hy]
  exact sil_bind _ _ (sil_pure _) (sil_pure _)
end

theorem wide_root (l : List ByteArray) : digT (wideP l) = rootF (l.length + 1) l := by
  unfold wideP
  by_cases h : l.length = 0
  · rw [if_pos h]
    have : l = [] := List.length_eq_zero_iff.1 h
    subst this; simp [rootF]
  · rw [if_neg h]; exact (levels_root l (by omega)).2

theorem root35_S (w : Int) (l : List ByteArray) (h : Know) (v : Value) (hg : h.gh = .idle) (hn : l.length ≤ 2 ^ 30) (hsz : ∀ s ∈ l, s.size ≤ 2 ^ 39) (hv : StrsAt h v l) (T : Tables h) :
    CallS actsM Tryd.prog true 35 [v, .int .i64 w].toArray h (RetLe (.string (rootF (l.length + 1) l)) h) := by
  refine callS_of_wpE (fn := Tryd.f35) Tryd.func35 rfl (by show 2 ≤ 11; decide) ?_
  obtain ⟨W, eW, h1, h8⟩ : ∃ W : Nat, (if 8 < (if 1 > w then 1 else w) then 8 else (if 1 > w then 1 else w)) = (W : Int) ∧ 1 ≤ W ∧ W ≤ 1000 := by
    refine ⟨(if 8 < (if 1 > w then 1 else w) then 8 else (if 1 > w then 1 else w)).toNat, ?_, ?_, ?_⟩ <;> split <;> split <;> omega
  refine wpE_seq (wpE_region (op_p tyX_ok rfl (opsE_nil ?_)))
  refine wpE_seq (wpE_region ?_)
  refine op_p tyX_ok rfl ?_
  refine op_p tyX_ok rfl ?_
  refine mr rfl (sil_max rfl rfl rfl) rfl ?_
  refine mr rfl (sil_min rfl rfl rfl) (v' := .int .i64 W) (congrArg (Value.int .i64) eW) ?_
  refine op_call (fn := Tryd.f60) rfl rfl Tryd.func60 (by kernel_rfl) rfl rfl (wide_S W l h v hg h1 h8 hn hsz hv T) (ends_le ?_)
  refine op_call (fn := Tryd.f58) rfl rfl rfl name58 rfl rfl (sumsText_S h (wideP l)) (ends_le ?_)
  rw [wide_root]
  refine op_p tyX_ok rfl ?_
  exact opsE_nil (wpE_ret (bodyQ_one (fn := Tryd.f35) rfl rfl ⟨rfl, Know.le_refl _⟩))
theorem root14_S (w : Int) (l : List ByteArray) (h : Know) (v : Value) (hg : h.gh = .idle) (hn : l.length ≤ 2 ^ 30) (hsz : ∀ s ∈ l, s.size ≤ 2 ^ 39) (hv : StrsAt h v l) (T : Tables h) :
    CallS actsM Tryd.prog true 14 [v, .int .i64 w].toArray h (RetLe (.string (rootF (l.length + 1) l)) h) := by
  refine callS_of_wpE (fn := Tryd.f14) Tryd.func14 rfl (by show 2 ≤ 8; decide) ?_
  refine wpE_seq (wpE_region (op_p tyX_ok rfl (opsE_nil ?_)))
  refine wpE_seq (wpE_region ?_)
  refine op_p tyX_ok rfl ?_
  refine op_p tyX_ok rfl ?_
  refine op_call (fn := Tryd.f35) rfl rfl Tryd.func35 (by kernel_rfl) rfl rfl (root35_S w l h v hg hn hsz hv T) (ends_le ?_)
  refine op_p tyX_ok rfl ?_
  exact opsE_nil (wpE_ret (bodyQ_one (fn := Tryd.f14) rfl rfl ⟨rfl, Know.le_refl _⟩))

/-! ### The bound -/
def sumS (l : List ByteArray) (k : Nat) : Nat := l.length + ((l.take k).map ByteArray.size).sum
theorem sumS_succ (l : List ByteArray) {k : Nat} (hk : k < l.length) : sumS l (k + 1) = sumS l k + (l.getD k ByteArray.empty).size := by
  unfold sumS
  have e : l.take (k + 1) = l.take k ++ [l.getD k ByteArray.empty] := by
    rw [List.take_add_one, List.getD_eq_getElem?_getD, List.getElem?_eq_getElem hk]; rfl
  rw [e, List.map_append, List.sum_append, Nat.add_assoc]
  rfl
theorem sumS_le (l : List ByteArray) : ∀ s ∈ l, s.size ≤ sumS l l.length := by
  intro s hs
  unfold sumS
  rw [List.take_length]
  have : ∀ (l : List ByteArray), s ∈ l → s.size ≤ (l.map ByteArray.size).sum := by
    intro l
    induction l with
    | nil => intro h; cases h
    | cons a l ih =>
      intro h
      rcases List.mem_cons.1 h with rfl | h
      · simp
      · have := ih h; simp; omega
  have := this l hs; omega

theorem small_S {A : Acts} [Priv A] {main : Bool} (l : List ByteArray) (h : Know) (v : Value) (hv : StrsAt h v l) (hl : l.length ≤ 2 ^ 47) (hs : ∀ s ∈ l, s.size ≤ 2 ^ 47) :
    CallS A Tryd.prog main 13 [v].toArray h (fun e h' => ∃ b : Bool, e = .returned (.bool b) ∧ h.le h' ∧ (b = true → l.length ≤ 2 ^ 20 ∧ ∀ s ∈ l, s.size ≤ 2 ^ 20)) := by
  obtain ⟨base, cap, rfl, hd⟩ := hv
  refine callS_of_wpE (fn := Tryd.f13) Tryd.func13 rfl (by show 1 ≤ 26; decide) ?_
  refine wpE_seq (wpE_region (op_p tyX_ok rfl (opsE_nil ?_)))
  refine wpE_seq (wpE_region (op_p tyX_ok rfl (op_p tyX_ok rfl (op_p tyX_ok rfl (opsE_nil ?_)))))
  refine wpE_seq (wpE_seq (wpE_region (op_p tyX_ok rfl (opsE_nil ?_))))
  refine wpE_block (wpE_loop (fun m ds E hh => ds = [] ∧ hh = h ∧ ∃ k : Nat, m = l.length - k ∧ k ≤ l.length ∧ E.look 0 = some (.slice base l.length cap) ∧ E.look 3 = some (.int .i64 (sumS l k : Nat)) ∧ E.look 4 = some (.int .i64 k) ∧ sumS l k ≤ 2 ^ 48)
    (m := l.length) ⟨rfl, rfl, 0, rfl, Nat.zero_le _, rfl, by show some (Value.int .i64 ((l.length : Nat) : Int)) = _; simp [sumS], rfl, by simp [sumS]; omega⟩ ?_)
  rintro m ds E hh ⟨rfl, rfl, k, rfl, hk, e0, e3, e4, hS⟩
  refine wpE_weaken (E := [(4, .int .i64 k), (3, .int .i64 (sumS l k : Nat)), (0, .slice base l.length cap)]) ?_ (Env.le_cons e4 (Env.le_cons e3 (Env.le_cons e0 (Env.le_nil _)))) (Know.le_refl _)
  have fin : ∀ (b : Bool), b = decide (sumS l k ≤ 1048576) → (b = true → k = l.length) → b = true → l.length ≤ 2 ^ 20 ∧ ∀ s ∈ l, s.size ≤ 2 ^ 20 := by
    intro b e1 e2 e3
    have hk' := e2 e3
    rw [e3] at e1
    have h1 : sumS l k ≤ 1048576 := by simpa using e1.symm
    rw [hk'] at h1
    refine ⟨?_, fun s hs' => ?_⟩
    · have : l.length ≤ sumS l l.length := by unfold sumS; omega
      omega
    · have := sumS_le l s hs'; omega
  refine wpE_seq (wpE_seq (wpE_region ?_))
  refine op_p tyX_ok rfl ?_
  refine op_p tyX_ok rfl ?_
  refine op_p tyX_ok rfl ?_
  by_cases hkl : k < l.length
  · refine op_pe tyX_ok rfl (v' := .bool true) (congrArg Value.bool (decide_eq_true (by omega))) ?_
    refine op_p tyX_ok rfl ?_
    refine mpg tyX_ok rfl rfl rfl rfl ?_
    by_cases hb : sumS l k ≤ 1048576
    · refine mpg tyX_ok rfl rfl rfl (v' := .bool true) (congrArg Value.bool (decide_eq_true (by omega))) ?_
      refine mr rfl (sil_pick rfl rfl rfl) (v' := .bool true) rfl (opsE_nil (wpE_true rfl (wpE_skip ?_)))
      obtain ⟨b, off, mu, c, ty, fr, rfl, kb, hcap, hc⟩ := hd.resolve_left (fun e => by rw [e] at hkl; simp at hkl)
      have hsz : (l.getD k ByteArray.empty).size ≤ 2 ^ 47 := hs _ (by
        rw [List.getD_eq_getElem?_getD, List.getElem?_eq_getElem hkl]; exact List.getElem_mem hkl)
      refine wpE_seq (wpE_block (wpE_region ?_))
      refine op_p tyX_ok rfl ?_
      refine op_p tyX_ok rfl ?_
      refine op_p tyX_ok rfl ?_
      refine op_re rfl (runV_indexAddr_slice rfl und24 ti9 rfl rfl (by omega) (by omega)) (v' := .pointer (some ⟨b, off + k, none⟩)) (by simp) ?_
      refine op_r rfl (runV_load rfl rfl und9 rfl kb (hc k hkl)) ?_
      refine op_p tyX_ok rfl ?_
      refine op_pe tyX_ok rfl (v' := .int .i64 (sumS l (k + 1) : Nat)) (congrArg (Value.int .i64) (by rw [sumS_succ l hkl, IntKind.wrap_i64]; omega)) ?_
      refine op_p tyX_ok rfl (opsE_nil (wpE_region ?_))
      refine op_p tyX_ok rfl ?_
      refine op_pe tyX_ok rfl (v' := .int .i64 (k + 1 : Nat)) (congrArg (Value.int .i64) (by rw [IntKind.wrap_i64]; omega)) ?_
      refine op_p tyX_ok rfl (opsE_nil ?_)
      exact ⟨l.length - (k + 1), by omega, rfl, rfl, k + 1, rfl, hkl, rfl, rfl, rfl, by rw [sumS_succ l hkl]; omega⟩
    · refine mpg tyX_ok rfl rfl rfl (v' := .bool false) (congrArg Value.bool (decide_eq_false (by omega))) ?_
      refine mr rfl (sil_pick rfl rfl rfl) (v' := .bool false) rfl (opsE_nil (wpE_false rfl (wpE_exit ?_)))
      suffices hsf : wpE A Tryd.prog main 26 _ (bodyQ Tryd.prog Tryd.f13 (fun e h' => ∃ b : Bool, e = .returned (.bool b) ∧ hh.le h' ∧ (b = true → l.length ≤ 2 ^ 20 ∧ ∀ s ∈ l, s.size ≤ 2 ^ 20))) [] _ _ from hsf
      refine wpE_seq (wpE_region ?_)
      refine op_p tyX_ok rfl ?_
      refine op_pe tyX_ok rfl (v' := .bool false) (congrArg Value.bool (decide_eq_false (by omega))) ?_
      refine op_p tyX_ok rfl ?_
      exact opsE_nil (wpE_ret (bodyQ_one (fn := Tryd.f13) rfl rfl ⟨false, rfl, Know.le_refl _, fun e => by cases e⟩))
  · refine op_pe tyX_ok rfl (v' := .bool false) (congrArg Value.bool (decide_eq_false (by omega))) ?_
    refine op_p tyX_ok rfl ?_
    refine mps rfl rfl rfl rfl (mps rfl rfl rfl rfl ?_)
    refine mr rfl (sil_pick rfl rfl rfl) (v' := .bool false) rfl (opsE_nil (wpE_false rfl (wpE_exit ?_)))
    suffices hsf : wpE A Tryd.prog main 26 _ (bodyQ Tryd.prog Tryd.f13 (fun e h' => ∃ b : Bool, e = .returned (.bool b) ∧ hh.le h' ∧ (b = true → l.length ≤ 2 ^ 20 ∧ ∀ s ∈ l, s.size ≤ 2 ^ 20))) [] _ _ from hsf
    refine wpE_seq (wpE_region ?_)
    refine op_p tyX_ok rfl ?_
    refine op_pe tyX_ok rfl (v' := .bool (decide (sumS l k ≤ 1048576))) (congrArg Value.bool (decide_eq_decide.2 (by omega))) ?_
    refine op_p tyX_ok rfl ?_
    exact opsE_nil (wpE_ret (bodyQ_one (fn := Tryd.f13) rfl rfl ⟨_, rfl, Know.le_refl _, fin _ rfl (fun _ => by omega)⟩))

/-! ### The law -/
def rootsQ : Post := fun e ds E h => e = .ret ∧ ds = [] ∧ h.gh = .idle ∧ E.look 4 = some (.bool true)
theorem roots_wp (w : Int) (l : List ByteArray) (h : Know) (v : Value) (hg : h.gh = .idle) (hl : l.length ≤ 2 ^ 47) (hs : ∀ s ∈ l, s.size ≤ 2 ^ 47) (hv : StrsAt h v l) (T : Tables h) (c : Code) (hc : Tryd.f4.body = some c) :
    wpE actsM Tryd.prog true 20 c rootsQ [] (argsE 0 [v, .int .i64 w]) h := by
  obtain rfl : _ = c := Option.some.inj hc
  refine wpE_seq (wpE_region (op_p tyX_ok rfl (opsE_nil ?_)))
  refine wpE_seq (wpE_region ?_)
  refine op_p tyX_ok rfl ?_
  refine op_call (fn := Tryd.f13) rfl rfl Tryd.func13 (by kernel_rfl) rfl rfl (small_S l h v hv hl hs) ⟨?_, fun ch h' ⟨b, e, _⟩ => (by cases e), fun h' ⟨b, e, _⟩ => (by cases e)⟩
  rintro _ h' ⟨b, e, hle, hb⟩
  cases e
  refine opsE_weaken (h := h) ?_ (Env.le_self _) hle
  refine op_p tyX_ok rfl (opsE_nil ?_)
  refine wpE_seq (wpE_seq (wpE_region ?_))
  refine op_p tyX_ok rfl ?_
  cases b with
  | false =>
    refine op_pe tyX_ok rfl (v' := .bool true) rfl (opsE_nil (wpE_true rfl (wpE_seq (wpE_region ?_))))
    refine op_p tyX_ok rfl (opsE_nil (wpE_ret ⟨rfl, rfl, hg, rfl⟩))
  | true =>
    obtain ⟨b1, b2⟩ := hb rfl
    refine op_pe tyX_ok rfl (v' := .bool false) rfl (opsE_nil (wpE_false rfl (wpE_skip ?_)))
    refine wpE_seq (wpE_region ?_)
    refine op_p tyX_ok rfl ?_
    refine op_p tyX_ok rfl ?_
    refine op_call (fn := Tryd.f14) rfl rfl Tryd.func14 (by kernel_rfl) rfl rfl (root14_S w l h v hg (by omega) (fun s hs' => by have := b2 s hs'; omega) hv T) (ends_le ?_)
    refine op_p tyX_ok rfl (opsE_nil ?_)
    refine wpE_seq (wpE_region ?_)
    refine op_p tyX_ok rfl ?_
    refine op_call (fn := Tryd.f15) rfl rfl Tryd.func15 (by kernel_rfl) rfl rfl (refRoot_S (l.length + 1) h v l (by omega) (by omega) (fun s hs' => by have := b2 s hs'; omega) hv) (ends_le ?_)
    generalize rootF (l.length + 1) l = r
    refine op_p tyX_ok rfl (opsE_nil ?_)
    refine wpE_seq (wpE_region ?_)
    refine op_p tyX_ok rfl ?_
    refine op_p tyX_ok rfl ?_
    refine op_pe tyX_ok rfl (v' := .bool true) (congrArg Value.bool (by simp)) ?_
    refine op_p tyX_ok rfl ?_
    exact opsE_nil (wpE_ret ⟨rfl, rfl, hg, rfl⟩)

/-- The good run of the law. -/
theorem roots_run (W : World) (w : Int) (l : List ByteArray) (v : Value) (hl : l.length ≤ 2 ^ 47) (hs : ∀ s ∈ l, s.size ≤ 2 ^ 47) (hv : StrsAt ⟨fun b => (W.heap[b]?).map fun o => (false, o), .idle⟩ v l) (T : Tables ⟨fun b => (W.heap[b]?).map fun o => (false, o), .idle⟩) :
    ∃ n last o w' t', runNT Tryd.prog (n + 1) (solo (G (Frame.enter Tryd.prog 4 #[v, .int .i64 w] .normal) []) W) #[] = (.ended o w', t') ∧ runN Tryd.prog n (solo (G (Frame.enter Tryd.prog 4 #[v, .int .i64 w] .normal) []) W) = .next last ∧ step Tryd.prog last = .ended o w' ∧
      Conc.Good Tryd.prog (fun u w' => u = .bool true ∧ Since W.heap.size W w') last o w' t' := by
  refine run_main (R := fun u => u = .bool true) (h := ⟨fun b => (W.heap[b]?).map fun o => (false, o), .idle⟩) rfl ?_ ?_ ?_
  · intro b m o e
    simp only [Option.map_eq_some_iff, Prod.mk.injEq] at e
    obtain ⟨o', e1, _, rfl⟩ := e
    exact e1
  · intro b o e
    simp at e
  · rw [show (#[v, .int .i64 w] : Array Value) = [v, .int .i64 w].toArray from rfl, Conc.enter_at _ Tryd.func4 (c := _) rfl]
    refine roots_wp w l _ v rfl hl hs hv T _ rfl _ (Conc.base 4) [] [] _ (argsFit (by show 2 ≤ 20; decide)) (by simp [Conc.base]) ?_
    rintro e ds E h' a' ⟨rfl, rfl, hg, hl⟩ hfit
    refine fun todo => GoesS.stop ⟨hg, rfl, hfit.defers, rfl, rfl, by kernel_rfl, Tryd.f4, Tryd.func4, ?_⟩
    have e : results Tryd.f4 a'.tmps = pure (.bool true) := by simp [results, hfit.look 4 _ hl]
    show semS Tryd.prog _ (results Tryd.f4 a'.tmps) h' _
    rw [e]; exact rfl
end KL
end Go.Proofs.YtlmecmapkijcnaaDoor
