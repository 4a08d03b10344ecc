/- The tree's leaves and nodes, the program's and the reference's. The reference's root: halves. Level by level against halves: the same root. -/
import Derived.Test.YtlmecmapkijcnaaDoorR08
set_option linter.unusedVariables false
namespace Go.Proofs.YtlmecmapkijcnaaDoor
namespace KL
section
variable {P : Program} {h : Know}
theorem runV_concat {ρ : Operand → Value} {o : Oper} {t yt : TypeId} {x y : Operand} {a b : ByteArray} (ho : o.op = .binOp .add t x y yt) (hx : ρ x = .string a) (hy : ρ y = .string b) (hl : a.size + b.size < 9223372036854775808) :
    RunV P ρ o h (.string (a ++ b)) h := by
  intro Pn K _ hK
  simp only [execOp, ho, hx, hy]
  have : (do eqGuard .add t x y (.string a) (.string b); binOp .add t (.string a) (.string b) : Sem Value) = pure (.string (a ++ b)) := by
    show binOp .add t (.string a) (.string b) = _
    have hm : ¬ (((a.size + b.size : Nat) : Int) > IntKind.i64.max) := by
      have : IntKind.i64.max = 9223372036854775807 := rfl
      rw [this]; omega
    simp only [binOp, Op.stringOp]
    rw [if_neg hm]
  rw [this]; exact hK
theorem tl_store_row {A : Acts} [Priv A] {main : Bool} {E : Env} {h' : Know} {l : List Oper} {t : TypeId} {x y : Operand} {ty' : TypeId} {pos : String} {after : Array Edge} {b : Nat} {c cs : Array Value} {ty : TypeId} {fr : Nat × Nat} {z : Value} {bt : Nat} {K : Env → Know → Prop} (hx : E.val x = some (.pointer (some ⟨b, 0, none⟩))) (hy : E.val y = some (.agg cs))
    (ti : TI P t z cs.size bt) (hb : h b = some (true, .cells c ty fr)) (hv : cs.toList.all Value.flat = true) (hs : cs.size = c.size) (hf : fr.2 = 0) (e : h.upd b (true, .cells cs ty fr) = h') (next : TailE A P main l E h' K) :
    TailE A P main (⟨none, .store t x y, ty', pos, after, none⟩ :: l) E h K := by
  obtain ⟨h1, h2⟩ := Env.val_ev hx
  obtain ⟨h3, h4⟩ := Env.val_ev hy
  subst e
  exact tl_s (by simp [headB, notSelect, Op.operands, h2, h4]) (runV_store_row rfl h1 h3 ti hb hv hs hf) next
end
end KL
open KL

/-- What a digest is, as cells; what the program's text of it is. -/
def digC (s : ByteArray) : Array Value := digest kList hList (ints s)
def digT (s : ByteArray) : ByteArray := strOf (outL (stateOf kList hList (ints s)) 8)
theorem digC_eq (s : ByteArray) : digC s = (B (outL (stateOf kList hList (ints s)) 8)).toArray := by unfold digC digest stateOf; exact outC_full _
theorem digC_size (s : ByteArray) : (digC s).size = 32 := by unfold digC digest; exact outC_size _ _
theorem digC_flat (s : ByteArray) : (digC s).toList.all Value.flat = true := by unfold digC digest; exact outC_flat _ _
theorem digT_size (s : ByteArray) : (digT s).size = 32 := by
  have := outL_length (stateOf kList hList (ints s)) 8
  simp [digT, strOf, ByteArray.size, this]
/-- The two tables of the program. -/
def Tables (h : Know) : Prop := (∃ m t f, h 0 = some (m, .cells (U hList) t f)) ∧ ∃ m t f, h 2 = some (m, .cells (U kList) t f)
theorem Tables.le {h h' : Know} (T : Tables h) (hl : h.le h') : Tables h' := by
  obtain ⟨⟨m, t, f, a⟩, m', t', f', b⟩ := T
  exact ⟨⟨m, t, f, hl _ _ a⟩, m', t', f', hl _ _ b⟩
theorem sumsOf_S {A : Acts} [Priv A] {main : Bool} (h : Know) (s : ByteArray) (T : Tables h) (hlen : s.size ≤ 2 ^ 40) : CallS A Tryd.prog main 57 [Value.string s].toArray h (RetLe (.agg (digC s)) h) := by
  obtain ⟨⟨m, t, f, a⟩, m', t', f', b⟩ := T
  exact of_S h s kList hList m m' t t' f f' a b rfl rfl hlen
theorem sumsText_S {A : Acts} [Priv A] {main : Bool} (h : Know) (s : ByteArray) : CallS A Tryd.prog main 58 [Value.agg (digC s)].toArray h (RetLe (.string (digT s)) h) :=
  text_S h _ _ (digC_eq s) (outL_length _ _)

def b0 : ByteArray := { data := #[0] }
def b1 : ByteArray := { data := #[1] }

set_option maxRecDepth 100000 in
theorem leaf_S {A : Acts} [Priv A] {main : Bool} (h : Know) (s : ByteArray) (T : Tables h) (hlen : s.size ≤ 2 ^ 39) : CallS A Tryd.prog main 76 [Value.string s].toArray h (RetLe (.agg (digC (b0 ++ s))) h) := by
  refine callS_of_wpE Tryd.func76 rfl (by show 1 ≤ 6; decide) ?_
  have hz : (b0 ++ s).size ≤ 2 ^ 40 := by rw [ByteArray.size_append]; show 1 + s.size ≤ _; omega
  refine wpE_seq (wpE_region (op_n rfl (runN_alloc rfl ti106) fun r hr => opsE_nil ?_))
  refine wpE_seq (wpE_region ?_)
  refine op_p tyT_ok rfl ?_
  refine op_re rfl (runV_concat rfl rfl rfl (by show 1 + s.size < _; omega)) (v' := .string (b0 ++ s)) rfl ?_
  refine op_call (fn := Tryd.f57) rfl rfl rfl name57 rfl rfl (sumsOf_S _ (b0 ++ s) (T.le (le_fresh _ hr)) hz) (ends_le ?_)
  refine op_store_row rfl rfl (z := .agg (B (List.replicate 32 0)).toArray) (bt := 32) (by rw [digC_size]; exact ti106) (Know.upd_same _ _ _) (digC_flat _) (by rw [digC_size]; simp [B, Value.cells]) rfl (h' := h.upd r (true, .cells (digC (b0 ++ s)) 106 (0, 0))) (by rw [upd_upd]) ?_
  refine opsE_nil (wpE_ret ?_)
  exact bodyQ_row (fn := Tryd.f76) rfl rfl und106 rfl (z := .agg (B (List.replicate 32 0)).toArray) (bt := 32) (by rw [digC_size]; exact ti106) (Know.upd_same _ _ _) ⟨rfl, le_fresh _ hr⟩

set_option maxRecDepth 100000 in
theorem empty_S {A : Acts} [Priv A] {main : Bool} (h : Know) (T : Tables h) : CallS A Tryd.prog main 73 ([] : List Value).toArray h (RetLe (.agg (digC ByteArray.empty)) h) := by
  refine callS_of_wpE Tryd.func73 rfl (by show 0 ≤ 2; decide) ?_
  refine wpE_seq (wpE_region (op_n rfl (runN_alloc rfl ti106) fun r hr => opsE_nil ?_))
  refine wpE_seq (wpE_region ?_)
  refine op_call (fn := Tryd.f57) rfl rfl rfl name57 rfl rfl (sumsOf_S _ ByteArray.empty (T.le (le_fresh _ hr)) (by decide)) (ends_le ?_)
  refine op_store_row rfl rfl (z := .agg (B (List.replicate 32 0)).toArray) (bt := 32) (by rw [digC_size]; exact ti106) (Know.upd_same _ _ _) (digC_flat _) (by rw [digC_size]; simp [B, Value.cells]) rfl (h' := h.upd r (true, .cells (digC ByteArray.empty) 106 (0, 0))) (by rw [upd_upd]) ?_
  refine opsE_nil (wpE_ret ?_)
  exact bodyQ_row (fn := Tryd.f73) rfl rfl und106 rfl (z := .agg (B (List.replicate 32 0)).toArray) (bt := 32) (by rw [digC_size]; exact ti106) (Know.upd_same _ _ _) ⟨rfl, le_fresh _ hr⟩

set_option maxRecDepth 100000 in
theorem node_aux {A : Acts} [Priv A] {main : Bool} (h : Know) (cx cy cz : Array Value) (tx ty : ByteArray) (T : Tables h) (sx : cx.size = 32) (sy : cy.size = 32) (sz : cz.size = 32) (fz : cz.toList.all Value.flat = true) (hx : tx.size = 32) (hy : ty.size = 32)
    (kx : ∀ h : Know, CallS A Tryd.prog main 58 [Value.agg cx].toArray h (RetLe (.string tx) h)) (ky : ∀ h : Know, CallS A Tryd.prog main 58 [Value.agg cy].toArray h (RetLe (.string ty) h)) (kz : ∀ h : Know, Tables h → CallS A Tryd.prog main 57 [Value.string (b1 ++ tx ++ ty)].toArray h (RetLe (.agg cz) h)) :
    CallS A Tryd.prog main 78 [Value.agg cx, Value.agg cy].toArray h (RetLe (.agg cz) h) := by
  refine callS_of_wpE Tryd.func78 rfl (by show 2 ≤ 12; decide) ?_
  refine wpE_seq (wpE_region (op_n rfl (runN_box rfl rfl) fun r1 hr1 => op_n rfl (runN_box rfl rfl) fun r2 hr2 => op_n rfl (runN_alloc rfl ti106) fun r3 hr3 => opsE_nil ?_))
  change wpE _ _ _ _ _ _ _ _ (((h.upd r1 (true, .cells (cx) 106 (0, 0))).upd r2 (true, .cells (cy) 106 (0, 0))).upd r3 (true, .cells (B (List.replicate 32 0)).toArray 106 (0, 0)))
  have h12 : r1 ≠ r2 := ne_fresh (Know.upd_same _ _ _) hr2
  have e1 : ((h.upd r1 (true, .cells (cx) 106 (0, 0))).upd r2 (true, .cells (cy) 106 (0, 0))) r1 = some (true, .cells (cx) 106 (0, 0)) := by rw [Know.upd_ne _ _ h12, Know.upd_same]
  have e2 : ((h.upd r1 (true, .cells (cx) 106 (0, 0))).upd r2 (true, .cells (cy) 106 (0, 0))) r2 = some (true, .cells (cy) 106 (0, 0)) := Know.upd_same _ _ _
  have hl : h.le ((h.upd r1 (true, .cells (cx) 106 (0, 0))).upd r2 (true, .cells (cy) 106 (0, 0))) := Know.le_trans (le_fresh _ hr1) (le_fresh _ hr2)
  change ((h.upd r1 (true, .cells (cx) 106 (0, 0))).upd r2 (true, .cells (cy) 106 (0, 0))) r3 = none at hr3
  generalize (h.upd r1 (true, .cells (cx) 106 (0, 0))).upd r2 (true, .cells (cy) 106 (0, 0)) = g at *
  have hg : g.le (g.upd r3 (true, .cells (B (List.replicate 32 0)).toArray 106 (0, 0))) := le_fresh _ hr3
  refine wpE_seq (wpE_drawTB 7 (by kernel_rfl) (by kernel_rfl) rfl (by kernel_rfl) ?_)
  simp only [List.take_succ_cons, List.take_zero, List.drop_succ_cons, List.drop_zero]
  refine hd_r rfl rfl (runV_load_row rfl rfl und106 rfl (z := .agg (B (List.replicate 32 0)).toArray) (bt := 32) (by rw [sx]; exact ti106) (hg _ _ e1)) ?_
  refine hd_callLe (fn := Tryd.f58) rfl rfl rfl name58 rfl rfl (kx _) ?_
  refine hd_fe rfl (fun _ => runV_concat rfl rfl rfl (by rw [hx]; decide)) (v' := .string (b1 ++ tx)) rfl ?_
  refine hd_r rfl rfl (runV_load_row rfl rfl und106 rfl (z := .agg (B (List.replicate 32 0)).toArray) (bt := 32) (by rw [sy]; exact ti106) (hg _ _ e2)) ?_
  refine hd_callLe (fn := Tryd.f58) rfl rfl rfl name58 rfl rfl (ky _) ?_
  refine hd_fe rfl (fun _ => runV_concat rfl rfl rfl (by rw [ByteArray.size_append, hx, hy]; decide)) (v' := .string (b1 ++ tx ++ ty)) rfl ?_
  refine hd_callLe (fn := Tryd.f57) rfl rfl rfl name57 rfl rfl (kz _ (T.le (Know.le_trans hl hg))) ?_
  refine hd_nil ?_
  refine tl_store_row rfl rfl (z := .agg (B (List.replicate 32 0)).toArray) (bt := 32) (by rw [sz]; exact ti106) (Know.upd_same _ _ _) fz (by rw [sz]; simp [B]) rfl (h' := g.upd r3 (true, .cells cz 106 (0, 0))) (by rw [upd_upd]) ?_
  refine tl_nil (wpE_ret ?_)
  exact bodyQ_row (fn := Tryd.f78) rfl rfl und106 rfl (z := .agg (B (List.replicate 32 0)).toArray) (bt := 32) (by rw [sz]; exact ti106) (Know.upd_same _ _ _) ⟨rfl, Know.le_trans hl (le_fresh _ hr3)⟩
theorem node_S {A : Acts} [Priv A] {main : Bool} (h : Know) (x y : ByteArray) (T : Tables h) : CallS A Tryd.prog main 78 [Value.agg (digC x), Value.agg (digC y)].toArray h (RetLe (.agg (digC (b1 ++ digT x ++ digT y))) h) :=
  node_aux h (digC x) (digC y) (digC (b1 ++ digT x ++ digT y)) (digT x) (digT y) T (digC_size x) (digC_size y) (digC_size _) (digC_flat _) (digT_size x) (digT_size y) (fun h => sumsText_S h x) (fun h => sumsText_S h y)
    (fun h T => sumsOf_S h _ T (by rw [ByteArray.size_append, ByteArray.size_append, digT_size, digT_size]; decide))

/-! ### The reference's -/
set_option maxRecDepth 100000 in
theorem refLeaf_S {A : Acts} [Priv A] {main : Bool} (h : Know) (s : ByteArray) (hlen : s.size ≤ 2 ^ 39) : CallS A Tryd.prog main 36 [Value.string s].toArray h (RetLe (.string (digT (b0 ++ s))) h) := by
  refine callS_of_wpE Tryd.func36 rfl (by show 1 ≤ 6; decide) ?_
  have hz : (b0 ++ s).size ≤ 2 ^ 40 := by rw [ByteArray.size_append]; show 1 + s.size ≤ _; omega
  refine wpE_seq (wpE_region (op_p tyT_ok rfl (opsE_nil ?_)))
  refine wpE_seq (wpE_region ?_)
  refine op_p tyT_ok rfl ?_
  refine op_re rfl (runV_concat rfl rfl rfl (by show 1 + s.size < _; omega)) (v' := .string (b0 ++ s)) rfl ?_
  refine op_call (fn := Tryd.f12) rfl rfl rfl (by kernel_rfl) rfl rfl (refHash_S _ (b0 ++ s) hz) (ends_le ?_)
  refine op_p tyT_ok rfl ?_
  exact opsE_nil (wpE_ret (bodyQ_one (fn := Tryd.f36) rfl rfl ⟨rfl, Know.le_refl _⟩))
set_option maxRecDepth 100000 in
theorem refNode_S {A : Acts} [Priv A] {main : Bool} (h : Know) (x y : ByteArray) (hx : x.size ≤ 2 ^ 38) (hy : y.size ≤ 2 ^ 38) : CallS A Tryd.prog main 38 [Value.string x, Value.string y].toArray h (RetLe (.string (digT (b1 ++ x ++ y))) h) := by
  refine callS_of_wpE Tryd.func38 rfl (by show 2 ≤ 10; decide) ?_
  have hz : (b1 ++ x ++ y).size ≤ 2 ^ 40 := by rw [ByteArray.size_append, ByteArray.size_append]; show 1 + x.size + y.size ≤ _; omega
  refine wpE_seq (wpE_region (op_p tyT_ok rfl (opsE_nil ?_)))
  refine wpE_seq (wpE_region ?_)
  refine op_p tyT_ok rfl ?_
  refine op_re rfl (runV_concat rfl rfl rfl (by show 1 + x.size < _; omega)) (v' := .string (b1 ++ x)) rfl ?_
  refine op_p tyT_ok rfl ?_
  refine op_re rfl (runV_concat rfl rfl rfl (by rw [ByteArray.size_append]; show 1 + x.size + y.size < _; omega)) (v' := .string (b1 ++ x ++ y)) rfl ?_
  refine op_call (fn := Tryd.f12) rfl rfl rfl (by kernel_rfl) rfl rfl (refHash_S _ (b1 ++ x ++ y) hz) (ends_le ?_)
  refine op_p tyT_ok rfl ?_
  exact opsE_nil (wpE_ret (bodyQ_one (fn := Tryd.f38) rfl rfl ⟨rfl, Know.le_refl _⟩))

end Go.Proofs.YtlmecmapkijcnaaDoor

set_option linter.unusedVariables false
namespace Go.Proofs.YtlmecmapkijcnaaDoor
open KL

def halfF : Nat → Nat → Nat → Nat
  | 0, k, _ => k
  | f + 1, k, n => if k < n - k then halfF f (2 * k) n else k
/-- The greatest part that a full tree is of n entries, n at least 2. -/
def halfN (n : Nat) : Nat := halfF n 1 n
theorem halfF_done {n k : Nat} (h : ¬ k < n - k) (f : Nat) : halfF f k n = k := by cases f <;> simp [halfF, h]
theorem halfF_range {n : Nat} (hn : 2 ≤ n) : ∀ (f k : Nat), 1 ≤ k → k < n → 1 ≤ halfF f k n ∧ halfF f k n < n := by
  intro f
  induction f with
  | zero => exact fun k h1 h2 => ⟨h1, h2⟩
  | succ f ih =>
    intro k h1 h2
    simp only [halfF]
    split
    · exact ih _ (by omega) (by omega)
    · exact ⟨h1, h2⟩
theorem halfN_range {n : Nat} (hn : 2 ≤ n) : 1 ≤ halfN n ∧ halfN n < n := halfF_range hn n 1 (by omega) (by omega)

set_option maxRecDepth 100000 in
theorem half_S {A : Acts} [Priv A] {main : Bool} (h : Know) (n : Nat) (h2 : 2 ≤ n) (hn : n ≤ 2 ^ 40) : CallS A Tryd.prog main 37 [Value.int .i64 (n : Int)].toArray h (RetLe (.int .i64 (halfN n : Int)) h) := by
  refine callS_of_wpE Tryd.func37 rfl (by show 1 ≤ 12; decide) ?_
  refine wpE_seq (wpE_region (op_p tyT_ok rfl (opsE_nil ?_)))
  refine wpE_seq (wpE_region (op_p tyT_ok rfl (opsE_nil ?_)))
  refine wpE_seqN (E₀ := [(3, .int .i64 (halfN n : Int))]) (h₀ := h) ?_ ?_
  · refine wpE_block (wpE_loopJ (fun m E hh => ∃ k f : Nat, m = n - k ∧ 1 ≤ k ∧ k < n ∧ n - k ≤ f ∧ halfF f k n = halfN n ∧ E = [(3, .int .i64 (k : Int)), (0, .int .i64 (n : Int))] ∧ hh = h) (Env.le_cons rfl (Env.le_cons rfl (Env.le_nil _))) (Know.le_refl _) ⟨1, n, rfl, by omega, by omega, by omega, rfl, rfl, rfl⟩ ?_)
    rintro m E' hh ⟨k, f, rfl, hk1, hkn, hf, hh, rfl, rfl⟩
    by_cases hlt : k < n - k
    · refine wpE_seq (wpE_seq (wpE_region ?_))
      refine op_p tyT_ok rfl ?_
      refine op_p tyT_ok rfl ?_
      refine op_p tyT_ok rfl ?_
      refine op_pe tyT_ok rfl (v' := .int .i64 ((n - k : Nat) : Int)) (wrapv (by omega) (by omega)) ?_
      refine op_pe tyT_ok rfl (v' := .bool true) (congrArg Value.bool (decide_eq_true (show ((k : Nat) : Int) < ((n - k : Nat) : Int) by omega))) ?_
      refine opsE_nil (wpE_true rfl (wpE_skip ?_))
      refine wpE_block (wpE_region ?_)
      refine op_p tyT_ok rfl ?_
      refine op_pe tyT_ok rfl (v' := .int .i64 ((2 * k : Nat) : Int)) (wrapv (by omega) (by omega)) ?_
      refine op_p tyT_ok rfl ?_
      obtain ⟨f', rfl⟩ : ∃ f', f = f' + 1 := ⟨f - 1, by omega⟩
      rw [halfF, if_pos hlt] at hh
      exact opsE_nil ⟨rfl, n - 2 * k, _, _, by omega, Env.le_cons rfl (Env.le_cons rfl (Env.le_nil _)), Know.le_refl _, 2 * k, f', rfl, by omega, by omega, by omega, hh, rfl, rfl⟩
    · refine wpE_seq (wpE_seq (wpE_region ?_))
      refine op_p tyT_ok rfl ?_
      refine op_p tyT_ok rfl ?_
      refine op_p tyT_ok rfl ?_
      refine op_pe tyT_ok rfl (v' := .int .i64 ((n - k : Nat) : Int)) (wrapv (by omega) (by omega)) ?_
      refine op_pe tyT_ok rfl (v' := .bool false) (congrArg Value.bool (decide_eq_false (show ¬ ((k : Nat) : Int) < ((n - k : Nat) : Int) by omega))) ?_
      refine opsE_nil (wpE_false rfl (wpE_exit ?_))
      repeat refine thenQ_exit ?_
      rw [halfF_done hlt] at hh
      exact blockQ_exit (normalLe (Env.le_cons (by rw [← hh]; rfl) (Env.le_nil _)) (Know.le_refl _))
  refine wpE_seq (wpE_region (op_p tyT_ok rfl (op_p tyT_ok rfl (opsE_nil ?_))))
  exact wpE_ret (bodyQ_one (fn := Tryd.f37) rfl rfl ⟨rfl, Know.le_refl _⟩)

theorem und24 : Tryd.prog.underlying 24 = some (.slice 9) := by kernel_rfl
theorem ti9 : TI Tryd.prog 9 (.string ByteArray.empty) 1 16 := by unfold TI; kernel_rfl
def tyT2 : Types := (24, .slice 9) :: tyT
theorem tyT2_ok : tyT2.ok Tryd.prog := Types.ok_cons und24 tyT_ok

/-- A list of texts that may be read. -/
def StrsAt (h : Know) (v : Value) (l : List ByteArray) : Prop :=
  ∃ base cap, v = .slice base l.length cap ∧ (l = [] ∨ ∃ b off mu c ty fr, base = some ⟨b, off, none⟩ ∧ h b = some (mu, .cells c ty fr) ∧ l.length ≤ cap ∧ ∀ j, j < l.length → c[off + j]? = some (.string (l.getD j ByteArray.empty)))
theorem StrsAt.le {h h' : Know} {v : Value} {l : List ByteArray} (s : StrsAt h v l) (hl : h.le h') : StrsAt h' v l := by
  obtain ⟨base, cap, e, d⟩ := s
  refine ⟨base, cap, e, d.imp id ?_⟩
  rintro ⟨b, off, mu, c, ty, fr, e1, e2, e3⟩
  exact ⟨b, off, mu, c, ty, fr, e1, hl _ _ e2, e3⟩

/-- The root by halves, as a text. -/
def rootF : Nat → List ByteArray → ByteArray
  | 0, _ => ByteArray.empty
  | f + 1, l => if l.length = 0 then digT ByteArray.empty else if l.length = 1 then digT (b0 ++ l.getD 0 ByteArray.empty)
    else digT (b1 ++ rootF f (l.take (halfN l.length)) ++ rootF f (l.drop (halfN l.length)))
theorem rootF_size (f : Nat) (l : List ByteArray) (hf : l.length < f) : (rootF f l).size = 32 := by
  cases f with
  | zero => omega
  | succ f =>
    simp only [rootF]
    split
    · exact digT_size _
    · split <;> exact digT_size _

set_option maxRecDepth 100000 in
theorem refRoot_S {A : Acts} [Priv A] {main : Bool} : ∀ (f : Nat) (h : Know) (v : Value) (l : List ByteArray), l.length < f → l.length ≤ 2 ^ 40 → (∀ s ∈ l, s.size ≤ 2 ^ 39) → StrsAt h v l → CallS A Tryd.prog main 15 [v].toArray h (RetLe (.string (rootF f l)) h) := by
  intro f
  induction f with
  | zero => intro h v l hl; omega
  | succ f ih =>
    rintro h v l hlf hl40 hsz ⟨base, cap, rfl, hd⟩
    refine callS_of_wpE Tryd.func15 rfl (by show 1 ≤ 31; decide) ?_
    refine wpE_seq (wpE_region (op_p tyT2_ok rfl (opsE_nil ?_)))
    refine wpE_seq (wpE_seq (wpE_region ?_))
    refine op_p tyT2_ok rfl ?_
    refine op_p tyT2_ok rfl ?_
    by_cases h0 : l.length = 0
    · refine op_pe tyT2_ok rfl (v' := .bool true) (congrArg Value.bool (decide_eq_true (show ((l.length : Nat) : Int) = 0 by omega))) ?_
      refine opsE_nil (wpE_true rfl (wpE_seq (wpE_region ?_)))
      refine op_call (fn := Tryd.f12) rfl rfl rfl (by kernel_rfl) rfl rfl (refHash_S _ ByteArray.empty (by decide)) (ends_le ?_)
      refine op_p tyT2_ok rfl ?_
      refine opsE_nil (wpE_ret (bodyQ_one (fn := Tryd.f15) rfl rfl ⟨?_, Know.le_refl _⟩))
      simp only [rootF, if_pos h0]; rfl
    refine op_pe tyT2_ok rfl (v' := .bool false) (congrArg Value.bool (decide_eq_false (show ¬ ((l.length : Nat) : Int) = 0 by omega))) ?_
    refine opsE_nil (wpE_false rfl (wpE_skip ?_))
    obtain ⟨b, off, mu, c, ty, fr, rfl, hb, hcap, hc⟩ := hd.resolve_left (fun e => h0 (by rw [e]; rfl))
    refine wpE_seq (wpE_seq (wpE_region ?_))
    refine op_p tyT2_ok rfl ?_
    refine op_p tyT2_ok rfl ?_
    by_cases h1 : l.length = 1
    · refine op_pe tyT2_ok rfl (v' := .bool true) (congrArg Value.bool (decide_eq_true (show ((l.length : Nat) : Int) = 1 by omega))) ?_
      refine opsE_nil (wpE_true rfl (wpE_seq (wpE_region ?_)))
      refine op_p tyT2_ok rfl ?_
      refine op_re rfl (runV_indexAddr_slice rfl und24 ti9 rfl rfl (by decide) (by omega)) (v' := .pointer (some ⟨b, off, none⟩)) rfl ?_
      refine op_r rfl (runV_load rfl rfl und9 rfl hb (hc 0 (by omega))) ?_
      refine op_call (fn := Tryd.f36) rfl rfl rfl (by kernel_rfl) rfl rfl (refLeaf_S _ (l.getD 0 ByteArray.empty) (by
        cases l with
        | nil => simp at h1
        | cons a l => exact hsz a (List.mem_cons_self ..))) (ends_le ?_)
      refine op_p tyT2_ok rfl ?_
      refine opsE_nil (wpE_ret (bodyQ_one (fn := Tryd.f15) rfl rfl ⟨?_, Know.le_refl _⟩))
      simp only [rootF, if_neg h0, if_pos h1]
    refine op_pe tyT2_ok rfl (v' := .bool false) (congrArg Value.bool (decide_eq_false (show ¬ ((l.length : Nat) : Int) = 1 by omega))) ?_
    refine opsE_nil (wpE_false rfl (wpE_skip ?_))
    obtain ⟨g1, g2⟩ := halfN_range (n := l.length) (by omega)
    refine wpE_seq (wpE_region ?_)
    refine op_p tyT2_ok rfl ?_
    refine op_p tyT2_ok rfl ?_
    refine op_call (fn := Tryd.f37) rfl rfl rfl (by kernel_rfl) rfl rfl (half_S h l.length (by omega) (by omega)) (ends_le ?_)
    refine op_p tyT2_ok rfl ?_
    refine opsE_nil (wpE_seq (wpE_region ?_))
    have hlt : (l.take (halfN l.length)).length = halfN l.length := by rw [List.length_take]; omega
    have hld : (l.drop (halfN l.length)).length = l.length - halfN l.length := by rw [List.length_drop]
    have hst : StrsAt h (.slice (some ⟨b, off, none⟩) (halfN l.length) cap) (l.take (halfN l.length)) := by
      refine ⟨_, cap, by rw [hlt], .inr ⟨b, off, mu, c, ty, fr, rfl, hb, by omega, fun j hj => ?_⟩⟩
      rw [hc j (by omega)]
      simp only [List.getD_eq_getElem?_getD, List.getElem?_take, if_pos (show j < halfN l.length by omega)]
    have hsd : StrsAt h (.slice (some ⟨b, off + halfN l.length, none⟩) (l.length - halfN l.length) (cap - halfN l.length)) (l.drop (halfN l.length)) := by
      refine ⟨_, cap - halfN l.length, by rw [hld], .inr ⟨b, off + halfN l.length, mu, c, ty, fr, rfl, hb, by omega, fun j hj => ?_⟩⟩
      rw [Nat.add_assoc, hc (halfN l.length + j) (by omega)]
      simp only [List.getD_eq_getElem?_getD, List.getElem?_drop]
    generalize hk : halfN l.length = k at *
    refine op_p tyT2_ok rfl ?_
    refine op_p tyT2_ok rfl ?_
    refine op_re rfl (runV_slice_slice rfl und24 ti9 rfl (hh := k) (l := 0) ⟨_, _, rfl, by omega, by omega, by omega⟩ rfl) (v' := .slice (some ⟨b, off, none⟩) k cap) (by simp) ?_
    refine op_call (fn := Tryd.f15) rfl rfl rfl (by kernel_rfl) rfl rfl (ih h _ (l.take k) (by omega) (by omega) (fun s hs => hsz s (List.mem_of_mem_take hs)) hst) (ends_le ?_)
    refine op_p tyT2_ok rfl ?_
    refine opsE_nil (wpE_seq (wpE_region ?_))
    refine op_p tyT2_ok rfl ?_
    refine op_p tyT2_ok rfl ?_
    refine op_re rfl (runV_slice_slice rfl und24 ti9 rfl (hh := l.length) (l := k) rfl ⟨_, _, rfl, by omega, by omega, by omega⟩) (v' := .slice (some ⟨b, off + k, none⟩) (l.length - k) (cap - k)) (by rw [if_neg (by omega), Nat.mul_one]) ?_
    refine op_call (fn := Tryd.f15) rfl rfl rfl (by kernel_rfl) rfl rfl (ih h _ (l.drop k) (by omega) (by omega) (fun s hs => hsz s (List.mem_of_mem_drop hs)) hsd) (ends_le ?_)
    refine op_p tyT2_ok rfl ?_
    refine opsE_nil (wpE_seq (wpE_region ?_))
    refine op_p tyT2_ok rfl ?_
    refine op_p tyT2_ok rfl ?_
    refine op_call (fn := Tryd.f38) rfl rfl rfl (by kernel_rfl) rfl rfl (refNode_S h (rootF f (l.take k)) (rootF f (l.drop k)) (by rw [rootF_size _ _ (by omega)]; decide) (by rw [rootF_size _ _ (by omega)]; decide)) (ends_le ?_)
    refine op_p tyT2_ok rfl ?_
    refine opsE_nil (wpE_ret (bodyQ_one (fn := Tryd.f15) rfl rfl ⟨?_, Know.le_refl _⟩))
    simp only [rootF, if_neg h0, if_neg h1, hk]

end Go.Proofs.YtlmecmapkijcnaaDoor

set_option linter.unusedVariables false
namespace Go.Proofs.YtlmecmapkijcnaaDoor

def pairUp {α : Type} (N : α → α → α) : List α → List α
  | x :: y :: r => N x y :: pairUp N r
  | [x] => [x]
  | [] => []
theorem pairUp_length {α : Type} (N : α → α → α) : ∀ (n : Nat) (p : List α), p.length = n → (pairUp N p).length = (n + 1) / 2 := by
  intro n
  induction n using Nat.strongRecOn with
  | _ n ih =>
    intro p hp
    match p, hp with
    | [], hp => simp at hp; subst hp; rfl
    | [x], hp => simp at hp; subst hp; rfl
    | x :: y :: r, hp =>
      simp only [List.length_cons] at hp
      have := ih (n - 2) (by omega) r (by omega)
      simp only [pairUp, List.length_cons, this]; omega
theorem pairUp_take {α : Type} (N : α → α → α) : ∀ (k : Nat) (p : List α), 2 * k ≤ p.length → pairUp N (p.take (2 * k)) = (pairUp N p).take k := by
  intro k
  induction k with
  | zero => intro p _; simp [pairUp]
  | succ k ih =>
    intro p hp
    match p, hp with
    | [], hp => simp at hp
    | [x], hp => simp at hp; omega
    | x :: y :: r, hp =>
      have e : 2 * (k + 1) = 2 * k + 1 + 1 := by omega
      rw [e, List.take_succ_cons, List.take_succ_cons]
      simp only [pairUp, List.take_succ_cons]
      rw [ih r (by simp at hp; omega)]
theorem pairUp_drop {α : Type} (N : α → α → α) : ∀ (k : Nat) (p : List α), 2 * k ≤ p.length → pairUp N (p.drop (2 * k)) = (pairUp N p).drop k := by
  intro k
  induction k with
  | zero => intro p _; simp
  | succ k ih =>
    intro p hp
    match p, hp with
    | [], hp => simp at hp
    | [x], hp => simp at hp; omega
    | x :: y :: r, hp =>
      have e : 2 * (k + 1) = 2 * k + 1 + 1 := by omega
      rw [e, List.drop_succ_cons, List.drop_succ_cons]
      simp only [pairUp, List.drop_succ_cons]
      exact ih r (by simp at hp; omega)

theorem halfF_fuel {n : Nat} : ∀ (f f' k : Nat), 1 ≤ k → n - k ≤ f → n - k ≤ f' → halfF f k n = halfF f' k n := by
  intro f
  induction f with
  | zero => intro f' k hk h1 h2; rw [halfF_done (by omega), halfF_done (by omega)]
  | succ f ih =>
    intro f' k hk h1 h2
    by_cases h : k < n - k
    · cases f' with
      | zero => omega
      | succ f' =>
        simp only [halfF, if_pos h]
        exact ih f' (2 * k) (by omega) (by omega) (by omega)
    · rw [halfF_done h, halfF_done h]
theorem halfF_two {n : Nat} : ∀ (f k : Nat), halfF f (2 * k) n = 2 * halfF f k ((n + 1) / 2) := by
  intro f
  induction f with
  | zero => intro k; rfl
  | succ f ih =>
    intro k
    simp only [halfF]
    by_cases h : 2 * k < n - 2 * k
    · rw [if_pos h, if_pos (by omega), ih]
    · rw [if_neg h, if_neg (by omega)]
theorem halfN_two {n : Nat} (hn : 3 ≤ n) : halfN n = 2 * halfN ((n + 1) / 2) := by
  unfold halfN
  obtain ⟨m, rfl⟩ : ∃ m, n = m + 1 := ⟨n - 1, by omega⟩
  have e : halfF (m + 1) 1 (m + 1) = halfF m 2 (m + 1) := by
    rw [halfF, if_pos (by omega)]
  rw [e, show (2 : Nat) = 2 * 1 from rfl, halfF_two]
  rw [halfF_fuel m ((m + 1 + 2 * 1 / 2) / 2) 1 (by omega) (by omega) (by omega)]

/-- The root by halves. -/
def halves {α : Type} [Inhabited α] (N : α → α → α) : Nat → List α → α
  | 0, _ => default
  | f + 1, p => if p.length ≤ 1 then p.headD default else N (halves N f (p.take (halfN p.length))) (halves N f (p.drop (halfN p.length)))
theorem halves_fuel {α : Type} [Inhabited α] (N : α → α → α) : ∀ (f f' : Nat) (p : List α), p.length < f → p.length < f' → halves N f p = halves N f' p := by
  intro f
  induction f with
  | zero => intro f' p h; omega
  | succ f ih =>
    intro f' p h h'
    cases f' with
    | zero => omega
    | succ f' =>
      simp only [halves]
      split
      · rfl
      · rename_i hp
        obtain ⟨g1, g2⟩ := halfN_range (n := p.length) (by omega)
        rw [ih f' _ (by rw [List.length_take]; omega) (by rw [List.length_take]; omega), ih f' _ (by rw [List.length_drop]; omega) (by rw [List.length_drop]; omega)]
theorem halves_pairUp {α : Type} [Inhabited α] (N : α → α → α) : ∀ (f : Nat) (p : List α), p.length < f → halves N f (pairUp N p) = halves N f p := by
  intro f
  induction f with
  | zero => intro p h; omega
  | succ f ih =>
    intro p h
    match p, h with
    | [], h => rfl
    | [x], h => rfl
    | [x, y], h =>
      have e : halfN ([x, y] : List α).length = 1 := rfl
      simp only [pairUp, halves, e]
      cases f with
      | zero => simp at h
      | succ f => simp [halves]
    | x :: y :: z :: r, h =>
      generalize hp : x :: y :: z :: r = p at *
      have hl : 3 ≤ p.length := by rw [← hp]; simp
      have hpl := pairUp_length N p.length p rfl
      have h2 := halfN_two hl
      obtain ⟨g1, g2⟩ := halfN_range (n := p.length) (by omega)
      simp only [halves]
      rw [if_neg (by omega), if_neg (by omega), hpl]
      rw [h2]
      rw [← pairUp_take N _ _ (by omega), ← pairUp_drop N _ _ (by omega)]
      rw [ih _ (by rw [List.length_take]; omega), ih _ (by rw [List.length_drop]; omega)]
/-- Level by level. -/
def levels {α : Type} (N : α → α → α) : Nat → List α → List α
  | 0, p => p
  | f + 1, p => if p.length ≤ 1 then p else levels N f (pairUp N p)
theorem levels_halves {α : Type} [Inhabited α] (N : α → α → α) : ∀ (f : Nat) (p : List α), 1 ≤ p.length → p.length ≤ f → ∀ g, p.length < g → levels N f p = [halves N g p] := by
  intro f
  induction f with
  | zero => intro p h1 h2; omega
  | succ f ih =>
    intro p h1 h2 g hg
    simp only [levels]
    split
    · rename_i h
      match p, h1, h with
      | [x], _, _ => cases g with
        | zero => simp at hg
        | succ g => rfl
    · rename_i h
      have hpl := pairUp_length N p.length p rfl
      rw [ih (pairUp N p) (by omega) (by omega) g (by omega), halves_pairUp N g p hg]

/-- What a leaf's digest, a node's digest is made of. -/
def leafP (s : ByteArray) : ByteArray := b0 ++ s
def nodeP (x y : ByteArray) : ByteArray := b1 ++ digT x ++ digT y
theorem rootF_halves : ∀ (f : Nat) (l : List ByteArray), 1 ≤ l.length → l.length < f → rootF f l = digT (halves nodeP f (l.map leafP)) := by
  intro f
  induction f with
  | zero => intro l h1 h2; omega
  | succ f ih =>
    intro l h1 h2
    simp only [rootF, halves, List.length_map]
    rw [if_neg (by omega)]
    by_cases h : l.length = 1
    · rw [if_pos h, if_pos (by omega)]
      match l, h with
      | [x], _ => rfl
    · rw [if_neg h, if_neg (by omega)]
      obtain ⟨g1, g2⟩ := halfN_range (n := l.length) (by omega)
      rw [ih _ (by rw [List.length_take]; omega) (by rw [List.length_take]; omega), ih _ (by rw [List.length_drop]; omega) (by rw [List.length_drop]; omega), List.map_take, List.map_drop]
      rfl
/-- Level by level, the reference's root comes out. -/
theorem levels_root (l : List ByteArray) (h1 : 1 ≤ l.length) : levels nodeP l.length (l.map leafP) = [halves nodeP (l.length + 1) (l.map leafP)] ∧ digT (halves nodeP (l.length + 1) (l.map leafP)) = rootF (l.length + 1) l :=
  ⟨levels_halves nodeP l.length (l.map leafP) (by rw [List.length_map]; exact h1) (by rw [List.length_map]; exact Nat.le_refl _) _ (by rw [List.length_map]; exact Nat.lt_succ_self _), (rootF_halves _ l h1 (Nat.lt_succ_self _)).symm⟩

end Go.Proofs.YtlmecmapkijcnaaDoor
