/- The two closures that workers call: a leaf's digest; a node's. The starter: it starts workers, and waits for them. A row of digests; the level above it. The two phases of the tree: the leaves' row, and a level above a row. The tree, level by level, by workers. -/
import Derived.Test.YtlmecmapkijcnaaDoorR11
import Derived.Test.YtlmecmapkijcnaaDoorR09
set_option linter.unusedVariables false
set_option maxRecDepth 100000
namespace Go.Proofs.YtlmecmapkijcnaaDoor
namespace KL
open Go.Conc (G listed)

section
variable {A : Acts} {P : Program} {main : Bool} {E : Env} {h : Know}
theorem tl_act {l : List Oper} {o : Oper} {R : Value → Know → Prop} {K : Env → Know → Prop} (hb : headB E o = true) (ha : ActO A P main o E.ev h R) (next : ∀ v h', R v h' → TailE A P main l (E.put o.dst v) h' K) : TailE A P main (o :: l) E h K := by
  unfold headB at hb
  rw [Bool.and_eq_true] at hb
  exact ⟨by simpa using hb.2, R, stepS_act ha, next⟩
end
def tyX : Types := (120, .slice 106) :: tyT2
theorem tyX_ok : tyX.ok Tryd.prog := Types.ok_cons Tryd.underlying120 tyT2_ok

theorem wide1_aux (p : Ph) (i : Nat) (hh : Know) (lb ob b off cap N M M' : Nat) (ml mo mb : Bool) (tl to tb : TypeId) (fl fo frb : Nat × Nat) (cb : Array Value) (s : ByteArray) (cs : Array Value)
    (hg : hh.gh = .wrk p (.has i)) (hm : p.m = 32) (klb : hh lb = some (ml, .cells #[.slice (some ⟨b, off, none⟩) N cap] tl fl)) (hN : i < N)
    (kob : hh ob = some (mo, .cells #[.slice (some ⟨p.rb, 0, none⟩) M M'] to fo)) (hM : i < M) (kb : hh b = some (mb, .cells cb tb frb)) (hcell : cb[off + i]? = some (.string s))
    (kc : CallS actsB Tryd.prog false 76 [Value.string s].toArray hh (RetLe (.agg cs) hh)) (hcs : cs.toList = part p i) (hfl : ∀ v ∈ cs.toList, Value.flat v = true) :
    CallS actsB Tryd.prog false 75 [Value.int .i64 i, pt lb, pt ob].toArray hh (RetM fun _ h' => h' = ⟨hh.blk, .wrk p (.run (i + 1))⟩) := by
  refine callM_of_wpE (fn := Tryd.f75) Tryd.func75 rfl (by show 3 ≤ 12; decide) ?_
  refine wpE_drawTB 7 (by kernel_rfl) (by kernel_rfl) rfl (by kernel_rfl) ?_
  simp only [List.take_succ_cons, List.take_zero, List.drop_succ_cons, List.drop_zero]
  refine hd_r rfl rfl (runV_load rfl rfl Tryd.underlying120 rfl kob rfl) ?_
  refine hd_p tyX_ok rfl ?_
  refine hd_r rfl rfl (runV_load rfl rfl und24 rfl klb rfl) ?_
  refine hd_p tyX_ok rfl ?_
  refine hd_re rfl rfl (runV_indexAddr_slice rfl und24 ti9 rfl rfl (by omega) (by omega)) (v' := .pointer (some ⟨b, off + i, none⟩)) (by simp) ?_
  refine hd_r rfl rfl (runV_load rfl rfl und9 rfl kb hcell) ?_
  refine hd_callLe (fn := Tryd.f76) rfl rfl Tryd.func76 (by kernel_rfl) rfl rfl kc ?_
  refine hd_nil ?_
  refine tl_re rfl (runV_indexAddr_slice rfl Tryd.underlying120 ti106 rfl rfl (by omega) (by omega)) (v' := .pointer (some ⟨p.rb, p.m * i, none⟩)) (by simp [hm, Nat.mul_comm]) ?_
  refine tl_act rfl (actB_store (p := p) (i := i) rfl hg (by rw [hm]; exact ti106) rfl rfl hcs hfl) ?_
  rintro v _ rfl
  exact tl_nil (bodyM_end (fn := Tryd.f75) rfl rfl)

theorem wide2_aux (p : Ph) (i : Nat) (hh : Know) (pb ob qb cap N M M' : Nat) (ml mo mb : Bool) (tl to tb : TypeId) (fl fo frb : Nat × Nat) (cb : Array Value) (cs : Array Value)
    (hg : hh.gh = .wrk p (.has i)) (hm : p.m = 32) (kpb : hh pb = some (ml, .cells #[.slice (some ⟨qb, 0, none⟩) N cap] tl fl)) (hN : 2 * i < N) (hN30 : N ≤ 2 ^ 40)
    (kob : hh ob = some (mo, .cells #[.slice (some ⟨p.rb, 0, none⟩) M M'] to fo)) (hM : i < M) (kb : hh qb = some (mb, .cells cb tb frb)) (hcb : cb.size = 32 * N)
    (k1 : 2 * i + 1 = N → cb.extract (64 * i) (64 * i + 32) = cs)
    (k2 : 2 * i + 1 < N → CallS actsB Tryd.prog false 78 [Value.agg (cb.extract (64 * i) (64 * i + 32)), Value.agg (cb.extract (64 * i + 32) (64 * i + 64))].toArray hh (RetLe (.agg cs) hh)) (hcs : cs.toList = part p i) (hfl : ∀ v ∈ cs.toList, Value.flat v = true) :
    CallS actsB Tryd.prog false 77 [Value.int .i64 i, pt pb, pt ob].toArray hh (RetM fun _ h' => h' = ⟨hh.blk, .wrk p (.run (i + 1))⟩) := by
  refine callM_of_wpE (fn := Tryd.f77) Tryd.func77 rfl (by show 3 ≤ 33; decide) ?_
  have ei : IntKind.i64.wrap (2 * (i : Int)) = ((2 * i : Nat) : Int) := by rw [IntKind.wrap_i64]; omega
  have ei1 : IntKind.i64.wrap (((2 * i : Nat) : Int) + 1) = ((2 * i + 1 : Nat) : Int) := by rw [IntKind.wrap_i64]; omega
  refine wpE_seq (wpE_region ?_)
  refine op_p tyX_ok rfl ?_
  refine op_pe tyX_ok rfl (v' := .int .i64 (2 * i : Nat)) (congrArg (Value.int .i64) ei) ?_
  refine op_pe tyX_ok rfl (v' := .int .i64 (2 * i + 1 : Nat)) (congrArg (Value.int .i64) ei1) ?_
  refine op_r rfl (runV_load rfl rfl Tryd.underlying120 rfl kpb rfl) ?_
  refine op_p tyX_ok rfl ?_
  by_cases hl : 2 * i + 1 = N
  · have hcs1 := k1 hl
    refine op_pe tyX_ok rfl (v' := .bool true) (congrArg Value.bool (decide_eq_true (by omega))) (opsE_nil (wpE_true rfl ?_))
    refine wpE_drawTB 7 (by kernel_rfl) (by kernel_rfl) rfl (by kernel_rfl) ?_
    simp only [List.take_succ_cons, List.take_zero, List.drop_succ_cons, List.drop_zero]
    refine hd_r rfl rfl (runV_load rfl rfl Tryd.underlying120 rfl kob rfl) ?_
    refine hd_p tyX_ok rfl ?_
    refine hd_r rfl rfl (runV_load rfl rfl Tryd.underlying120 rfl kpb rfl) ?_
    refine hd_p tyX_ok rfl ?_
    refine hd_pe tyX_ok rfl (v' := .int .i64 (2 * i : Nat)) (congrArg (Value.int .i64) ei) ?_
    refine hd_re rfl rfl (runV_indexAddr_slice rfl Tryd.underlying120 ti106 rfl rfl (by omega) (by omega)) (v' := .pointer (some ⟨qb, 64 * i, none⟩)) (by simp <;> omega) ?_
    refine hd_re rfl rfl (runV_load_part rfl rfl und106 rfl ti106 kb (by omega)) (v' := .agg cs) (by rw [hcs1]) ?_
    refine hd_nil ?_
    refine tl_re rfl (runV_indexAddr_slice rfl Tryd.underlying120 ti106 rfl rfl (by omega) (by omega)) (v' := .pointer (some ⟨p.rb, p.m * i, none⟩)) (by simp [hm, Nat.mul_comm]) ?_
    refine tl_act rfl (actB_store (p := p) (i := i) rfl hg (by rw [hm]; exact ti106) rfl rfl hcs hfl) ?_
    rintro v _ rfl
    exact tl_nil (bodyM_end (fn := Tryd.f77) rfl rfl)
  · have kc := k2 (by omega)
    generalize hx : cb.extract (64 * i) (64 * i + 32) = cx at kc
    generalize hy : cb.extract (64 * i + 32) (64 * i + 64) = cy at kc
    refine op_pe tyX_ok rfl (v' := .bool false) (congrArg Value.bool (decide_eq_false (by omega))) (opsE_nil (wpE_false rfl ?_))
    refine wpE_drawTB 14 (by kernel_rfl) (by kernel_rfl) rfl (by kernel_rfl) ?_
    simp only [List.take_succ_cons, List.take_zero, List.drop_succ_cons, List.drop_zero]
    refine hd_r rfl rfl (runV_load rfl rfl Tryd.underlying120 rfl kob rfl) ?_
    refine hd_p tyX_ok rfl ?_
    refine hd_r rfl rfl (runV_load rfl rfl Tryd.underlying120 rfl kpb rfl) ?_
    refine hd_p tyX_ok rfl ?_
    refine hd_pe tyX_ok rfl (v' := .int .i64 (2 * i : Nat)) (congrArg (Value.int .i64) ei) ?_
    refine hd_re rfl rfl (runV_indexAddr_slice rfl Tryd.underlying120 ti106 rfl rfl (by omega) (by omega)) (v' := .pointer (some ⟨qb, 64 * i, none⟩)) (by simp <;> omega) ?_
    refine hd_re rfl rfl (runV_load_part rfl rfl und106 rfl ti106 kb (by omega)) (v' := .agg cx) (by rw [hx]) ?_
    refine hd_r rfl rfl (runV_load rfl rfl Tryd.underlying120 rfl kpb rfl) ?_
    refine hd_p tyX_ok rfl ?_
    refine hd_pe tyX_ok rfl (v' := .int .i64 (2 * i : Nat)) (congrArg (Value.int .i64) ei) ?_
    refine hd_pe tyX_ok rfl (v' := .int .i64 (2 * i + 1 : Nat)) (congrArg (Value.int .i64) ei1) ?_
    refine hd_re rfl rfl (runV_indexAddr_slice rfl Tryd.underlying120 ti106 rfl rfl (by omega) (by omega)) (v' := .pointer (some ⟨qb, 64 * i + 32, none⟩)) (by simp <;> omega) ?_
    refine hd_re rfl rfl (runV_load_part rfl rfl und106 rfl ti106 kb (by omega)) (v' := .agg cy) (by rw [hy]) ?_
    refine hd_callLe (fn := Tryd.f78) rfl rfl Tryd.func78 (by kernel_rfl) rfl rfl kc ?_
    refine hd_nil ?_
    refine tl_re rfl (runV_indexAddr_slice rfl Tryd.underlying120 ti106 rfl rfl (by omega) (by omega)) (v' := .pointer (some ⟨p.rb, p.m * i, none⟩)) (by simp [hm, Nat.mul_comm]) ?_
    refine tl_act rfl (actB_store (p := p) (i := i) rfl hg (by rw [hm]; exact ti106) rfl rfl hcs hfl) ?_
    rintro v _ rfl
    exact tl_nil (bodyM_end (fn := Tryd.f77) rfl rfl)
end KL
end Go.Proofs.YtlmecmapkijcnaaDoor

set_option linter.unusedVariables false
set_option maxRecDepth 100000
namespace Go.Proofs.YtlmecmapkijcnaaDoor
namespace KL
open Go.Conc (G listed)

section
variable {P : Program} {h : Know} {o : Oper} {ρ : Operand → Value}
theorem actM_go {p : Ph} {j : Nat} {x : Operand} {ats : Array TypeId} {f' : FuncId} {cap : Array Value} (hop : o.op = .go { callee := .value x, args := #[], argTypes := ats }) (hx : ρ x = .func (.func f') #[] cap) (hg : h.gh = .main p (.go j))
    (hc : GoesS actsW P false (StopW P) (bornF P { target := .fn (.func f') cap, args := #[] }) [] (startW p)) : ActO actsM P true o ρ h (fun v h' => h' = ⟨h.blk, .main p (.add (j + 1))⟩) := by
  intro a b k cs ops i rest hρ ho hw hk
  have e1 : a.eval x = .func (.func f') #[] cap := by rw [hρ x (by rw [hop]; simp [Op.operands, Call.operands]), hx]
  have hs : sil P (execOp a.eval o) (.spawn { target := .fn (.func f') cap, args := #[] }) := by
    have e : execOp a.eval o = pure (.spawn { target := .fn (.func f') cap, args := #[] }) := by
      unfold execOp; simp only [hop]
      unfold resolve; simp [e1, Deferred.ofValue]
    rw [e]; exact sil_pure _
  refine ⟨rfl, .go p j hg _ _ (fun w => ?_) hc ⟨undef, rfl, rfl, rfl⟩⟩
  obtain ⟨h1, h2⟩ := sil_run hs w
  have := Conc.stepG_spawn (main := true) (cs := cs) (k := k) (rest := rest) ho hw hk h1 rfl
  unfold listed at this
  rw [h2, Conc.seen_none] at this
  exact this
end

theorem sil_makeFunc {P : Program} {ρ : Operand → Value} {o : Oper} {f : Fn} {first captured : Array Operand} {fs cs : List Value} (ho : o.op = .makeFunc f first captured) (h1 : first.toList.map ρ = fs) (h2 : captured.toList.map ρ = cs) : sil P (execOp ρ o) (.value (.func f fs.toArray cs.toArray)) := by
  have e1 : first.map ρ = fs.toArray := by rw [← h1]; apply Array.ext'; simp
  have e2 : captured.map ρ = cs.toArray := by rw [← h2]; apply Array.ext'; simp
  simp only [execOp, ho, e1, e2]
  exact sil_pure _

/-- The cells of a row that is full. -/
def rowOf (n : Nat) (fin : Nat → Value) : Array Value := ((List.range (32 * n)).map fin).toArray

theorem each_S (W n rb : Nat) (fin : Nat → Value) (f : FuncId) (fn : Func) (first captured : Array Value) (h : Know) (row : Array Value) (hg : h.gh = .idle) (hW1 : 1 ≤ W) (hW : W ≤ 1000) (hn : n ≤ 2 ^ 30) (hrb : h rb = some (true, .cells row 106 (0, 0))) (hrow : row.size = 32 * n)
    (hfn : Tryd.prog.funcs[f]? = some fn) (hname : (fn.name == "runtime.NumGoroutine") = false) (hbody : fn.body.isNone = false)
    (hcall : ∀ p : Ph, p.rb = rb → p.n = n → p.m = 32 → p.fin = fin → p.te = 106 → (∀ b x, b ≠ rb → h b = some x → p.back b = some x) → ∀ (i : Nat) (hh : Know), i < n → hh.gh = .wrk p (.has i) → kept p hh →
      CallS actsB Tryd.prog false f (first.toList ++ [Value.int .i64 i] ++ captured.toList).toArray hh (RetM fun _ h' => h' = ⟨hh.blk, .wrk p (.run (i + 1))⟩)) :
    CallS actsM Tryd.prog true 74 [Value.int .i64 n, .int .i64 W, .func (.func f) first captured].toArray h (RetM fun _ h' => h'.gh = .idle ∧ (∀ b x, b ≠ rb → h b = some x → h' b = some x) ∧ h' rb = some (true, .cells (rowOf n fin) 106 (0, 0))) := by
  refine callM_of_wpE (fn := Tryd.f74) Tryd.func74 rfl (by show 3 ≤ 15; decide) ?_
  refine wpE_seq (wpE_region (op_n rfl (runN_box rfl rfl) fun r3 hr3 => op_n rfl (runN_box rfl rfl) fun r5 hr5 => opsE_nil ?_))
  refine wpE_seq (wpE_region (op_n rfl (runN_alloc rfl ti179) fun r6 hr6 => opsE_nil ?_))
  refine wpE_seq (wpE_region (op_n rfl (runN_alloc rfl ti181) fun r7 hr7 => opsE_nil ?_))
  change h r3 = none at hr3
  change wpE _ _ _ _ _ _ _ _ ((((h.upd r3 (true, .cells #[.int .i64 n] 3 (0, 0))).upd r5 (true, .cells #[.func (.func f) first captured] 130 (0, 0))).upd r6 (true, .cells #[.int .u64 0, .int .u32 0] 179 (0, 0))).upd r7 (true, .cells #[.int .i64 0] 181 (0, 0)))
  change ((h.upd r3 (true, .cells #[.int .i64 n] 3 (0, 0)))) r5 = none at hr5
  change ((h.upd r3 (true, .cells #[.int .i64 n] 3 (0, 0))).upd r5 (true, .cells #[.func (.func f) first captured] 130 (0, 0))) r6 = none at hr6
  change (((h.upd r3 (true, .cells #[.int .i64 n] 3 (0, 0))).upd r5 (true, .cells #[.func (.func f) first captured] 130 (0, 0))).upd r6 (true, .cells #[.int .u64 0, .int .u32 0] 179 (0, 0))) r7 = none at hr7
  have l1 : h.le (h.upd r3 (true, .cells #[.int .i64 n] 3 (0, 0))) := le_fresh _ hr3
  have l2 := Know.le_trans l1 (le_fresh (true, .cells #[.func (.func f) first captured] 130 (0, 0)) hr5)
  have l3 := Know.le_trans l2 (le_fresh (true, .cells #[.int .u64 0, .int .u32 0] 179 (0, 0)) hr6)
  have l4 := Know.le_trans l3 (le_fresh (true, .cells #[.int .i64 0] 181 (0, 0)) hr7)
  have k3 := (le_fresh (true, .cells #[.int .i64 0] 181 (0, 0)) hr7) _ _ ((le_fresh (true, .cells #[.int .u64 0, .int .u32 0] 179 (0, 0)) hr6) _ _ ((le_fresh (true, .cells #[.func (.func f) first captured] 130 (0, 0)) hr5) _ _ (Know.upd_same h r3 (true, .cells #[.int .i64 n] 3 (0, 0)))))
  have k5 := (le_fresh (true, .cells #[.int .i64 0] 181 (0, 0)) hr7) _ _ ((le_fresh (true, .cells #[.int .u64 0, .int .u32 0] 179 (0, 0)) hr6) _ _ (Know.upd_same (h.upd r3 (true, .cells #[.int .i64 n] 3 (0, 0))) r5 (true, .cells #[.func (.func f) first captured] 130 (0, 0))))
  have k6 := (le_fresh (true, .cells #[.int .i64 0] 181 (0, 0)) hr7) _ _ (Know.upd_same ((h.upd r3 (true, .cells #[.int .i64 n] 3 (0, 0))).upd r5 (true, .cells #[.func (.func f) first captured] 130 (0, 0))) r6 (true, .cells #[.int .u64 0, .int .u32 0] 179 (0, 0)))
  have k7 := Know.upd_same (((h.upd r3 (true, .cells #[.int .i64 n] 3 (0, 0))).upd r5 (true, .cells #[.func (.func f) first captured] 130 (0, 0))).upd r6 (true, .cells #[.int .u64 0, .int .u32 0] 179 (0, 0))) r7 (true, .cells #[.int .i64 0] 181 (0, 0))
  have kb := l4 _ _ hrb
  have n67 : r6 ≠ r7 := by rintro rfl; rw [Know.upd_same] at hr7; cases hr7
  have nb6 : rb ≠ r6 := by rintro rfl; rw [l2 _ _ hrb] at hr6; cases hr6
  have nb7 : rb ≠ r7 := by rintro rfl; rw [l3 _ _ hrb] at hr7; cases hr7
  have nb3 : rb ≠ r3 := by rintro rfl; rw [hrb] at hr3; cases hr3
  have nb5 : rb ≠ r5 := by rintro rfl; rw [l1 _ _ hrb] at hr5; cases hr5
  have n36 : r3 ≠ r6 := by rintro rfl; rw [(le_fresh (true, .cells #[.func (.func f) first captured] 130 (0, 0)) hr5) _ _ (Know.upd_same h r3 (true, .cells #[.int .i64 n] 3 (0, 0)))] at hr6; cases hr6
  have n37 : r3 ≠ r7 := by rintro rfl; rw [(le_fresh (true, .cells #[.int .u64 0, .int .u32 0] 179 (0, 0)) hr6) _ _ ((le_fresh (true, .cells #[.func (.func f) first captured] 130 (0, 0)) hr5) _ _ (Know.upd_same h r3 (true, .cells #[.int .i64 n] 3 (0, 0))))] at hr7; cases hr7
  have n56 : r5 ≠ r6 := by rintro rfl; rw [Know.upd_same] at hr6; cases hr6
  have n57 : r5 ≠ r7 := by rintro rfl; rw [(le_fresh (true, .cells #[.int .u64 0, .int .u32 0] 179 (0, 0)) hr6) _ _ (Know.upd_same _ _ _)] at hr7; cases hr7
  have f6 : ∀ x, h r6 ≠ some x := fun x e => by rw [l2 _ _ e] at hr6; cases hr6
  have f7 : ∀ x, h r7 ≠ some x := fun x e => by rw [l3 _ _ e] at hr7; cases hr7
  clear hr3 hr5 hr6 hr7 l1 l2 l3
  generalize ((((h.upd r3 (true, .cells #[.int .i64 n] 3 (0, 0))).upd r5 (true, .cells #[.func (.func f) first captured] 130 (0, 0))).upd r6 (true, .cells #[.int .u64 0, .int .u32 0] 179 (0, 0))).upd r7 (true, .cells #[.int .i64 0] 181 (0, 0))) = h1 at *
  obtain ⟨p, hp⟩ : ∃ p : Ph, p = { gb := r6, cb := r7, rb := rb, tg := 179, tc := 181, te := 106, n := n, W := W, m := 32, fin := fin, back := fun b => if b = r6 ∨ b = r7 ∨ b = rb then none else h1 b } := ⟨_, rfl⟩
  have hop : Opens p h1 := by
    subst hp
    exact ⟨hW1, hW, hn, k6, k7, ⟨row, kb, hrow⟩, fun b x e => by simp only at e; split at e; cases e; exact e, by simp, by simp, by simp, n67, fun e => nb6 e.symm, fun e => nb7 e.symm⟩
  have hback : ∀ b x, b ≠ rb → h b = some x → p.back b = some x := by
    subst hp
    intro b x hb e
    have : ¬ (b = r6 ∨ b = r7 ∨ b = rb) := by
      rintro (rfl | rfl | rfl)
      · exact f6 x e
      · exact f7 x e
      · exact hb rfl
    simp only [if_neg this]
    exact l4 _ _ e
  have hb3 : p.back r3 = some (true, .cells #[.int .i64 p.n] 3 (0, 0)) := by
    subst hp
    have : ¬ (r3 = r6 ∨ r3 = r7 ∨ r3 = rb) := by rintro (e | e | e); exact n36 e; exact n37 e; exact nb3 e.symm
    simp only [if_neg this]; exact k3
  have hb5 : p.back r5 = some (true, .cells #[.func (.func f) first captured] 130 (0, 0)) := by
    subst hp
    have : ¬ (r5 = r6 ∨ r5 = r7 ∨ r5 = rb) := by rintro (e | e | e); exact n56 e; exact n57 e; exact nb5 e.symm
    simp only [if_neg this]; exact k5
  have hg1 : h1.gh = .idle := l4.gh ▸ hg
  have e6 : p.gb = r6 := by rw [hp]
  have e7 : p.cb = r7 := by rw [hp]
  have eb : p.rb = rb := by rw [hp]
  have eW : p.W = W := by rw [hp]
  have en : p.n = n := by rw [hp]
  have em : p.m = 32 := by rw [hp]
  have ef : p.fin = fin := by rw [hp]
  have ee : p.te = 106 := by rw [hp]
  have hworker := worker_S p f fn first captured r3 r5 3 130 (0, 0) (0, 0) true true hb3 hb5 hfn hname hbody (by rw [en]; exact hn) (fun i hh hi hgi hk => CallS.mono (hcall p eb en em ef ee hback i hh (by rw [← en]; exact hi) hgi hk) (by rintro e h' ⟨v, e1, rfl⟩; exact ⟨v, e1, rfl, hk⟩))
  clear hp
  subst e6 e7
  refine wpE_seq (wpE_seq (wpE_region (op_p tyX_ok rfl (op_p tyX_ok rfl (opsE_nil ?_)))))
  refine (wpE_block (wpE_loop (fun m ds E hh => ds = [] ∧ ∃ j : Nat, m = W - j ∧ j ≤ W ∧ E.look 3 = some (pt r3) ∧ E.look 5 = some (pt r5) ∧ E.look 6 = some (pt p.gb) ∧ E.look 7 = some (pt p.cb) ∧ E.look 8 = some (.int .i64 W) ∧ E.look 9 = some (.int .i64 j) ∧ hh = (if j = 0 then h1 else ⟨openB p h1.blk, .main p (.add j)⟩))
    (m := W) ⟨rfl, 0, rfl, Nat.zero_le _, rfl, rfl, rfl, rfl, rfl, rfl, rfl⟩ ?_))
  rintro m ds E hh ⟨rfl, j, rfl, hj, e3, e5, e6, e7, e8, e9, rfl⟩
  refine wpE_weaken (E := [(9, .int .i64 j), (8, .int .i64 W), (7, pt p.cb), (6, pt p.gb), (5, pt r5), (3, pt r3)]) ?_ (Env.le_cons e9 (Env.le_cons e8 (Env.le_cons e7 (Env.le_cons e6 (Env.le_cons e5 (Env.le_cons e3 (Env.le_nil _))))))) (Know.le_refl _)
  refine wpE_seq (wpE_region ?_)
  by_cases hjW : j < W
  · refine mpe tyX_ok rfl (v' := .bool true) (congrArg Value.bool (decide_eq_true (by omega))) (opsE_nil (wpE_seq (wpE_true rfl (wpE_skip ?_))))
    refine wpE_seq (wpE_block (wpE_seq (wpE_region ?_)))
    refine mcall (fn := Tryd.f102) rfl rfl rfl Tryd.func102 (by kernel_rfl) rfl rfl (addM_S p j _ (openB p h1.blk) fun o ρ ats ho => ?_) ?_
    · by_cases hj0 : j = 0
      · subst hj0
        exact actM_opn e121 ho hg1 hop
      · rw [if_neg hj0]
        have := actM_dis (p := p) (j := j) (P := Tryd.prog) (h := ⟨openB p h1.blk, .main p (.add j)⟩) (ρ := ρ) e121 ho rfl
        rw [if_pos (by omega)] at this
        exact this
    rintro v _ rfl
    refine opsE_nil (wpE_region ?_)
    refine mr rfl (sil_makeFunc rfl rfl rfl) rfl ?_
    refine op_act rfl (actM_go (p := p) (j := j) rfl rfl rfl hworker) ?_
    rintro v _ rfl
    refine opsE_nil (wpE_region ?_)
    refine mpe tyX_ok rfl (v' := .int .i64 (j + 1 : Nat)) (congrArg (Value.int .i64) (by rw [IntKind.wrap_i64]; omega)) ?_
    refine mp tyX_ok rfl (opsE_nil ?_)
    exact ⟨W - (j + 1), by omega, rfl, j + 1, rfl, by omega, rfl, rfl, rfl, rfl, rfl, rfl, (if_neg (Nat.succ_ne_zero j)).symm⟩
  · have hjj : j = W := by omega
    subst hjj
    refine mpe tyX_ok rfl (v' := .bool false) (congrArg Value.bool (decide_eq_false (by omega))) (opsE_nil (wpE_seq (wpE_false rfl (wpE_exit ?_))))
    rw [if_neg (by omega)]
    suffices hs : wpE actsM Tryd.prog true 15 _ (bodyM Tryd.prog Tryd.f74 fun _ h' => h'.gh = .idle ∧ (∀ b x, b ≠ rb → h b = some x → h' b = some x) ∧ h' rb = some (true, .cells (rowOf n fin) 106 (0, 0))) [] _ _ from hs
    refine wpE_region ?_
    refine mcall (fn := Tryd.f106) rfl rfl rfl Tryd.func106 (by kernel_rfl) rfl rfl (waitM_S p ⟨openB p h1.blk, .main p (.add j)⟩ (by omega) (by rw [eW])) ?_
    rintro v _ rfl
    refine opsE_nil (bodyM_end (fn := Tryd.f74) rfl ⟨rfl, fun b x hb e => ?_, ?_⟩)
    · show shutB p (openB p h1.blk) b = some x
      unfold shutB
      rw [eb, if_neg hb, hback b x hb e]
    · show shutB p (openB p h1.blk) rb = _
      unfold shutB
      rw [eb, if_pos rfl, ee]
      unfold finRow rowOf
      rw [em, en, ef]
end KL
end Go.Proofs.YtlmecmapkijcnaaDoor

set_option linter.unusedVariables false
namespace Go.Proofs.YtlmecmapkijcnaaDoor
namespace KL

def rowFin (L : List ByteArray) (j : Nat) : Value := (digC (L.getD (j / 32) ByteArray.empty)).getD (j % 32) undef
theorem rowOf_size (n : Nat) (fin : Nat → Value) : (rowOf n fin).size = 32 * n := by simp [rowOf]
theorem part_row {p : Ph} {L : List ByteArray} (hm : p.m = 32) (hf : p.fin = rowFin L) (i : Nat) : (digC (L.getD i ByteArray.empty)).toList = part p i := by
  unfold part
  rw [hm, hf]
  apply List.ext_getElem
  · simp [digC_size]
  · intro k h1 h2
    have hk : k < 32 := by simpa [digC_size] using h1
    simp only [List.getElem_map, List.getElem_range]
    unfold rowFin
    have e1 : (32 * i + k) / 32 = i := by omega
    have e2 : (32 * i + k) % 32 = k := by omega
    rw [e1, e2]
    simp [Array.getD, digC_size, hk]
theorem row_extract (L : List ByteArray) {j : Nat} (hj : j < L.length) : (rowOf L.length (rowFin L)).extract (32 * j) (32 * j + 32) = digC (L.getD j ByteArray.empty) := by
  apply Array.ext
  · simp [rowOf_size, digC_size]; omega
  · intro k h1 h2
    have hk : k < 32 := by simpa [digC_size] using h2
    rw [Array.getElem_extract]
    simp only [rowOf, List.getElem_toArray, List.getElem_map, List.getElem_range]
    unfold rowFin
    have e1 : (32 * j + k) / 32 = j := by omega
    have e2 : (32 * j + k) % 32 = k := by omega
    rw [e1, e2]
    simp [Array.getD, digC_size, hk]
theorem digC_all (s : ByteArray) : ∀ v ∈ (digC s).toList, Value.flat v = true := fun v hv => by
  have := digC_flat s
  rw [List.all_eq_true] at this
  exact this v hv
theorem pairUp_getD {α : Type} (N : α → α → α) (d : α) : ∀ (i : Nat) (p : List α), 2 * i < p.length → (pairUp N p).getD i d = if 2 * i + 1 < p.length then N (p.getD (2 * i) d) (p.getD (2 * i + 1) d) else p.getD (2 * i) d := by
  intro i
  induction i with
  | zero =>
    intro p hp
    match p, hp with
    | [x], _ => rfl
    | x :: y :: r, _ => simp [pairUp]
  | succ i ih =>
    intro p hp
    match p, hp with
    | [], hp => simp at hp
    | [x], hp => simp at hp
    | x :: y :: r, hp =>
      simp only [List.length_cons] at hp
      have := ih r (by omega)
      have e : 2 * (i + 1) = 2 * i + 1 + 1 := by omega
      simp only [pairUp, List.getD_cons_succ, e, this, List.length_cons]
      have e2 : (2 * i + 1 + 1 + 1 < r.length + 1 + 1) = (2 * i + 1 < r.length) := by simp
      simp only [e2]

section
variable {P : Program} {h : Know} {ρ : Operand → Value} {o : Oper}
theorem runN_makeRow {t e : TypeId} {lx cx : Operand} {m : Nat} {kl kc : IntKind} {z : Value} {s bt : Nat} (ho : o.op = .makeSlice t lx cx) (hl : ρ lx = .int kl m) (hc : ρ cx = .int kc m) (hu : P.underlying t = some (.slice e)) (ti : TI P e z s bt) (h0 : 0 < m * s) (hm : m ≤ 2 ^ 40) (hb : bt * m ≤ 2 ^ 48) :
    RunN P ρ o h (fun r => .slice (some ⟨r, 0, none⟩) m m) (fun r => h.upd r (true, .cells ((Array.range (m * s)).map (z.cells[· % z.cells.size]!)) e (0, 0))) := by
  intro Pn K hK
  obtain ⟨i, e1, _, _, e4⟩ := ti.get
  have hw : IntKind.i64.wrap (m : Int) = (m : Int) := by rw [IntKind.wrap_i64]; omega
  simp only [execOp, ho, Instr.makeSlice, semS_bind, semS_underlying hu, hl, hc, asInt, asIntOf, semS_pure, semS_typeInfo e1, e4, hw]
  have h1 : ¬ ((bt : Int) * (m : Int) > 2 ^ 48) := by
    have : ((bt : Int) * (m : Int)) = ((bt * m : Nat) : Int) := by simp
    rw [this]; omega
  have h2 : ¬ ((m : Int) < 0) := by omega
  simp only [h1, h2, decide_false, Bool.or_self, Bool.false_eq_true, Int.lt_irrefl, gt_iff_lt, if_false, semS_bind]
  refine semS_askRoom _ _ ?_
  simp only [semS_sizeOf ti]
  have h3 : ((m : Int)).toNat = m := by omega
  have h4 : ¬ m * s = 0 := by omega
  simp only [h3, h4, if_false, semS_bind, semS_zeroValue ti, semS_pure]
  exact semS_newRow _ _ _ hK
theorem runV_quo {t yt : TypeId} {x y : Operand} {k : IntKind} {a b : Int} (ho : o.op = .binOp .quo t x y yt) (hx : ρ x = .int k a) (hy : ρ y = .int k b) (hb : b ≠ 0) :
    RunV P ρ o h (.int k (k.wrap (a.tdiv b))) h := by
  intro Pn K _ hK
  simp only [execOp, ho, hx, hy]
  have : (do eqGuard .quo t x y (.int k a) (.int k b); binOp .quo t (.int k a) (.int k b) : Sem Value) = pure (.int k (k.wrap (a.tdiv b))) := by
    show binOp .quo t (.int k a) (.int k b) = _
    simp [binOp, Op.intDiv, hb]
  rw [this]; exact hK
end
end KL
end Go.Proofs.YtlmecmapkijcnaaDoor

set_option linter.unusedVariables false
namespace Go.Proofs.YtlmecmapkijcnaaDoor
namespace KL

/-- What is known, shared. -/
def shr (h : Know) (g : Gh) : Know := ⟨fun b => (h b).map fun x => (false, x.2), g⟩
theorem shr_get {h : Know} {g : Gh} {b : Nat} {m : Bool} {o : Obj} (e : h b = some (m, o)) : shr h g b = some (false, o) := by simp [shr, e]
theorem strs_shr {h : Know} {v : Value} {l : List ByteArray} (s : StrsAt h v l) (g : Gh) : StrsAt (shr h g) v l := by
  obtain ⟨base, cap, e, d⟩ := s
  refine ⟨base, cap, e, d.imp id ?_⟩
  rintro ⟨b, off, mu, c, ty, fr, e1, e2, e3⟩
  exact ⟨b, off, false, c, ty, fr, e1, shr_get e2, e3⟩
theorem tables_shr {h : Know} (T : Tables h) (g : Gh) : Tables (shr h g) := by
  obtain ⟨⟨m, t, f, a⟩, m', t', f', b⟩ := T
  exact ⟨⟨false, t, f, shr_get a⟩, false, t', f', shr_get b⟩
/-- What a worker has of what the starter had. -/
theorem shr_le {h₀ h hh : Know} {p : Ph} {rb : Nat} (hl : ∀ b x, h₀ b = some x → h b = some x) (h0 : h₀ rb = none) (hback : ∀ b x, b ≠ rb → h b = some x → p.back b = some x) (hk : kept p hh) : (shr h₀ hh.gh).le hh := by
  refine ⟨rfl, fun b x e => ?_⟩
  simp only [shr, Option.map_eq_some_iff] at e
  obtain ⟨y, e1, rfl⟩ := e
  have hb : b ≠ rb := by rintro rfl; rw [h0] at e1; cases e1
  exact hk _ _ (by simp [startW, hback b y hb (hl _ _ e1)])
theorem kept_get {h hh : Know} {p : Ph} {rb b : Nat} {m : Bool} {o : Obj} (hback : ∀ b x, b ≠ rb → h b = some x → p.back b = some x) (hk : kept p hh) (hb : b ≠ rb) (e : h b = some (m, o)) : hh b = some (false, o) :=
  hk _ _ (by simp [startW, hback b _ hb e])

def AfterEach (h : Know) (rb n : Nat) (fin : Nat → Value) : Value → Know → Prop := fun _ h' => h'.gh = .idle ∧ (∀ b x, b ≠ rb → h b = some x → h' b = some x) ∧ h' rb = some (true, .cells (rowOf n fin) 106 (0, 0))

theorem phase1_S (W : Nat) (l : List ByteArray) (h₀ h : Know) (rb lb ob : Nat) (ml mo : Bool) (tl to : TypeId) (fl fo : Nat × Nat) (v : Value) (row : Array Value) (hg : h.gh = .idle) (hW1 : 1 ≤ W) (hW : W ≤ 1000) (hn : l.length ≤ 2 ^ 30) (hsz : ∀ s ∈ l, s.size ≤ 2 ^ 39)
    (hrb : h rb = some (true, .cells row 106 (0, 0))) (hrow : row.size = 32 * l.length) (hl : ∀ b x, h₀ b = some x → h b = some x) (h0 : h₀ rb = none) (hlb : h₀ lb = some (ml, .cells #[v] tl fl)) (hv : StrsAt h₀ v l) (T : Tables h₀)
    (hob : h ob = some (mo, .cells #[.slice (some ⟨rb, 0, none⟩) l.length l.length] to fo)) (nob : ob ≠ rb) :
    CallS actsM Tryd.prog true 74 [Value.int .i64 l.length, .int .i64 W, .func (.func 75) #[] #[pt lb, pt ob]].toArray h (RetM (AfterEach h rb l.length (rowFin (l.map leafP)))) := by
  refine each_S W l.length rb (rowFin (l.map leafP)) 75 Tryd.f75 #[] #[pt lb, pt ob] h row hg hW1 hW hn hrb hrow Tryd.func75 (by kernel_rfl) rfl ?_
  intro p eb en em ef ee hback i hh hi hgi hk
  have hle := shr_le hl h0 hback hk
  have hv' := (strs_shr hv hh.gh).le hle
  have T' := (tables_shr T hh.gh).le hle
  have klb : hh lb = some (false, .cells #[v] tl fl) := hle _ _ (shr_get hlb)
  have kob : hh ob = some (false, .cells #[.slice (some ⟨p.rb, 0, none⟩) l.length l.length] to fo) := by rw [eb]; exact kept_get hback hk nob hob
  obtain ⟨base, cap, rfl, hd⟩ := hv'
  obtain ⟨b, off, mu, c, ty, fr, rfl, kb, hcap, hc⟩ := hd.resolve_left (fun e => by rw [e] at hi; simp at hi)
  have hs : l.getD i ByteArray.empty ∈ l := by
    rw [List.getD_eq_getElem?_getD, List.getElem?_eq_getElem hi]; exact List.getElem_mem hi
  have hpart := part_row (p := p) (L := l.map leafP) em ef i
  have hleaf : (l.map leafP).getD i ByteArray.empty = leafP (l.getD i ByteArray.empty) := by
    simp only [List.getD_eq_getElem?_getD, List.getElem?_map, List.getElem?_eq_getElem hi, Option.map_some, Option.getD_some]
  rw [hleaf] at hpart
  exact wide1_aux p i hh lb ob b off cap l.length l.length l.length false false mu tl to ty fl fo fr c (l.getD i ByteArray.empty) (digC (leafP (l.getD i ByteArray.empty))) hgi em klb hi kob hi kb (hc i hi) (leaf_S hh _ T' (hsz _ hs)) hpart (digC_all _)

theorem phase2_S (W : Nat) (L : List ByteArray) (h₀ h : Know) (rb pb ob qb : Nat) (ml mo mb : Bool) (tl to tb : TypeId) (fl fo frb : Nat × Nat) (row : Array Value) (hg : h.gh = .idle) (hW1 : 1 ≤ W) (hW : W ≤ 1000) (hn : L.length ≤ 2 ^ 30)
    (hrb : h rb = some (true, .cells row 106 (0, 0))) (hrow : row.size = 32 * ((L.length + 1) / 2)) (hl : ∀ b x, h₀ b = some x → h b = some x) (h0 : h₀ rb = none) (hpb : h₀ pb = some (ml, .cells #[.slice (some ⟨qb, 0, none⟩) L.length L.length] tl fl))
    (hqb : h₀ qb = some (mb, .cells (rowOf L.length (rowFin L)) tb frb)) (T : Tables h₀) (hob : h ob = some (mo, .cells #[.slice (some ⟨rb, 0, none⟩) ((L.length + 1) / 2 : Nat) ((L.length + 1) / 2 : Nat)] to fo)) (nob : ob ≠ rb) :
    CallS actsM Tryd.prog true 74 [Value.int .i64 ((L.length + 1) / 2 : Nat), .int .i64 W, .func (.func 77) #[] #[pt pb, pt ob]].toArray h (RetM (AfterEach h rb ((L.length + 1) / 2) (rowFin (pairUp nodeP L)))) := by
  refine each_S W ((L.length + 1) / 2) rb (rowFin (pairUp nodeP L)) 77 Tryd.f77 #[] #[pt pb, pt ob] h row hg hW1 hW (by omega) hrb hrow Tryd.func77 (by kernel_rfl) rfl ?_
  intro p eb en em ef ee hback i hh hi hgi hk
  have hle := shr_le hl h0 hback hk
  have T' := (tables_shr T hh.gh).le hle
  have kpb : hh pb = some (false, .cells #[.slice (some ⟨qb, 0, none⟩) L.length L.length] tl fl) := hle _ _ (shr_get hpb)
  have kqb : hh qb = some (false, .cells (rowOf L.length (rowFin L)) tb frb) := hle _ _ (shr_get hqb)
  have kob : hh ob = some (false, .cells #[.slice (some ⟨p.rb, 0, none⟩) ((L.length + 1) / 2 : Nat) ((L.length + 1) / 2 : Nat)] to fo) := by rw [eb]; exact kept_get hback hk nob hob
  have hpart := part_row (p := p) (L := pairUp nodeP L) em ef i
  have hpu := pairUp_getD nodeP ByteArray.empty i L (by omega)
  have ex1 := row_extract L (j := 2 * i) (by omega)
  rw [show 32 * (2 * i) = 64 * i by omega] at ex1
  refine wide2_aux p i hh pb ob qb L.length L.length _ _ false false false tl to tb fl fo frb (rowOf L.length (rowFin L)) (digC ((pairUp nodeP L).getD i ByteArray.empty)) hgi em kpb (by omega) (by omega) kob hi kqb (rowOf_size _ _) (fun e => ?_) (fun e => ?_) hpart (digC_all _)
  · rw [ex1, hpu, if_neg (by omega)]
  · have ex2 := row_extract L (j := 2 * i + 1) e
    rw [show 32 * (2 * i + 1) = 64 * i + 32 by omega, show 64 * i + 32 + 32 = 64 * i + 64 by omega] at ex2
    rw [ex1, ex2, hpu, if_pos e]
    exact node_S hh _ _ T'
end KL
end Go.Proofs.YtlmecmapkijcnaaDoor

set_option linter.unusedVariables false
set_option maxRecDepth 100000
namespace Go.Proofs.YtlmecmapkijcnaaDoor
namespace KL
attribute [local irreducible] digC

theorem ti120 : TI Tryd.prog 120 (.slice none 0 0) 1 24 := by unfold TI; kernel_rfl
def wideP (l : List ByteArray) : ByteArray := if l.length = 0 then ByteArray.empty else halves nodeP (l.length + 1) (l.map leafP)

theorem wide_S (W : Nat) (l : List ByteArray) (h : Know) (v : Value) (hg : h.gh = .idle) (hW1 : 1 ≤ W) (hW : W ≤ 1000) (hn : l.length ≤ 2 ^ 30) (hsz : ∀ s ∈ l, s.size ≤ 2 ^ 39) (hv : StrsAt h v l) (T : Tables h) :
    CallS actsM Tryd.prog true 60 [v, .int .i64 W].toArray h (RetLe (.agg (digC (wideP l))) h) := by
  obtain ⟨base, cap, rfl, hd⟩ := id hv
  refine callS_of_wpE (fn := Tryd.f60) Tryd.func60 rfl (by show 2 ≤ 36; decide) ?_
  refine wpE_seq (wpE_region (op_n rfl (runN_box rfl rfl) fun r2 hr2 => op_n rfl (runN_alloc rfl ti106) fun r4 hr4 => opsE_nil ?_))
  change h r2 = none at hr2
  change (h.upd r2 (true, .cells #[.slice base l.length cap] 24 (0, 0))) r4 = none at hr4
  change wpE _ _ _ _ _ _ _ _ ((h.upd r2 (true, .cells #[.slice base l.length cap] 24 (0, 0))).upd r4 (true, .cells (B (List.replicate 32 0)).toArray 106 (0, 0)))
  have lg : h.le ((h.upd r2 (true, .cells #[.slice base l.length cap] 24 (0, 0))).upd r4 (true, .cells (B (List.replicate 32 0)).toArray 106 (0, 0))) := Know.le_trans (le_fresh _ hr2) (le_fresh _ hr4)
  have k2 : ((h.upd r2 (true, .cells #[.slice base l.length cap] 24 (0, 0))).upd r4 (true, .cells (B (List.replicate 32 0)).toArray 106 (0, 0))) r2 = some (true, .cells #[.slice base l.length cap] 24 (0, 0)) := le_fresh (true, .cells (B (List.replicate 32 0)).toArray 106 (0, 0)) hr4 _ _ (Know.upd_same h r2 (true, .cells #[.slice base l.length cap] 24 (0, 0)))
  have k4 : ((h.upd r2 (true, .cells #[.slice base l.length cap] 24 (0, 0))).upd r4 (true, .cells (B (List.replicate 32 0)).toArray 106 (0, 0))) r4 = some (true, .cells (B (List.replicate 32 0)).toArray 106 (0, 0)) := Know.upd_same _ _ _
  have fresh4 : h r4 = none := by
    cases e : h r4 with
    | none => rfl
    | some x => rw [le_fresh (true, .cells #[.slice base l.length cap] 24 (0, 0)) hr2 _ _ e] at hr4; cases hr4
  clear hr2 hr4
  generalize ((h.upd r2 (true, .cells #[.slice base l.length cap] 24 (0, 0))).upd r4 (true, .cells (B (List.replicate 32 0)).toArray 106 (0, 0))) = g at *
  have hgg : g.gh = .idle := lg.gh ▸ hg
  refine wpE_seq (wpE_seq (wpE_region ?_))
  refine op_r rfl (runV_load rfl rfl und24 rfl k2 rfl) ?_
  refine op_p tyX_ok rfl ?_
  by_cases h0 : l.length = 0
  · refine op_pe tyX_ok rfl (v' := .bool true) (congrArg Value.bool (decide_eq_true (show ((l.length : Nat) : Int) = 0 by omega))) (opsE_nil (wpE_true rfl (wpE_seq (wpE_region ?_))))
    refine op_call (fn := Tryd.f73) rfl rfl Tryd.func73 (by kernel_rfl) rfl rfl (empty_S _ (T.le lg)) (ends_le ?_)
    refine op_store_row rfl rfl (z := .agg (B (List.replicate 32 0)).toArray) (bt := 32) (by rw [digC_size]; exact ti106) k4 (digC_flat _) (by rw [digC_size]; simp [B]) rfl (h' := g.upd r4 (true, .cells (digC ByteArray.empty) 106 (0, 0))) rfl ?_
    refine opsE_nil (wpE_ret ?_)
    refine bodyQ_row (fn := Tryd.f60) rfl rfl und106 rfl (z := .agg (B (List.replicate 32 0)).toArray) (bt := 32) (by rw [digC_size]; exact ti106) (Know.upd_same _ _ _) ⟨by rw [wideP, if_pos h0], lg.gh, fun b x e => ?_⟩
    have hb : b ≠ r4 := by rintro rfl; rw [fresh4] at e; cases e
    rw [Know.upd_ne _ _ hb]; exact lg _ _ e
  refine op_pe tyX_ok rfl (v' := .bool false) (congrArg Value.bool (decide_eq_false (show ¬ ((l.length : Nat) : Int) = 0 by omega))) (opsE_nil (wpE_false rfl (wpE_skip ?_)))
  refine wpE_seq (wpE_region ?_)
  refine op_r rfl (runV_load rfl rfl und24 rfl k2 rfl) ?_
  refine op_p tyX_ok rfl ?_
  refine op_n rfl (runN_makeRow rfl rfl rfl Tryd.underlying120 ti106 (by omega) (by omega) (by omega)) fun rb hrb => ?_
  refine op_n rfl (runN_alloc rfl ti120) fun r5 hr5 => ?_
  generalize hrow : (Array.range (l.length * 32)).map ((Value.agg (B (List.replicate 32 0)).toArray).cells[· % (Value.agg (B (List.replicate 32 0)).toArray).cells.size]!) = row at hr5 ⊢
  have hrsz : row.size = 32 * l.length := by rw [← hrow]; simp [Nat.mul_comm]
  clear hrow
  have nb5 : rb ≠ r5 := by rintro rfl; rw [Know.upd_same] at hr5; cases hr5
  refine op_store rfl rfl rfl ti120 (Know.upd_same _ _ _) (by decide) (by decide) (h' := (g.upd rb (true, .cells row 106 (0, 0))).upd r5 (true, .cells #[.slice (some ⟨rb, 0, none⟩) l.length l.length] 120 (0, 0))) (by rw [upd_upd]; rfl) ?_
  have hr5g : g r5 = none := by rw [Know.upd_ne _ _ (Ne.symm nb5)] at hr5; exact hr5
  have l5 : g.le ((g.upd rb (true, .cells row 106 (0, 0))).upd r5 (true, .cells #[.slice (some ⟨rb, 0, none⟩) l.length l.length] 120 (0, 0))) := Know.le_trans (le_fresh _ hrb) (le_fresh _ hr5)
  have k5 : ((g.upd rb (true, .cells row 106 (0, 0))).upd r5 (true, .cells #[.slice (some ⟨rb, 0, none⟩) l.length l.length] 120 (0, 0))) r5 = some (true, .cells #[.slice (some ⟨rb, 0, none⟩) l.length l.length] 120 (0, 0)) := Know.upd_same _ _ _
  have kb : ((g.upd rb (true, .cells row 106 (0, 0))).upd r5 (true, .cells #[.slice (some ⟨rb, 0, none⟩) l.length l.length] 120 (0, 0))) rb = some (true, .cells row 106 (0, 0)) := by rw [Know.upd_ne _ _ nb5, Know.upd_same]
  generalize ((g.upd rb (true, .cells row 106 (0, 0))).upd r5 (true, .cells #[.slice (some ⟨rb, 0, none⟩) l.length l.length] 120 (0, 0))) = g5 at *
  refine opsE_nil (wpE_seq (wpE_region ?_))
  refine op_r rfl (runV_load rfl rfl und24 rfl (l5 _ _ k2) rfl) ?_
  refine op_p tyX_ok rfl ?_
  refine op_p tyX_ok rfl ?_
  refine mr rfl (sil_makeFunc rfl rfl rfl) rfl ?_
  refine mcall (fn := Tryd.f74) rfl rfl rfl Tryd.func74 (by kernel_rfl) rfl rfl (phase1_S W l g g5 rb r2 r5 true true 24 120 (0, 0) (0, 0) (.slice base l.length cap) row (l5.gh ▸ hgg) hW1 hW hn hsz kb hrsz (fun b x e => l5 _ _ e) hrb k2 (hv.le lg) (T.le lg) k5 (Ne.symm nb5)) ?_
  rintro u g6 ⟨hg6, hk6, hrow6⟩
  have nbr4 : r4 ≠ rb := by rintro rfl; rw [k4] at hrb; cases hrb
  have n45 : r4 ≠ r5 := by rintro rfl; rw [k4] at hr5g; cases hr5g
  have hle6 : ∀ b x, g b = some x → g6 b = some x := fun b x e => hk6 b x (by rintro rfl; rw [hrb] at e; cases e) (l5 _ _ e)
  refine opsE_nil (wpE_seq (wpE_block (wpE_loop (fun m ds E hh => ds = [] ∧ ∃ (L : List ByteArray) (qb : Nat), m = L.length ∧ 1 ≤ L.length ∧ L.length ≤ l.length ∧ E.look 1 = some (.int .i64 W) ∧ E.look 4 = some (pt r4) ∧ E.look 5 = some (pt r5) ∧ hh.gh = .idle ∧ (∀ b x, h b = some x → hh b = some x) ∧
    hh r4 = some (true, .cells (B (List.replicate 32 0)).toArray 106 (0, 0)) ∧ hh r5 = some (true, .cells #[.slice (some ⟨qb, 0, none⟩) L.length L.length] 120 (0, 0)) ∧ hh qb = some (true, .cells (rowOf L.length (rowFin L)) 106 (0, 0)) ∧ halves nodeP (l.length + 1) L = halves nodeP (l.length + 1) (l.map leafP)) (m := l.length)
    ⟨rfl, l.map leafP, rb, by simp, by simp; omega, by simp, rfl, rfl, rfl, hg6, fun b x e => hle6 _ _ (lg _ _ e), hle6 _ _ k4, by rw [List.length_map]; exact hk6 _ _ (Ne.symm nb5) k5, by rw [List.length_map]; exact hrow6, rfl⟩ ?_)))
  rintro m ds E hh ⟨rfl, L, qb, rfl, hL1, hLl, e1, e4, e5, hgh, hle, q4, q5, qq, hhal⟩
  refine wpE_weaken (E := [(5, pt r5), (4, pt r4), (1, .int .i64 W)]) ?_ (Env.le_cons e5 (Env.le_cons e4 (Env.le_cons e1 (Env.le_nil _)))) (Know.le_refl _)
  have hleK : h.le hh := ⟨hg.trans hgh.symm, hle⟩
  refine wpE_seq (wpE_seq (wpE_region ?_))
  refine op_r rfl (runV_load rfl rfl Tryd.underlying120 rfl q5 rfl) ?_
  refine op_p tyX_ok rfl ?_
  by_cases hone : 1 < L.length
  · refine op_pe tyX_ok rfl (v' := .bool true) (congrArg Value.bool (decide_eq_true (by omega))) (opsE_nil (wpE_true rfl (wpE_skip ?_)))
    refine wpE_block (wpE_seq (wpE_region ?_))
    refine op_r rfl (runV_load rfl rfl Tryd.underlying120 rfl q5 rfl) ?_
    refine op_p tyX_ok rfl ?_
    refine op_pe tyX_ok rfl (v' := .int .i64 (L.length + 1 : Nat)) (congrArg (Value.int .i64) (by rw [IntKind.wrap_i64]; omega)) ?_
    refine op_re rfl (runV_quo rfl rfl rfl (by decide)) (v' := .int .i64 ((L.length + 1) / 2 : Nat)) (congrArg (Value.int .i64) (by rw [Int.tdiv_eq_ediv_of_nonneg (by omega), IntKind.wrap_i64]; omega)) ?_
    refine op_n rfl (runN_makeRow rfl rfl rfl Tryd.underlying120 ti106 (by omega) (by omega) (by omega)) fun nb hnb => ?_
    refine op_n rfl (runN_alloc rfl ti120) fun r6 hr6 => ?_
    generalize hrow : (Array.range ((L.length + 1) / 2 * 32)).map ((Value.agg (B (List.replicate 32 0)).toArray).cells[· % (Value.agg (B (List.replicate 32 0)).toArray).cells.size]!) = row' at hr6 ⊢
    have hrsz' : row'.size = 32 * ((L.length + 1) / 2) := by rw [← hrow]; simp [Nat.mul_comm]
    clear hrow
    have nb6 : nb ≠ r6 := by rintro rfl; rw [Know.upd_same] at hr6; cases hr6
    refine op_store rfl rfl rfl ti120 (Know.upd_same _ _ _) (by decide) (by decide) (h' := (hh.upd nb (true, .cells row' 106 (0, 0))).upd r6 (true, .cells #[.slice (some ⟨nb, 0, none⟩) ((L.length + 1) / 2 : Nat) ((L.length + 1) / 2 : Nat)] 120 (0, 0))) (by rw [upd_upd]; rfl) ?_
    have l6 : hh.le ((hh.upd nb (true, .cells row' 106 (0, 0))).upd r6 (true, .cells #[.slice (some ⟨nb, 0, none⟩) ((L.length + 1) / 2 : Nat) ((L.length + 1) / 2 : Nat)] 120 (0, 0))) := Know.le_trans (le_fresh _ hnb) (le_fresh _ hr6)
    have k6 : ((hh.upd nb (true, .cells row' 106 (0, 0))).upd r6 (true, .cells #[.slice (some ⟨nb, 0, none⟩) ((L.length + 1) / 2 : Nat) ((L.length + 1) / 2 : Nat)] 120 (0, 0))) r6 = some (true, .cells #[.slice (some ⟨nb, 0, none⟩) ((L.length + 1) / 2 : Nat) ((L.length + 1) / 2 : Nat)] 120 (0, 0)) := Know.upd_same _ _ _
    have kn : ((hh.upd nb (true, .cells row' 106 (0, 0))).upd r6 (true, .cells #[.slice (some ⟨nb, 0, none⟩) ((L.length + 1) / 2 : Nat) ((L.length + 1) / 2 : Nat)] 120 (0, 0))) nb = some (true, .cells row' 106 (0, 0)) := by rw [Know.upd_ne _ _ nb6, Know.upd_same]
    generalize ((hh.upd nb (true, .cells row' 106 (0, 0))).upd r6 (true, .cells #[.slice (some ⟨nb, 0, none⟩) ((L.length + 1) / 2 : Nat) ((L.length + 1) / 2 : Nat)] 120 (0, 0))) = g7 at *
    refine opsE_nil (wpE_seq (wpE_region ?_))
    refine op_r rfl (runV_load rfl rfl Tryd.underlying120 rfl k6 rfl) ?_
    refine op_p tyX_ok rfl ?_
    refine op_p tyX_ok rfl ?_
    refine mr rfl (sil_makeFunc rfl rfl rfl) rfl ?_
    refine mcall (fn := Tryd.f74) rfl rfl rfl Tryd.func74 (by kernel_rfl) rfl rfl (phase2_S W L hh g7 nb r5 r6 qb true true true 120 120 106 (0, 0) (0, 0) (0, 0) row' (l6.gh ▸ hgh) hW1 hW (by omega) kn hrsz' (fun b x e => l6 _ _ e) hnb q5 qq (T.le hleK) k6 (Ne.symm nb6)) ?_
    rintro u' g8 ⟨hg8, hk8, hrow8⟩
    have hle8 : ∀ b x, hh b = some x → g8 b = some x := fun b x e => hk8 b x (by rintro rfl; rw [hnb] at e; cases e) (l6 _ _ e)
    have hpl := pairUp_length nodeP L.length L rfl
    refine opsE_nil (wpE_region ?_)
    refine op_r rfl (runV_load rfl rfl Tryd.underlying120 rfl (hk8 _ _ (Ne.symm nb6) k6) rfl) ?_
    refine op_store rfl rfl rfl ti120 (hle8 _ _ q5) (Nat.zero_lt_one) (by decide) (h' := g8.upd r5 (true, .cells #[.slice (some ⟨nb, 0, none⟩) ((L.length + 1) / 2 : Nat) ((L.length + 1) / 2 : Nat)] 120 (0, 0))) rfl ?_
    refine opsE_nil ?_
    have nn5 : nb ≠ r5 := by rintro rfl; rw [q5] at hnb; cases hnb
    refine ⟨(pairUp nodeP L).length, by rw [hpl]; omega, rfl, pairUp nodeP L, nb, rfl, by rw [hpl]; omega, by rw [hpl]; omega, rfl, rfl, rfl, hg8, fun b x e => ?_, ?_, by rw [hpl]; exact Know.upd_same _ _ _, ?_, ?_⟩
    · have hb : b ≠ r5 := by
        rintro rfl
        have := lg _ _ e
        rw [hr5g] at this; cases this
      rw [Know.upd_ne _ _ hb]; exact hle8 _ _ (hle _ _ e)
    · rw [Know.upd_ne _ _ n45]; exact hle8 _ _ q4
    · rw [Know.upd_ne _ _ nn5, hpl]; exact hrow8
    · rw [halves_pairUp nodeP _ L (by omega)]; exact hhal
  · refine op_pe tyX_ok rfl (v' := .bool false) (congrArg Value.bool (decide_eq_false (by omega))) (opsE_nil (wpE_false rfl (wpE_exit ?_)))
    have hL : L.length = 1 := by omega
    obtain ⟨x, rfl⟩ : ∃ x, L = [x] := by
      match L, hL with
      | [x], _ => exact ⟨x, rfl⟩
    have hx : x = wideP l := by
      rw [wideP, if_neg h0, ← hhal]; rfl
    have hex := row_extract [x] (j := 0) (Nat.zero_lt_one)
    suffices hs : wpE actsM Tryd.prog true 36 _ (bodyQ Tryd.prog Tryd.f60 (RetLe (.agg (digC (wideP l))) h)) [] _ _ from hs
    refine wpE_seq (wpE_region ?_)
    refine op_r rfl (runV_load rfl rfl Tryd.underlying120 rfl q5 rfl) ?_
    refine op_re rfl (runV_indexAddr_slice rfl Tryd.underlying120 ti106 rfl rfl (by decide) (by simp)) (v' := .pointer (some ⟨qb, 0, none⟩)) rfl ?_
    refine op_re rfl (runV_load_part rfl rfl und106 rfl ti106 qq (by rw [rowOf_size]; simp)) (v' := .agg (digC x)) (congrArg Value.agg hex) ?_
    refine op_store_row rfl rfl (z := .agg (B (List.replicate 32 0)).toArray) (bt := 32) (by rw [digC_size]; exact ti106) q4 (digC_flat _) (by rw [digC_size]; simp [B]) rfl (h' := hh.upd r4 (true, .cells (digC x) 106 (0, 0))) rfl ?_
    refine opsE_nil (wpE_ret ?_)
    refine bodyQ_row (fn := Tryd.f60) rfl rfl und106 rfl (z := .agg (B (List.replicate 32 0)).toArray) (bt := 32) (by rw [digC_size]; exact ti106) (Know.upd_same _ _ _) ⟨by rw [hx], hleK.gh, fun b y e => ?_⟩
    have hb : b ≠ r4 := by rintro rfl; rw [fresh4] at e; cases e
    rw [Know.upd_ne _ _ hb]; exact hle _ _ e
end KL
end Go.Proofs.YtlmecmapkijcnaaDoor
