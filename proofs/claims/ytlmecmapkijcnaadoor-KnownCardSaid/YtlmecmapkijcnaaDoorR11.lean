/- The starter's Add, and its Wait. The starter's Wait. A worker, from its birth to its end. A worker: it draws, it calls, it leaves. A worker's store into its place of the row. -/
import Derived.Test.YtlmecmapkijcnaaDoorR10
import Derived.Test.YtlmecmapkijcnaaDoorR09
import Derived.Conc.Own2
import Derived.Laws.CopyRow
import Derived.Conc.AppendEvents
set_option linter.unusedVariables false
set_option maxRecDepth 100000
namespace Go.Proofs.YtlmecmapkijcnaaDoor
namespace KL
open Go.Conc (G listed)

/-- Add(1), from the deaf word on. -/
theorem addM_S (p : Ph) (j : Nat) (h : Know) (B : Nat → Option (Bool × Obj)) (hd : ∀ (o : Oper) (ρ : Operand → Value) (ats : Array TypeId), o.op = .call { callee := .value (.func 121), args := #[], argTypes := ats } → ActO actsM Tryd.prog true o ρ h (fun v h' => h' = ⟨B, .main p (.add1 j)⟩)) :
    CallS actsM Tryd.prog true 102 [Value.pointer (some (cel p.gb 0)), .int .i64 1].toArray h (RetM fun _ h' => h' = ⟨B, .main p (.go j)⟩) := by
  refine callD_of_wpE (fn := Tryd.f102) (g := 122) Tryd.func102 rfl (by show 2 ≤ 117; decide) rfl ?_
  refine wpE_seq (wpE_true rfl (wpE_seq (wpE_seq (wpE_region ?_))))
  refine mp tyW_ok rfl (mpe tyW_ok rfl (v' := .bool false) rfl (opsE_nil (wpE_false rfl (wpE_skip ?_))))
  refine wpE_seq (wpE_region ?_)
  refine op_act rfl (hd _ _ _ rfl) ?_
  rintro v1 _ rfl
  refine opsE_nil (wpE_region ?_)
  refine mdefer (vs := []) rfl rfl rfl rfl rfl (opsE_nil ?_)
  refine wpE_seq (wpE_region (mp tyW_ok rfl (opsE_nil ?_)))
  refine wpE_seq (wpE_seq (wpE_region ?_))
  refine mext (.bool false) rfl rfl n123.1 n123.2.1 n123.2.2.1 n123.2.2.2.1 n123.2.2.2.2 (opsE_nil (wpE_false rfl (wpE_skip ?_)))
  refine wpE_seq (wpE_region ?_)
  refine mp tyW_ok rfl ?_
  refine mr rfl (sil_nilCheck rfl rfl) rfl ?_
  refine mr rfl (sil_fieldAddr rfl Tryd.underlying179 rfl rfl ti177 (by decide) rfl) (v' := .pointer (some (cel p.gb 0))) rfl ?_
  refine mp tyW_ok rfl ?_
  refine mpe tyW_ok rfl (v' := .int .u64 1) (congrArg (Value.int .u64) (by decide)) ?_
  refine mr rfl (sil_shl rfl rfl rfl (by decide)) (v' := .int .u64 4294967296) (congrArg (Value.int .u64) (by decide)) ?_
  refine mcall (fn := Tryd.f127) rfl rfl rfl Tryd.func127 (by kernel_rfl) rfl rfl (uAdd_S (b := p.gb) fun o ρ x y ats ho hx hy => actM_up (p := p) e145 ho rfl hx hy) ?_
  rintro _ _ ⟨n, hn, rfl, rfl⟩
  have e0 : ((n + 1 : Nat) : Int) * KK = ((n + 1 : Nat) : Int) * KK + ((0 : Nat) : Int) := by simp
  rw [e0]
  refine mp tyW_ok rfl (opsE_nil ?_)
  refine wpE_seq (wpE_seq (wpE_region ?_))
  refine mp tyW_ok rfl ?_
  refine mpe tyW_ok rfl (v' := .int .u64 0) (congrArg (Value.int .u64) (kk_and_top (by omega) (by decide))) ?_
  refine mpe tyW_ok rfl (v' := .bool false) rfl ?_
  refine mp tyW_ok rfl ?_
  refine mps rfl rfl rfl rfl ?_
  refine mps rfl rfl rfl rfl ?_
  refine mr rfl (sil_pick rfl rfl rfl) (v' := .bool false) rfl (opsE_nil (wpE_false rfl (wpE_skip ?_)))
  refine wpE_seq (wpE_region (mp tyW_ok rfl ?_))
  refine mr rfl (sil_shr rfl rfl rfl (by decide)) (v' := .int .u64 (n + 1 : Nat)) (congrArg (Value.int .u64) (kk_shr (by decide))) ?_
  refine mpe tyW_ok rfl (v' := .int .i32 (n + 1 : Nat)) (congrArg (Value.int .i32) (wrap_i32n (by omega))) ?_
  refine mp tyW_ok rfl (opsE_nil ?_)
  refine wpE_seq (wpE_region (mp tyW_ok rfl ?_))
  refine mpe tyW_ok rfl (v' := .int .u64 (0 : Nat)) (congrArg (Value.int .u64) (kk_and_low (by omega) (by decide))) ?_
  refine mpe tyW_ok rfl (v' := .int .u32 0) rfl ?_
  refine mp tyW_ok rfl (opsE_nil ?_)
  refine wpE_seq (wpE_seq (wpE_region ?_))
  refine mp tyW_ok rfl ?_
  refine mpg tyW_ok rfl rfl rfl rfl ?_
  refine mpg tyW_ok rfl rfl rfl (v' := .bool true) rfl ?_
  refine mr rfl (sil_pick rfl rfl rfl) (v' := .bool true) rfl ?_
  refine mp tyW_ok rfl ?_
  refine mpg tyW_ok rfl rfl rfl rfl ?_
  refine mpg tyW_ok rfl rfl rfl rfl ?_
  refine mpg tyW_ok rfl rfl rfl (v' := .int .i32 1) rfl ?_
  by_cases hb : ((n + 1 : Nat) : Int) = 1
  · refine mpg tyW_ok rfl rfl rfl (v' := .bool true) (congrArg Value.bool (by rw [hb]; rfl)) ?_
    refine mr rfl (sil_pick rfl rfl rfl) (v' := .bool true) rfl (opsE_nil (wpE_true rfl (wpE_region ?_)))
    refine mp tyW_ok rfl ?_
    refine mr rfl (sil_nilCheck rfl rfl) rfl ?_
    refine mr rfl (sil_fieldAddr rfl Tryd.underlying179 rfl rfl ti124 (by decide) rfl) (v' := .pointer (some (cel p.gb 1))) rfl ?_
    refine op_act rfl (actM_look (p := p) rfl Tryd.underlying213 Tryd.underlying143 look124 (.inr rfl) rfl rfl) ?_
    rintro _ _ ⟨rfl, rfl⟩
    refine op_act rfl (actM_rdm (p := p) e128 rfl rfl rfl) ?_
    rintro v2 _ rfl
    refine opsE_nil ?_
    refine wpE_seq (wpE_seq (wpE_region ?_))
    refine mp tyW_ok rfl ?_
    refine mpe tyW_ok rfl (v' := .bool false) (congrArg Value.bool (decide_eq_false (by omega))) (opsE_nil (wpE_false rfl (wpE_skip ?_)))
    refine wpE_seq (wpE_seq (wpE_region ?_))
    refine mp tyW_ok rfl ?_
    refine mpe tyW_ok rfl (v' := .bool false) rfl ?_
    refine mp tyW_ok rfl ?_
    refine mps rfl rfl rfl rfl (mps rfl rfl rfl rfl ?_)
    refine mr rfl (sil_pick rfl rfl rfl) (v' := .bool false) rfl ?_
    refine mp tyW_ok rfl ?_
    refine mps rfl rfl rfl rfl (mps rfl rfl rfl rfl (mps rfl rfl rfl rfl (mps rfl rfl rfl rfl ?_)))
    refine mr rfl (sil_pick rfl rfl rfl) (v' := .bool false) rfl (opsE_nil (wpE_false rfl (wpE_skip ?_)))
    refine wpE_seq (wpE_seq (wpE_region ?_))
    refine mp tyW_ok rfl ?_
    refine mpe tyW_ok rfl (v' := .bool true) (congrArg Value.bool (decide_eq_true (by omega))) ?_
    refine mp tyW_ok rfl ?_
    refine mps rfl rfl rfl rfl (mps rfl rfl rfl rfl ?_)
    refine mr rfl (sil_pick rfl rfl rfl) (v' := .bool true) rfl (opsE_nil (wpE_true rfl (wpE_ret ?_)))
    exact ⟨rfl, endM_en (p := p) e122 rfl⟩
  · refine mpg tyW_ok rfl rfl rfl (v' := .bool false) (congrArg Value.bool (by simpa using hb)) ?_
    refine mr rfl (sil_pick rfl rfl rfl) (v' := .bool false) rfl (opsE_nil (wpE_false rfl (wpE_skip ?_)))
    refine wpE_seq (wpE_seq (wpE_region ?_))
    refine mp tyW_ok rfl ?_
    refine mpe tyW_ok rfl (v' := .bool false) (congrArg Value.bool (decide_eq_false (by omega))) (opsE_nil (wpE_false rfl (wpE_skip ?_)))
    refine wpE_seq (wpE_seq (wpE_region ?_))
    refine mp tyW_ok rfl ?_
    refine mpe tyW_ok rfl (v' := .bool false) rfl ?_
    refine mp tyW_ok rfl ?_
    refine mps rfl rfl rfl rfl (mps rfl rfl rfl rfl ?_)
    refine mr rfl (sil_pick rfl rfl rfl) (v' := .bool false) rfl ?_
    refine mp tyW_ok rfl ?_
    refine mps rfl rfl rfl rfl (mps rfl rfl rfl rfl (mps rfl rfl rfl rfl (mps rfl rfl rfl rfl ?_)))
    refine mr rfl (sil_pick rfl rfl rfl) (v' := .bool false) rfl (opsE_nil (wpE_false rfl (wpE_skip ?_)))
    refine wpE_seq (wpE_seq (wpE_region ?_))
    refine mp tyW_ok rfl ?_
    refine mpe tyW_ok rfl (v' := .bool true) (congrArg Value.bool (decide_eq_true (by omega))) ?_
    refine mp tyW_ok rfl ?_
    refine mps rfl rfl rfl rfl (mps rfl rfl rfl rfl ?_)
    refine mr rfl (sil_pick rfl rfl rfl) (v' := .bool true) rfl (opsE_nil (wpE_true rfl (wpE_ret ?_)))
    exact ⟨rfl, endM_en (p := p) e122 rfl⟩
end KL
end Go.Proofs.YtlmecmapkijcnaaDoor

set_option linter.unusedVariables false
set_option maxRecDepth 100000
namespace Go.Proofs.YtlmecmapkijcnaaDoor
namespace KL
open Go.Conc (G listed)

theorem waitM_S (p : Ph) (h : Know) (hW : p.W ≤ 1000) (hg : h.gh = .main p (.add p.W)) : CallS actsM Tryd.prog true 106 [Value.pointer (some (cel p.gb 0))].toArray h (RetM fun _ h' => h' = ⟨shutB p h.blk, .idle⟩) := by
  refine callM_of_wpE (fn := Tryd.f106) Tryd.func106 rfl (by show 1 ≤ 84; decide) ?_
  refine wpE_seq (wpE_true rfl (wpE_region ?_))
  refine op_act rfl (actM_dis (p := p) e121 rfl hg) ?_
  rintro v0 _ rfl
  rw [if_neg (Nat.lt_irrefl _)]
  refine opsE_nil ?_
  refine wpE_block (wpE_loop (fun m ds E hh => ds = [] ∧ m ≤ p.W ∧ E.look 0 = some (.pointer (some (cel p.gb 0))) ∧ hh = ⟨h.blk, .main p (.w1 m)⟩) (m := p.W) ⟨rfl, Nat.le_refl _, rfl, rfl⟩ ?_)
  rintro vs ds E hh ⟨rfl, hvs, h0, rfl⟩
  refine wpE_weaken (E := [(0, .pointer (some (cel p.gb 0)))]) ?_ (Env.le_cons h0 (Env.le_nil _)) (Know.le_refl _)
  refine wpE_block ?_
  refine wpE_seq (wpE_region ?_)
  refine mp tyW_ok rfl ?_
  refine mr rfl (sil_nilCheck rfl rfl) rfl ?_
  refine mr rfl (sil_fieldAddr rfl Tryd.underlying179 rfl rfl ti177 (by decide) rfl) (v' := .pointer (some (cel p.gb 0))) rfl ?_
  refine mcall (fn := Tryd.f129) rfl rfl rfl Tryd.func129 (by kernel_rfl) rfl rfl (uLoad_S (b := p.gb) fun o ρ x ats ho hx => actM_load (p := p) e146 ho rfl hx) ?_
  rintro _ _ ⟨n, hn, rfl, rfl⟩
  have e0 : (n : Int) * KK = (n : Int) * KK + ((0 : Nat) : Int) := by simp
  rw [e0]
  refine mp tyW_ok rfl (opsE_nil ?_)
  refine wpE_seq (wpE_region (mp tyW_ok rfl ?_))
  refine mr rfl (sil_shr rfl rfl rfl (by decide)) (v' := .int .u64 n) (congrArg (Value.int .u64) (kk_shr (by decide))) ?_
  refine mpe tyW_ok rfl (v' := .int .i32 n) (congrArg (Value.int .i32) (wrap_i32n (by omega))) ?_
  refine mp tyW_ok rfl (opsE_nil ?_)
  refine wpE_seq (wpE_region (mp tyW_ok rfl ?_))
  refine mpe tyW_ok rfl (v' := .int .u64 (0 : Nat)) (congrArg (Value.int .u64) (kk_and_low (by omega) (by decide))) ?_
  refine mpe tyW_ok rfl (v' := .int .u32 0) rfl ?_
  refine mp tyW_ok rfl (opsE_nil ?_)
  refine wpE_seq (wpE_seq (wpE_region ?_))
  refine mp tyW_ok rfl ?_
  cases n with
  | zero =>
    refine mpe tyW_ok rfl (v' := .bool true) rfl (opsE_nil (wpE_true rfl ?_))
    refine wpE_seq (wpE_true rfl (wpE_seq (wpE_region ?_)))
    refine op_act rfl (actM_en2 (p := p) e122 rfl rfl) ?_
    rintro v1 _ rfl
    refine opsE_nil (wpE_region ?_)
    refine mp tyW_ok rfl ?_
    refine op_act rfl (actM_look (p := p) rfl Tryd.underlying208 Tryd.underlying143 look179 (.inl rfl) rfl rfl) ?_
    rintro _ _ ⟨rfl, rfl⟩
    refine op_act rfl (actM_acq (p := p) e134 rfl rfl rfl) ?_
    rintro v2 _ rfl
    refine opsE_nil (wpE_seq (wpE_seq (wpE_region ?_)))
    refine mp tyW_ok rfl ?_
    refine mpe tyW_ok rfl (v' := .bool true) rfl ?_
    refine mp tyW_ok rfl ?_
    refine mpg tyW_ok rfl rfl rfl rfl ?_
    refine mpg tyW_ok rfl rfl rfl (v' := .int .u64 0) (congrArg (Value.int .u64) (kk_and_top (by decide) (by decide))) ?_
    refine mpg tyW_ok rfl rfl rfl (v' := .bool false) rfl ?_
    refine mr rfl (sil_pick rfl rfl rfl) (v' := .bool false) rfl ?_
    refine mp tyW_ok rfl ?_
    refine mps rfl rfl rfl rfl (mps rfl rfl rfl rfl ?_)
    refine mr rfl (sil_pick rfl rfl rfl) (v' := .bool false) rfl (opsE_nil (wpE_false rfl (wpE_skip ?_)))
    exact wpE_ret (bodyM_none (fn := Tryd.f106) rfl rfl)
  | succ n =>
    refine mpe tyW_ok rfl (v' := .bool false) (congrArg Value.bool (by simp; omega)) (opsE_nil (wpE_false rfl (wpE_skip ?_)))
    refine wpE_seq (wpE_region ?_)
    refine mp tyW_ok rfl ?_
    refine mr rfl (sil_nilCheck rfl rfl) rfl ?_
    refine mr rfl (sil_fieldAddr rfl Tryd.underlying179 rfl rfl ti177 (by decide) rfl) (v' := .pointer (some (cel p.gb 0))) rfl ?_
    refine mpe tyW_ok rfl (v' := .int .u64 ((n + 1 : Nat) * KK)) (congrArg (Value.int .u64) (by simp)) ?_
    refine mp tyW_ok rfl ?_
    refine mpe tyW_ok rfl (v' := .int .u64 ((n + 1 : Nat) * KK + 1)) (congrArg (Value.int .u64) (by rw [IntKind.wrap_u64]; unfold KK; omega)) ?_
    refine mcall (fn := Tryd.f136) rfl rfl rfl Tryd.func136 (by kernel_rfl) rfl rfl (uCas_S (b := p.gb) fun o ρ x y z ats ho hx hy hz => actM_cas (p := p) (vs := n + 1) e148 ho rfl hx hy hz) ?_
    rintro _ _ (⟨rfl, rfl⟩ | ⟨n', hn', rfl, rfl⟩)
    · refine opsE_nil (wpE_true rfl (wpE_seq (wpE_seq (wpE_region ?_))))
      refine mp tyW_ok rfl ?_
      refine mpg tyW_ok rfl rfl rfl rfl ?_
      refine mpg tyW_ok rfl rfl rfl (v' := .bool true) rfl ?_
      refine mr rfl (sil_pick rfl rfl rfl) (v' := .bool true) rfl (opsE_nil (wpE_true rfl (wpE_region ?_)))
      refine mp tyW_ok rfl ?_
      refine mr rfl (sil_nilCheck rfl rfl) rfl ?_
      refine mr rfl (sil_fieldAddr rfl Tryd.underlying179 rfl rfl ti124 (by decide) rfl) (v' := .pointer (some (cel p.gb 1))) rfl ?_
      refine op_act rfl (actM_look (p := p) rfl Tryd.underlying213 Tryd.underlying143 look124 (.inr rfl) rfl rfl) ?_
      rintro _ _ ⟨rfl, rfl⟩
      refine op_act rfl (actM_wrm (p := p) e137 rfl rfl rfl) ?_
      rintro v2 _ rfl
      refine opsE_nil (wpE_seq (wpE_region (mp tyW_ok rfl (opsE_nil ?_))))
      refine wpE_seq (wpE_seq (wpE_region ?_))
      refine mp tyW_ok rfl ?_
      refine mpe tyW_ok rfl (v' := .int .u64 0) (congrArg (Value.int .u64) (kk_and_top (by omega) (by decide))) ?_
      refine mpe tyW_ok rfl (v' := .bool false) rfl ?_
      refine mp tyW_ok rfl ?_
      refine mps rfl rfl rfl rfl ?_
      refine mr rfl (sil_pick rfl rfl rfl) (v' := .bool false) rfl (opsE_nil (wpE_false rfl (wpE_skip ?_)))
      refine wpE_seq (wpE_region ?_)
      refine mp tyW_ok rfl ?_
      refine mr rfl (sil_nilCheck rfl rfl) rfl ?_
      refine mr rfl (sil_fieldAddr rfl Tryd.underlying179 rfl rfl ti124 (by decide) rfl) (v' := .pointer (some (cel p.gb 1))) rfl ?_
      refine mp tyW_ok rfl ?_
      refine op_act rfl (actM_sem (p := p) e138 rfl rfl rfl rfl) ?_
      rintro v3 _ rfl
      refine opsE_nil (wpE_seq (wpE_region ?_))
      refine mp tyW_ok rfl ?_
      refine mr rfl (sil_nilCheck rfl rfl) rfl ?_
      refine mr rfl (sil_fieldAddr rfl Tryd.underlying179 rfl rfl ti177 (by decide) rfl) (v' := .pointer (some (cel p.gb 0))) rfl ?_
      refine mcall (fn := Tryd.f129) rfl rfl rfl Tryd.func129 (by kernel_rfl) rfl rfl (uLoad_S (b := p.gb) fun o ρ x ats ho hx => actM_load2 (p := p) e146 ho rfl hx) ?_
      rintro _ _ ⟨rfl, rfl⟩
      refine mpe tyW_ok rfl (v' := .bool false) rfl (mp tyW_ok rfl (opsE_nil ?_))
      refine wpE_seq (wpE_true rfl (wpE_seq (wpE_region ?_)))
      refine op_act rfl (actM_en2 (p := p) e122 rfl rfl) ?_
      rintro v4 _ rfl
      refine opsE_nil (wpE_region ?_)
      refine mp tyW_ok rfl ?_
      refine op_act rfl (actM_look (p := p) rfl Tryd.underlying208 Tryd.underlying143 look179 (.inl rfl) rfl rfl) ?_
      rintro _ _ ⟨rfl, rfl⟩
      refine op_act rfl (actM_acq (p := p) e134 rfl rfl rfl) ?_
      rintro v5 _ rfl
      refine opsE_nil (wpE_seq (wpE_seq (wpE_region (mp tyW_ok rfl (opsE_nil (wpE_false rfl (wpE_skip ?_)))))))
      exact wpE_ret (bodyM_none (fn := Tryd.f106) rfl rfl)
    · refine opsE_nil (wpE_false rfl (wpE_skip ?_))
      exact ⟨n', by omega, rfl, by omega, rfl, rfl⟩
end KL
end Go.Proofs.YtlmecmapkijcnaaDoor

set_option linter.unusedVariables false
set_option maxRecDepth 100000
namespace Go.Proofs.YtlmecmapkijcnaaDoor
namespace KL
open Go.Conc (G listed QuitsD)

/-- The frame below a goroutine's first; a goroutine's frame before its first step. -/
def botF (P : Program) : Frame := { (default : Frame) with fn := P.funcs.size, defers := [], mode := .panicking [goexitEntry] }
def bornF (P : Program) (d : Deferred) : Frame := { (default : Frame) with fn := P.funcs.size, defers := [d], mode := .panicking [goexitEntry] }
theorem born_eq (P : Program) (d : Deferred) : Conc.born P d = G (bornF P d) [] := rfl
theorem born_step {P : Program} {main : Bool} {f : FuncId} {fn : Func} {c : Code} {cap : Array Value} (hf : P.funcs[f]? = some fn) (hn : (fn.name == "runtime.NumGoroutine") = false) (hb : fn.body = some c) (w : World) :
    stepG P main (G (bornF P { target := .fn (.func f) cap, args := #[] }) []) w = .go (G ((Conc.baseD f).at { tmps := cap ++ Array.replicate (fn.ntmps - cap.size) undef, defers := [] } [.code c]) [botF P]) w := by
  rw [← Conc.enter_atD cap hf hb]
  have h1 : ¬ fn.name = "runtime.NumGoroutine" := by simpa using hn
  simp [G, bornF, botF, stepG, unwind, callDeferred, invoke, callFunc, hf, h1, hb, seen, GStep.after]
theorem quits_tail {P : Program} {f : FuncId} {fn : Func} (hf : P.funcs[f]? = some fn) (hr : fn.results = #[]) (T : Array Value) : QuitsD P 2 0 (G { (Conc.baseD f).at ⟨T, []⟩ [] with mode := .returning } [botF P]) := by
  refine QuitsD.ctl (g' := G (botF P) []) rfl (fun w => ?_) ?_
  · simp [G, stepG, unwind, doReturn, results, Frame.at, Conc.baseD, botF, hf, hr, seen, GStep.after, goexitEntry]
  refine QuitsD.ctl (g' := { G (botF P) [] with status := .finished }) rfl (fun w => ?_) ⟨rfl, rfl⟩
  simp [G, stepG, unwind, botF, goexitEntry, Frame.catches]
  rfl

/-- A worker's acts while it works are a worker's acts. -/
theorem actB_of {P : Program} {o : Oper} {ρ : Operand → Value} {h : Know} {R : Value → Know → Prop} (ha : ActO actsW P false o ρ h R) (hg : ∃ p c, h.gh = .wrk p (.run c) ∨ h.gh = .wrk p (.has c)) : ActO actsB P false o ρ h R :=
  fun a b k cs ops i rest h1 h2 h3 h4 => ⟨rfl, (ha a b k cs ops i rest h1 h2 h3 h4).2, hg⟩

def busy (p : Ph) : Gh → Prop := fun g => (∃ c, g = .wrk p (.run c)) ∨ (∃ c, g = .wrk p (.has c)) ∨ g = .wrk p .out
theorem toW {P : Program} {p : Ph} {Stop Stop' : Frame → List Frame → Know → Prop} (k : ∀ fr cs h, Stop fr cs h → GoesS actsW P false Stop' fr cs h) : ∀ (t : Tr) (fr : Frame) (cs : List Frame) (h : Know), busy p h.gh → GoesT actsB P false Stop t fr cs h → GoesS actsW P false Stop' fr cs h := by
  intro t
  induction t with
  | stop =>
    rintro fr cs h hb ⟨h', hl, hs⟩
    exact (k _ _ _ hs).weaken hl
  | step k' ih =>
    rintro fr cs h hb ⟨_, hst⟩
    refine GoesS.stepP ?_ fun w hw => ?_
    · rcases hb with ⟨c, e⟩ | ⟨c, e⟩ | e <;> rw [e] <;> trivial
    · obtain ⟨fr', cs', w', es, h', e1, e2, g⟩ := hst w hw
      exact ⟨fr', cs', w', es, h', e1, e2, ih _ _ _ _ (by rw [e2.gh]; exact hb) g⟩
  | move t ih =>
    rintro fr cs h hb ⟨fr', cs', hs, g⟩
    exact GoesS.move hs (ih _ _ _ hb g)
  | act k' ih =>
    rintro fr cs h hb ⟨h₀, Out, hl, ⟨_, ha, p', c', hg⟩, g⟩
    have hpp : p' = p := by
      rcases hb with ⟨c, e⟩ | ⟨c, e⟩ | e <;> rw [← hl.gh] at e <;> rcases hg with e' | e' <;> rw [e'] at e <;> injection e
    subst hpp
    have hgo : ∀ fr' cs' h', Out fr' cs' h' → busy p' h'.gh → GoesS actsW P false Stop' fr' cs' h' := fun fr' cs' h' o b => ih _ _ _ _ _ _ b (g _ _ _ o)
    refine GoesS.weaken hl ?_
    refine GoesS.act (A := actsW) (Out := fun fr' cs' h' => Out fr' cs' h' ∧ busy p' h'.gh) ⟨rfl, ?_⟩ fun fr' cs' h' ⟨o, b⟩ => hgo _ _ _ o b
    cases ha with
    | draw p₁ c hg₁ hs =>
      have e : p₁ = p' := by rcases hg with e | e <;> rw [e] at hg₁ <;> injection hg₁ with e1 _ <;> exact e1.symm
      subst e
      refine .draw p₁ c hg₁ fun w x h1 h2 h3 => ?_
      obtain ⟨fr', e1, e2⟩ := hs w x h1 h2 h3
      refine ⟨fr', e1, e2, ?_⟩
      by_cases hx : x < p₁.n
      · rw [if_pos hx]; exact .inr (.inl ⟨x, rfl⟩)
      · rw [if_neg hx]; exact .inr (.inr rfl)
    | store p₁ i hg₁ hs =>
      have e : p₁ = p' := by rcases hg with e | e <;> rw [e] at hg₁ <;> injection hg₁ with e1 _ <;> exact e1.symm
      subst e
      refine .store p₁ i hg₁ fun w row h1 h2 => ?_
      obtain ⟨fr', w', es, e1, e2, e3⟩ := hs w row h1 h2
      exact ⟨fr', w', es, e1, e2, e3, .inl ⟨_, rfl⟩⟩
    | look p₁ hg₁ fr' hs ho => rcases hg with e | e <;> rw [e] at hg₁ <;> cases hg₁
    | rel p₁ hg₁ fr' hs ho => rcases hg with e | e <;> rw [e] at hg₁ <;> cases hg₁
    | dis p₁ hg₁ fr' hs ho => rcases hg with e | e <;> rw [e] at hg₁ <;> cases hg₁
    | down p₁ hg₁ hs => rcases hg with e | e <;> rw [e] at hg₁ <;> cases hg₁
    | last1 p₁ hg₁ hs => rcases hg with e | e <;> rw [e] at hg₁ <;> cases hg₁
    | last2 p₁ hg₁ hs => rcases hg with e | e <;> rw [e] at hg₁ <;> cases hg₁
    | last3 p₁ hg₁ hm hs => rcases hg with e | e <;> rw [e] at hg₁ <;> cases hg₁
    | en p₁ hg₁ fr' hs ho => rcases hg with e | e <;> rw [e] at hg₁ <;> cases hg₁
end KL
end Go.Proofs.YtlmecmapkijcnaaDoor

set_option linter.unusedVariables false
set_option maxRecDepth 100000
namespace Go.Proofs.YtlmecmapkijcnaaDoor
namespace KL
open Go.Conc (G listed QuitsD)

theorem born_of_wpE {A : Acts} {P : Program} {main : Bool} {h : Know} {Stop : Frame → List Frame → Know → Prop} {f : FuncId} {fn : Func} {c : Code} {args : List Value} {Q : Post} (hf : P.funcs[f]? = some fn) (hn : (fn.name == "runtime.NumGoroutine") = false) (hb : fn.body = some c) (hs : args.length ≤ fn.ntmps)
    (hw : wpE A P main fn.ntmps c Q [] (argsE 0 args) h) (hq : ∀ e ds E h' a', Q e ds E h' → Fit a' fn.ntmps ds E → After A P main Stop (Conc.baseD f) [] [botF P] e a' h') :
    GoesS A P main Stop (bornF P { target := .fn (.func f) args.toArray, args := #[] }) [] h :=
  GoesS.move (born_step hf hn hb) (hw _ (Conc.baseD f) [] [botF P] Stop (argsFit hs) (by simp [Conc.baseD]) hq)

theorem unwind_of_wpE {A : Acts} {P : Program} {main : Bool} {h : Know} {Stop : Frame → List Frame → Know → Prop} {f : FuncId} {fn : Func} {c : Code} {args : List Value} {R : Know → Prop} {a : Act} {b : Frame} {ds : List Deferred} {todo : List Item} {cs : List Frame} (hd : a.defers = Conc.dcall f args.toArray :: ds)
    (hf : P.funcs[f]? = some fn) (hn : (fn.name == "runtime.NumGoroutine") = false) (hb : fn.body = some c) (hs : args.length ≤ fn.ntmps) (hr : fn.results = #[])
    (hw : wpE A P main fn.ntmps c (fun e ds E h => e = .normal ∧ ds = [] ∧ R h) [] (argsE 0 args) h) (next : ∀ h', R h' → GoesS A P main Stop { b.at ⟨a.tmps, ds⟩ todo with mode := .returning } cs h') :
    GoesS A P main Stop { b.at a todo with mode := .returning } cs h := by
  refine GoesS.move (fun w => Conc.stepG_unwind_enter (ds := ds) hd hf hn hb) ?_
  refine hw _ (Conc.baseD f) [] _ Stop (argsFit hs) (by simp [Conc.baseD]) ?_
  rintro e ds' E h' a' ⟨rfl, rfl, r⟩ hfit
  refine GoesS.move (fun w => Conc.stepG_end) ?_
  refine GoesS.move (fun w => Conc.stepG_leave_deferred (v := .tuple #[]) (fn := fn) rfl hfit.defers hf ?_ ?_ rfl) (next h' r)
  · simp [results, hr]
  · simp [results, hr]

def kept (p : Ph) (h : Know) : Prop := ∀ b x, startW p b = some x → h b = some x
def pt (b : Nat) : Value := .pointer (some ⟨b, 0, none⟩)

/-- The worker's walk, up to its Done. -/
theorem work_S (p : Ph) (f : FuncId) (fn : Func) (first captured : Array Value) (nb fb : Nat) (tyn tyf : TypeId) (frn frf : Nat × Nat) (mn mf : Bool) (hn : p.back nb = some (mn, .cells #[.int .i64 p.n] tyn frn)) (hf : p.back fb = some (mf, .cells #[.func (.func f) first captured] tyf frf))
    (hfn : Tryd.prog.funcs[f]? = some fn) (hname : (fn.name == "runtime.NumGoroutine") = false) (hbody : fn.body.isNone = false) (hn30 : p.n ≤ 2 ^ 30)
    (hcall : ∀ (i : Nat) (hh : Know), i < p.n → hh.gh = .wrk p (.has i) → kept p hh → CallS actsB Tryd.prog false f (first.toList ++ [Value.int .i64 i] ++ captured.toList).toArray hh (RetM fun _ h' => h'.gh = .wrk p (.run (i + 1)) ∧ kept p h')) :
    GoesS actsB Tryd.prog false (fun fr cs h => h.gh = .wrk p .out ∧ ∃ T, fr = (Conc.baseD 103).at ⟨T, [Conc.dcall 104 #[pt p.gb]]⟩ [] ∧ cs = [botF Tryd.prog]) (bornF Tryd.prog { target := .fn (.func 103) #[pt p.gb, pt p.cb, pt nb, pt fb], args := #[] }) [] (startW p) := by
  refine born_of_wpE (fn := Tryd.f103) (args := [pt p.gb, pt p.cb, pt nb, pt fb]) (Q := fun e ds E h => e = .normal ∧ ds = [Conc.dcall 104 #[pt p.gb]] ∧ h.gh = .wrk p .out) Tryd.func103 (by kernel_rfl) rfl (by show 4 ≤ 15; decide) ?_ ?_
  · refine wpE_seq (wpE_region ?_)
    refine mdefer (vs := [pt p.gb]) rfl rfl rfl rfl rfl (opsE_nil ?_)
    refine wpE_seq (wpE_region ?_)
    refine mcall (fn := Tryd.f105) rfl rfl rfl Tryd.func105 (by kernel_rfl) rfl rfl (iAdd_S (b := p.cb) fun o ρ x y ats ho hx hy => actB_of (actW_draw (p := p) (c := 0) e133 ho rfl hx hy) ⟨p, 0, .inl rfl⟩) ?_
    rintro _ _ ⟨x, hx0, hx40, rfl, rfl⟩
    refine mpe tyW_ok rfl (v' := .int .i64 x) (congrArg (Value.int .i64) (by rw [IntKind.wrap_i64]; omega)) ?_
    refine mp tyW_ok rfl (opsE_nil ?_)
    refine wpE_block (wpE_loop (fun m ds E hh => ds = [Conc.dcall 104 #[pt p.gb]] ∧ ∃ x : Nat, m = p.n - x ∧ x ≤ 2 ^ 40 ∧ E.look 1 = some (pt p.cb) ∧ E.look 2 = some (pt nb) ∧ E.look 3 = some (pt fb) ∧ E.look 4 = some (.int .i64 x) ∧ hh.gh = .wrk p (if x < p.n then .has x else .out) ∧ kept p hh)
      (m := p.n - x) ⟨rfl, x, rfl, hx40, rfl, rfl, rfl, rfl, rfl, fun b y e => e⟩ ?_)
    clear hx0 hx40 x
    rintro m ds E hh ⟨rfl, x, rfl, hx40, h1, h2, h3, h4, hg, hk⟩
    have kn : hh nb = some (false, .cells #[.int .i64 p.n] tyn frn) := hk _ _ (by simp [startW, hn])
    have kf : hh fb = some (false, .cells #[.func (.func f) first captured] tyf frf) := hk _ _ (by simp [startW, hf])
    refine wpE_weaken (E := [(4, .int .i64 x), (3, pt fb), (2, pt nb), (1, pt p.cb)]) ?_ (Env.le_cons h4 (Env.le_cons h3 (Env.le_cons h2 (Env.le_cons h1 (Env.le_nil _))))) (Know.le_refl _)
    refine wpE_seq (wpE_seq (wpE_region ?_))
    refine mp tyW_ok rfl ?_
    refine op_r rfl (runV_load rfl rfl Tryd.underlying3 rfl kn rfl) ?_
    by_cases hx : x < p.n
    · rw [if_pos hx] at hg
      refine mpe tyW_ok rfl (v' := .bool true) (congrArg Value.bool (decide_eq_true (by omega))) (opsE_nil (wpE_true rfl (wpE_skip ?_)))
      refine wpE_seq (wpE_block (wpE_region ?_))
      refine op_r rfl (runV_load rfl rfl Tryd.underlying130 rfl kf rfl) ?_
      refine mp tyW_ok rfl ?_
      refine mcall (fn := fn) (first := first) (captured := captured) rfl rfl rfl hfn hname hbody rfl (hcall x hh hx hg hk) ?_
      rintro v h' ⟨hg', hk'⟩
      refine opsE_nil (wpE_region ?_)
      refine mcall (fn := Tryd.f105) rfl rfl rfl Tryd.func105 (by kernel_rfl) rfl rfl (iAdd_S (b := p.cb) fun o ρ y z ats ho hy hz => actB_of (actW_draw (p := p) (c := x + 1) e133 ho hg' hy hz) ⟨p, x + 1, .inl hg'⟩) ?_
      rintro _ _ ⟨x', hx0', hx40', rfl, rfl⟩
      refine mpe tyW_ok rfl (v' := .int .i64 x') (congrArg (Value.int .i64) (by rw [IntKind.wrap_i64]; omega)) ?_
      refine mp tyW_ok rfl (opsE_nil ?_)
      exact ⟨p.n - x', by omega, rfl, x', rfl, hx40', rfl, rfl, rfl, rfl, rfl, hk'⟩
    · rw [if_neg hx] at hg
      refine mpe tyW_ok rfl (v' := .bool false) (congrArg Value.bool (decide_eq_false (by omega))) (opsE_nil (wpE_false rfl (wpE_exit ?_)))
      exact (⟨rfl, rfl, hg⟩ : Exit.normal = .normal ∧ [Conc.dcall 104 #[pt p.gb]] = [Conc.dcall 104 #[pt p.gb]] ∧ hh.gh = .wrk p .out)
  · rintro e ds E h' a' ⟨rfl, rfl, hg⟩ hfit
    refine GoesS.stop ⟨hg, a'.tmps, ?_, rfl⟩
    have : a' = ⟨a'.tmps, [Conc.dcall 104 #[pt p.gb]]⟩ := by
      have := hfit.defers
      cases a'; simp only at this; rw [this]
    rw [← this]

/-- .. and to its end. -/
theorem worker_S (p : Ph) (f : FuncId) (fn : Func) (first captured : Array Value) (nb fb : Nat) (tyn tyf : TypeId) (frn frf : Nat × Nat) (mn mf : Bool) (hn : p.back nb = some (mn, .cells #[.int .i64 p.n] tyn frn)) (hf : p.back fb = some (mf, .cells #[.func (.func f) first captured] tyf frf))
    (hfn : Tryd.prog.funcs[f]? = some fn) (hname : (fn.name == "runtime.NumGoroutine") = false) (hbody : fn.body.isNone = false) (hn30 : p.n ≤ 2 ^ 30)
    (hcall : ∀ (i : Nat) (hh : Know), i < p.n → hh.gh = .wrk p (.has i) → kept p hh → CallS actsB Tryd.prog false f (first.toList ++ [Value.int .i64 i] ++ captured.toList).toArray hh (RetM fun _ h' => h'.gh = .wrk p (.run (i + 1)) ∧ kept p h')) :
    GoesS actsW Tryd.prog false (StopW Tryd.prog) (bornF Tryd.prog { target := .fn (.func 103) #[pt p.gb, pt p.cb, pt nb, pt fb], args := #[] }) [] (startW p) := by
  obtain ⟨t, g⟩ := work_S p f fn first captured nb fb tyn tyf frn frf mn mf hn hf hfn hname hbody hn30 hcall
  refine toW (p := p) ?_ t _ _ _ (.inl ⟨0, rfl⟩) g
  rintro _ _ h ⟨hg, T, rfl, rfl⟩
  refine GoesS.move (fun w => Conc.stepG_end) ?_
  refine unwind_of_wpE (fn := Tryd.f104) (args := [pt p.gb]) (ds := []) (R := fun h' => h'.gh = .wrk p .quit) rfl Tryd.func104 (by kernel_rfl) rfl (by show 1 ≤ 4; decide) rfl ?_ fun h' hg' => ?_
  · refine wpE_region ?_
    refine mp tyW_ok rfl ?_
    refine mcall (fn := Tryd.f102) rfl rfl rfl Tryd.func102 (by kernel_rfl) rfl rfl (addW_S p h hg) ?_
    rintro v _ rfl
    exact opsE_nil ⟨rfl, rfl, rfl⟩
  · exact GoesS.stop ⟨⟨p, hg'⟩, 2, quits_tail (fn := Tryd.f103) Tryd.func103 rfl T⟩
end KL
end Go.Proofs.YtlmecmapkijcnaaDoor

set_option linter.unusedVariables false
namespace Go.Proofs.YtlmecmapkijcnaaDoor
namespace KL
open Go.Conc (G listed)

section
variable {P : Program} {h : Know} {o : Oper} {ρ : Operand → Value}
theorem flat_one {v : Value} (h : Value.flat v = true) : v.oneCell' = true := by cases v <;> first | rfl | cases h
theorem setRow_set {w : World} {g : Nat} {cur cs : Array Value} {t : TypeId} {fr : Nat × Nat} (hg : w.heap[g]? = some (.cells cur t fr)) : w.setRow g cs = { w with heap := w.heap.setIfInBounds g (.cells cs t fr) } := by
  unfold World.setRow
  congr 1
  have hlt : g < w.heap.size := (Array.getElem?_eq_some_iff.1 hg).1
  have hv : w.heap[g] = .cells cur t fr := (Array.getElem?_eq_some_iff.1 hg).2
  apply Array.ext
  · simp
  · intro i h1 h2
    rw [Array.getElem_modify, Array.getElem_setIfInBounds]
    by_cases e : g = i
    · subst e; simp [hv]
    · simp [e]
    · simpa using h2
theorem fill_run {b off : Nat} {ty : TypeId} : ∀ (l : List Value) (i : Nat) (row : Array Value) (w : World), w.heap[b]? = some (.cells row ty (0, 0)) → off + i + l.length ≤ row.size → (∀ v ∈ l, v.oneCell' = true) →
    (storeCells ⟨b, off, none⟩ l i).run P w = .ok () (w.setRow b (splice row (off + i) l)) := by
  intro l
  induction l with
  | nil =>
    intro i row w hb _ _
    simp only [storeCells, splice]
    rw [setRow_self w b row ty (0, 0) hb]; rfl
  | cons v l ih =>
    intro i row w hb hl h1
    simp only [List.length_cons] at hl
    have hi : off + i < row.size := by omega
    have hcell : w.cell? ⟨b, off + i, none⟩ = some row[off + i] := by simp [World.cell?, hb, hi]
    have hfro : w.frozen? ⟨b, off + i, none⟩ = false := by simp [World.frozen?, hb]
    have hst : (store ((⟨b, off, none⟩ : Addr).add i) v).run P w = .ok () (w.setRow b (row.setIfInBounds (off + i) v)) := by
      rw [add_mk, run_store P w _ v _ (h1 v (by simp)), hcell]
      simp [hfro, setCell_eq_setRow w b (off + i) row ty (0, 0) v hb]
    have := ih (i + 1) (row.setIfInBounds (off + i) v) (w.setRow b (row.setIfInBounds (off + i) v)) (setRow_heap w b row _ ty _ hb) (by simp; omega) (fun x hx => h1 x (by simp [hx]))
    simp only [storeCells, Sem.run_bind, hst, Result.andThen_ok, this, setRow_setRow, splice]
    rfl
theorem fill_events {b off : Nat} {ty : TypeId} : ∀ (l : List Value) (i : Nat) (row : Array Value) (w : World) (es : Array Event), w.heap[b]? = some (.cells row ty (0, 0)) → off + i + l.length ≤ row.size → (∀ v ∈ l, v.oneCell' = true) →
    ∀ e ∈ (storeCells ⟨b, off, none⟩ l i).events P w es, e ∈ es ∨ ∃ k, k < i + l.length ∧ e = ⟨.cell ⟨b, off + k, none⟩, true, false⟩ := by
  intro l
  induction l with
  | nil => intro i row w es hb _ _ e he; exact .inl (by simpa [storeCells] using he)
  | cons v l ih =>
    intro i row w es hb hl h1 e he
    simp only [List.length_cons] at hl
    have hi : off + i < row.size := by omega
    have hcell : w.cell? ⟨b, off + i, none⟩ = some row[off + i] := by simp [World.cell?, hb, hi]
    have hfro : w.frozen? ⟨b, off + i, none⟩ = false := by simp [World.frozen?, hb]
    have hst : (store ((⟨b, off, none⟩ : Addr).add i) v).run P w = .ok () (w.setRow b (row.setIfInBounds (off + i) v)) := by
      rw [add_mk, run_store P w _ v _ (h1 v (by simp)), hcell]
      simp [hfro, setCell_eq_setRow w b (off + i) row ty (0, 0) v hb]
    have hev : (store ((⟨b, off, none⟩ : Addr).add i) v).events P w es = es.push ⟨.cell ⟨b, off + i, none⟩, true, false⟩ := by
      rw [add_mk, events_store P w es _ v _ (h1 v (by simp)), hcell]
      simp only [hfro, Bool.false_eq_true, if_false]
      rfl
    simp only [storeCells, Sem.events_bind, hst, Result.evThen_ok, hev] at he
    rcases ih (i + 1) (row.setIfInBounds (off + i) v) (w.setRow b (row.setIfInBounds (off + i) v)) _ (setRow_heap w b row _ ty _ hb) (by simp; omega) (fun x hx => h1 x (by simp [hx])) e he with h | ⟨k, hk, rfl⟩
    · rcases Array.mem_push.1 h with h | rfl
      · exact .inl h
      · exact .inr ⟨i, by simp, rfl⟩
    · exact .inr ⟨k, by simp; omega, rfl⟩

theorem actB_store {p : Ph} {i : Nat} {t : TypeId} {x y : Operand} {cs : Array Value} {z : Value} {bt : Nat} (hop : o.op = .store t x y) (hg : h.gh = .wrk p (.has i)) (ti : TI P t z p.m bt) (hx : ρ x = .pointer (some ⟨p.rb, p.m * i, none⟩)) (hy : ρ y = .agg cs) (hcs : cs.toList = part p i)
    (hfl : ∀ v ∈ cs.toList, Value.flat v = true) : ActO actsB P false o ρ h (fun v h' => h' = ⟨h.blk, .wrk p (.run (i + 1))⟩) := by
  intro a b k cs' ops j rest hρ ho hw hk
  refine ⟨rfl, .store p i hg fun w row hi hrow => ?_, p, i, .inr hg⟩
  obtain ⟨hb, hsz⟩ := hrow
  have hlen : cs.toList.length = p.m := by rw [hcs]; simp [part]
  have hsz' : cs.size = p.m := by rw [← hlen]; simp
  have e1 : a.eval x = .pointer (some ⟨p.rb, p.m * i, none⟩) := by rw [hρ x (by rw [hop]; simp [Op.operands]), hx]
  have e2 : a.eval y = .agg cs := by rw [hρ y (by rw [hop]; simp [Op.operands]), hy]
  have hroom : p.m * i + 0 + cs.toList.length ≤ row.size := by
    rw [hlen, hsz]
    have := Nat.mul_le_mul_left p.m (show i + 1 ≤ p.n from hi)
    rw [Nat.mul_add, Nat.mul_one] at this; omega
  have hone : ∀ v ∈ cs.toList, v.oneCell' = true := fun v hv => flat_one (hfl v hv)
  have hso := fun w => sil_run (sil_sizeOf ti) w
  have hc0 : (Value.agg cs).cells = cs := rfl
  have hr : (execOp a.eval o).run P w = .ok .skip (w.setRow p.rb (splice row (p.m * i) (part p i))) := by
    simp only [execOp, hop, e1, e2, Instr.storeAt, Instr.sureAddr]
    unfold storeVar
    have hfr := fill_run (P := P) cs.toList 0 row w hb hroom hone
    simp only [Sem.run_bind, (hso w).1, hc0, hsz', Result.andThen_ok, Sem.run_pure, ne_eq, not_true, if_false, hfr, Nat.add_zero]
    rw [hcs]
  have he : ∀ e ∈ (execOp a.eval o).events P w #[], ∃ k, k < p.m ∧ e = ⟨.cell ⟨p.rb, p.m * i + k, none⟩, true, false⟩ := by
    intro e he
    simp only [execOp, hop, e1, e2, Instr.storeAt, Instr.sureAddr] at he
    unfold storeVar at he
    simp only [Sem.run_bind, Sem.events_bind, (hso w).1, (hso w).2, hc0, hsz', Result.andThen_ok, Result.evThen_ok, Sem.run_pure, Sem.events_pure, ne_eq, not_true, if_false, fill_run _ 0 row w hb hroom hone] at he
    rcases fill_events cs.toList 0 row w #[] hb hroom hone e he with h | ⟨k, hk, rfl⟩
    · simp at h
    · exact ⟨k, by omega, rfl⟩
  refine ⟨_, _, _, Conc.stepG_none ho hw hk hr, ⟨?_, ?_, ?_, ?_, ?_⟩, undef, rfl, rfl, rfl⟩
  · rw [setRow_set hb]
  · rw [setRow_set hb]
  · rw [setRow_set hb]
  · rw [setRow_set hb]
  · intro e hh
    exact he e (Conc.mem_seen hh)
end
end KL
end Go.Proofs.YtlmecmapkijcnaaDoor
