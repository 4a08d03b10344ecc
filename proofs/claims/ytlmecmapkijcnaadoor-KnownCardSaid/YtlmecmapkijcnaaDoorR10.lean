/- The library's functions that a group and a counter are made of. A worker's Done; the atomic wrappers. -/
import Derived.Test.YtlmecmapkijcnaaDoorR04
import Derived.Test.YtlmecmapkijcnaaDoorR06
set_option linter.unusedVariables false
namespace Go.Proofs.YtlmecmapkijcnaaDoor
namespace KL
open Go.Conc (G listed)

theorem bits_u64_and {m k : Nat} (hm : m < 2 ^ 64) (hk : k < 2 ^ 64) : bits .and .u64 (m : Int) (k : Int) = ((m &&& k : Nat) : Int) := by
  have hx : m &&& k < 2 ^ 64 := Nat.and_lt_two_pow _ hk
  show IntKind.u64.wrap ((BitVec.ofInt 64 m &&& BitVec.ofInt 64 k).toNat : Int) = _
  rw [BitVec.ofInt_natCast, BitVec.ofInt_natCast, BitVec.toNat_and, BitVec.toNat_ofNat, BitVec.toNat_ofNat, Nat.mod_eq_of_lt hm, Nat.mod_eq_of_lt hk, IntKind.wrap_u64]
  omega

section
variable {A : Acts} {P : Program} {main : Bool} {h : Know}
/-- What a call that is deferred does when it is made at the end. -/
def EndA (A : Acts) (P : Program) (main : Bool) (f : FuncId) (h : Know) (R : Know → Prop) : Prop :=
  ∀ (a : Act) (b : Frame) (ds : List Deferred) (todo : List Item) (cs : List Frame), a.defers = Conc.dcall f #[] :: ds →
    A.act P main { b.at a todo with mode := .returning } cs h fun fr' cs' h' => R h' ∧ fr' = { b.at ⟨a.tmps, ds⟩ todo with mode := .returning } ∧ cs' = cs
/-- A function without results that ends by a deferred call that is an act. -/
def bodyD (g : FuncId) (P : Program) (A : Acts) (main : Bool) (R : Know → Prop) : Post := fun e ds E h =>
  match e with
  | .normal | .ret => ds = [Conc.dcall g #[]] ∧ EndA A P main g h R
  | _ => False
theorem callD_of_wpE {f g : FuncId} {fn : Func} {c : Code} {args : List Value} {R : Know → Prop} (hf : P.funcs[f]? = some fn) (hb : fn.body = some c) (hs : args.length ≤ fn.ntmps) (hr : fn.results = #[])
    (hw : wpE A P main fn.ntmps c (bodyD g P A main R) [] (argsE 0 args) h) : CallS A P main f args.toArray h (fun e h' => ∃ v, e = .returned v ∧ R h') := by
  intro cal cs Stop h1 h2
  rw [Conc.enter_at _ hf hb]
  have fin : ∀ (a' : Act) (E' : Env) (h' : Know) (todo : List Item), EndA A P main g h' R → Fit a' fn.ntmps [Conc.dcall g #[]] E' → GoesS A P main Stop { (Conc.base f).at a' todo with mode := .returning } (cal :: cs) h' := by
    intro a' E' h' todo q hfit
    refine GoesS.act (q a' (Conc.base f) [] todo (cal :: cs) hfit.defers) ?_
    rintro fr' cs' h'' ⟨r, rfl, rfl⟩
    refine goes_leave (b := Conc.base f) (v := .tuple #[]) rfl rfl hf ?_ (h1 _ h'' ⟨_, rfl, r⟩)
    simp [results, hr]; exact sil_pure _
  refine hw _ (Conc.base f) [] (cal :: cs) Stop (argsFit hs) (by simp [Conc.base]) fun e ds' E' h' a' q hfit => ?_
  cases e with
  | normal =>
    obtain ⟨rfl, q⟩ := q
    exact GoesS.move (fun w => Conc.stepG_end) (fin a' E' h' [] q hfit)
  | ret =>
    obtain ⟨rfl, q⟩ := q
    exact fun todo => fin a' E' h' todo q hfit
  | panic ch => exact q.elim
  | exit id => exact q.elim
  | goto l => exact q.elim
  | outgrown => exact q.elim
theorem endW_en {f : FuncId} {p : Ph} (hx : Ext P f (markE .enable)) (hg : h.gh = .wrk p .gone) : EndA actsW P false f h (fun h' => h' = ⟨h.blk, .wrk p .quit⟩) := by
  intro a b ds todo cs hd
  obtain ⟨fn, h1, h2, h3, h4, h5⟩ := hx
  refine ⟨rfl, .en p hg _ (fun w => Conc.stepG_unwind_entry (v := .tuple #[]) (evs := #[evM .enable]) hd h1 h2 h3 h4 h5 ?_ ?_ ?_) ⟨rfl, rfl, rfl⟩⟩
  · simp [markE, Extern.Race.none_]
  · simp [markE, Extern.Race.none_, evM]
  · intro x hx; simp at hx; subst hx; exact ⟨rfl, by simp [evM]⟩
theorem endM_en {f : FuncId} {p : Ph} {j : Nat} (hx : Ext P f (markE .enable)) (hg : h.gh = .main p (.add2 j)) : EndA actsM P true f h (fun h' => h' = ⟨h.blk, .main p (.go j)⟩) := by
  intro a b ds todo cs hd
  obtain ⟨fn, h1, h2, h3, h4, h5⟩ := hx
  refine ⟨rfl, .en p j hg _ (fun w => Conc.stepG_unwind_entry (v := .tuple #[]) (evs := #[evM .enable]) hd h1 h2 h3 h4 h5 ?_ ?_ ?_) ⟨rfl, rfl, rfl⟩⟩
  · simp [markE, Extern.Race.none_]
  · simp [markE, Extern.Race.none_, evM]
  · intro x hx; simp at hx; subst hx; exact ⟨rfl, by simp [evM]⟩
end

theorem e120 : Ext Tryd.prog 120 (Extern.Race.marked .releaseMerge) := ⟨Tryd.f120, Tryd.func120, by kernel_rfl, by kernel_rfl, by kernel_rfl, by kernel_rfl⟩
theorem e121 : Ext Tryd.prog 121 (markE .disable) := ⟨Tryd.f121, Tryd.func121, by kernel_rfl, by kernel_rfl, by kernel_rfl, by kernel_rfl⟩
theorem e122 : Ext Tryd.prog 122 (markE .enable) := ⟨Tryd.f122, Tryd.func122, by kernel_rfl, by kernel_rfl, by kernel_rfl, by kernel_rfl⟩
theorem e128 : Ext Tryd.prog 128 (Extern.Race.marked .read) := ⟨Tryd.f128, Tryd.func128, by kernel_rfl, by kernel_rfl, by kernel_rfl, by kernel_rfl⟩
theorem e132 : Ext Tryd.prog 132 Extern.Sync.semrelease := ⟨Tryd.f132, Tryd.func132, by kernel_rfl, by kernel_rfl, by kernel_rfl, by kernel_rfl⟩
theorem e133 : Ext Tryd.prog 133 (Extern.Atomic.update (Op.intArith .add) .i64 true) := ⟨Tryd.f133, Tryd.func133, by kernel_rfl, by kernel_rfl, by kernel_rfl, by kernel_rfl⟩
theorem e134 : Ext Tryd.prog 134 (Extern.Race.marked .acquire) := ⟨Tryd.f134, Tryd.func134, by kernel_rfl, by kernel_rfl, by kernel_rfl, by kernel_rfl⟩
theorem e137 : Ext Tryd.prog 137 (Extern.Race.marked .write) := ⟨Tryd.f137, Tryd.func137, by kernel_rfl, by kernel_rfl, by kernel_rfl, by kernel_rfl⟩
theorem e138 : Ext Tryd.prog 138 Extern.Sync.semacquire := ⟨Tryd.f138, Tryd.func138, by kernel_rfl, by kernel_rfl, by kernel_rfl, by kernel_rfl⟩
theorem e145 : Ext Tryd.prog 145 (Extern.Atomic.update (Op.intArith .add) .u64 true) := ⟨Tryd.f145, Tryd.func145, by kernel_rfl, by kernel_rfl, by kernel_rfl, by kernel_rfl⟩
theorem e146 : Ext Tryd.prog 146 (Extern.Atomic.loadT (.int .u64)) := ⟨Tryd.f146, Tryd.func146, by kernel_rfl, by kernel_rfl, by kernel_rfl, by kernel_rfl⟩
theorem e147 : Ext Tryd.prog 147 Extern.Atomic.storeT := ⟨Tryd.f147, Tryd.func147, by kernel_rfl, by kernel_rfl, by kernel_rfl, by kernel_rfl⟩
theorem e148 : Ext Tryd.prog 148 (Extern.Atomic.casT (.int .u64)) := ⟨Tryd.f148, Tryd.func148, by kernel_rfl, by kernel_rfl, by kernel_rfl, by kernel_rfl⟩

theorem ti123 : TI Tryd.prog 123 (.int .u64 0) 1 8 := by unfold TI; kernel_rfl
theorem ti2 : TI Tryd.prog 2 (.int .i64 0) 1 8 := by unfold TI; kernel_rfl
theorem ti177 : TI Tryd.prog 177 (.agg #[.int .u64 0]) 1 8 := by unfold TI; kernel_rfl
theorem ti179 : TI Tryd.prog 179 (.agg #[.int .u64 0, .int .u32 0]) 2 16 := by unfold TI; kernel_rfl
theorem ti181 : TI Tryd.prog 181 (.agg #[.int .i64 0]) 1 8 := by unfold TI; kernel_rfl
end KL
end Go.Proofs.YtlmecmapkijcnaaDoor

set_option linter.unusedVariables false
set_option maxRecDepth 100000
namespace Go.Proofs.YtlmecmapkijcnaaDoor
namespace KL
open Go.Conc (G listed)

def tyW : Types := (21, .int .i32) :: (210, .int .i64) :: tyT
theorem tyW_ok : tyW.ok Tryd.prog := Types.ok_cons Tryd.underlying21 (Types.ok_cons Tryd.underlying210 tyT_ok)
theorem look179 : (Tryd.prog.info? 179).map (fun i => decide (i.size = 0)) = some false := by kernel_rfl
theorem look124 : (Tryd.prog.info? 124).map (fun i => decide (i.size = 0)) = some false := by kernel_rfl
theorem n123 : Tryd.prog.funcs[123]? = some Tryd.f123 ∧ (Tryd.f123.name == "runtime.NumGoroutine") = false ∧ Tryd.f123.body.isNone = true ∧ Extern.findNext Tryd.f123 = none ∧ Extern.find Tryd.f123 = some (fun _ => pure (.bool false)) :=
  ⟨Tryd.func123, by kernel_rfl, by kernel_rfl, by kernel_rfl, by kernel_rfl⟩
def RetM (R : Value → Know → Prop) : Ending → Know → Prop := fun e h' => ∃ v, e = .returned v ∧ R v h'

section
variable {A : Acts} {main : Bool} {h : Know} {b : Nat} {R : Value → Know → Prop}
theorem uAdd_S {d : Value} (ha : ∀ (o : Oper) (ρ : Operand → Value) (x y : Operand) (ats : Array TypeId), o.op = .call { callee := .value (.func 145), args := #[x, y], argTypes := ats } → ρ x = .pointer (some (cel b 0)) → ρ y = d → ActO A Tryd.prog main o ρ h R) :
    CallS A Tryd.prog main 127 [Value.pointer (some (cel b 0)), d].toArray h (RetM R) := by
  refine callM_of_wpE (fn := Tryd.f127) Tryd.func127 rfl (by show 2 ≤ 10; decide) ?_
  refine wpE_seq (wpE_region (mp tyW_ok rfl (opsE_nil ?_)))
  refine wpE_seq (wpE_region ?_)
  refine mp tyW_ok rfl ?_
  refine mr rfl (sil_nilCheck rfl rfl) rfl ?_
  refine mr rfl (sil_fieldAddr rfl Tryd.underlying177 rfl rfl ti123 (by decide) rfl) (v' := .pointer (some (cel b 0))) rfl ?_
  refine mp tyW_ok rfl ?_
  refine op_act rfl (ha _ _ _ _ _ rfl rfl rfl) fun v h' r => ?_
  refine mp tyW_ok rfl ?_
  exact opsE_nil (wpE_ret (bodyM_one (fn := Tryd.f127) rfl rfl r))
theorem uLoad_S (ha : ∀ (o : Oper) (ρ : Operand → Value) (x : Operand) (ats : Array TypeId), o.op = .call { callee := .value (.func 146), args := #[x], argTypes := ats } → ρ x = .pointer (some (cel b 0)) → ActO A Tryd.prog main o ρ h R) :
    CallS A Tryd.prog main 129 [Value.pointer (some (cel b 0))].toArray h (RetM R) := by
  refine callM_of_wpE (fn := Tryd.f129) Tryd.func129 rfl (by show 1 ≤ 7; decide) ?_
  refine wpE_seq (wpE_region (mp tyW_ok rfl (opsE_nil ?_)))
  refine wpE_seq (wpE_region ?_)
  refine mp tyW_ok rfl ?_
  refine mr rfl (sil_nilCheck rfl rfl) rfl ?_
  refine mr rfl (sil_fieldAddr rfl Tryd.underlying177 rfl rfl ti123 (by decide) rfl) (v' := .pointer (some (cel b 0))) rfl ?_
  refine op_act rfl (ha _ _ _ _ rfl rfl) fun v h' r => ?_
  refine mp tyW_ok rfl ?_
  exact opsE_nil (wpE_ret (bodyM_one (fn := Tryd.f129) rfl rfl r))
theorem uStore_S {d : Value} (ha : ∀ (o : Oper) (ρ : Operand → Value) (x y : Operand) (ats : Array TypeId), o.op = .call { callee := .value (.func 147), args := #[x, y], argTypes := ats } → ρ x = .pointer (some (cel b 0)) → ρ y = d → ActO A Tryd.prog main o ρ h R) :
    CallS A Tryd.prog main 130 [Value.pointer (some (cel b 0)), d].toArray h (RetM fun v h' => v = .tuple #[] ∧ ∃ u, R u h') := by
  refine callM_of_wpE (fn := Tryd.f130) Tryd.func130 rfl (by show 2 ≤ 9; decide) ?_
  refine wpE_region ?_
  refine mp tyW_ok rfl ?_
  refine mr rfl (sil_nilCheck rfl rfl) rfl ?_
  refine mr rfl (sil_fieldAddr rfl Tryd.underlying177 rfl rfl ti123 (by decide) rfl) (v' := .pointer (some (cel b 0))) rfl ?_
  refine mp tyW_ok rfl ?_
  refine op_act rfl (ha _ _ _ _ _ rfl rfl rfl) fun v h' r => ?_
  exact opsE_nil (bodyM_end (fn := Tryd.f130) rfl ⟨rfl, v, r⟩)
theorem uCas_S {d d' : Value} (ha : ∀ (o : Oper) (ρ : Operand → Value) (x y z : Operand) (ats : Array TypeId), o.op = .call { callee := .value (.func 148), args := #[x, y, z], argTypes := ats } → ρ x = .pointer (some (cel b 0)) → ρ y = d → ρ z = d' → ActO A Tryd.prog main o ρ h R) :
    CallS A Tryd.prog main 136 [Value.pointer (some (cel b 0)), d, d'].toArray h (RetM R) := by
  refine callM_of_wpE (fn := Tryd.f136) Tryd.func136 rfl (by show 3 ≤ 13; decide) ?_
  refine wpE_seq (wpE_region (mp tyW_ok rfl (opsE_nil ?_)))
  refine wpE_seq (wpE_region ?_)
  refine mp tyW_ok rfl ?_
  refine mr rfl (sil_nilCheck rfl rfl) rfl ?_
  refine mr rfl (sil_fieldAddr rfl Tryd.underlying177 rfl rfl ti123 (by decide) rfl) (v' := .pointer (some (cel b 0))) rfl ?_
  refine mp tyW_ok rfl ?_
  refine mp tyW_ok rfl ?_
  refine op_act rfl (ha _ _ _ _ _ _ rfl rfl rfl rfl) fun v h' r => ?_
  refine mp tyW_ok rfl ?_
  exact opsE_nil (wpE_ret (bodyM_one (fn := Tryd.f136) rfl rfl r))
theorem iAdd_S {d : Value} (ha : ∀ (o : Oper) (ρ : Operand → Value) (x y : Operand) (ats : Array TypeId), o.op = .call { callee := .value (.func 133), args := #[x, y], argTypes := ats } → ρ x = .pointer (some (cel b 0)) → ρ y = d → ActO A Tryd.prog main o ρ h R) :
    CallS A Tryd.prog main 105 [Value.pointer (some (cel b 0)), d].toArray h (RetM R) := by
  refine callM_of_wpE (fn := Tryd.f105) Tryd.func105 rfl (by show 2 ≤ 10; decide) ?_
  refine wpE_seq (wpE_region (mp tyW_ok rfl (opsE_nil ?_)))
  refine wpE_seq (wpE_region ?_)
  refine mp tyW_ok rfl ?_
  refine mr rfl (sil_nilCheck rfl rfl) rfl ?_
  refine mr rfl (sil_fieldAddr rfl Tryd.underlying181 rfl rfl ti2 (by decide) rfl) (v' := .pointer (some (cel b 0))) rfl ?_
  refine mp tyW_ok rfl ?_
  refine op_act rfl (ha _ _ _ _ _ rfl rfl rfl) fun v h' r => ?_
  refine mp tyW_ok rfl ?_
  exact opsE_nil (wpE_ret (bodyM_one (fn := Tryd.f105) rfl rfl r))
end

/-! ### The group's word -/
theorem kk_and_top {n wt : Nat} (hn : n < 2147483648) (hw : wt ≤ 1) : bits .and .u64 ((n : Int) * KK + (wt : Int)) 2147483648 = 0 := by
  have e : (n : Int) * KK + (wt : Int) = ((n * 4294967296 + wt : Nat) : Int) := by unfold KK; omega
  rw [e, show (2147483648 : Int) = ((2147483648 : Nat) : Int) from rfl, bits_u64_and (by omega) (by decide)]
  have : (n * 4294967296 + wt) &&& 2147483648 = 0 := by
    apply Nat.eq_of_testBit_eq
    intro i
    rw [Nat.testBit_and, show (2147483648 : Nat) = 2 ^ 31 from rfl, Nat.testBit_two_pow, Nat.zero_testBit]
    by_cases hi : 31 = i
    · subst hi
      rw [Nat.testBit_eq_decide_div_mod_eq]
      have : (n * 4294967296 + wt) / 2 ^ 31 % 2 = 0 := by omega
      simp [this]
    · simp [hi]
  rw [this]; rfl
theorem kk_and_low {n wt : Nat} (hn : n < 2147483648) (hw : wt ≤ 1) : bits .and .u64 ((n : Int) * KK + (wt : Int)) 2147483647 = (wt : Int) := by
  have e : (n : Int) * KK + (wt : Int) = ((n * 4294967296 + wt : Nat) : Int) := by unfold KK; omega
  rw [e, show (2147483647 : Int) = ((2 ^ 31 - 1 : Nat) : Int) from rfl, bits_u64_and (by omega) (by decide), Nat.and_two_pow_sub_one_eq_mod]
  congr 1; omega
theorem kk_shr {n wt : Nat} (hw : wt ≤ 1) : ((n : Int) * KK + (wt : Int)) / 2 ^ min (32 : Int).toNat IntKind.u64.bits = (n : Int) := by
  have : (2 : Int) ^ min (32 : Int).toNat IntKind.u64.bits = 4294967296 := by decide
  rw [this]; unfold KK; omega
theorem wrap_i32n {n : Nat} (hn : n < 2147483648) : IntKind.i32.wrap (n : Int) = (n : Int) := by
  simp only [IntKind.wrap, IntKind.bits, IntKind.signed]
  have : ¬ ((n : Int) % 2 ^ 32 ≥ 2 ^ (32 - 1)) := by omega
  simp only [this, decide_false, Bool.and_false, Bool.false_eq_true, if_false]; omega
theorem wrap_u32n {n : Nat} (hn : n < 4294967296) : IntKind.u32.wrap (n : Int) = (n : Int) := by
  simp only [IntKind.wrap, IntKind.bits, IntKind.signed, Bool.false_and, Bool.false_eq_true, if_false]; omega

/-- Done's work: the worker's last. -/
theorem addW_S (p : Ph) (h : Know) (hg : h.gh = .wrk p .out) : CallS actsW Tryd.prog false 102 [Value.pointer (some (cel p.gb 0)), .int .i64 (-1)].toArray h (RetM fun _ h' => h' = ⟨h.blk, .wrk p .quit⟩) := by
  refine callD_of_wpE (fn := Tryd.f102) (g := 122) Tryd.func102 rfl (by show 2 ≤ 117; decide) rfl ?_
  refine wpE_seq (wpE_true rfl (wpE_seq (wpE_seq (wpE_region ?_))))
  refine mp tyW_ok rfl (mpe tyW_ok rfl (v' := .bool true) rfl (opsE_nil (wpE_true rfl (wpE_region ?_))))
  refine mp tyW_ok rfl ?_
  refine op_act rfl (actW_look rfl Tryd.underlying208 Tryd.underlying143 look179 (.inl rfl) hg rfl) ?_
  rintro _ h ⟨rfl, rfl⟩
  refine op_act rfl (actW_rel e120 rfl hg rfl) ?_
  rintro v0 _ rfl
  refine opsE_nil (wpE_seq (wpE_region ?_))
  refine op_act rfl (actW_dis (p := p) e121 rfl rfl) ?_
  rintro v1 _ rfl
  refine opsE_nil (wpE_region ?_)
  refine mdefer (vs := []) rfl rfl rfl rfl rfl (opsE_nil ?_)
  refine wpE_seq (wpE_region (mp tyW_ok rfl (opsE_nil ?_)))
  refine wpE_seq (wpE_seq (wpE_region ?_))
  refine mext (.bool false) rfl rfl n123.1 n123.2.1 n123.2.2.1 n123.2.2.2.1 n123.2.2.2.2 (opsE_nil (wpE_false rfl (wpE_skip ?_)))
  refine wpE_seq (wpE_region ?_)
  refine mp tyW_ok rfl ?_
  refine mr rfl (sil_nilCheck rfl rfl) rfl ?_
  refine mr rfl (sil_fieldAddr rfl Tryd.underlying179 rfl rfl ti177 (by decide) rfl) (v' := .pointer (some (cel p.gb 0))) rfl ?_
  refine mp tyW_ok rfl ?_
  refine mpe tyW_ok rfl (v' := .int .u64 18446744073709551615) (congrArg (Value.int .u64) (by decide)) ?_
  refine mr rfl (sil_shl rfl rfl rfl (by decide)) (v' := .int .u64 18446744069414584320) (congrArg (Value.int .u64) (by decide)) ?_
  refine mcall (fn := Tryd.f127) rfl rfl rfl Tryd.func127 (by kernel_rfl) rfl rfl (uAdd_S (b := p.gb) fun o ρ x y ats ho hx hy => actW_down (p := p) e145 ho rfl hx hy) ?_
  rintro _ _ ⟨n, wt, hwt, hn, rfl, rfl⟩
  refine mp tyW_ok rfl (opsE_nil ?_)
  refine wpE_seq (wpE_seq (wpE_region ?_))
  refine mp tyW_ok rfl ?_
  refine mpe tyW_ok rfl (v' := .int .u64 0) (congrArg (Value.int .u64) (kk_and_top (by omega) hwt)) ?_
  refine mpe tyW_ok rfl (v' := .bool false) rfl ?_
  refine mp tyW_ok rfl ?_
  refine mps rfl rfl rfl rfl ?_
  refine mps rfl rfl rfl rfl ?_
  refine mr rfl (sil_pick rfl rfl rfl) (v' := .bool false) rfl (opsE_nil (wpE_false rfl (wpE_skip ?_)))
  refine wpE_seq (wpE_region (mp tyW_ok rfl ?_))
  refine mr rfl (sil_shr rfl rfl rfl (by decide)) (v' := .int .u64 n) (congrArg (Value.int .u64) (kk_shr hwt)) ?_
  refine mpe tyW_ok rfl (v' := .int .i32 n) (congrArg (Value.int .i32) (wrap_i32n (by omega))) ?_
  refine mp tyW_ok rfl (opsE_nil ?_)
  refine wpE_seq (wpE_region (mp tyW_ok rfl ?_))
  refine mpe tyW_ok rfl (v' := .int .u64 wt) (congrArg (Value.int .u64) (kk_and_low (by omega) hwt)) ?_
  refine mpe tyW_ok rfl (v' := .int .u32 wt) (congrArg (Value.int .u32) (wrap_u32n (by omega))) ?_
  refine mp tyW_ok rfl (opsE_nil ?_)
  refine wpE_seq (wpE_seq (wpE_region ?_))
  refine mp tyW_ok rfl ?_
  refine mpg tyW_ok rfl rfl rfl rfl ?_
  refine mpg tyW_ok rfl rfl rfl (v' := .bool false) rfl ?_
  refine mr rfl (sil_pick rfl rfl rfl) (v' := .bool false) rfl ?_
  refine mp tyW_ok rfl ?_
  refine mps rfl rfl rfl rfl (mps rfl rfl rfl rfl (mps rfl rfl rfl rfl (mps rfl rfl rfl rfl ?_)))
  refine mr rfl (sil_pick rfl rfl rfl) (v' := .bool false) rfl (opsE_nil (wpE_false rfl (wpE_skip ?_)))
  refine wpE_seq (wpE_seq (wpE_region ?_))
  refine mp tyW_ok rfl ?_
  refine mpe tyW_ok rfl (v' := .bool false) (congrArg Value.bool (decide_eq_false (by omega))) (opsE_nil (wpE_false rfl (wpE_skip ?_)))
  refine wpE_seq (wpE_seq (wpE_region ?_))
  refine mp tyW_ok rfl ?_
  obtain rfl | rfl : wt = 0 ∨ wt = 1 := by omega
  · refine mpe tyW_ok rfl (v' := .bool false) rfl ?_
    refine mp tyW_ok rfl ?_
    refine mps rfl rfl rfl rfl (mps rfl rfl rfl rfl ?_)
    refine mr rfl (sil_pick rfl rfl rfl) (v' := .bool false) rfl ?_
    refine mp tyW_ok rfl ?_
    refine mps rfl rfl rfl rfl (mps rfl rfl rfl rfl (mps rfl rfl rfl rfl (mps rfl rfl rfl rfl ?_)))
    refine mr rfl (sil_pick rfl rfl rfl) (v' := .bool false) rfl (opsE_nil (wpE_false rfl (wpE_skip ?_)))
    refine wpE_seq (wpE_seq (wpE_region ?_))
    refine mp tyW_ok rfl ?_
    cases n with
    | zero =>
      refine mpe tyW_ok rfl (v' := .bool false) rfl ?_
      refine mp tyW_ok rfl ?_
      refine mpg tyW_ok rfl rfl rfl rfl ?_
      refine mpg tyW_ok rfl rfl rfl (v' := .bool true) rfl ?_
      refine mr rfl (sil_pick rfl rfl rfl) (v' := .bool true) rfl (opsE_nil (wpE_true rfl (wpE_ret ?_)))
      exact ⟨rfl, endW_en (p := p) e122 rfl⟩
    | succ n =>
      refine mpe tyW_ok rfl (v' := .bool true) (congrArg Value.bool (decide_eq_true (by omega))) ?_
      refine mp tyW_ok rfl ?_
      refine mps rfl rfl rfl rfl (mps rfl rfl rfl rfl ?_)
      refine mr rfl (sil_pick rfl rfl rfl) (v' := .bool true) rfl (opsE_nil (wpE_true rfl (wpE_ret ?_)))
      exact ⟨rfl, endW_en (p := p) e122 rfl⟩
  · refine mpe tyW_ok rfl (v' := .bool true) rfl ?_
    refine mp tyW_ok rfl ?_
    refine mpg tyW_ok rfl rfl rfl rfl ?_
    refine mpg tyW_ok rfl rfl rfl (v' := .bool false) rfl ?_
    refine mr rfl (sil_pick rfl rfl rfl) (v' := .bool false) rfl ?_
    refine mp tyW_ok rfl ?_
    refine mps rfl rfl rfl rfl (mps rfl rfl rfl rfl (mps rfl rfl rfl rfl (mps rfl rfl rfl rfl ?_)))
    refine mr rfl (sil_pick rfl rfl rfl) (v' := .bool false) rfl (opsE_nil (wpE_false rfl (wpE_skip ?_)))
    refine wpE_seq (wpE_seq (wpE_region ?_))
    refine mp tyW_ok rfl ?_
    cases n with
    | succ n =>
      refine mpe tyW_ok rfl (v' := .bool true) (congrArg Value.bool (decide_eq_true (by omega))) ?_
      refine mp tyW_ok rfl ?_
      refine mps rfl rfl rfl rfl (mps rfl rfl rfl rfl ?_)
      refine mr rfl (sil_pick rfl rfl rfl) (v' := .bool true) rfl (opsE_nil (wpE_true rfl (wpE_ret ?_)))
      exact ⟨rfl, endW_en (p := p) e122 rfl⟩
    | zero =>
      refine mpe tyW_ok rfl (v' := .bool false) rfl ?_
      refine mp tyW_ok rfl ?_
      refine mpg tyW_ok rfl rfl rfl rfl ?_
      refine mpg tyW_ok rfl rfl rfl (v' := .bool false) rfl ?_
      refine mr rfl (sil_pick rfl rfl rfl) (v' := .bool false) rfl (opsE_nil (wpE_false rfl (wpE_skip ?_)))
      refine wpE_seq (wpE_seq (wpE_region ?_))
      refine mp tyW_ok rfl ?_
      refine mr rfl (sil_nilCheck rfl rfl) rfl ?_
      refine mr rfl (sil_fieldAddr rfl Tryd.underlying179 rfl rfl ti177 (by decide) rfl) (v' := .pointer (some (cel p.gb 0))) rfl ?_
      refine mcall (fn := Tryd.f129) rfl rfl rfl Tryd.func129 (by kernel_rfl) rfl rfl (uLoad_S (b := p.gb) fun o ρ x ats ho hx => actW_last1 (p := p) e146 ho rfl hx) ?_
      rintro _ _ ⟨rfl, rfl⟩
      refine mp tyW_ok rfl ?_
      refine mpe tyW_ok rfl (v' := .bool false) (by rfl) (opsE_nil (wpE_false rfl (wpE_skip ?_)))
      refine wpE_seq (wpE_region ?_)
      refine mp tyW_ok rfl ?_
      refine mr rfl (sil_nilCheck rfl rfl) rfl ?_
      refine mr rfl (sil_fieldAddr rfl Tryd.underlying179 rfl rfl ti177 (by decide) rfl) (v' := .pointer (some (cel p.gb 0))) rfl ?_
      refine mcall (fn := Tryd.f130) rfl rfl rfl Tryd.func130 (by kernel_rfl) rfl rfl (uStore_S (b := p.gb) fun o ρ x y ats ho hx hy => actW_last2 (p := p) e147 ho rfl hx hy) ?_
      rintro _ _ ⟨rfl, u, rfl⟩
      refine opsE_nil (wpE_seq (wpE_seq (wpE_region (mp tyW_ok rfl (opsE_nil (wpE_false rfl (wpE_skip ?_)))))))
      refine wpE_block (wpE_loop (fun m ds E hh => ds = [Conc.dcall 122 #[]] ∧ ∃ j : Nat, j = m ∧ j ≤ 1 ∧ E.look 0 = some (.pointer (some (cel p.gb 0))) ∧ E.look 8 = some (.int .u32 (j : Nat)) ∧ hh = ⟨h.blk, .wrk p (if j = 1 then .last3 else .gone)⟩) (m := 1) ⟨rfl, 1, rfl, by decide, rfl, rfl, rfl⟩ ?_)
      rintro m ds E hh ⟨rfl, j, rfl, hj, h0, h8, rfl⟩
      refine wpE_weaken (E := [(8, .int .u32 (j : Nat)), (0, .pointer (some (cel p.gb 0)))]) ?_ (Env.le_cons h8 (Env.le_cons h0 (Env.le_nil _))) (Know.le_refl _)
      refine wpE_seq (wpE_seq (wpE_region ?_))
      refine mp tyW_ok rfl ?_
      obtain rfl | rfl : j = 0 ∨ j = 1 := by omega
      · refine mpe tyW_ok rfl (v' := .bool false) rfl (opsE_nil (wpE_false rfl (wpE_exit ?_)))
        exact (⟨rfl, endW_en (p := p) (h := ⟨h.blk, .wrk p .gone⟩) e122 rfl⟩ : [Conc.dcall 122 #[]] = [Conc.dcall 122 #[]] ∧ EndA actsW Tryd.prog false 122 ⟨h.blk, .wrk p .gone⟩ (fun h' => h' = ⟨h.blk, .wrk p .quit⟩))
      · refine mpe tyW_ok rfl (v' := .bool true) rfl (opsE_nil (wpE_true rfl (wpE_skip ?_)))
        refine wpE_seq (wpE_block (wpE_region ?_))
        refine mp tyW_ok rfl ?_
        refine mr rfl (sil_nilCheck rfl rfl) rfl ?_
        refine mr rfl (sil_fieldAddr rfl Tryd.underlying179 rfl rfl ti124 (by decide) rfl) (v' := .pointer (some (cel p.gb 1))) rfl ?_
        refine op_act rfl (actW_last3 (p := p) e132 rfl rfl rfl rfl) ?_
        rintro v _ rfl
        refine opsE_nil (wpE_region ?_)
        refine mp tyW_ok rfl ?_
        refine mpe tyW_ok rfl (v' := .int .u32 (0 : Nat)) rfl ?_
        refine mp tyW_ok rfl (opsE_nil ⟨0, by decide, rfl, 0, rfl, by decide, rfl, rfl, rfl⟩)
end KL
end Go.Proofs.YtlmecmapkijcnaaDoor
