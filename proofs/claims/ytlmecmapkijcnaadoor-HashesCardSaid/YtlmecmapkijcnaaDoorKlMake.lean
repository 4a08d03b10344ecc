/- Slices made. -/
import Derived.Test.YtlmecmapkijcnaaDoorKlTail
set_option linter.unusedVariables false
namespace Go.Proofs.YtlmecmapkijcnaaDoor
namespace KL
section
variable {P : Program} {h : Know} {ρ : Operand → Value} {o : Oper}
theorem runN_makeSlice {t e : TypeId} {lx cx : Operand} {m : Nat} {kl kc : IntKind} {z : Value} {bt : Nat} (ho : o.op = .makeSlice t lx cx) (hl : ρ lx = .int kl m) (hc : ρ cx = .int kc m) (hu : P.underlying t = some (.slice e)) (ti : TI P e z 1 bt) (h0 : 0 < m) (hm : m ≤ 2 ^ 40) (hb : bt * m ≤ 2 ^ 48) :
    RunN P ρ o h (fun r => .slice (some ⟨r, 0, none⟩) m m) (fun r => h.upd r (true, .cells ((Array.range (m * 1)).map (z.cells[· % z.cells.size]!)) e (0, 0))) := by
  intro Pn K hK
  obtain ⟨i, e1, _, _, e4⟩ := ti.get
  have hw : IntKind.i64.wrap (m : Int) = (m : Int) := by rw [IntKind.wrap_i64]; omega
  simp only [execOp, ho, Instr.makeSlice, semS_bind, semS_underlying hu, hl, hc, asInt, asIntOf, semS_pure, semS_typeInfo e1, e4, hw]
  have h1 : ¬ ((bt : Int) * (m : Int) > 2 ^ 48) := by
    have : ((bt : Int) * (m : Int)) = ((bt * m : Nat) : Int) := by simp
    rw [this]; omega
  have h2 : ¬ ((m : Int) < 0) := by omega
  simp only [h1, h2, decide_false, Bool.or_self, Bool.false_eq_true, Int.lt_irrefl, gt_iff_lt, if_false, semS_bind]
  refine semS_askRoom _ _ ?_
  simp only [semS_sizeOf ti]
  have h3 : ((m : Int)).toNat = m := by omega
  have h4 : ¬ m * 1 = 0 := by omega
  simp only [h3, h4, if_false, semS_bind, semS_zeroValue ti, semS_pure]
  exact semS_newRow _ _ _ hK
end
end KL
end Go.Proofs.YtlmecmapkijcnaaDoor
