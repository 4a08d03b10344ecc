/- What a listed array of integers says: the variable's block. -/
import Derived.Test.YtlmecmapkijcnaaDoorShaK
import Derived.Test.YtlmecmapkijcnaaDoorRows
import Derived.LaidLaws
import Derived.LaidHandle
set_option linter.unusedVariables false
namespace Go.Proofs.YtlmecmapkijcnaaDoor
open Go.ChangeShapes

theorem laid_ints_from {P : Program} {w : World} {e : TypeId} {q : IntKind} {fuel base : Nat} {sp : Nat → Bool} {held : Bool} {cs : List Value} (he : P.underlying e = some (.int q)) (c1 : P.cellsOf e = 1) :
    ∀ (m s : Nat) (ys : List (DataW Unit × List MemPlace)) (xs : List Int), (List.range' s m).mapM (fun i => DataW.trod (fun _ => ()) P w base sp held fuel e ((cs.drop (i * P.cellsOf e)).take (P.cellsOf e))) = some ys →
      ys.map (·.1) = xs.map (fun x => DataW.lit (.int q x)) → (cs.drop s).take m = xs.map (Value.int q) := by
  intro m
  induction m with
  | zero =>
    intro s ys xs h hx
    simp at h; subst h
    cases xs with
    | nil => simp
    | cons x xs => simp at hx
  | succ m ih =>
    intro s ys xs h hx
    rw [List.range'_succ, List.mapM_cons] at h
    simp only [bind, Option.bind_eq_some_iff, pure, Option.some.injEq] at h
    obtain ⟨y, hy, ys', hys, rfl⟩ := h
    cases xs with
    | nil => simp at hx
    | cons x xs =>
      simp only [List.map_cons, List.cons.injEq] at hx
      obtain ⟨a, ea, rfl, _⟩ := DataW.trod_int he hy
      have := ih (s + 1) ys' xs hys hx.2
      rw [c1, Nat.mul_one] at ea
      have hax : a = x := by have := hx.1; simp only [DataW.lit.injEq, Lit.int.injEq] at this; exact this.2
      subst hax
      have hd : cs.drop s = .int q a :: cs.drop (s + 1) := by
        cases hds : cs.drop s with
        | nil => rw [hds] at ea; simp at ea
        | cons v vs =>
          rw [hds] at ea
          simp at ea
          have : cs.drop (s + 1) = vs := by
            have : cs.drop (s + 1) = (cs.drop s).drop 1 := by rw [List.drop_drop]
            rw [this, hds]; rfl
          rw [this, ea]
      rw [hd, List.take_succ_cons, this, List.map_cons]
theorem laid_ints {P : Program} {w : World} {t e : TypeId} {n : Nat} {q : IntKind} {fuel base : Nat} {sp : Nat → Bool} {held : Bool} {cs : List Value} {p : List MemPlace} {xs : List Int} (ht : P.underlying t = some (.array n e)) (he : P.underlying e = some (.int q)) (c1 : P.cellsOf e = 1) (hn : P.cellsOf t = n)
    (h : DataW.trod (fun _ => ()) P w base sp held fuel t cs = some (.agg (xs.map fun x => .lit (.int q x)), p)) : cs = xs.map (Value.int q) := by
  cases fuel with
  | zero => simp [DataW.trod] at h
  | succ m =>
    rw [DataW.trod_step] at h
    unfold DataW.trodStep at h
    simp only [ht] at h
    split at h
    · rename_i hl
      rw [hn] at hl
      simp only [Option.map_eq_some_iff, Prod.mk.injEq, DataW.agg.injEq] at h
      obtain ⟨ys, hy, e1, _⟩ := h
      rw [List.range_eq_range'] at hy
      have := laid_ints_from he c1 n 0 ys xs hy (by simpa using e1)
      rw [List.drop_zero, ← hl, List.take_length] at this
      exact this
    · cases h

theorem hashes_laid : Rows.hashesRow.laid = [("forks/sums.words", Rows.laid_forks_sums_words), ("forks/sums.first", Rows.laid_forks_sums_first)] := rfl
theorem words_eq : (Rows.laid_forks_sums_words : DataW Unit) = .agg (kList.map fun x => .lit (.int .u32 x)) := rfl
theorem first_eq : (Rows.laid_forks_sums_first : DataW Unit) = .agg (hList.map fun x => .lit (.int .u32 x)) := rfl
theorem g0 : Tryd.prog.globalNamed "forks/sums.first" = some 0 := by kernel_rfl
theorem g2 : Tryd.prog.globalNamed "forks/sums.words" = some 2 := by kernel_rfl
theorem gt0 : (Tryd.prog.globals[0]?).map (·.type) = some 126 := by kernel_rfl
theorem gt2 : (Tryd.prog.globals[2]?).map (·.type) = some 171 := by kernel_rfl
theorem cells124 : Tryd.prog.cellsOf 124 = 1 := by kernel_rfl
theorem cells126 : Tryd.prog.cellsOf 126 = 8 := by kernel_rfl
theorem cells171 : Tryd.prog.cellsOf 171 = 64 := by kernel_rfl
theorem block_of_var {P : Program} {w : World} {n : String} {g : Nat} {cs : Array Value} (hg : P.globalNamed n = some g) (h : w.var? P n = some cs) : ∃ t fr, w.heap[g]? = some (.cells cs t fr) := by
  simp only [World.var?, hg, Option.bind_some] at h
  split at h
  · rename_i c t fr e; cases h; exact ⟨t, fr, e⟩
  · cases h

/-- What the condition gives the walk: the two tables. -/
theorem tables_of_laid {W : World} (h : laidMetH Tryd.prog [("forks/sums.words", Rows.laid_forks_sums_words), ("forks/sums.first", Rows.laid_forks_sums_first)] W) :
    (∃ t fr, W.heap[0]? = some (.cells (U hList) t fr)) ∧ ∃ t fr, W.heap[2]? = some (.cells (U kList) t fr) := by
  have h' : laidMet Tryd.prog [("forks/sums.words", Rows.laid_forks_sums_words), ("forks/sums.first", Rows.laid_forks_sums_first)] W := h
  obtain ⟨ps, ⟨g, t, cs, fuel, p, q, e1, e2, e3, e4, ⟨g', t', cs', fuel', p', q', f1, f2, f3, f4, _, _⟩, _⟩, _⟩ := h'
  obtain rfl := Option.some.inj (g2.symm.trans e1)
  obtain rfl := Option.some.inj (g0.symm.trans f1)
  obtain rfl := Option.some.inj (gt2.symm.trans e2)
  obtain rfl := Option.some.inj (gt0.symm.trans f2)
  rw [words_eq] at e4
  rw [first_eq] at f4
  have a := laid_ints Tryd.underlying171 Tryd.underlying124 cells124 cells171 e4
  have b := laid_ints Tryd.underlying126 Tryd.underlying124 cells124 cells126 f4
  obtain ⟨t1, fr1, b1⟩ := block_of_var g2 e3
  obtain ⟨t2, fr2, b2⟩ := block_of_var g0 f3
  have ea : cs = U kList := by apply Array.ext'; rw [a]; rfl
  have eb : cs' = U hList := by apply Array.ext'; rw [b]; rfl
  exact ⟨⟨t2, fr2, by rw [b2, eb]⟩, ⟨t1, fr1, by rw [b1, ea]⟩⟩

end Go.Proofs.YtlmecmapkijcnaaDoor
