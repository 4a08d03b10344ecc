/- What a listed array of integers says: the variable's block. The row's frame for a law that starts goroutines, over the listed tables: what Roots and Known share. -/
import Derived.Test.YtlmecmapkijcnaaDoorR08
import Derived.Test.YtlmecmapkijcnaaDoorRows
import Derived.LaidLaws
import Derived.LaidHandle
import Derived.Test.YtlmecmapkijcnaaDoorR16
import Derived.Test.YtlmecmapkijcnaaDoorCards
import Derived.Test.YtlmecmapkijcnaaDoorTie
import Derived.WalkKit
import Derived.ProofKit
import Derived.OpenShut
import Derived.ShutString
import Derived.JoinedOf
import Derived.SevenTiedAt
import Derived.SliceStrings
import Derived.Conc.LeavingOf
set_option linter.unusedVariables false
namespace Go.Proofs.YtlmecmapkijcnaaDoor
open Go.ChangeShapes

theorem laid_ints_from {P : Program} {w : World} {e : TypeId} {q : IntKind} {fuel base : Nat} {sp : Nat → Bool} {held : Bool} {cs : List Value} (he : P.underlying e = some (.int q)) (c1 : P.cellsOf e = 1) :
    ∀ (m s : Nat) (ys : List (DataW Unit × List MemPlace)) (xs : List Int), (List.range' s m).mapM (fun i => DataW.trod (fun _ => ()) P w base sp held fuel e ((cs.drop (i * P.cellsOf e)).take (P.cellsOf e))) = some ys →
      ys.map (·.1) = xs.map (fun x => DataW.lit (.int q x)) → (cs.drop s).take m = xs.map (Value.int q) := by
  intro m
  induction m with
  | zero =>
    intro s ys xs h hx
    simp at h; subst h
    cases xs with
    | nil => simp
    | cons x xs => simp at hx
  | succ m ih =>
    intro s ys xs h hx
    rw [List.range'_succ, List.mapM_cons] at h
    simp only [bind, Option.bind_eq_some_iff, pure, Option.some.injEq] at h
    obtain ⟨y, hy, ys', hys, rfl⟩ := h
    cases xs with
    | nil => simp at hx
    | cons x xs =>
      simp only [List.map_cons, List.cons.injEq] at hx
      obtain ⟨a, ea, rfl, _⟩ := DataW.trod_int he hy
      have := ih (s + 1) ys' xs hys hx.2
      rw [c1, Nat.mul_one] at ea
      have hax : a = x := by have := hx.1; simp only [DataW.lit.injEq, Lit.int.injEq] at this; exact this.2
      subst hax
      have hd : cs.drop s = .int q a :: cs.drop (s + 1) := by
        cases hds : cs.drop s with
        | nil => rw [hds] at ea; simp at ea
        | cons v vs =>
          rw [hds] at ea
          simp at ea
          have : cs.drop (s + 1) = vs := by
            have : cs.drop (s + 1) = (cs.drop s).drop 1 := by rw [List.drop_drop]
            rw [this, hds]; rfl
          rw [this, ea]
      rw [hd, List.take_succ_cons, this, List.map_cons]
theorem laid_ints {P : Program} {w : World} {t e : TypeId} {n : Nat} {q : IntKind} {fuel base : Nat} {sp : Nat → Bool} {held : Bool} {cs : List Value} {p : List MemPlace} {xs : List Int} (ht : P.underlying t = some (.array n e)) (he : P.underlying e = some (.int q)) (c1 : P.cellsOf e = 1) (hn : P.cellsOf t = n)
    (h : DataW.trod (fun _ => ()) P w base sp held fuel t cs = some (.agg (xs.map fun x => .lit (.int q x)), p)) : cs = xs.map (Value.int q) := by
  cases fuel with
  | zero => simp [DataW.trod] at h
  | succ m =>
    rw [DataW.trod_step] at h
    unfold DataW.trodStep at h
    simp only [ht] at h
    split at h
    · rename_i hl
      rw [hn] at hl
      simp only [Option.map_eq_some_iff, Prod.mk.injEq, DataW.agg.injEq] at h
      obtain ⟨ys, hy, e1, _⟩ := h
      rw [List.range_eq_range'] at hy
      have := laid_ints_from he c1 n 0 ys xs hy (by simpa using e1)
      rw [List.drop_zero, ← hl, List.take_length] at this
      exact this
    · cases h

theorem hashes_laid : Rows.hashesRow.laid = [("forks/sums.words", Rows.laid_forks_sums_words), ("forks/sums.first", Rows.laid_forks_sums_first)] := rfl
theorem words_eq : (Rows.laid_forks_sums_words : DataW Unit) = .agg (kList.map fun x => .lit (.int .u32 x)) := rfl
theorem first_eq : (Rows.laid_forks_sums_first : DataW Unit) = .agg (hList.map fun x => .lit (.int .u32 x)) := rfl
theorem g0 : Tryd.prog.globalNamed "forks/sums.first" = some 0 := by kernel_rfl
theorem g2 : Tryd.prog.globalNamed "forks/sums.words" = some 2 := by kernel_rfl
theorem gt0 : (Tryd.prog.globals[0]?).map (·.type) = some 126 := by kernel_rfl
theorem gt2 : (Tryd.prog.globals[2]?).map (·.type) = some 171 := by kernel_rfl
theorem cells124 : Tryd.prog.cellsOf 124 = 1 := by kernel_rfl
theorem cells126 : Tryd.prog.cellsOf 126 = 8 := by kernel_rfl
theorem cells171 : Tryd.prog.cellsOf 171 = 64 := by kernel_rfl
theorem block_of_var {P : Program} {w : World} {n : String} {g : Nat} {cs : Array Value} (hg : P.globalNamed n = some g) (h : w.var? P n = some cs) : ∃ t fr, w.heap[g]? = some (.cells cs t fr) := by
  simp only [World.var?, hg, Option.bind_some] at h
  split at h
  · rename_i c t fr e; cases h; exact ⟨t, fr, e⟩
  · cases h

/-- What the condition gives the walk: the two tables. -/
theorem tables_of_laid {W : World} (h : laidMetH Tryd.prog [("forks/sums.words", Rows.laid_forks_sums_words), ("forks/sums.first", Rows.laid_forks_sums_first)] W) :
    (∃ t fr, W.heap[0]? = some (.cells (U hList) t fr)) ∧ ∃ t fr, W.heap[2]? = some (.cells (U kList) t fr) := by
  have h' : laidMet Tryd.prog [("forks/sums.words", Rows.laid_forks_sums_words), ("forks/sums.first", Rows.laid_forks_sums_first)] W := h
  obtain ⟨ps, ⟨g, t, cs, fuel, p, q, e1, e2, e3, e4, ⟨g', t', cs', fuel', p', q', f1, f2, f3, f4, _, _⟩, _⟩, _⟩ := h'
  obtain rfl := Option.some.inj (g2.symm.trans e1)
  obtain rfl := Option.some.inj (g0.symm.trans f1)
  obtain rfl := Option.some.inj (gt2.symm.trans e2)
  obtain rfl := Option.some.inj (gt0.symm.trans f2)
  rw [words_eq] at e4
  rw [first_eq] at f4
  have a := laid_ints Tryd.underlying171 Tryd.underlying124 cells124 cells171 e4
  have b := laid_ints Tryd.underlying126 Tryd.underlying124 cells124 cells126 f4
  obtain ⟨t1, fr1, b1⟩ := block_of_var g2 e3
  obtain ⟨t2, fr2, b2⟩ := block_of_var g0 f3
  have ea : cs = U kList := by apply Array.ext'; rw [a]; rfl
  have eb : cs' = U hList := by apply Array.ext'; rw [b]; rfl
  exact ⟨⟨t2, fr2, by rw [b2, eb]⟩, ⟨t1, fr1, by rw [b1, ea]⟩⟩

end Go.Proofs.YtlmecmapkijcnaaDoor

set_option linter.unusedVariables false
namespace Go.Proofs.YtlmecmapkijcnaaDoor
open Go.ChangeShapes Go.WideShapes Go.ChangeAt Go.RowKit
open Go.ChangeMaps (open_string shut_string)
open KL
open Go.Conc (G solo)

theorem own : ownKnob Tryd.prog.godebug = none := by kernel_rfl

/-- A world that meets the condition: the settled one, the two tables laid. -/
noncomputable def laidWorld (os : Os) : World :=
  let w0 := World.holding Tryd.prog os ⟨#[], #[], []⟩
  { w0 with heap := (w0.heap.modify 0 fun
      | .cells _ t frozen => .cells (U hList) t frozen
      | o => o).modify 2 fun
      | .cells _ t frozen => .cells (U kList) t frozen
      | o => o }
theorem laidWorld_met (os : Os) (args : Array Value) : laidMetH Tryd.prog Rows.hashesRow.laid ((laidWorld os).forCall (fun _ _ => 0) ⟨#[], args, []⟩).memory :=
  (laidMet_of_run' 8 (by kernel_rfl) (by kernel_rfl) : laidMet Tryd.prog Rows.hashesRow.laid _)

/-- 'returnsInLeavingWide_of_change_sized', with a condition more on memory. -/
theorem leaving_of_runs {H : Type} {enc : TypeId × Value → H} {a : Assume} {C : Checked} {os : Os} {f : FuncId} {fn : Func} {s : ChangeSpec} {conds : List PathCond} {apart fresh handsOn again : Bool} {X : World → Array Value → Prop}
    (hX : ∀ (w w' : World) (args : Array Value), w.heap = w'.heap → X w args → X w' args)
    (own : ownKnob C.prog.godebug = none) (started : os.Started) (hfn : C.prog.funcs[f]? = some fn)
    (witness : ∃ (w : World) (tape : Tape) (i : Input), w.os = os ∧ (w.forCall tape i).Shaped C.prog ∧ i.vars = [] ∧ Input.okWide C.prog (w.forCall tape i) .any w.heap.size f i ∧
      ((s.pre enc C.prog fn conds apart (w.forCall tape i).memory i.args ∧ X (w.forCall tape i).memory i.args) ∧ sizedMet enc C.prog fn (OpenSpec.ofChange s) apart (w.forCall tape i).memory i.args) ∧ a.holds C.prog (lone (Frame.enter C.prog f i.args .normal) [] (w.forCall tape i)))
    (runs : ∀ (W : World) (base : Nat) (args : Array Value) (ds gs : List (DataW H)) (before : List MemPlace),
      (∀ (j : Nat) t v, fn.params[j]? = some t → args[j]? = some v → Value.okWide C.prog W .any base t v) →
      DataW.Whole enc C.prog fn.params.toList s.vars apart W args.toList ds gs before →
      conds.all (PathCond.test C.prog ⟨fn.params.toList, ds, s.plain.varTypes C.prog, gs⟩) = true →
      (DataW.weightsEach C.prog (fn.params.toList ++ s.plain.varTypes C.prog) (ds ++ gs)).all (· ≤ reachBytes) = true → X W args →
      ∃ M last o w' t', runNT C.prog (M + 1) (solo (G (Frame.enter C.prog f args .normal) []) W) #[] = (.ended o w', t') ∧ runN C.prog M (solo (G (Frame.enter C.prog f args .normal) []) W) = .next last ∧
        step C.prog last = .ended o w' ∧ Conc.Good C.prog (fun v W' => s.post enc C.prog fn apart fresh handsOn again W args v W') last o w' t') :
    ReturnsInLeavingWide a C os f .any (fun w args => (s.pre enc C.prog fn conds apart w args ∧ X w args) ∧ sizedMet enc C.prog fn (OpenSpec.ofChange s) apart w args) (s.post enc C.prog fn apart fresh handsOn again) := by
  refine returnsInLeavingWide_of_good own started witness ?_
  intro w tape i _ _ _ hok hpre hholds
  obtain ⟨_, _, _, fn', hfn', _, _, _, _, hval⟩ := hok
  have e : fn' = fn := Option.some.inj (hfn'.symm.trans hfn)
  subst e
  obtain ⟨⟨⟨ds, gs, before, hw, hc⟩, hx⟩, hz⟩ := hpre
  have hw' := DataW.Whole.of_heap (w' := w.forCall tape i) (by rfl) hw
  obtain ⟨M, last, o, w', t', h1, h2, h3, h4⟩ := runs (w.forCall tape i) w.heap.size i.args ds gs before hval hw' hc (hz.weights hw) (hX _ _ _ (by rfl) hx)
  exact ⟨M, last, o, w', t', h1, h2, h3, h4.mono fun v hp => ChangeSpec.post_blind hp⟩

/-- All of memory, to be read alone. -/
def allOf (W : World) : Know := ⟨fun b => (W.heap[b]?).map fun o => (false, o), .idle⟩
theorem tables_all {W : World} (h : laidMetH Tryd.prog Rows.hashesRow.laid W) : Tables (allOf W) := by
  obtain ⟨⟨t0, f0, b0⟩, ⟨t2, f2, b2⟩⟩ := tables_of_laid h
  exact ⟨⟨false, t0, f0, by show (W.heap[0]?).map _ = _; rw [b0]; rfl⟩, ⟨false, t2, f2, by show (W.heap[2]?).map _ = _; rw [b2]; rfl⟩⟩
/-- What the walk leaves is what the row asks for: nothing changed. -/
theorem keptBut_since {W w' : World} (h : KL.Since W.heap.size W w') (may : MemPlace → Prop) : W.keptBut w' may := by
  refine ⟨h.os, h.output, fun i hi => ?_⟩
  rw [h.keep i hi]
  cases W.heap[i]? with
  | none => simp
  | some o => cases o <;> simp

theorem below_since {W w' : World} (h : KL.Since W.heap.size W w') : Below W.heap.size W w' := ⟨h.os, h.tape, h.output, h.size, h.keep⟩

theorem cell_at {W : World} {a : Addr} {v : Value} (h : W.cell? a = some v) : ∃ c ty fr, W.heap[a.block]? = some (.cells c ty fr) ∧ a.spot = none ∧ c[a.off]? = some v := by
  unfold World.cell? at h
  split at h
  · rename_i c ty fr e
    cases hs : a.spot with
    | none => rw [hs] at h; exact ⟨c, ty, fr, e, rfl, by simpa using h⟩
    | some x => rw [hs] at h; simp at h
  · cases h

theorem strs_weights {H : Type} {P : Program} {e : TypeId} {ss : List ByteArray} (h : ∀ x ∈ DataW.weightsAll (H := H) P e (strs ss), x ≤ reachBytes) : ∀ s ∈ ss, s.size ≤ reachBytes := by
  induction ss with
  | nil => intro s hs; cases hs
  | cons a ss ih =>
    intro s hs
    have e1 : DataW.weightsAll (H := H) P e (strs (a :: ss)) = [a.data.toList.length] ++ DataW.weightsAll P e (strs ss) := rfl
    rw [e1] at h
    rcases List.mem_cons.1 hs with rfl | hs
    · have := h s.data.toList.length (List.mem_append_left _ (List.mem_singleton.2 rfl))
      rw [Array.length_toList] at this
      exact this
    · exact ih (fun x hx => h x (List.mem_append_right _ hx)) s hs

/-- 'Claim7.holds_tied_plain_at', for a row that says 'goes'. -/
theorem tied_goes (Lk : Looks) {p : Pinned} {s : OpenSpec} {c : OpenClaim} (kinds : List LaidKind) (tests : Bool) (har : Bool × String) (lk : Bool)
    (hc : c.holds p s) (hw : c.wfByText s = true) (htie : c.laidByTextAt Lk p kinds tests)
    (hst : c.start = .entering) (hnb : c.noBlocks = false ∧ c.again = false) (hm : p.checked.prog.mainIs = some (har.1, har.2.toList)) (hn : (!har.1 && har.2.isEmpty && !lk) = false)
    (hl : ∀ f fn, p.checked.prog.funcNamed c.func = some f → p.checked.prog.funcs[f]? = some fn → lk = p.checked.prog.looks [] ∧ ∀ (j : Nat) t, fn.params[j]? = some t → p.checked.prog.wantsStandIn t = false)
    (hg : true = c.goesBy p.checked.prog) :
    Claim7.holds p (.plain s) { stood := { row := c, standIns := [], harness := har, looks := lk }, kinds := [], alts := [], goes := true, laidByText := true, laidKinds := kinds, laidTests := tests, laidLooks := Lk } := by
  have h6 : ∀ r : OpenClaim, Claim7.isSixth { stood := { row := r, standIns := [], harness := har, looks := lk }, kinds := [] } = false := fun r => by simpa [Claim7.isSixth] using hn
  exact ⟨Claim7.tied_new_at Lk kinds tests (Claim7.new_of_sixth hc har lk hst hnb hm (h6 c) hl) hw, (fun D hD => by cases hD), htie, (fun h => by cases h), hg⟩
end Go.Proofs.YtlmecmapkijcnaaDoor
