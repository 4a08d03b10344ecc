/- The sentence 'Known': the good run. 'Rows.KnownSaid', and its tied card: known hashes and roots come out of the program. -/
import Derived.Test.YtlmecmapkijcnaaDoorR16
import Derived.Test.YtlmecmapkijcnaaDoorR19
import Derived.Test.YtlmecmapkijcnaaDoorR17
set_option linter.unusedVariables false
set_option maxRecDepth 100000
namespace Go.Proofs.YtlmecmapkijcnaaDoor
namespace KL
open Go.Conc (G solo)
attribute [local irreducible] digC digT

theorem abc_S (h : Know) (T : Tables h) : CallS actsM Tryd.prog true 11 [Value.string abcS].toArray h (RetLe (.string abcH) h) := by
  obtain ⟨⟨m, t, f, a⟩, m', t', f', b⟩ := T
  have := plainHash_S (A := actsM) (main := true) h abcS kList hList m m' t t' f f' a b rfl rfl (by decide)
  rw [show strOf (outL (stateOf kList hList (ints abcS)) 8) = abcH from abc_eq'] at this
  exact this
theorem name11 : (Tryd.f11.name == "runtime.NumGoroutine") = false := by kernel_rfl
theorem name14 : (Tryd.f14.name == "runtime.NumGoroutine") = false := by kernel_rfl

def knownQ : Post := fun e ds E h => e = .ret ∧ ds = [] ∧ h.gh = .idle ∧ E.look 0 = some (.bool true)

theorem known_wp (h : Know) (hg : h.gh = .idle) (T : Tables h) (c : Code) (hc : Tryd.f5.body = some c) :
    wpE actsM Tryd.prog true 33 c knownQ [] [] h := by
  obtain rfl : _ = c := Option.some.inj hc
  refine wpE_seq (wpE_region (op_p tyX_ok rfl (opsE_nil ?_)))
  refine wpE_seq (wpE_region ?_)
  refine op_call (fn := Tryd.f11) rfl rfl Tryd.func11 name11 rfl rfl (abc_S h T) (ends_le ?_)
  refine op_p tyX_ok rfl (opsE_nil ?_)
  refine wpE_seq (wpE_seq (wpE_region ?_))
  refine op_p tyX_ok rfl ?_
  refine op_pe tyX_ok rfl (v' := .bool false) (congrArg Value.bool (show (!(abcH.toList == abcH.toList)) = false by simp)) (opsE_nil (wpE_false rfl (wpE_skip ?_)))
  refine wpE_seq (wpE_region ?_)
  refine op_n rfl (runN_buildSlice (cs := (knownL.map Value.string).toArray) rfl und24 ti9 (by decide) (by decide) (by kernel_rfl)) fun r hr => ?_
  refine op_p tyX_ok rfl (opsE_nil ?_)
  refine wpE_seq (wpE_region ?_)
  refine op_n rfl (runN_buildSlice (cs := (wantL.map Value.string).toArray) rfl und24 ti9 (by decide) (by decide) (by kernel_rfl)) fun r' hr' => ?_
  refine op_p tyX_ok rfl (opsE_nil ?_)
  have hne : r ≠ r' := ne_fresh (Know.upd_same _ _ _) hr'
  have hle : h.le ((h.upd r (true, .cells (knownL.map Value.string).toArray 9 (0, 0))).upd r' (true, .cells (wantL.map Value.string).toArray 9 (0, 0))) := Know.le_trans (le_fresh _ hr) (le_fresh _ hr')
  have kr : ((h.upd r (true, .cells (knownL.map Value.string).toArray 9 (0, 0))).upd r' (true, .cells (wantL.map Value.string).toArray 9 (0, 0))) r = some (true, .cells (knownL.map Value.string).toArray 9 (0, 0)) := by
    rw [Know.upd_ne _ _ hne]; exact Know.upd_same _ _ _
  have kr' : ((h.upd r (true, .cells (knownL.map Value.string).toArray 9 (0, 0))).upd r' (true, .cells (wantL.map Value.string).toArray 9 (0, 0))) r' = some (true, .cells (wantL.map Value.string).toArray 9 (0, 0)) := Know.upd_same _ _ _
  have hg2 : ((h.upd r (true, .cells (knownL.map Value.string).toArray 9 (0, 0))).upd r' (true, .cells (wantL.map Value.string).toArray 9 (0, 0))).gh = .idle := hg
  have T2 := T.le hle
  generalize ((h.upd r (true, .cells (knownL.map Value.string).toArray 9 (0, 0))).upd r' (true, .cells (wantL.map Value.string).toArray 9 (0, 0))) = h2 at *
  refine wpE_seq (wpE_seq (wpE_region (op_p tyX_ok rfl (opsE_nil ?_))))
  refine wpE_block (wpE_loop (fun m ds E hh => ds = [] ∧ hh = h2 ∧ ∃ n : Nat, m = 9 - n ∧ n ≤ 9 ∧ E.look 2 = some (.slice (some ⟨r, 0, none⟩) 8 8) ∧ E.look 3 = some (.slice (some ⟨r', 0, none⟩) 9 9) ∧ E.look 4 = some (.int .i64 n))
    (m := 9) ⟨rfl, rfl, 0, rfl, Nat.zero_le _, rfl, rfl, rfl⟩ ?_)
  rintro m ds E hh ⟨rfl, rfl, n, rfl, hn, e2, e3, e4⟩
  refine wpE_weaken (E := [(4, .int .i64 n), (3, .slice (some ⟨r', 0, none⟩) 9 9), (2, .slice (some ⟨r, 0, none⟩) 8 8)]) ?_ (Env.le_cons e4 (Env.le_cons e3 (Env.le_cons e2 (Env.le_nil _)))) (Know.le_refl _)
  refine wpE_seq (wpE_seq (wpE_region ?_))
  refine op_p tyX_ok rfl ?_
  refine op_p tyX_ok rfl ?_
  refine op_p tyX_ok rfl ?_
  by_cases hn9 : n < 9
  · refine op_pe tyX_ok rfl (v' := .bool true) (congrArg Value.bool (decide_eq_true (show ((n : Nat) : Int) < ((9 : Nat) : Int) by omega))) ?_
    refine opsE_nil (wpE_true rfl (wpE_skip ?_))
    refine wpE_seqE (M := fun E₁ h₁ => E₁ = [(4, .int .i64 n), (3, .slice (some ⟨r', 0, none⟩) 9 9), (2, .slice (some ⟨r, 0, none⟩) 8 8)] ∧ h₁ = hh) ?_ ?_
    · refine wpE_block (wpE_seq (wpE_region (op_p tyX_ok rfl (opsE_nil ?_))))
      refine wpE_block (wpE_loop (fun m ds E h' => ds = [] ∧ h' = hh ∧ ∃ w : Nat, m = 9 - w ∧ 1 ≤ w ∧ w ≤ 9 ∧ E.look 2 = some (.slice (some ⟨r, 0, none⟩) 8 8) ∧ E.look 3 = some (.slice (some ⟨r', 0, none⟩) 9 9) ∧ E.look 4 = some (.int .i64 n) ∧ E.look 5 = some (.int .i64 w))
        (m := 8) ⟨rfl, rfl, 1, rfl, Nat.le_refl _, by omega, rfl, rfl, rfl, rfl⟩ ?_)
      rintro m ds E h' ⟨rfl, rfl, w, rfl, hw1, hw9, e2, e3, e4, e5⟩
      refine wpE_weaken (E := [(5, .int .i64 w), (4, .int .i64 n), (3, .slice (some ⟨r', 0, none⟩) 9 9), (2, .slice (some ⟨r, 0, none⟩) 8 8)]) ?_ (Env.le_cons e5 (Env.le_cons e4 (Env.le_cons e3 (Env.le_cons e2 (Env.le_nil _))))) (Know.le_refl _)
      refine wpE_seq (wpE_seq (wpE_region ?_))
      refine op_p tyX_ok rfl ?_
      by_cases hlt : w < 9
      · refine op_pe tyX_ok rfl (v' := .bool true) (congrArg Value.bool (decide_eq_true (show ((w : Nat) : Int) < 9 by omega))) ?_
        refine opsE_nil (wpE_true rfl (wpE_skip ?_))
        have hlen : (knownL.take n).length = n := by rw [List.length_take, knownL_length]; omega
        have hS : StrsAt h' (.slice (some ⟨r, 0, none⟩) n 8) (knownL.take n) := by
          refine ⟨some ⟨r, 0, none⟩, 8, by rw [hlen], ?_⟩
          by_cases h0 : n = 0
          · left; subst h0; rfl
          right
          refine ⟨r, 0, true, _, 9, (0, 0), rfl, kr, by omega, fun j hj => ?_⟩
          rw [strCells knownL j (by rw [knownL_length]; omega)]
          simp only [List.getD_eq_getElem?_getD, List.getElem?_take, if_pos (show j < n by omega)]
        have hR := root14_S (w : Int) (knownL.take n) h' (.slice (some ⟨r, 0, none⟩) n 8) hg2 (by omega) (fun s hs => knownL_size s (List.mem_of_mem_take hs)) hS T2
        rw [roots_eq n hn9] at hR
        have hwc := strCells wantL n (by rw [wantL_length]; omega)
        generalize wantL.getD n ByteArray.empty = x at *
        refine wpE_seq (wpE_block (wpE_seq (wpE_region ?_)))
        refine op_p tyX_ok rfl ?_
        refine op_p tyX_ok rfl ?_
        refine op_re rfl (runV_slice_slice rfl und24 ti9 rfl (hh := n) (l := 0) ⟨_, _, rfl, by omega, by omega, by omega⟩ rfl) (v' := .slice (some ⟨r, 0, none⟩) n 8) (by simp) ?_
        refine op_p tyX_ok rfl ?_
        refine op_call (fn := Tryd.f14) rfl rfl Tryd.func14 name14 rfl rfl hR (ends_le ?_)
        refine op_p tyX_ok rfl (opsE_nil ?_)
        refine wpE_seq (wpE_region ?_)
        refine op_p tyX_ok rfl ?_
        refine op_p tyX_ok rfl ?_
        refine op_p tyX_ok rfl ?_
        refine op_re rfl (runV_indexAddr_slice rfl und24 ti9 rfl rfl (by omega) (by omega)) (v' := .pointer (some ⟨r', 0 + n, none⟩)) (by simp) ?_
        refine op_r rfl (runV_load rfl rfl und9 rfl kr' hwc) ?_
        refine op_pe tyX_ok rfl (v' := .bool false) (congrArg Value.bool (by simp)) ?_
        refine opsE_nil (wpE_false rfl (wpE_skip ?_))
        refine wpE_region ?_
        refine op_p tyX_ok rfl ?_
        refine op_pe tyX_ok rfl (v' := .int .i64 (w + 1 : Nat)) (congrArg (Value.int .i64) (by rw [IntKind.wrap_i64]; omega)) ?_
        refine op_p tyX_ok rfl (opsE_nil ?_)
        exact ⟨9 - (w + 1), by omega, rfl, rfl, w + 1, rfl, by omega, by omega, rfl, rfl, rfl, rfl⟩
      · refine op_pe tyX_ok rfl (v' := .bool false) (congrArg Value.bool (decide_eq_false (show ¬ ((w : Nat) : Int) < 9 by omega))) ?_
        refine opsE_nil (wpE_false rfl (wpE_exit ?_))
        exact normalE (Env.le_cons rfl (Env.le_cons rfl (Env.le_cons rfl (Env.le_nil _)))) (Know.le_refl _) ⟨rfl, rfl⟩
    · rintro E₁ h₁ ⟨rfl, rfl⟩
      refine wpE_region ?_
      refine op_p tyX_ok rfl ?_
      refine op_pe tyX_ok rfl (v' := .int .i64 (n + 1 : Nat)) (congrArg (Value.int .i64) (by rw [IntKind.wrap_i64]; omega)) ?_
      refine op_p tyX_ok rfl (opsE_nil ?_)
      exact ⟨9 - (n + 1), by omega, rfl, rfl, n + 1, rfl, by omega, rfl, rfl, rfl⟩
  · refine op_pe tyX_ok rfl (v' := .bool false) (congrArg Value.bool (decide_eq_false (show ¬ ((n : Nat) : Int) < ((9 : Nat) : Int) by omega))) ?_
    refine opsE_nil (wpE_false rfl (wpE_exit ?_))
    suffices hsf : wpE actsM Tryd.prog true 33 _ knownQ [] _ hh from hsf
    refine wpE_seq (wpE_region ?_)
    refine op_p tyX_ok rfl ?_
    exact opsE_nil (wpE_ret ⟨rfl, rfl, hg2, rfl⟩)

/-- The good run of the sentence. -/
theorem known_run (W : World) (T : Tables ⟨fun b => (W.heap[b]?).map fun o => (false, o), .idle⟩) :
    ∃ n last o w' t', runNT Tryd.prog (n + 1) (solo (G (Frame.enter Tryd.prog 5 #[] .normal) []) W) #[] = (.ended o w', t') ∧ runN Tryd.prog n (solo (G (Frame.enter Tryd.prog 5 #[] .normal) []) W) = .next last ∧ step Tryd.prog last = .ended o w' ∧
      Conc.Good Tryd.prog (fun u w' => u = .bool true ∧ Since W.heap.size W w') last o w' t' := by
  refine run_main (R := fun u => u = .bool true) (h := ⟨fun b => (W.heap[b]?).map fun o => (false, o), .idle⟩) rfl ?_ ?_ ?_
  · intro b m o e
    simp only [Option.map_eq_some_iff, Prod.mk.injEq] at e
    obtain ⟨o', e1, _, rfl⟩ := e
    exact e1
  · intro b o e
    simp at e
  · rw [show (#[] : Array Value) = ([] : List Value).toArray from rfl, Conc.enter_at _ Tryd.func5 (c := _) rfl]
    refine known_wp _ rfl T _ rfl _ (Conc.base 5) [] [] _ (argsFit (by show 0 ≤ 33; decide)) (by simp [Conc.base]) ?_
    rintro e ds E h' a' ⟨rfl, rfl, hg, hl⟩ hfit
    refine fun todo => GoesS.stop ⟨hg, rfl, hfit.defers, rfl, rfl, by kernel_rfl, Tryd.f5, Tryd.func5, ?_⟩
    have e : results Tryd.f5 a'.tmps = pure (.bool true) := by simp [results, hfit.look 0 _ hl]
    show semS Tryd.prog _ (results Tryd.f5 a'.tmps) h' _
    rw [e]; exact rfl
end KL
end Go.Proofs.YtlmecmapkijcnaaDoor

set_option linter.unusedVariables false
namespace Go.Proofs.YtlmecmapkijcnaaDoor.known
open Go Go.ChangeShapes Go.WideShapes Go.ChangeAt Go.RowKit Go.Proofs.YtlmecmapkijcnaaDoor
open KL
open Go.Conc (G solo)

set_option maxRecDepth 100000 in
theorem lifted (os : Os) (started : os.Started) (H : Type) (enc : TypeId × Value → H) :
    ReturnsInLeavingWide {} Tryd.checked os 5 .any (fun w args => (Rows.knownSpec.pre enc Tryd.prog Tryd.f5 [] false w args ∧ laidMetH Tryd.prog Rows.knownRow.laid w) ∧ sizedMet enc Tryd.prog Tryd.f5 (OpenSpec.ofChange Rows.knownSpec) false w args)
      (Rows.knownSpec.post enc Tryd.prog Tryd.f5 false true false false) := by
  refine leaving_of_runs (C := Tryd.checked) (X := fun w _ => laidMetH Tryd.prog Rows.knownRow.laid w) (fun _ _ _ hh h => h.of_heap hh) own started Tryd.func5
    (ChangeSpec.witness_at (enc := enc) (C := Tryd.checked) (os := os) (X := fun w _ => laidMetH Tryd.prog Rows.knownRow.laid w) false (laidWorld os) #[] 8 rfl (by kernel_rfl) (by kernel_rfl) (by kernel_rfl) (by kernel_rfl) (by kernel_rfl) (laidWorld_met os _)) ?_
  intro W base args ds gs before hval0 hW _ hsz0 hL
  have hW' := hW
  obtain ⟨p, q, hA0, hV, rfl, hfz, hnd⟩ := hW
  have hA : DataW.TrodAll enc Tryd.prog W 0 (fun _ => true) true Tryd.f5.params.toList args.toList ds p := hA0
  rw [Tryd.params5] at hA
  obtain ⟨r0, rfl, rfl⟩ := trodAll_nil hA
  obtain rfl : args = #[] := by cases args; simp_all
  obtain ⟨rfl, rfl⟩ := trodVars_none hV
  simp only [List.append_nil] at hW'
  obtain ⟨M, last, o, w', t', e1, e2, e3, e4⟩ := known_run W (tables_all hL)
  refine ⟨M, last, o, w', t', e1, e2, e3, e4.mono fun v hp => ?_⟩
  obtain ⟨rfl, hsi⟩ := hp
  refine ⟨_, _, _, [], [], [], hW', ?_, ?_, rfl, keptBut_since hsi _, fun h => by cases h⟩
  · exact trodAll_cons_mk (shut_bool Tryd.underlying4 _) trodAll_mk0
  · exact trodAll_mk0

theorem said : Rows.KnownSaid :=
  OpenClaim.holds_of_wide_leaving 5 Tryd.f5 rfl rfl rfl rfl rfl rfl rfl ⟨rfl, rfl, rfl, rfl, rfl⟩ rfl rfl rfl rfl rfl (by kernel_rfl) Tryd.func5 (by kernel_rfl)
    (of_decide_eq_true (by kernel_rfl)) (by unfold Func.isWrapper; first | (rw [if_pos (by decide +kernel)]; kernel_rfl) | (rw [if_neg (by decide +kernel)]; exact ⟨rfl, rfl⟩))
    (fun os started H enc _ => lifted os started H enc)

theorem proved : Rows.KnownCardSaid :=
  tied_goes .later [.data, .data] true (true, "bcc4b975caae74ee423f84b34cab75210835be5a417e6e34db9e5d80a6b3eaf3") true
    said (by kernel_rfl) known_row_tie rfl ⟨rfl, rfl⟩ (by kernel_rfl) rfl
    (fun f fn hf hfn => by
      obtain rfl : f = 5 := Option.some.inj ((show Tryd.prog.funcNamed "forks/forkskeep.Known" = some 5 by kernel_rfl).symm.trans hf) |>.symm
      obtain rfl : fn = Tryd.f5 := (Option.some.inj (Tryd.func5.symm.trans hfn)).symm
      exact ⟨by kernel_rfl, fun j t ht => by
        rw [Tryd.params5] at ht
        simp at ht⟩)
    (by kernel_rfl)
#print axioms proved
end Go.Proofs.YtlmecmapkijcnaaDoor.known
