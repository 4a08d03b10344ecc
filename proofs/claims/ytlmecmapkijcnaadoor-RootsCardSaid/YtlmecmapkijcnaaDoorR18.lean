/- 'Rows.RootsSaid', and its tied card: the root by workers is the document's. The tied card of 'forkslaw.Roots': the root of any list, by any number of workers, is the document's. -/
import Derived.Test.YtlmecmapkijcnaaDoorR17
set_option linter.unusedVariables false
namespace Go.Proofs.YtlmecmapkijcnaaDoor.roots
open Go.ChangeShapes Go.WideShapes Go.ChangeAt Go.RowKit Go.Proofs.YtlmecmapkijcnaaDoor
open Go.ChangeMaps (open_string shut_string)
open KL
open Go.Conc (G solo)

theorem laidOut : laidOutB Tryd.prog = true := by kernel_rfl
theorem cells9 : Tryd.prog.cellsOf 9 = 1 := by kernel_rfl
theorem bytes9 : Tryd.prog.bytesOf 9 = 16 := by kernel_rfl

set_option maxRecDepth 100000 in
theorem lifted (os : Os) (started : os.Started) (H : Type) (enc : TypeId × Value → H) :
    ReturnsInLeavingWide {} Tryd.checked os 4 .any (fun w args => (Rows.rootsSpec.pre enc Tryd.prog Tryd.f4 [] false w args ∧ laidMetH Tryd.prog Rows.rootsRow.laid w) ∧ sizedMet enc Tryd.prog Tryd.f4 (OpenSpec.ofChange Rows.rootsSpec) false w args)
      (Rows.rootsSpec.post enc Tryd.prog Tryd.f4 false true false false) := by
  refine leaving_of_runs (C := Tryd.checked) (X := fun w _ => laidMetH Tryd.prog Rows.rootsRow.laid w) (fun _ _ _ hh h => h.of_heap hh) own started Tryd.func4
    (ChangeSpec.witness_at (enc := enc) (C := Tryd.checked) (os := os) (X := fun w _ => laidMetH Tryd.prog Rows.rootsRow.laid w) false (laidWorld os) #[.slice none 0 0, .int .i64 0] 8 rfl (by kernel_rfl) (by kernel_rfl) (by kernel_rfl) (by kernel_rfl) (by kernel_rfl) (laidWorld_met os _)) ?_
  intro W base args ds gs before hval0 hW _ hsz0 hL
  have hval : ∀ (j : Nat) t v, Tryd.f4.params[j]? = some t → args[j]? = some v → Value.okWide Tryd.prog W .any base t v := hval0
  have hW' := hW
  obtain ⟨p, q, hA0, hV, rfl, hfz, hnd⟩ := hW
  have hA : DataW.TrodAll enc Tryd.prog W 0 (fun _ => true) true Tryd.f4.params.toList args.toList ds p := hA0
  have hsz : (DataW.weightsEach Tryd.prog (Tryd.f4.params.toList ++ Rows.rootsSpec.plain.varTypes Tryd.prog) (ds ++ gs)).all (· ≤ reachBytes) = true := hsz0
  rw [Tryd.params4] at hA hval hsz
  obtain ⟨v0, vs0, d0, ds0, p0, q0, hargs, rfl, rfl, h0, r0⟩ := trodAll_cons hA
  obtain ⟨v1, vs1, d1, ds1, p1, q1, rfl, rfl, rfl, h1, r1⟩ := trodAll_cons r0
  obtain ⟨rfl, rfl, rfl⟩ := trodAll_nil r1
  obtain rfl : args = #[v0, v1] := by cases args; simp_all
  obtain ⟨rfl, rfl⟩ := trodVars_none hV
  obtain ⟨n1, rfl, rfl, rfl, w1⟩ := open_int Tryd.underlying3 (hval 1 3 v1 rfl rfl) h1
  obtain ⟨a0, len, cap, rfl⟩ := okWide_slice Tryd.underlying24 (hval 0 24 v0 rfl rfl)
  clear hA0 hval0 hsz0
  simp only [List.append_nil] at hW'
  have T := tables_all hL
  have h0k := h0
  have hlt : ∀ x ∈ p0, x.block < W.heap.size := fun x hx => by simpa using hW'.lt x hx
  have close : ∀ (l : List ByteArray), l.length ≤ 2 ^ 47 → (∀ s ∈ l, s.size ≤ 2 ^ 47) → StrsAt (allOf W) (.slice a0 len cap) l →
      ∃ M last o w' t', runNT Tryd.checked.prog (M + 1) (solo (G (Frame.enter Tryd.checked.prog 4 #[.slice a0 len cap, .int .i64 n1] .normal) []) W) #[] = (.ended o w', t') ∧
        runN Tryd.checked.prog M (solo (G (Frame.enter Tryd.checked.prog 4 #[.slice a0 len cap, .int .i64 n1] .normal) []) W) = .next last ∧ step Tryd.checked.prog last = .ended o w' ∧
        Conc.Good Tryd.checked.prog (fun v W' => Rows.rootsSpec.post enc Tryd.checked.prog Tryd.f4 false true false false W #[.slice a0 len cap, .int .i64 n1] v W') last o w' t' := by
    intro l hl hs hv
    obtain ⟨M, last, o, w', t', e1, e2, e3, e4⟩ := roots_run W n1 l (.slice a0 len cap) hl hs hv T
    refine ⟨M, last, o, w', t', e1, e2, e3, e4.mono fun v hp => ?_⟩
    obtain ⟨rfl, hsi⟩ := hp
    refine ⟨_, _, _, [], p0, [], hW', ?_, ?_, rfl, keptBut_since hsi _, fun h => by cases h⟩
    · exact trodAll_cons_mk (shut_bool Tryd.underlying4 _) trodAll_mk0
    · have a := Below.trod (P := Tryd.prog) laidOut (by kernel_rfl) (of_decide_eq_true (by kernel_rfl)) h0k (below_since hsi) hlt
      have := trodAll_cons_mk a (trodAll_cons_mk (shut_int (enc := enc) (P := Tryd.prog) (w := w') (base := 0) (spare := fun b => decide (b < W.heap.size)) (held := true) Tryd.underlying3 w1) trodAll_mk0)
      rw [show p0 ++ ([] ++ []) = p0 from by simp] at this
      exact this
  obtain ⟨fuel, hf⟩ := h0
  rcases open_strings Tryd.underlying24 Tryd.underlying9 cells9 hf with ⟨hcs, hx⟩ | ⟨a, len', cap', ss, hcs, _, hl, hm, hz, hx, hcell, hwz⟩
  · simp [Value.cells] at hcs
    obtain ⟨rfl, rfl, rfl⟩ := hcs
    exact close [] (by simp) (fun s hs => by cases hs) ⟨none, 0, rfl, Or.inl rfl⟩
  · simp [Value.cells] at hcs
    obtain ⟨rfl, rfl, rfl⟩ := hcs
    simp only [Prod.mk.injEq] at hx
    obtain ⟨rfl, rfl⟩ := hx
    simp only [if_true] at hz
    have hB := reachBytes_lt
    have hel : ∀ s ∈ ss.take len, s.size ≤ 2 ^ 47 := by
      intro s hs
      have : s.size ≤ reachBytes := strs_weights (H := H) (P := Tryd.prog) (e := 9) (ss := ss.take len) (fun x hx => ?_) s hs
      · omega
      · have := List.all_eq_true.1 hsz x (DataW.weights_mem_each (j := 0) (t := 24) rfl rfl x (by simp only [DataW.weights, Tryd.underlying24]; exact List.mem_cons_of_mem _ (List.mem_append_left _ hx)))
        simpa using this
    have hreach := sized_slice hsz (j := 0) (t := 24) (e := 9) rfl rfl Tryd.underlying24
    rw [bytes9] at hreach
    have hlen : len ≤ 2 ^ 47 := by
      simp only [strs, List.length_map, List.length_take, List.length_drop] at hreach
      omega
    have hlen' : (ss.take len).length = len := by simp; omega
    refine close (ss.take len) (by omega) hel ⟨some a, cap, by rw [hlen'], ?_⟩
    by_cases e : len = 0
    · left; subst e; simp
    right
    obtain ⟨b, off, sp⟩ := a
    obtain ⟨c, ty, fr, hb, hsp, _⟩ := cell_at (hcell 0 (by omega))
    have hadd : ∀ j, ((⟨b, off, sp⟩ : Addr).add j).block = b ∧ ((⟨b, off, sp⟩ : Addr).add j).off = off + j := by
      intro j; unfold Addr.add; split <;> rename_i hj <;> simp_all
    have hsp' : sp = none := by
      have : ((⟨b, off, sp⟩ : Addr).add 0) = ⟨b, off, sp⟩ := by simp [Addr.add]
      rw [this] at hsp; exact hsp
    subst hsp'
    rw [(hadd 0).1] at hb
    refine ⟨b, off, false, c, ty, fr, rfl, by show (W.heap[b]?).map _ = _; rw [hb]; rfl, by omega, fun j hj => ?_⟩
    obtain ⟨c', ty', fr', hb', _, hcj⟩ := cell_at (hcell j (by omega))
    rw [(hadd j).1, hb] at hb'
    rw [(hadd j).2] at hcj
    cases hb'
    rw [hcj, List.getD_eq_getElem?_getD, List.getD_eq_getElem?_getD, List.getElem?_take_of_lt (by omega)]
end Go.Proofs.YtlmecmapkijcnaaDoor.roots

set_option linter.unusedVariables false
namespace Go.Proofs.YtlmecmapkijcnaaDoor.roots
open Go Go.Proofs.YtlmecmapkijcnaaDoor

theorem said : Rows.RootsSaid :=
  OpenClaim.holds_of_wide_leaving 4 Tryd.f4 rfl rfl rfl rfl rfl rfl rfl ⟨rfl, rfl, rfl, rfl, rfl⟩ rfl rfl rfl rfl rfl (by kernel_rfl) Tryd.func4 (by kernel_rfl)
    (of_decide_eq_true (by kernel_rfl)) (by unfold Func.isWrapper; first | (rw [if_pos (by decide +kernel)]; kernel_rfl) | (rw [if_neg (by decide +kernel)]; exact ⟨rfl, rfl⟩))
    (fun os started H enc _ => lifted os started H enc)

theorem proved : Rows.RootsCardSaid :=
  tied_goes .later [.data, .data] true (true, "bcc4b975caae74ee423f84b34cab75210835be5a417e6e34db9e5d80a6b3eaf3") true
    said (by kernel_rfl) roots_row_tie rfl ⟨rfl, rfl⟩ (by kernel_rfl) rfl
    (fun f fn hf hfn => by
      obtain rfl : f = 4 := Option.some.inj ((show Tryd.prog.funcNamed "forks/forkslaw.Roots" = some 4 by kernel_rfl).symm.trans hf) |>.symm
      obtain rfl : fn = Tryd.f4 := (Option.some.inj (Tryd.func4.symm.trans hfn)).symm
      exact ⟨by kernel_rfl, fun j t ht => by
        rw [Tryd.params4] at ht
        have h3 : t = 24 ∨ t = 3 := by
          rcases j with _ | _ | j
          · left; simpa using ht.symm
          · right; simpa using ht.symm
          · simp at ht
        rcases h3 with rfl | rfl
        · exact (show Tryd.prog.wantsStandIn 24 = false by kernel_rfl)
        · exact (show Tryd.prog.wantsStandIn 3 = false by kernel_rfl)⟩)
    (by kernel_rfl)
#print axioms proved
end Go.Proofs.YtlmecmapkijcnaaDoor.roots
