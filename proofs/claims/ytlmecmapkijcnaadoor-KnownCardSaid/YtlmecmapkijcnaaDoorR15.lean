/- A worker's step keeps the invariant, whatever act it is. The starter's step keeps the invariant. The machine: on every tape the run ends, and well. The starter's step, whatever it is; who leaves slips; the run. -/
import Derived.Test.YtlmecmapkijcnaaDoorR14
set_option linter.unusedVariables false
namespace Go.Proofs.YtlmecmapkijcnaaDoor
namespace KL
open Go.Conc
open Go.ConcN (sumTo)
open Go.ConcR (g_of_ofEvents)

section
variable {P : Program} {R : Value → Prop} {N0 : Nat} {W : World} {M : Gst} {gs : Array Goroutine} {w w' : World} {t : Trace} {i : Nat} {h h' h₀ : Know} {t' : Tr} {p : Ph} {s : SS} {s₀ s₁ : WS} {es : Array Event} {fn : FuncId} {pos : String}
  {fr fr' : Frame} {cs : List Frame} {y : Know × Tr}

/-- What comes of a step of goroutine i. -/
def Stepped (P : Program) (R : Value → Prop) (N0 : Nat) (W : World) (M : Gst) (gs : Array Goroutine) (w : World) (t : Trace) (i : Nat) (main : Bool) (fr : Frame) (cs : List Frame) (fn : FuncId) (pos : String) : Prop :=
  ∃ fr' cs' w' es M', stepG P main (G fr cs) w = .go (G fr' cs') w' es ∧ Inv P R N0 W M' ((gs.map (woken P (G fr cs) (G fr' cs') w')).setIfInBounds i (G fr' cs')) w' (t ++ MemOp.ofEvents i fn pos es) ∧ MuLt (M'.mu gs.size) (M.mu gs.size)

theorem setK_setK {α : Type} (K : Nat → α) (g : Nat) (x y : α) : setK (setK K g x) g y = setK K g y := by
  funext a; unfold setK; split <;> rfl
theorem stG_ne {g : Gh} (h : stG (some g) ≠ .quit) : True := trivial

theorem WS.live {s' : WS} (h1 : s' ≠ .gone) (h2 : s' ≠ .quit) : ∀ z, some (Gh.wrk p s') = some z → ∃ s'', z = .wrk p s'' ∧ s'' ≠ .gone ∧ s'' ≠ .quit := fun z e => ⟨s', (Option.some.inj e).symm, h1, h2⟩

theorem noTouch_mark {m : Mark} (h : m = .disable ∨ m = .enable) : (MemAct.ofEvent (evM m)).touch? = none := by rcases h with rfl | rfl <;> rfl
theorem at_one {e₀ : Event} {j : Nat} {e : Event} (h : (#[e₀] : Array Event)[j]? = some e) : e = e₀ := by
  have := Array.mem_of_getElem? h
  simpa using this
theorem deafBehind_cell (d : Nat) {es : Array Event} (h : ∀ e ∈ es, ∃ a wr, e = ⟨.cell a, wr, true⟩) : deafBehind d es = d :=
  deafBehind_still (fun e he => by obtain ⟨a, wr, rfl⟩ := h e he; exact ⟨fun e => (by cases e), fun e => (by cases e)⟩) d
theorem cells_extract {es : Array Event} (h : ∀ e ∈ es, ∃ a wr, e = ⟨.cell a, wr, true⟩) (j : Nat) : ∀ e ∈ es.extract 0 j, ∃ a wr, e = ⟨.cell a, wr, true⟩ := fun e he => h e (by
  obtain ⟨k, hk, rfl⟩ := Array.mem_iff_getElem.1 he
  rw [Array.getElem_extract]; exact Array.getElem_mem _)

set_option maxHeartbeats 1000000 in
theorem wact_step (H : Inv P R N0 W M gs w t) (hD : M.D i = some y) (hgi : gs[i]? = some (G fr cs)) {k : Frame → List Frame → Know → Tr} (htr : y.2 = .act k) (hl : h₀.le y.1) {Out : Outs} (ha : ActW P fr cs h₀ Out)
    (hgo : ∀ fr' cs' h', Out fr' cs' h' → GoesT actsW P false (StopW P) (k fr' cs' h') fr' cs' h') : Stepped P R N0 W M gs w t i false fr cs fn pos := by
  have hi0 := H.go.ne0 hD
  have hK := M_Ki hi0 hD
  have hlt : i < gs.size := (Array.getElem?_eq_some_iff.1 hgi).1
  obtain ⟨q, s, hgm, Hp, s', hs', hs1, hs2⟩ := H.ph.live hD
  obtain ⟨hib, _, _⟩ := Hp.lv i _ (M_Gdi hD)
  have hgd : M.Gd i = some (.wrk q s') := by rw [M_Gdi hD, hs']
  have hL : i - M.b0 < M.j := by have := Hp.size; omega
  have eL : SG M.b0 M.Gd (i - M.b0) = s' := by unfold SG; rw [show M.b0 + (i - M.b0) = i by omega, hgd]; rfl
  obtain ⟨st, sm, hgrp, hmode⟩ := Hp.grp
  have hVle := VV_le M.j (SG M.b0 M.Gd)
  have hjW := hmode.jW
  have hW8 := Hp.st.W8
  obtain ⟨_, _, _, _, hdf⟩ := H.go.lv i y hD
  rw [hs'] at hdf
  have hdf' : Deaf t i = deafW s' := hdf
  have same : ∀ {p : Ph} {s₀ : WS}, h₀.gh = .wrk p s₀ → p = q ∧ s₀ = s' := by
    intro p s₀ e
    rw [hl.gh, hs'] at e; cases e; exact ⟨rfl, rfl⟩
  have sub : ∀ {z : Tr} {fr₁ cs₁ h₁}, z = k fr₁ cs₁ h₁ → Sub z y.2 := fun e => by rw [e, htr]; exact .act _ _ _ _
  have hf₀ : ∀ f₁, some h₀.blk = some f₁ → ∀ b z, f₁ b = some z → y.1.blk b = some z := fun f₁ e b z hz => by obtain rfl := Option.some.inj e; exact hl b z hz
  have done : relS s' → ∃ r, Reld q t i r := fun hr => Hp.tp.done i ⟨hib, by omega, by rw [hgd]; exact hr⟩
  have cellsRW : ∀ b k, ∀ e ∈ (#[evR (cel b k), evW (cel b k)] : Array Event), ∃ a wr, e = ⟨.cell a, wr, true⟩ := by
    intro b k e he
    simp at he
    rcases he with rfl | rfl
    · exact ⟨_, _, rfl⟩
    · exact ⟨_, _, rfl⟩
  cases ha with
  | draw p c hg hs =>
    obtain ⟨rfl, rfl⟩ := same hg
    have hx := Hp.run i c hgd
    have hsum : sumTo M.j (fun k => beyond (SG M.b0 M.Gd k)) ≤ 1 * M.j := Go.ConcN.sumTo_le fun k _ => by cases SG M.b0 M.Gd k <;> simp [beyond]
    have hxle := Hp.xle
    have hn := Hp.st.n30
    obtain ⟨fr', hst, ho⟩ := hs w M.x hx (by omega) Hp.cnt
    have hc1 : cntS (if M.x < p.n then WS.has M.x else WS.out) = 1 := by split <;> rfl
    have hno : (if M.x < p.n then WS.has M.x else WS.out) ≠ .gone ∧ (if M.x < p.n then WS.has M.x else WS.out) ≠ .quit := by split <;> exact ⟨fun e => (by cases e), fun e => (by cases e)⟩
    obtain ⟨row, hr1, hr2⟩ := Hp.row
    refine ⟨fr', cs, _, _, _, hst, H.wact hD hgi hgm hs' hl (hgo _ _ _ ho) (.set _ (.inr rfl)) (evA_rw (.inr rfl)) ?_ (own' := setK M.own M.x i) (x' := M.x + 1) ?_, mu_wrk hlt hD (sub rfl) rfl⟩
    · rw [deafBehind_cell _ (cellsRW _ _)]; show 0 = _; split <;> rfl
    · refine Hp.wrk hgd hK (WS.live hno.1 hno.2) hf₀ (.set _ (.inr rfl)) (evA_rw (.inr rfl)) (st' := st) (sm' := sm) ?_ ?_ ?_ ⟨row, ⟨?_, hr1.2⟩, fun i' hn' hx' hno' k hk => ?_⟩ (fun i' e => ?_) (fun k hk => setK_ne _ _ (by omega)) (Nat.le_succ _) (fun c' e => ?_) ?_ (fun hb => ?_) (fun hr => ?_)
      · unfold Grp; rw [set_ne _ Hp.st.gc]; exact hgrp
      · exact (hmode.same hL (by rw [eL]; rfl) hc1).wakes _
      · exact cnt_set Hp.cnt _
      · rw [set_ne _ (Ne.symm Hp.st.cr)]; exact hr1.1
      · have : i' ≠ M.x := fun e => by subst e; exact hno' i (by rw [setK_same, if_pos hn'])
        refine hr2 i' hn' (by omega) (fun g e => ?_) k hk
        by_cases eg : g = i
        · subst eg; rw [hgd] at e; cases e
        · exact hno' g (by rw [setK_ne _ _ eg]; exact e)
      · by_cases hxn : M.x < p.n
        · rw [if_pos hxn] at e; cases e; exact ⟨by omega, hxn, setK_same _ _ _⟩
        · rw [if_neg hxn] at e; cases e
      · by_cases hxn : M.x < p.n
        · rw [if_pos hxn] at e; cases e
        · rw [if_neg hxn] at e; cases e
      · have hsm := sum_set (SG M.b0 M.Gd) (stG (some (Gh.wrk p (if M.x < p.n then WS.has M.x else WS.out)))) hL
        rw [eL] at hsm
        have e0 : beyond (WS.run c) = 0 := rfl
        by_cases hxn : M.x < p.n
        · omega
        · have e1 : beyond (stG (some (Gh.wrk p (if M.x < p.n then WS.has M.x else WS.out)))) = 1 := by rw [if_neg hxn]; rfl
          omega
      · by_cases hxn : M.x < p.n
        · rw [if_pos hxn] at hb; cases hb
        · omega
      · split at hr <;> exact hr.elim
  | store p j hg hs =>
    obtain ⟨rfl, rfl⟩ := same hg
    obtain ⟨hj1, hj2, hj3⟩ := Hp.has i j hgd
    obtain ⟨row, hr1, hr2⟩ := Hp.row
    obtain ⟨fr', w', es, hst, hF, ho⟩ := hs w row hj2 hr1
    have hpl : (part p j).length = p.m := by simp [part]
    have hfit : p.m * j + p.m ≤ row.size := by rw [hr1.2, ← Nat.mul_succ]; exact Nat.mul_le_mul_left _ hj2
    have T : Turned p w w' := ⟨by rw [hF.heap]; simp, hF.os, hF.output, hF.tape, fun b _ _ h3 => by rw [hF.heap, Array.getElem?_setIfInBounds_ne (Ne.symm h3)]⟩
    have hev : ∀ e ∈ es, EvA p i M.own M.x e := fun e he => by
      obtain ⟨k, hk, rfl⟩ := hF.evs e he
      have : (p.m * j + k) / p.m = j := by rw [Nat.mul_add_div (by omega), Nat.div_eq_of_lt hk]; omega
      exact .inr (.inr ⟨p.m * j + k, rfl, by rw [this]; exact hj1, by rw [this]; exact hj3⟩)
    have hrbl : p.rb < w.heap.size := Hp.lts.2.2
    refine ⟨fr', cs, _, _, _, hst, H.wact hD hgi hgm hs' hl (hgo _ _ _ ho) T hev ?_ (own' := M.own) (x' := M.x) ?_, mu_wrk hlt hD (sub rfl) rfl⟩
    · exact deafBehind_still (fun e he => by obtain ⟨k, _, rfl⟩ := hF.evs e he; exact ⟨fun e => (by cases e), fun e => (by cases e)⟩) _
    · refine Hp.wrk hgd hK (WS.live (fun e => (by cases e)) (fun e => (by cases e))) hf₀ T hev (st' := st) (sm' := sm) ?_ ?_ ?_ ⟨splice row (p.m * j) (part p j), ⟨?_, by rw [size_splice]; exact hr1.2⟩, fun i' hn' hx' hno' k hk => ?_⟩ (fun i' e => (by cases e)) (fun _ _ => rfl) (Nat.le_refl _) (fun c e => by cases e; exact hj1) ?_
        (fun hb => (by cases hb)) (fun hr => hr.elim)
      · unfold Grp; rw [hF.heap, Array.getElem?_setIfInBounds_ne (Ne.symm Hp.st.gr)]; exact hgrp
      · exact (hmode.same hL (by rw [eL]; rfl) rfl).wakes _
      · unfold Cnt; rw [hF.heap, Array.getElem?_setIfInBounds_ne (Ne.symm Hp.st.cr)]; exact Hp.cnt
      · rw [hF.heap, Array.getElem?_setIfInBounds_self_of_lt hrbl]
      · rw [splice_get _ _ _ _ (by rw [hpl]; exact hfit), hpl]
        by_cases e : i' = j
        · subst e
          rw [if_pos ⟨by omega, by omega⟩]
          simp [part, hk]
        · have hd : ¬ (p.m * j ≤ p.m * i' + k ∧ p.m * i' + k < p.m * j + p.m) := by
            rintro ⟨h1, h2⟩
            have e1 : (p.m * i' + k) / p.m = i' := by rw [Nat.mul_add_div (by omega), Nat.div_eq_of_lt hk]; omega
            have h3 : j ≤ (p.m * i' + k) / p.m := (Nat.le_div_iff_mul_le (by omega)).2 (by rw [Nat.mul_comm]; exact h1)
            have h4 : (p.m * i' + k) / p.m < j + 1 := (Nat.div_lt_iff_lt_mul (by omega)).2 (by rw [show (j + 1) * p.m = p.m * j + p.m by rw [Nat.add_mul, Nat.one_mul, Nat.mul_comm]]; exact h2)
            omega
          rw [if_neg hd]
          refine hr2 i' hn' hx' (fun g e' => ?_) k hk
          by_cases eg : g = i
          · subst eg; rw [hgd] at e'; cases e'; exact e rfl
          · exact hno' g (by rw [setK_ne _ _ eg]; exact e')
      · have hsm := sum_set (SG M.b0 M.Gd) (stG (some (Gh.wrk p (.run (j + 1))))) hL
        rw [eL] at hsm
        have e0 : beyond (WS.has j) = 0 := rfl
        have e1 : beyond (stG (some (Gh.wrk p (.run (j + 1))))) = 0 := rfl
        have := Hp.xle
        omega
  | look p hg fr' hs ho =>
    obtain ⟨rfl, rfl⟩ := same hg
    have := hgo _ _ _ ho
    refine ⟨fr', cs, w, #[], _, hs w st sm hgrp, H.wstep hD hgi (KStep.refl (h := y.1) (fun b m o e => H.wo.hold i _ b m o hK e)) (.inr ⟨rfl, rfl, rfl⟩) (this.weaken hl), mu_wrk hlt hD (sub rfl) rfl⟩
  | rel p hg fr' hs ho =>
    obtain ⟨rfl, rfl⟩ := same hg
    have hev : ∀ e ∈ (#[evM (.releaseMerge (cel p.gb 0))] : Array Event), EvA p i M.own M.x e := evA_one (evA_mark (.inr (.inr (.inl rfl))))
    refine ⟨fr', cs, w, _, _, hs w, H.wact hD hgi hgm hs' hl (hgo _ _ _ ho) (.refl w) hev rfl (own' := M.own) (x' := M.x) ?_, mu_wrk hlt hD (sub rfl) rfl⟩
    exact Hp.late hgd hK (WS.live (fun e => (by cases e)) (fun e => (by cases e))) hf₀ (.refl w) hev hgrp ((hmode.same hL (by rw [eL]; rfl) rfl).wakes _) rfl rfl rfl rfl (fun _ => ⟨t.size, Reld.new hdf'⟩)
  | dis p hg fr' hs ho =>
    obtain ⟨rfl, rfl⟩ := same hg
    have hev : ∀ e ∈ (#[evM .disable] : Array Event), EvA p i M.own M.x e := evA_one (evA_mark (.inl rfl))
    obtain ⟨r, hr⟩ := done trivial
    refine ⟨fr', cs, w, _, _, hs w, H.wact hD hgi hgm hs' hl (hgo _ _ _ ho) (.refl w) hev rfl (own' := M.own) (x' := M.x) ?_, mu_wrk hlt hD (sub rfl) rfl⟩
    exact Hp.late hgd hK (WS.live (fun e => (by cases e)) (fun e => (by cases e))) hf₀ (.refl w) hev hgrp ((hmode.same hL (by rw [eL]; rfl) rfl).wakes _) rfl rfl rfl rfl (fun _ => ⟨r, hr.mine fun j e he => .inl (by rw [at_one he]; rfl)⟩)
  | down p hg hs =>
    obtain ⟨rfl, rfl⟩ := same hg
    obtain ⟨hsm, v, wt, hwt, hv, hst', hmode'⟩ := hmode.down hL eL
    subst hsm
    rw [hst'] at hgrp
    obtain ⟨fr', hst, ho⟩ := hs w v wt hwt (by omega) hgrp
    have hev := evA_rw (p := p) (g := i) (own := M.own) (x := M.x) (k := 0) (.inl rfl : p.gb = p.gb ∨ p.gb = p.cb)
    obtain ⟨r, hr⟩ := done trivial
    have hrel : ∃ r, Reld p (t ++ MemOp.ofEvents i fn pos #[evR (cel p.gb 0), evW (cel p.gb 0)]) i r := ⟨r, hr.mine fun j e he => .inr ⟨by
        have := Array.mem_of_getElem? he
        simp at this
        rcases this with rfl | rfl
        · exact ⟨0, false, rfl⟩
        · exact ⟨0, true, rfl⟩, by rw [deafBehind_cell _ (cells_extract (cellsRW _ _) j), hdf']; exact Nat.one_pos⟩⟩
    have hd1 : deafBehind (deafW .dea) #[evR (cel p.gb 0), evW (cel p.gb 0)] = 1 := deafBehind_cell _ (cellsRW _ _)
    by_cases hlast : v = 0 ∧ wt = 1
    · rw [if_pos hlast] at ho hmode'
      refine ⟨fr', cs, _, _, _, hst, H.wact hD hgi hgm hs' hl (hgo _ _ _ ho) (.set _ (.inl rfl)) hev hd1 (own' := M.own) (x' := M.x) ?_, mu_wrk hlt hD (sub rfl) rfl⟩
      exact Hp.late hgd hK (WS.live (fun e => (by cases e)) (fun e => (by cases e))) hf₀ (.set _ (.inl rfl)) hev (grp_set0 hgrp _) (hmode'.wakes _) (set_ne _ (Ne.symm Hp.st.gc)) (set_ne _ (Ne.symm Hp.st.gr)) rfl rfl (fun _ => hrel)
    · rw [if_neg hlast] at ho hmode'
      obtain ⟨n, hq⟩ := (quits_of _ _ _ _ (hgo _ _ _ ho)).1 rfl
      refine ⟨fr', cs, _, _, _, hst, H.wout hD hgi hgm hs' hq (.set _ (.inl rfl)) hev hd1 (own' := M.own) (x' := M.x) ?_, mu_out hlt hD⟩
      exact Hp.late hgd hK (fun z e => (by cases e)) (fun f₁ e => (by cases e)) (.set _ (.inl rfl)) hev (grp_set0 hgrp _) (hmode'.wakes _) (set_ne _ (Ne.symm Hp.st.gc)) (set_ne _ (Ne.symm Hp.st.gr)) rfl rfl (fun _ => hrel)
  | last1 p hg hs =>
    obtain ⟨rfl, rfl⟩ := same hg
    obtain ⟨rfl, rfl, hjw, hS, hother⟩ := hmode.lastOf hL (.inl eL)
    have hst1 : st = 1 := by rcases hS with ⟨_, e⟩ | ⟨e, _⟩ | ⟨e, _⟩ <;> first | exact e | (rw [eL] at e; cases e)
    subst hst1
    obtain ⟨fr', hst, ho⟩ := hs w hgrp
    have hev : ∀ e ∈ (#[evR (cel p.gb 0)] : Array Event), EvA p i M.own M.x e := evA_one (evA_cell (.inl rfl))
    have hcell : ∀ e ∈ (#[evR (cel p.gb 0)] : Array Event), ∃ a wr, e = ⟨.cell a, wr, true⟩ := fun e he => by simp at he; subst he; exact ⟨_, _, rfl⟩
    obtain ⟨r, hr⟩ := done trivial
    refine ⟨fr', cs, w, _, _, hst, H.wact hD hgi hgm hs' hl (hgo _ _ _ ho) (.refl w) hev (deafBehind_cell _ hcell) (own' := M.own) (x' := M.x) ?_, mu_wrk hlt hD (sub rfl) rfl⟩
    refine Hp.late hgd hK (WS.live (fun e => (by cases e)) (fun e => (by cases e))) hf₀ (.refl w) hev hgrp (.last (i - M.b0) hL hjw (.inr (.inl ⟨setK_same _ _ _, rfl⟩)) fun k hk hne => by rw [setK_ne _ _ hne]; exact hother k hk hne) rfl rfl rfl rfl
      (fun _ => ⟨r, hr.mine fun j e he => .inr ⟨⟨0, false, at_one he⟩, by rw [deafBehind_cell _ (cells_extract hcell j), hdf']; exact Nat.one_pos⟩⟩)
  | last2 p hg hs =>
    obtain ⟨rfl, rfl⟩ := same hg
    obtain ⟨rfl, rfl, hjw, hS, hother⟩ := hmode.lastOf hL (.inr (.inl eL))
    have hst1 : st = 1 := by rcases hS with ⟨e, _⟩ | ⟨_, e⟩ | ⟨e, _⟩ <;> first | exact e | (rw [eL] at e; cases e)
    subst hst1
    obtain ⟨fr', hst, ho⟩ := hs w hgrp
    have hev : ∀ e ∈ (#[evW (cel p.gb 0)] : Array Event), EvA p i M.own M.x e := evA_one (evA_cell (.inl rfl))
    have hcell : ∀ e ∈ (#[evW (cel p.gb 0)] : Array Event), ∃ a wr, e = ⟨.cell a, wr, true⟩ := fun e he => by simp at he; subst he; exact ⟨_, _, rfl⟩
    obtain ⟨r, hr⟩ := done trivial
    refine ⟨fr', cs, _, _, _, hst, H.wact hD hgi hgm hs' hl (hgo _ _ _ ho) (.set _ (.inl rfl)) hev (deafBehind_cell _ hcell) (own' := M.own) (x' := M.x) ?_, mu_wrk hlt hD (sub rfl) rfl⟩
    refine Hp.late hgd hK (WS.live (fun e => (by cases e)) (fun e => (by cases e))) hf₀ (.set _ (.inl rfl)) hev (grp_set0 hgrp _) (.last (i - M.b0) hL hjw (.inr (.inr ⟨setK_same _ _ _, rfl⟩)) fun k hk hne => by rw [setK_ne _ _ hne]; exact hother k hk hne) (set_ne _ (Ne.symm Hp.st.gc)) (set_ne _ (Ne.symm Hp.st.gr)) rfl rfl
      (fun _ => ⟨r, hr.mine fun j e he => .inr ⟨⟨0, true, at_one he⟩, by rw [deafBehind_cell _ (cells_extract hcell j), hdf']; exact Nat.one_pos⟩⟩)
  | last3 p hg hm hs =>
    obtain ⟨rfl, rfl⟩ := same hg
    obtain ⟨rfl, rfl, hjw, hS, hother⟩ := hmode.lastOf hL (.inr (.inr eL))
    have hst1 : st = 0 := by rcases hS with ⟨e, _⟩ | ⟨e, _⟩ | ⟨_, e⟩ <;> first | exact e | (rw [eL] at e; cases e)
    subst hst1
    obtain ⟨fr', hst, ho⟩ := hs w hgrp
    obtain ⟨r, hr⟩ := done trivial
    obtain ⟨n, hq⟩ := (quits_of _ _ _ _ (hgo _ _ _ ho)).1 rfl
    have hd1 : deafBehind (deafW .last3) (semEvents (cel p.gb 1)) = 1 := by simp [semEvents, deafBehind, deafW]
    refine ⟨fr', cs, _, _, _, hst, H.wout hD hgi hgm hs' hq (.set _ (.inl rfl)) evA_sem hd1 (own' := M.own) (x' := M.x) ?_, mu_out hlt hD⟩
    refine Hp.late hgd hK (fun z e => (by cases e)) (fun f₁ e => (by cases e)) (.set _ (.inl rfl)) evA_sem (grp_set1 hgrp _) ?_ (set_ne _ (Ne.symm Hp.st.gc)) (set_ne _ (Ne.symm Hp.st.gr)) rfl rfl
      (fun _ => ⟨r, hr.mine fun j e he => ?_⟩)
    · rw [hm]
      simp only [Bool.not_true, Bool.and_false]
      refine .sema hjw fun k hk => ?_
      by_cases e : k = i - M.b0
      · subst e; exact setK_same _ _ _
      · rw [setK_ne _ _ e]; exact hother k hk e
    · have hj4 : j < 4 := by
        have := (Array.getElem?_eq_some_iff.1 he).1
        simpa [semEvents] using this
      rw [hdf']
      match j, hj4 with
      | 0, _ => simp [semEvents] at he; subst he; exact .inl rfl
      | 1, _ => simp [semEvents] at he; subst he; exact .inr ⟨⟨1, false, rfl⟩, by simp [semEvents, deafBehind, deafW]⟩
      | 2, _ => simp [semEvents] at he; subst he; exact .inr ⟨⟨1, true, rfl⟩, by simp [semEvents, deafBehind, deafW]⟩
      | 3, _ => simp [semEvents] at he; subst he; exact .inl rfl
  | en p hg fr' hs ho =>
    obtain ⟨rfl, rfl⟩ := same hg
    exact absurd rfl hs1
end
end KL
end Go.Proofs.YtlmecmapkijcnaaDoor

set_option linter.unusedVariables false
namespace Go.Proofs.YtlmecmapkijcnaaDoor
namespace KL
open Go.Conc
open Go.ConcN (sumTo)
open Go.ConcR (g_of_ofEvents)

section
variable {P : Program} {R : Value → Prop} {N0 : Nat} {W : World} {M : Gst} {gs : Array Goroutine} {w w' : World} {t : Trace} {h h' h₀ : Know} {t' : Tr} {p : Ph} {s s' : SS} {es : Array Event} {fn : FuncId} {pos : String}
  {fr fr' : Frame} {cs cs' : List Frame}

/-- What comes of the starter's step. -/
def SteppedM (P : Program) (R : Value → Prop) (N0 : Nat) (W : World) (M : Gst) (gs : Array Goroutine) (w : World) (t : Trace) : Prop :=
  ∀ sl, ∃ M' gs' w' ops, runT P (crowd gs w sl) 0 = (.next (crowd gs' w' sl), ops) ∧ Inv P R N0 W M' gs' w' (t ++ ops) ∧ MuLt (M'.mu gs'.size) (M.mu gs.size)

theorem mu_own {N N' : Nat} {D : Nat → Option (Know × Tr)} {q : Nat → Nat} {bl : Bool} {own : Nat → Nat} {x b0 j : Nat} (hs : Sub t' M.t0) : MuLt (Gst.mu ⟨D, q, h', t', bl, own, x, b0, j⟩ N') (M.mu N) := .left _ _ hs

theorem steppedM_go (h0 : gs[0]? = some (G fr cs)) (hst : stepG P true (G fr cs) w = .go (G fr' cs') w' es) {M' : Gst}
    (H : Inv P R N0 W M' ((gs.map (woken P (G fr cs) (G fr' cs') w')).setIfInBounds 0 (G fr' cs')) w' (t ++ MemOp.ofEvents 0 (G fr cs).frame.fn (G fr cs).frame.place es)) (hm : ∀ N N', MuLt (M'.mu N') (M.mu N)) : SteppedM P R N0 W M gs w t :=
  fun sl => ⟨M', _, w', _, runT_crowd_go (P := P) (sl := sl) (i := 0) h0 hst, H, hm _ _⟩

/-- A step over what it owns. -/
theorem Inv.mstep (H : Inv P R N0 W M gs w t) (hbl : M.bl = false) (k : KStep M.h0 w h' w' es) (hg : GoesT actsM P true (StopM P R) t' fr' cs' h') :
    Inv P R N0 W ⟨M.D, M.q, h', t', false, M.own, M.x, M.b0, M.j⟩ ((gs.map (woken P (G fr cs) (G fr' cs') w')).setIfInBounds 0 (G fr' cs')) w' (t ++ MemOp.ofEvents 0 fn pos es) := by
  have hsz : ((gs.map (woken P (G fr cs) (G fr' cs') w')).setIfInBounds 0 (G fr' cs')).size = gs.size := by simp
  obtain ⟨o1, o2, o3⟩ := ops_priv (g := 0) (fn := fn) (pos := pos) k
  refine ⟨H.go.own hg (by rw [o3, k.gh]), ?_, ?_⟩
  · rw [K_own (M := M), hsz]
    exact H.wo.priv M_K0 H.go.lt k
  · have hp := H.ph
    unfold PhI at hp ⊢
    rw [show (Gst.h0 ⟨M.D, M.q, h', t', false, M.own, M.x, M.b0, M.j⟩) = h' from rfl, k.gh]
    cases hgm : M.h0.gh with
    | idle =>
      rw [hgm] at hp
      refine ⟨hp.none, rfl, fun i g hgi hne hc => ?_⟩
      rcases g?_cases hgi with ⟨hi, hgi'⟩ | ⟨op, hop, _, e⟩
      · exact (hp.over i g hgi' hne ((counts_old hi).1 hc)).app _
      · rw [o1.g op hop] at e; exact absurd e.symm hne
    | main p s =>
      rw [hgm] at hp
      show PhM p s N0 M.Gd (Gst.K ⟨_, _, _, _, _, _, _, _, _⟩) M.own M.x M.b0 M.j false _ w' _
      rw [K_own (M := M), hsz]
      rw [hbl] at hp
      exact hp.priv H.wo M_K0 k fun hr => by have := hr.1; have := hp.b1; omega
    | wrk p s => rw [hgm] at hp; exact hp.elim

/-- An act while the phase lasts. -/
theorem Inv.mact (H : Inv P R N0 W M gs w t) (hg : M.h0.gh = .main p s) (hl : h₀.le M.h0) (hgo : GoesT actsM P true (StopM P R) t' fr' cs ⟨h₀.blk, .main p s'⟩) (T : Turned p w w') (hes : ∀ e ∈ es, EvA p 0 M.own M.x e) (hd : deafBehind (deafS s) es = deafS s')
    {st' sm' : Int} (hgrp : Grp p w' st' sm') (hmode : Mode p.W M.j (SG M.b0 M.Gd) s' false st' sm') (hcb : w'.heap[p.cb]? = w.heap[p.cb]?) (hrb : w'.heap[p.rb]? = w.heap[p.rb]?) :
    Inv P R N0 W ⟨M.D, M.q, ⟨h₀.blk, .main p s'⟩, t', false, M.own, M.x, M.b0, M.j⟩ ((gs.map (woken P (G fr cs) (G fr' cs) w')).setIfInBounds 0 (G fr' cs)) w' (t ++ MemOp.ofEvents 0 fn pos es) := by
  have hsz : ((gs.map (woken P (G fr cs) (G fr' cs) w')).setIfInBounds 0 (G fr' cs)).size = gs.size := by simp
  have Hp := H.ph.main hg
  refine ⟨H.go.own hgo (by rw [hg]; exact hd), ?_, PhI.mk (p := p) (s := s') rfl ?_⟩
  · rw [K_own (M := M), hsz]
    exact H.wo.act Hp M_K0 H.go.lt (fun b z e => hl b z e) T hes
  · show PhM p s' N0 M.Gd (Gst.K ⟨_, _, _, _, _, _, _, _, _⟩) M.own M.x M.b0 M.j false _ w' _
    rw [K_own (M := M), hsz]
    exact Hp.own0 M_K0 (fun b z e => hl b z e) T hes hgrp hmode hcb hrb

theorem Mode.block {W j : Nat} {S : Nat → WS} {bl : Bool} {st : Int} (h : Mode W j S .w3 bl st 0) : Mode W j S .w3 true st 0 := by
  cases h with
  | reg hj hb h1 => exact .reg hj hb h1
  | last L hL hj hS ho => exact .last L hL hj hS ho
  | fin hs _ _ => rcases hs with e | e | e <;> cases e

theorem Mode.finOf {W j : Nat} {S : Nat → WS} {s : SS} {bl : Bool} {st sm : Int} (h : Mode W j S s bl st sm) (hs : s = .w4 ∨ s = .fin ∨ s = .fin2) : j = W ∧ (∀ k, k < j → S k = .quit) ∧ st = 0 ∧ sm = 0 := by
  cases h with
  | fin _ hj hq => exact ⟨hj, hq, rfl, rfl⟩
  | _ => rcases hs with e | e | e <;> cases e

/-- .. with fewer that are there. -/
theorem TP.less {b0 : Nat} {K K' : Nat → Option Blk} {own : Nat → Nat} {x : Nat} {Rel : Nat → Prop} (h : TP t p b0 K own x Rel) (hK : ∀ g f, K' g = some f → ∃ f', K g = some f') : TP t p b0 K' own x Rel :=
  ⟨fun i a b ha hb hbb => (h.atom i a b ha hb hbb).imp id fun z g f hf => let ⟨f', e⟩ := hK g f hf; z g f' e, fun i a ha hb => (h.row i a ha hb).imp (fun z g f hf => let ⟨f', e⟩ := hK g f hf; z g f' e) id, h.home, h.old,
    fun i a b y ha hb hy hw g f hf => let ⟨f', e⟩ := hK g f hf; h.rd i a b y ha hb hy hw g f' e, h.done⟩
/-- The trace's part with fewer that have released. -/
theorem TP.rel {b0 : Nat} {K : Nat → Option Blk} {own : Nat → Nat} {x : Nat} {Rel Rel' : Nat → Prop} (h : TP t p b0 K own x Rel) (hr : ∀ g, Rel' g → Rel g) : TP t p b0 K own x Rel' :=
  ⟨h.atom, h.row, h.home, h.old, h.rd, fun g e => h.done g (hr g e)⟩

/-- The phase begins. -/
theorem Inv.mopn (H : Inv P R N0 W M gs w t) (hg : M.h0.gh = .idle) (hl : h₀.le M.h0) (hp : Opens p h₀) (hgo : GoesT actsM P true (StopM P R) t' fr' cs ⟨openB p h₀.blk, .main p (.add1 0)⟩) :
    Inv P R N0 W ⟨M.D, M.q, ⟨openB p h₀.blk, .main p (.add1 0)⟩, t', false, fun _ => 0, 0, gs.size, 0⟩ ((gs.map (woken P (G fr cs) (G fr' cs) w)).setIfInBounds 0 (G fr' cs)) w (t ++ MemOp.ofEvents 0 fn pos #[evM .disable]) := by
  have hsz : ((gs.map (woken P (G fr cs) (G fr' cs) w)).setIfInBounds 0 (G fr' cs)).size = gs.size := by simp
  have hi : Idle M t := by have := H.ph; unfold PhI at this; rw [hg] at this; exact this
  have hK0 : ∀ g f, M.K g = some f → g = 0 ∧ f = M.h0.blk := by
    intro g f hf
    by_cases e : g = 0
    · subst e; rw [M_K0] at hf; exact ⟨rfl, (Option.some.inj hf).symm⟩
    · simp [Gst.K, e, hi.none] at hf
  have hL : ∀ b y, h₀.blk b = some y → M.h0.blk b = some y := fun b y e => hl b y e
  have hB : ∀ b y, p.back b = some y → h₀.blk b = some y := hp.back
  -- what it keeps
  have keeps : ∀ b m o, openB p h₀.blk b = some (m, o) → ∃ m', h₀.blk b = some (m', o) ∧ (m = true → m' = true) := by
    intro b m o e
    unfold openB at e
    split at e
    · cases e
    · cases hb : p.back b with
      | none => rw [hb] at e; exact ⟨m, e, id⟩
      | some y =>
        rw [hb] at e
        simp only [Option.some.injEq, Prod.mk.injEq] at e
        obtain ⟨rfl, rfl⟩ := e
        exact ⟨y.1, hB b y hb, fun e => (by cases e)⟩
  have hfree : openB p h₀.blk p.gb = none ∧ openB p h₀.blk p.cb = none ∧ openB p h₀.blk p.rb = none := by simp [openB]
  have sub : ∀ g f', setK M.K 0 (some (openB p h₀.blk)) g = some f' → g = 0 ∧ f' = openB p h₀.blk := by
    intro g f' hf'
    by_cases e : g = 0
    · subst e; rw [setK_same] at hf'; exact ⟨rfl, (Option.some.inj hf').symm⟩
    · rw [setK_ne _ _ e] at hf'; exact absurd (hK0 g f' hf').1 e
  have hh : ∀ b m o, h₀.blk b = some (m, o) → w.heap[b]? = some o := fun b m o e => H.wo.hold 0 _ b m o M_K0 (hL b _ e)
  have Hw : Wo N0 W (setK M.K 0 (some (openB p h₀.blk))) gs.size w t := by
    refine ⟨fun g f b m o hf hb => ?_, ⟨fun g₁ f₁ g₂ f₂ b o hne h1 h2 hb => ?_, fun g f b y hf hb => ?_⟩, H.wo.tr.less fun g f' hf' => ?_, H.wo.since, fun g f b o hf hb => ?_⟩
    · obtain ⟨rfl, rfl⟩ := sub g f hf
      obtain ⟨m', e, _⟩ := keeps b m o hb
      exact hh b m' o e
    · exact absurd ((sub g₁ f₁ h1).1.trans (sub g₂ f₂ h2).1.symm) hne
    · obtain ⟨rfl, rfl⟩ := sub g f hf
      obtain ⟨m, o⟩ := y
      obtain ⟨m', e, _⟩ := keeps b m o hb
      exact lt_of_heap (hh b m' o e)
    · obtain ⟨rfl, rfl⟩ := sub g f' hf'
      refine ⟨_, M_K0, fun b m o e => ?_⟩
      obtain ⟨m', e', hm⟩ := keeps b m o e
      exact ⟨m', o, hL b _ e', hm⟩
    · obtain ⟨rfl, rfl⟩ := sub g f hf
      obtain ⟨m', e', hm⟩ := keeps b true o hb
      rw [hm rfl] at e'
      exact H.wo.fresh 0 _ b o M_K0 (hL b _ e')
  obtain ⟨row, hr1, hr2⟩ := hp.rb
  have hP : Stat p N0 := ⟨hp.W, hp.W8, hp.n, hp.ngb, hp.ncb, hp.nrb, hp.gc, hp.gr, hp.cr, H.wo.fresh 0 _ _ _ M_K0 (hL _ _ hp.gb), H.wo.fresh 0 _ _ _ M_K0 (hL _ _ hp.cb), H.wo.fresh 0 _ _ _ M_K0 (hL _ _ hr1)⟩
  have hG : ∀ i, M.Gd i = none := fun i => by simp [Gst.Gd, hi.none]
  have tp0 : TP t p gs.size (setK M.K 0 (some (openB p h₀.blk))) (fun _ => 0) 0 (fun _ => False) := by
    have hT : TR t w.heap.size gs.size (setK M.K 0 (some h₀.blk)) := H.wo.tr.less fun g f' hf' => by
      by_cases e : g = 0
      · subst e; rw [setK_same] at hf'; obtain rfl := Option.some.inj hf'; exact ⟨_, M_K0, fun b m o e => ⟨m, o, hL b _ e, id⟩⟩
      · rw [setK_ne _ _ e] at hf'; exact absurd (hK0 g f' hf').1 e
    refine TP.opn (f := h₀.blk) hT (fun g f hf => ?_) (setK_same _ _ _) hi.over ⟨h₀.gh, hp⟩ (fun g f' hf' => (sub g f' hf').1)
    by_cases e : g = 0
    · exact e
    · rw [setK_ne _ _ e] at hf; exact absurd (hK0 g f hf).1 e
  have Hp : PhM p (.add1 0) N0 M.Gd (setK M.K 0 (some (openB p h₀.blk))) (fun _ => 0) 0 gs.size 0 false gs.size w t := by
    refine ⟨rfl, H.go.lt, fun i g e => (by rw [hG] at e; cases e), fun g f hf => .inl (sub g f hf).1, hP, fun g f hf => by rw [(sub g f hf).2]; exact hfree, fun b y hy => ⟨hh b y.1 y.2 (hB b y hy), fun e => ?_⟩, fun g f b y m o hf hy hb => ?_, ⟨0, 0, hh _ _ _ hp.gb, ?_⟩, hh _ _ _ hp.cb,
      ⟨row, ⟨hh _ _ _ hr1, hr2⟩, fun i _ hx => absurd hx (Nat.not_lt_zero _)⟩, fun g i e => (by rw [hG] at e; cases e), fun g c e => (by rw [hG] at e; cases e), Nat.zero_le _, fun k hk => absurd hk (Nat.not_lt_zero _), tp0.rel fun g hr => ?_⟩
    · have := hB b y hy
      refine H.wo.fresh 0 _ b y.2 M_K0 (hL b _ ?_)
      rw [← e]; exact this
    · rw [(sub g f hf).2] at hb
      unfold openB at hb
      split at hb
      · cases hb
      · rw [hy] at hb
        simp only [Option.some.injEq, Prod.mk.injEq] at hb
        exact hb.1.symm
    · have := @Mode.add1 p.W 0 (SG gs.size M.Gd) hp.W (fun k hk => absurd hk (Nat.not_lt_zero _))
      simpa [VV, sumTo] using this
    · have := hr.1; have := hr.2.1; omega
  have hev : ∀ e ∈ (#[evM .disable] : Array Event), EvA p 0 (fun _ => 0) 0 e := evA_one (evA_mark (.inl rfl))
  have hKK : setK (setK M.K 0 (some (openB p h₀.blk))) 0 (some (openB p h₀.blk)) = setK M.K 0 (some (openB p h₀.blk)) := setK_setK _ _ _ _
  refine ⟨H.go.own hgo (by rw [hg]; rfl), ?_, PhI.mk (p := p) (s := .add1 0) rfl ?_⟩
  · rw [K_own (M := M), hsz, ← hKK]
    exact Hw.act Hp (setK_same _ _ _) H.go.lt (fun b z e => e) (.refl w) hev
  · show PhM p (.add1 0) N0 M.Gd (Gst.K ⟨_, _, _, _, _, _, _, _, _⟩) (fun _ => 0) 0 gs.size 0 false _ w _
    rw [K_own (M := M), hsz, ← hKK]
    obtain ⟨st, sm, h1, h2⟩ := Hp.grp
    exact Hp.own0 (setK_same _ _ _) (fun b z e => e) (.refl w) hev h1 h2 rfl rfl

theorem finRow_get (p : Ph) (row : Array Value) (hs : row.size = p.m * p.n) (h : ∀ i, i < p.n → ∀ k, k < p.m → row[p.m * i + k]? = some (p.fin (p.m * i + k))) : row = finRow p := by
  apply Array.ext_getElem?
  intro j
  unfold finRow
  rcases Nat.lt_or_ge j (p.m * p.n) with hj | hj
  · have hm : 0 < p.m := by
      rcases Nat.eq_zero_or_pos p.m with e | e
      · rw [e] at hj; simp at hj
      · exact e
    have e1 : p.m * (j / p.m) + j % p.m = j := Nat.div_add_mod j p.m
    have e2 : j / p.m < p.n := (Nat.div_lt_iff_lt_mul hm).2 (by rw [Nat.mul_comm]; exact hj)
    have := h (j / p.m) e2 (j % p.m) (Nat.mod_lt _ hm)
    rw [e1] at this
    rw [this]; simp [hj]
  · rw [Array.getElem?_eq_none (by omega), Array.getElem?_eq_none (by simp; omega)]

/-- The phase ends. -/
theorem Inv.macq (H : Inv P R N0 W M gs w t) (hg : M.h0.gh = .main p .fin2) (hl : h₀.le M.h0) (hgo : GoesT actsM P true (StopM P R) t' fr' cs ⟨shutB p h₀.blk, .idle⟩) :
    Inv P R N0 W ⟨M.D, M.q, ⟨shutB p h₀.blk, .idle⟩, t', false, M.own, M.x, M.b0, M.j⟩ ((gs.map (woken P (G fr cs) (G fr' cs) w)).setIfInBounds 0 (G fr' cs)) w (t ++ MemOp.ofEvents 0 fn pos #[evM (.acquire (cel p.gb 0))]) := by
  have hsz : ((gs.map (woken P (G fr cs) (G fr' cs) w)).setIfInBounds 0 (G fr' cs)).size = gs.size := by simp
  have Hp := H.ph.main hg
  obtain ⟨st, sm, hgrp, hmode⟩ := Hp.grp
  have hq : M.j = p.W ∧ ∀ k, k < M.j → SG M.b0 M.Gd k = .quit := let ⟨h1, h2, _⟩ := hmode.finOf (.inr (.inr rfl)); ⟨h1, h2⟩
  have hnone : ∀ i, M.D i = none := by
    intro i
    cases hD : M.D i with
    | none => rfl
    | some y =>
      exfalso
      obtain ⟨h1, h2, s', h3, h4, h5⟩ := Hp.lv i _ (M_Gdi hD)
      have := hq.2 (i - M.b0) (by have := Hp.size; omega)
      unfold SG at this
      rw [show M.b0 + (i - M.b0) = i by omega, M_Gdi hD, h3] at this
      exact h5 this
  have hL : ∀ b y, h₀.blk b = some y → M.h0.blk b = some y := fun b y e => hl b y e
  have sub : ∀ g f', setK M.K 0 (some (shutB p h₀.blk)) g = some f' → g = 0 ∧ f' = shutB p h₀.blk := by
    intro g f' hf'
    by_cases e : g = 0
    · subst e; rw [setK_same] at hf'; exact ⟨rfl, (Option.some.inj hf').symm⟩
    · rw [setK_ne _ _ e] at hf'; simp [Gst.K, e, hnone] at hf'
  obtain ⟨row, hr1, hr2⟩ := Hp.row
  have hxn : p.n ≤ M.x := Hp.full 0 (by have := Hp.st.W1; have := hq.1; omega) (by rw [hq.2 0 (by have := Hp.st.W1; have := hq.1; omega)]; rfl)
  have hrow : row = finRow p := finRow_get p row hr1.2 fun i hi k hk => hr2 i hi (by omega) (fun g e => by simp [Gst.Gd, hnone] at e) k hk
  have hd0 : Deaf t 0 = 0 := by rw [H.go.deaf, hg]; rfl
  have e1 : MemOp.ofEvents 0 fn pos #[evM (.acquire (cel p.gb 0))] = #[{ g := 0, fn, pos, act := .mark (.acquire (cel p.gb 0)) }] := by rw [ofEvents_eq]; simp [evM, MemAct.ofEvent]
  have hT : TR t w.heap.size gs.size (setK M.K 0 (some h₀.blk)) := H.wo.tr.less fun g f' hf' => by
    by_cases e : g = 0
    · subst e; rw [setK_same] at hf'; obtain rfl := Option.some.inj hf'; exact ⟨_, M_K0, fun b m o e => ⟨m, o, hL b _ e, id⟩⟩
    · rw [setK_ne _ _ e] at hf'; exact ⟨f', hf', fun b m o e => ⟨m, o, e, id⟩⟩
  have tp' := Hp.tp.less (K' := setK M.K 0 (some h₀.blk)) fun g f hf => by
    by_cases e : g = 0
    · subst e; exact ⟨_, M_K0⟩
    · rw [setK_ne _ _ e] at hf; exact ⟨f, hf⟩
  obtain ⟨tr', over⟩ := tp'.shut (f := h₀.blk) (K' := setK M.K 0 (some (shutB p h₀.blk))) (N := gs.size) (B := w.heap.size) (y := { g := 0, fn, pos, act := .mark (.acquire (cel p.gb 0)) }) hT (by rw [setK_same]) (by have := Hp.b1; omega) ⟨rfl, rfl⟩ Hp.lts.1 H.go.lt hd0
    (fun g h1 h2 => ⟨h1, h2, by
      have := hq.2 (g - M.b0) (by have := Hp.size; omega)
      unfold SG at this
      rw [show M.b0 + (g - M.b0) = g by omega] at this
      rw [this]; trivial⟩) Hp.st.gr Hp.st.ngb sub
  refine ⟨H.go.own hgo (by rw [hg]; rfl), ?_, ?_⟩
  · rw [K_own (M := M), hsz, e1]
    have opened : ∀ b m o, shutB p h₀.blk b = some (m, o) → w.heap[b]? = some o ∧ (m = true → N0 ≤ b) := by
      intro b m o e
      unfold shutB at e
      by_cases hb : b = p.rb
      · rw [if_pos hb] at e
        simp only [Option.some.injEq, Prod.mk.injEq] at e
        obtain ⟨rfl, rfl⟩ := e
        rw [hb, ← hrow]
        exact ⟨hr1.1, fun _ => Hp.st.rN⟩
      · rw [if_neg hb] at e
        cases hk : p.back b with
        | none => rw [hk] at e; exact ⟨H.wo.hold 0 _ b m o M_K0 (hL b _ e), fun hm => by subst hm; exact H.wo.fresh 0 _ b o M_K0 (hL b _ e)⟩
        | some z =>
          rw [hk] at e
          simp only [Option.some.injEq] at e
          subst e
          exact Hp.backw b _ hk
    refine ⟨fun g f b m o hf hb => ?_, ⟨fun g₁ f₁ g₂ f₂ b o hne h1 h2 hb => ?_, fun g f b y hf hb => ?_⟩, tr', H.wo.since, fun g f b o hf hb => ?_⟩
    · rw [(sub g f hf).2] at hb; exact (opened b m o hb).1
    · exact absurd ((sub g₁ f₁ h1).1.trans (sub g₂ f₂ h2).1.symm) hne
    · rw [(sub g f hf).2] at hb; obtain ⟨m, o⟩ := y; exact lt_of_heap (opened b m o hb).1
    · rw [(sub g f hf).2] at hb; exact (opened b true o hb).2 rfl
  · rw [hsz, e1]
    show Idle _ _
    exact ⟨hnone, rfl, over⟩
end
end KL
end Go.Proofs.YtlmecmapkijcnaaDoor

set_option linter.unusedVariables false
namespace Go.Proofs.YtlmecmapkijcnaaDoor
namespace KL
open Go.Conc
open Go.ConcN (sumTo)
open Go.ConcR (g_of_ofEvents)

section
variable {P : Program} {R : Value → Prop} {N0 : Nat} {W : World} {M : Gst} {gs : Array Goroutine} {w w' : World} {t : Trace} {h h' h₀ : Know} {t' : Tr} {p : Ph} {s s' : SS} {es : Array Event} {fn : FuncId} {pos : String}
  {fr fr' : Frame} {cs cs' : List Frame}

/-- A worker is started. -/
theorem Inv.mgo (H : Inv P R N0 W M gs w t) {j : Nat} (hg : M.h0.gh = .main p (.go j)) (hl : h₀.le M.h0) {ch : Frame} {tc : Tr} (hgo : GoesT actsM P true (StopM P R) t' fr' cs ⟨h₀.blk, .main p (.add (j + 1))⟩) (hgc : GoesT actsW P false (StopW P) tc ch [] (startW p))
    {x y : MemOp} (hx : x.g = 0 ∧ x.act = .go gs.size) (hy : y.g = gs.size ∧ y.act = .start) :
    Inv P R N0 W ⟨setK M.D gs.size (some (startW p, tc)), M.q, ⟨h₀.blk, .main p (.add (j + 1))⟩, t', false, M.own, M.x, M.b0, M.j + 1⟩ ((gs.setIfInBounds 0 (G fr' cs)).push (G ch [])) w (t ++ #[x, y]) := by
  have hNp := H.go.lt
  have hsz : ((gs.setIfInBounds 0 (G fr' cs)).push (G ch [])).size = gs.size + 1 := by simp
  have Hp := H.ph.main hg
  have hL : ∀ b y, h₀.blk b = some y → M.h0.blk b = some y := fun b y e => hl b y e
  obtain ⟨st, sm, hgrp, hmode⟩ := Hp.grp
  have hNn : M.K gs.size = none := by
    cases e : M.K gs.size with
    | none => rfl
    | some f =>
      exfalso
      cases hD : M.D gs.size with
      | none => simp [Gst.K, hD, show gs.size ≠ 0 by omega] at e
      | some y => obtain ⟨_, h2, _⟩ := Hp.lv _ _ (M_Gdi hD); omega
  have eK : Gst.K ⟨setK M.D gs.size (some (startW p, tc)), M.q, ⟨h₀.blk, .main p (.add (j + 1))⟩, t', false, M.own, M.x, M.b0, M.j + 1⟩ = setK (setK M.K 0 (some h₀.blk)) gs.size (some (startW p).blk) := by
    funext g
    unfold Gst.K setK
    by_cases e : g = gs.size
    · subst e; simp [show gs.size ≠ 0 by omega]
    · by_cases e0 : g = 0
      · subst e0; simp [Ne.symm (show gs.size ≠ 0 by omega)]
      · simp [e, e0]
  have eG : Gst.Gd ⟨setK M.D gs.size (some (startW p, tc)), M.q, ⟨h₀.blk, .main p (.add (j + 1))⟩, t', false, M.own, M.x, M.b0, M.j + 1⟩ = setK M.Gd gs.size (some (.wrk p (.run 0))) := by
    rw [Gd_wrk]; rfl
  have K0sub : ∀ g f, setK M.K 0 (some h₀.blk) g = some f → ∃ f', M.K g = some f' ∧ ∀ b y, f b = some y → f' b = some y := by
    intro g f hf
    by_cases e : g = 0
    · subst e; rw [setK_same] at hf; obtain rfl := Option.some.inj hf; exact ⟨_, M_K0, hL⟩
    · rw [setK_ne _ _ e] at hf; exact ⟨f, hf, fun _ _ z => z⟩
  have Hw := H.wo.less K0sub
  have child : ∀ b m o, (startW p).blk b = some (m, o) → m = false ∧ ∃ z, p.back b = some z ∧ z.2 = o := by
    intro b m o e
    simp only [startW, Option.map_eq_some_iff, Prod.mk.injEq] at e
    obtain ⟨z, hz, rfl, rfl⟩ := e
    exact ⟨rfl, z, hz, rfl⟩
  have cases' : ∀ g f, setK (setK M.K 0 (some h₀.blk)) gs.size (some (startW p).blk) g = some f → (g = gs.size ∧ f = (startW p).blk) ∨ (g ≠ gs.size ∧ setK M.K 0 (some h₀.blk) g = some f) := by
    intro g f hf
    by_cases e : g = gs.size
    · subst e; rw [setK_same] at hf; exact .inl ⟨rfl, (Option.some.inj hf).symm⟩
    · rw [setK_ne _ _ e] at hf; exact .inr ⟨e, hf⟩
  have free0 : ∀ g f, setK M.K 0 (some h₀.blk) g = some f → f p.gb = none ∧ f p.cb = none ∧ f p.rb = none := by
    intro g f hf
    obtain ⟨f', e1, e2⟩ := K0sub g f hf
    obtain ⟨a, b, c⟩ := Hp.free g f' e1
    have : ∀ b, f' b = none → f b = none := fun b hb => by
      cases e : f b with
      | none => rfl
      | some y => rw [e2 b y e] at hb; cases hb
    exact ⟨this _ a, this _ b, this _ c⟩
  have backk0 : ∀ g f b y m o, setK M.K 0 (some h₀.blk) g = some f → p.back b = some y → f b = some (m, o) → m = false := by
    intro g f b y m o hf hy hb
    obtain ⟨f', e1, e2⟩ := K0sub g f hf
    exact Hp.backk g f' b y m o e1 hy (e2 b _ hb)
  have hd0 : Deaf t 0 = 0 := by rw [H.go.deaf, hg]; rfl
  have tp0 := Hp.tp.less (K' := setK M.K 0 (some h₀.blk)) fun g f hf => let ⟨f', e, _⟩ := K0sub g f hf; ⟨f', e⟩
  have trn : TR (t ++ #[x, y]) w.heap.size (gs.size + 1) (setK (setK M.K 0 (some h₀.blk)) gs.size (some (startW p).blk)) := by
    refine Hw.tr.fork hNp hx hy hd0 fun i a b m o ha hb hf hmw => ?_
    obtain ⟨rfl, z, hz, _⟩ := child b m o hf
    have hw : a.write = true := hmw.resolve_left (fun e => by cases e)
    exact Hp.tp.rd i a b z ha hb hz hw 0 _ M_K0
  have tpn := tp0.fork (fc := (startW p).blk) (N := gs.size) (B := w.heap.size) Hw.tr (setK_same _ _ _) hx hy hd0 (by have := Hp.size; omega) hNp
  have hjj : M.j < p.W ∧ Busy M.j (SG M.b0 M.Gd) ∧ st = ((VV M.j (SG M.b0 M.Gd) + 1 : Nat) : Int) * KK ∧ sm = 0 ∧ j = M.j := by
    revert hmode
    generalize M.bl = bl
    intro hmode
    cases hmode with
    | go hj hb => exact ⟨hj, hb, rfl, rfl, rfl⟩
    | fin hs _ _ => rcases hs with e | e | e <;> cases e
  obtain ⟨hj1, hb, rfl, rfl, rfl⟩ := hjj
  have eS : SG M.b0 (setK M.Gd gs.size (some (.wrk p (.run 0)))) = setK (SG M.b0 M.Gd) M.j (.run 0) := by
    rw [SG_set (by have := Hp.size; omega)]
    have : gs.size - M.b0 = M.j := by have := Hp.size; omega
    rw [this]; rfl
  have sumNew : ∀ φ : WS → Nat, sumTo (M.j + 1) (fun k => φ (setK (SG M.b0 M.Gd) M.j (.run 0) k)) = sumTo M.j (fun k => φ (SG M.b0 M.Gd k)) + φ (.run 0) := by
    intro φ
    show sumTo M.j (fun k => φ (setK (SG M.b0 M.Gd) M.j (.run 0) k)) + φ (setK (SG M.b0 M.Gd) M.j (.run 0) M.j) = _
    rw [setK_same, Go.ConcN.sumTo_congr fun k hk => by rw [setK_ne _ _ (show k ≠ M.j by omega)]]
  refine ⟨H.go.spawn hx hy (fun op hop => H.wo.tr.gs op hop) hgo hgc (by rw [hg]; rfl) rfl, ?_, PhI.mk (p := p) (s := .add (M.j + 1)) rfl ?_⟩
  · rw [eK, hsz]
    refine ⟨fun g f b m o hf hb => ?_, ⟨fun g₁ f₁ g₂ f₂ b o hne h1 h2 hbb => ?_, fun g f b z hf hbb => ?_⟩, trn, H.wo.since, fun g f b o hf hbb => ?_⟩
    · rcases cases' g f hf with ⟨_, rfl⟩ | ⟨_, hf⟩
      · obtain ⟨_, z, hz, rfl⟩ := child b m o hb
        exact (Hp.backw b z hz).1
      · exact Hw.hold g f b m o hf hb
    · rcases cases' g₁ f₁ h1 with ⟨_, rfl⟩ | ⟨_, h1⟩
      · obtain ⟨e, _⟩ := child b true o hbb; cases e
      · rcases cases' g₂ f₂ h2 with ⟨_, rfl⟩ | ⟨_, h2⟩
        · cases e : (startW p).blk b with
          | none => rfl
          | some z =>
            obtain ⟨m, o'⟩ := z
            obtain ⟨_, z, hz, _⟩ := child b m o' e
            have := backk0 g₁ f₁ b z true o h1 hz hbb; cases this
        · exact Hw.ap.dis _ _ _ _ b o hne h1 h2 hbb
    · rcases cases' g f hf with ⟨_, rfl⟩ | ⟨_, hf⟩
      · obtain ⟨m, o⟩ := z
        obtain ⟨_, z, hz, _⟩ := child b m o hbb
        exact lt_of_heap (Hp.backw b z hz).1
      · exact Hw.ap.lt _ _ _ _ hf hbb
    · rcases cases' g f hf with ⟨_, rfl⟩ | ⟨_, hf⟩
      · obtain ⟨e, _⟩ := child b true o hbb; cases e
      · exact Hw.fresh _ _ b o hf hbb
  · show PhM p (.add (M.j + 1)) N0 (Gst.Gd ⟨_, _, _, _, _, _, _, _, _⟩) (Gst.K ⟨_, _, _, _, _, _, _, _, _⟩) M.own M.x M.b0 (M.j + 1) false _ w _
    rw [eK, eG, hsz]
    obtain ⟨row, hr1, hr2⟩ := Hp.row
    have Gcase : ∀ g z, setK M.Gd gs.size (some (.wrk p (.run 0))) g = some z → (g = gs.size ∧ z = .wrk p (.run 0)) ∨ (g ≠ gs.size ∧ M.Gd g = some z) := by
      intro g z hz
      by_cases e : g = gs.size
      · subst e; rw [setK_same] at hz; exact .inl ⟨rfl, (Option.some.inj hz).symm⟩
      · rw [setK_ne _ _ e] at hz; exact .inr ⟨e, hz⟩
    refine ⟨by have := Hp.size; omega, Hp.b1, fun i z hz => ?_, fun g f hf => ?_, Hp.st, fun g f hf => ?_, Hp.backw, fun g f b z m o hf hz hbb => ?_, ⟨_, _, hgrp, ?_⟩, Hp.cnt, ⟨row, hr1, fun i hn hx' hno k hk => hr2 i hn hx' (fun g e => hno g ?_) k hk⟩, fun g i hgi => ?_, fun g c hgc => ?_, ?_, fun k hk hbe => ?_, tpn.rel fun g hr => ?_⟩
    · rcases Gcase i z hz with ⟨rfl, rfl⟩ | ⟨_, hz⟩
      · exact ⟨by have := Hp.size; omega, by omega, .run 0, rfl, fun e => (by cases e), fun e => (by cases e)⟩
      · obtain ⟨h1, h2, h3⟩ := Hp.lv i z hz; exact ⟨h1, by omega, h3⟩
    · rcases cases' g f hf with ⟨rfl, _⟩ | ⟨_, hf⟩
      · exact .inr (by have := Hp.size; omega)
      · obtain ⟨f', e, _⟩ := K0sub g f hf; exact Hp.kd g f' e
    · rcases cases' g f hf with ⟨_, rfl⟩ | ⟨_, hf⟩
      · exact ⟨by simp [startW, Hp.st.ngb], by simp [startW, Hp.st.ncb], by simp [startW, Hp.st.nrb]⟩
      · exact free0 g f hf
    · rcases cases' g f hf with ⟨_, rfl⟩ | ⟨_, hf⟩
      · exact (child b m o hbb).1
      · exact backk0 g f b z m o hf hz hbb
    · rw [eS]
      have hb' : Busy (M.j + 1) (setK (SG M.b0 M.Gd) M.j (.run 0)) := by
        intro k hk
        by_cases e : k = M.j
        · subst e; rw [setK_same]; exact .inl rfl
        · rw [setK_ne _ _ e]; exact hb k (by omega)
      have hV : VV (M.j + 1) (setK (SG M.b0 M.Gd) M.j (.run 0)) = VV M.j (SG M.b0 M.Gd) + 1 := sumNew cntS
      rw [← hV]
      exact .add (by omega) hb'
    · have hne : g ≠ gs.size := fun eg => by subst eg; have := Hp.lv gs.size _ e; omega
      rw [setK_ne _ _ hne]; exact e
    · rcases Gcase g _ hgi with ⟨_, e⟩ | ⟨_, e⟩
      · cases e
      · exact Hp.has g i e
    · rcases Gcase g _ hgc with ⟨_, e⟩ | ⟨_, e⟩
      · cases e; exact Nat.zero_le _
      · exact Hp.run g c e
    · rw [eS, sumNew beyond]
      have := Hp.xle
      have e0 : beyond (WS.run 0) = 0 := rfl
      omega
    · rw [eS] at hbe
      by_cases e : k = M.j
      · subst e; rw [setK_same] at hbe; cases hbe
      · rw [setK_ne _ _ e] at hbe; exact Hp.full k (by omega) hbe
    · obtain ⟨h1, h2, h3⟩ := hr
      have hne : g ≠ gs.size := fun eg => by subst eg; rw [setK_same] at h3; exact h3
      rw [setK_ne _ _ hne] at h3
      exact ⟨h1, by omega, h3⟩
end
end KL
end Go.Proofs.YtlmecmapkijcnaaDoor

set_option linter.unusedVariables false
namespace Go.Proofs.YtlmecmapkijcnaaDoor
namespace KL
open Go.Conc
open Go.ConcN (sumTo)
open Go.ConcR (g_of_ofEvents)

section
variable {P : Program} {R : Value → Prop} {N0 : Nat} {W : World} {M : Gst} {gs : Array Goroutine} {w w' : World} {t : Trace} {h h' h₀ : Know} {t' : Tr} {p : Ph} {s s' : SS} {es : Array Event} {fn : FuncId} {pos : String}
  {fr fr' : Frame} {cs cs' : List Frame}

theorem ofEvents_nil (g : Nat) (fn : FuncId) (pos : String) : MemOp.ofEvents g fn pos #[] = #[] := by rw [ofEvents_eq]; simp
theorem quit_of_zero {j : Nat} {S : Nat → WS} (hb : Busy j S) (h : VV j S = 0) : ∀ k, k < j → S k = .quit := fun k hk => (hb k hk).resolve_left fun e => by have := VV_pos S hk e; omega

set_option maxHeartbeats 1000000 in
theorem mact_step (H : Inv P R N0 W M gs w t) (h0 : gs[0]? = some (G fr cs)) (hbl : M.bl = false) {k : Frame → List Frame → Know → Tr} (htr : M.t0 = .act k) (hl : h₀.le M.h0) {Out : Outs} (ha : ActM P fr cs h₀ Out)
    (hgo : ∀ fr' cs' h', Out fr' cs' h' → GoesT actsM P true (StopM P R) (k fr' cs' h') fr' cs' h') : SteppedM P R N0 W M gs w t := by
  have sub : ∀ {z : Tr} {fr₁ cs₁ h₁}, z = k fr₁ cs₁ h₁ → Sub z M.t0 := fun e => by rw [e, htr]; exact .act _ _ _ _
  cases ha with
  | opn p hg hp fr' hs ho =>
    exact steppedM_go h0 (hs w) (H.mopn (by rw [← hl.gh]; exact hg) hl hp (hgo _ _ _ ho)) fun _ _ => mu_own (sub rfl)
  | dis p j hg fr' hs ho =>
    have hgm : M.h0.gh = .main p (.add j) := by rw [← hl.gh]; exact hg
    have Hp := H.ph.main hgm
    obtain ⟨st, sm, hgrp, hmode⟩ := Hp.grp
    rw [hbl] at hmode
    refine steppedM_go h0 (hs w) (H.mact hgm hl (hgo _ _ _ ho) (.refl w) (evA_one (evA_mark (.inl rfl))) ?_ hgrp ?_ rfl rfl) fun _ _ => mu_own (sub rfl)
    · split <;> rfl
    · cases hmode with
      | add hj hb =>
        by_cases e : M.j < p.W
        · rw [if_pos e]; exact .add1 e hb
        · rw [if_neg e]; exact .w1 (by omega) hb (by have := VV_le M.j (SG M.b0 M.Gd); omega)
      | fin hs' _ _ => rcases hs' with e | e | e <;> cases e
  | up p j hg hs =>
    have hgm : M.h0.gh = .main p (.add1 j) := by rw [← hl.gh]; exact hg
    have Hp := H.ph.main hgm
    obtain ⟨st, sm, hgrp, hmode⟩ := Hp.grp
    rw [hbl] at hmode
    have hW8 := Hp.st.W8
    have key : sm = 0 ∧ st = ((VV M.j (SG M.b0 M.Gd) : Nat) : Int) * KK ∧ Mode p.W M.j (SG M.b0 M.Gd) (.add2 j) false (((VV M.j (SG M.b0 M.Gd) + 1 : Nat) : Int) * KK) 0 ∧ VV M.j (SG M.b0 M.Gd) < 2147483647 := by
      have hv := VV_le M.j (SG M.b0 M.Gd)
      have hj := hmode.jW
      cases hmode with
      | add1 hj hb => exact ⟨rfl, rfl, .add2 hj hb, by omega⟩
      | fin hs' _ _ => rcases hs' with e | e | e <;> cases e
    obtain ⟨rfl, rfl, hm', hlt⟩ := key
    obtain ⟨fr', hst, ho⟩ := hs w _ hlt hgrp
    exact steppedM_go h0 hst (H.mact hgm hl (hgo _ _ _ ho) (.set _ (.inl rfl)) (evA_rw (.inl rfl)) (deafBehind_cell _ fun e he => by simp at he; rcases he with rfl | rfl <;> exact ⟨_, _, rfl⟩) (grp_set0 hgrp _) hm' (set_ne _ (Ne.symm Hp.st.gc)) (set_ne _ (Ne.symm Hp.st.gr))) fun _ _ => mu_own (sub rfl)
  | rdm p j hg fr' hs ho =>
    have hgm : M.h0.gh = .main p (.add2 j) := by rw [← hl.gh]; exact hg
    have Hp := H.ph.main hgm
    obtain ⟨st, sm, hgrp, hmode⟩ := Hp.grp
    rw [hbl] at hmode
    have ho' := hgo _ _ _ ho
    rw [show h₀ = ⟨h₀.blk, .main p (.add2 j)⟩ by rw [← hg]] at ho'
    exact steppedM_go h0 (hs w) (H.mact hgm hl ho' (.refl w) (evA_one (evA_mark (.inr (.inr (.inr (.inr ⟨.inl rfl, rfl⟩)))))) rfl hgrp hmode rfl rfl) fun _ _ => mu_own (sub (by rw [← hg]))
  | look p s hg fr' hs ho =>
    have hgm : M.h0.gh = .main p s := by rw [← hl.gh]; exact hg
    have Hp := H.ph.main hgm
    obtain ⟨st, sm, hgrp, hmode⟩ := Hp.grp
    exact steppedM_go h0 (hs w st sm hgrp) (H.mstep hbl (KStep.refl (h := M.h0) (fun b m o e => H.wo.hold 0 _ b m o M_K0 e)) ((hgo _ _ _ ho).weaken hl)) fun _ _ => mu_own (sub rfl)
  | en p j hg fr' hs ho =>
    have hgm : M.h0.gh = .main p (.add2 j) := by rw [← hl.gh]; exact hg
    have Hp := H.ph.main hgm
    obtain ⟨st, sm, hgrp, hmode⟩ := Hp.grp
    rw [hbl] at hmode
    refine steppedM_go h0 (hs w) (H.mact hgm hl (hgo _ _ _ ho) (.refl w) (evA_one (evA_mark (.inr (.inl rfl)))) rfl hgrp ?_ rfl rfl) fun _ _ => mu_own (sub rfl)
    cases hmode with
    | add2 hj hb => exact .go hj hb
    | fin hs' _ _ => rcases hs' with e | e | e <;> cases e
  | go p j hg fr' ch hs hc ho =>
    have hgm : M.h0.gh = .main p (.go j) := by rw [← hl.gh]; exact hg
    obtain ⟨tc, hc⟩ := hc
    intro sl
    have hrun := runT_crowd_spawn (P := P) (sl := sl) (i := 0) h0 (hs w)
    rw [ofEvents_nil] at hrun
    exact ⟨_, _, _, _, hrun, H.mgo hgm hl (hgo _ _ _ ho) hc (x := { g := 0, fn := (G fr cs).frame.fn, pos := (G fr cs).frame.place, act := .go gs.size }) (y := { g := gs.size, fn := (G ch []).frame.fn, pos := (G fr cs).frame.place, act := .start }) ⟨rfl, rfl⟩ ⟨rfl, rfl⟩, mu_own (sub rfl)⟩
  | load p vs hg hs =>
    have hgm : M.h0.gh = .main p (.w1 vs) := by rw [← hl.gh]; exact hg
    have Hp := H.ph.main hgm
    obtain ⟨st, sm, hgrp, hmode⟩ := Hp.grp
    rw [hbl] at hmode
    have key : sm = 0 ∧ st = ((VV M.j (SG M.b0 M.Gd) : Nat) : Int) * KK ∧ VV M.j (SG M.b0 M.Gd) ≤ vs ∧ M.j = p.W ∧ Busy M.j (SG M.b0 M.Gd) := by
      cases hmode with
      | w1 hj hb hv => exact ⟨rfl, rfl, hv, hj, hb⟩
      | fin hs' _ _ => rcases hs' with e | e | e <;> cases e
    obtain ⟨rfl, rfl, hle, hj, hb⟩ := key
    obtain ⟨fr', hst, ho⟩ := hs w _ hle hgrp
    refine steppedM_go h0 hst (H.mact hgm hl (hgo _ _ _ ho) (.refl w) (evA_one (evA_cell (.inl rfl))) ?_ hgrp ?_ rfl rfl) fun _ _ => mu_own (sub rfl)
    · rw [deafBehind_cell _ fun e he => by simp at he; subst he; exact ⟨_, _, rfl⟩]; split <;> rfl
    · by_cases e : VV M.j (SG M.b0 M.Gd) = 0
      · rw [if_pos e, e]
        have := Mode.fin (W := p.W) (S := SG M.b0 M.Gd) (s := .fin) (.inr (.inl rfl)) hj (quit_of_zero hb e)
        simpa using this
      · rw [if_neg e]; exact .w2 hj hb (Nat.le_refl _) (by omega)
  | cas p vs hg hs =>
    have hgm : M.h0.gh = .main p (.w2 vs) := by rw [← hl.gh]; exact hg
    have Hp := H.ph.main hgm
    obtain ⟨st, sm, hgrp, hmode⟩ := Hp.grp
    rw [hbl] at hmode
    have key : sm = 0 ∧ st = ((VV M.j (SG M.b0 M.Gd) : Nat) : Int) * KK ∧ VV M.j (SG M.b0 M.Gd) ≤ vs ∧ M.j = p.W ∧ Busy M.j (SG M.b0 M.Gd) ∧ 1 ≤ vs := by
      cases hmode with
      | w2 hj hb hv h1 => exact ⟨rfl, rfl, hv, hj, hb, h1⟩
      | fin hs' _ _ => rcases hs' with e | e | e <;> cases e
    obtain ⟨rfl, rfl, hle, hj, hb, h1⟩ := key
    obtain ⟨hit, miss⟩ := hs w _ hle hgrp
    by_cases e : VV M.j (SG M.b0 M.Gd) = vs
    · obtain ⟨fr', hst, ho⟩ := hit e
      refine steppedM_go h0 hst (H.mact hgm hl (hgo _ _ _ ho) (.set _ (.inl rfl)) (evA_rw (.inl rfl)) (deafBehind_cell _ fun e he => by simp at he; rcases he with rfl | rfl <;> exact ⟨_, _, rfl⟩) (grp_set0 hgrp _) ?_ (set_ne _ (Ne.symm Hp.st.gc)) (set_ne _ (Ne.symm Hp.st.gr))) fun _ _ => mu_own (sub rfl)
      exact .reg hj hb (by omega)
    · obtain ⟨fr', hst, ho⟩ := miss e
      refine steppedM_go h0 hst (H.mact hgm hl (hgo _ _ _ ho) (.refl w) (evA_one (evA_cell (.inl rfl))) (deafBehind_cell _ fun e he => by simp at he; subst he; exact ⟨_, _, rfl⟩) hgrp ?_ rfl rfl) fun _ _ => mu_own (sub rfl)
      exact .w1 hj hb (Nat.le_refl _)
  | wrm p hg fr' hs ho =>
    have hgm : M.h0.gh = .main p .w3 := by rw [← hl.gh]; exact hg
    have Hp := H.ph.main hgm
    obtain ⟨st, sm, hgrp, hmode⟩ := Hp.grp
    rw [hbl] at hmode
    have ho' := hgo _ _ _ ho
    rw [show h₀ = ⟨h₀.blk, .main p .w3⟩ by rw [← hg]] at ho'
    exact steppedM_go h0 (hs w) (H.mact hgm hl ho' (.refl w) (evA_one (evA_mark (.inr (.inr (.inr (.inr ⟨.inr rfl, rfl⟩)))))) rfl hgrp hmode rfl rfl) fun _ _ => mu_own (sub (by rw [← hg]))
  | sem p hg hb hs =>
    have hgm : M.h0.gh = .main p .w3 := by rw [← hl.gh]; exact hg
    have Hp := H.ph.main hgm
    obtain ⟨st, sm, hgrp, hmode⟩ := Hp.grp
    rw [hbl] at hmode
    have key : sm = 0 ∨ (st = 0 ∧ sm = 1 ∧ M.j = p.W ∧ ∀ k, k < M.j → SG M.b0 M.Gd k = .quit) := by
      cases hmode with
      | reg hj hb h1 => exact .inl rfl
      | last L hL hj hS ho => exact .inl rfl
      | sema hj hq => exact .inr ⟨rfl, rfl, hj, hq⟩
      | fin hs' _ _ => rcases hs' with e | e | e <;> cases e
    rcases key with rfl | ⟨rfl, rfl, hj, hq⟩
    · -- it waits
      intro sl
      have hst := hb w st hgrp
      have hrun := runT_crowd_go (P := P) (sl := sl) (i := 0) h0 hst
      rw [ofEvents_nil] at hrun
      have hsz : ((gs.map (woken P (G fr cs) { G fr cs with status := .blocked } w)).setIfInBounds 0 { G fr cs with status := .blocked }).size = gs.size := by simp
      refine ⟨{ M with bl := true }, _, w, #[], hrun, ?_, ?_⟩
      · rw [Array.append_empty]
        refine ⟨H.go.blk h0, ?_, PhI.mk (p := p) (s := .w3) hgm ?_⟩
        · rw [hsz]; exact H.wo
        · rw [hsz]
          exact ⟨Hp.size, Hp.b1, Hp.lv, Hp.kd, Hp.st, Hp.free, Hp.backw, Hp.backk, ⟨st, 0, hgrp, hmode.block⟩, Hp.cnt, Hp.row, Hp.has, Hp.run, Hp.xle, Hp.full, Hp.tp⟩
      · rw [hsz]
        refine .right _ (.right _ ?_)
        rw [hbl]; exact Nat.one_pos
    · obtain ⟨fr', hst, ho⟩ := hs w hgrp
      refine steppedM_go h0 hst (H.mact hgm hl (hgo _ _ _ ho) (.set _ (.inl rfl)) evA_sem (by simp [semEvents, deafBehind, deafS]) (grp_set1 hgrp _) ?_ (set_ne _ (Ne.symm Hp.st.gc)) (set_ne _ (Ne.symm Hp.st.gr))) fun _ _ => mu_own (sub rfl)
      exact .fin (.inl rfl) hj hq
  | load2 p hg hs =>
    have hgm : M.h0.gh = .main p .w4 := by rw [← hl.gh]; exact hg
    have Hp := H.ph.main hgm
    obtain ⟨st, sm, hgrp, hmode⟩ := Hp.grp
    rw [hbl] at hmode
    obtain ⟨hj, hq, rfl, rfl⟩ := hmode.finOf (.inl rfl)
    obtain ⟨fr', hst, ho⟩ := hs w hgrp
    exact steppedM_go h0 hst (H.mact hgm hl (hgo _ _ _ ho) (.refl w) (evA_one (evA_cell (.inl rfl))) (deafBehind_cell _ fun e he => by simp at he; subst he; exact ⟨_, _, rfl⟩) hgrp (.fin (.inr (.inl rfl)) hj hq) rfl rfl) fun _ _ => mu_own (sub rfl)
  | en2 p hg fr' hs ho =>
    have hgm : M.h0.gh = .main p .fin := by rw [← hl.gh]; exact hg
    have Hp := H.ph.main hgm
    obtain ⟨st, sm, hgrp, hmode⟩ := Hp.grp
    rw [hbl] at hmode
    obtain ⟨hj, hq, rfl, rfl⟩ := hmode.finOf (.inr (.inl rfl))
    exact steppedM_go h0 (hs w) (H.mact hgm hl (hgo _ _ _ ho) (.refl w) (evA_one (evA_mark (.inr (.inl rfl)))) rfl hgrp (.fin (.inr (.inr rfl)) hj hq) rfl rfl) fun _ _ => mu_own (sub rfl)
  | acq p hg fr' hs ho =>
    exact steppedM_go h0 (hs w) (H.macq (by rw [← hl.gh]; exact hg) hl (hgo _ _ _ ho)) fun _ _ => mu_own (sub rfl)

/-- Who leaves slips. -/
theorem Inv.slip (H : Inv P R N0 W M gs w t) {i : Nat} (hi0 : i ≠ 0) (hD : M.D i = none) {g g' : Goroutine} (hgi : gs[i]? = some g) (hm : ∀ e ∈ es, Event.mute e = true) {k : Nat} (hq : QuitsD P k (deafBehind (Deaf t i) es) g') :
    Inv P R N0 W ⟨setK M.D i none, setK M.q i k, M.h0, M.t0, M.bl && !mayWake P g, M.own, M.x, M.b0, M.j⟩ ((gs.map (woken P g g' w)).setIfInBounds i g') w (t ++ MemOp.ofEvents i fn pos es) := by
  have hlt : i < gs.size := (Array.getElem?_eq_some_iff.1 hgi).1
  have hsz : ((gs.map (woken P g g' w)).setIfInBounds i g').size = gs.size := by simp
  have hu : ∀ op ∈ MemOp.ofEvents i fn pos es, op.g = i := g_of_ofEvents
  have hn : ∀ op ∈ MemOp.ofEvents i fn pos es, op.act.touch? = none := fun op hop => by obtain ⟨e, he, rfl⟩ := Go.Conc.mem_ofEvents hop; exact touch_mute (hm e he)
  have ho : OpsOf i w.heap.size (MemOp.ofEvents i fn pos es) := ⟨hu, fun op hop => by obtain ⟨e, he, rfl⟩ := Go.Conc.mem_ofEvents hop; exact low_mute (hm e he) _, fun op hop a => by
    obtain ⟨e, he, rfl⟩ := Go.Conc.mem_ofEvents hop
    intro e1
    have := hm e he
    obtain ⟨loc, wr, sy⟩ := e
    cases loc <;> simp [Event.mute] at this
    rename_i m
    cases m <;> simp at this <;> simp [MemAct.ofEvent] at e1⟩
  have hDD : setK M.D i none = M.D := setK_self hD
  have hKe : Gst.K ⟨setK M.D i none, setK M.q i k, M.h0, M.t0, M.bl && !mayWake P g, M.own, M.x, M.b0, M.j⟩ = M.K := by rw [hDD]; rfl
  have hGe : Gst.Gd ⟨setK M.D i none, setK M.q i k, M.h0, M.t0, M.bl && !mayWake P g, M.own, M.x, M.b0, M.j⟩ = M.Gd := by rw [hDD]; rfl
  refine ⟨H.go.out hi0 hgi hq, ?_, ?_⟩
  · rw [hKe, hsz]
    exact ⟨H.wo.hold, H.wo.ap, H.wo.tr.mute hlt ho hn, H.wo.since, H.wo.fresh⟩
  · have hp := H.ph
    unfold PhI at hp ⊢
    rw [show (Gst.h0 ⟨setK M.D i none, setK M.q i k, M.h0, M.t0, M.bl && !mayWake P g, M.own, M.x, M.b0, M.j⟩) = M.h0 from rfl]
    cases hgm : M.h0.gh with
    | idle =>
      rw [hgm] at hp
      refine ⟨fun j => (congrFun hDD j).trans (hp.none j), by show (M.bl && _) = false; rw [hp.bl]; rfl, fun j g' hg' hne hc => ?_⟩
      rcases g?_cases hg' with ⟨hj, hg''⟩ | ⟨op, hop, hx, _⟩
      · exact (hp.over j g' hg'' hne ((counts_old hj).1 hc)).app _
      · obtain ⟨a, ha, _⟩ := hc
        obtain ⟨z, hz, hza⟩ := touch_of ha
        rw [hx] at hz; cases hz
        rw [hn op hop] at hza; cases hza
    | main p s =>
      rw [hgm] at hp
      show PhM p s N0 (Gst.Gd ⟨_, _, _, _, _, _, _, _, _⟩) (Gst.K ⟨_, _, _, _, _, _, _, _, _⟩) M.own M.x M.b0 M.j (M.bl && !mayWake P g) _ w _
      rw [hKe, hGe, hsz]
      refine PhM.wakes ?_ _
      exact ⟨hp.size, hp.b1, hp.lv, hp.kd, hp.st, hp.free, hp.backw, hp.backk, hp.grp, hp.cnt, hp.row, hp.has, hp.run, hp.xle, hp.full, hp.tp.mute hu hn⟩
    | wrk p s => rw [hgm] at hp; exact hp.elim

theorem stepG_done {fn : Func} {v : Value} (hm : fr.mode = .returning) (hd : fr.defers = []) (hk : fr.kind = .normal) (hf : P.funcs[fr.fn]? = some fn) (hr : (results fn fr.tmps).run P w = .ok v w) (hi : P.inits.idxOf? fr.fn = none) :
    stepG P true (G fr []) w = .ended (.done v) w (seen P fr.fn ((results fn fr.tmps).events P w #[])) := by
  obtain ⟨f, tmps, todo, defers, mode, kind, ro⟩ := fr
  subst hm hd hk
  simp [G, stepG, unwind, doReturn, hf, hr, hi, GStep.after]

/-- The end of the run. -/
theorem Inv.ends (H : Inv P R N0 W M gs w t) (h0 : gs[0]? = some (G fr cs)) (hs : GoesT actsM P true (StopM P R) .stop fr cs M.h0) (sl sl' : Option (Nat × Nat)) (w₀ : World) :
    ∃ v w' ops, runT P (crowd gs w sl) 0 = (.ended (.done v) w', ops) ∧ Conc.Good P (fun v w' => R v ∧ Since N0 W w') (crowd gs w₀ sl') (.done v) w' (t ++ ops) := by
  obtain ⟨h₁, hl, hg, rfl, hd, hk, hm, hi, fn, hf, hsem⟩ := hs
  obtain ⟨w', es', h', e1, e2, e3⟩ := semS_sound _ h₁ w #[] _ hsem (fun b m o e => H.wo.hold 0 _ b m o M_K0 (hl b _ e))
  simp only [Sem.runT_eq, Array.empty_append] at e1 e3
  rcases e3 with ⟨v, hx, hR⟩ | ⟨v, _, hk⟩
  · have hw := calm_results fn fr.tmps P w w' v hx
    subst hw
    have hst := stepG_done (P := P) (w := w') hm hd hk hf hx hi
    have k := (e2.weaken hl).sub (es' := seen P fr.fn ((results fn fr.tmps).events P w' #[])) fun e he => by rw [← e1]; exact Conc.mem_seen he
    have hrun := runT_many_ended (P := P) (sl := sl) (i := 0) h0 hst
    refine ⟨v, w', _, hrun, v, rfl, ⟨hR, H.wo.since⟩, ?_, ?_, ?_, ?_⟩
    · exact (H.wo.priv (fn := (G fr []).frame.fn) (pos := (G fr []).frame.place) M_K0 H.go.lt k).tr.clean
    · have hi : Idle M t := by
        have := H.ph; unfold PhI at this; rw [← hl.gh, hg] at this; exact this
      intro i g hgi hne hc
      have o1 := (ops_priv (g := 0) (fn := (G fr []).frame.fn) (pos := (G fr []).frame.place) k).1
      rcases g?_cases hgi with ⟨hi', hgi'⟩ | ⟨op, hop, _, e⟩
      · obtain ⟨q, z, hz, hz0, hb⟩ := (hi.over i g hgi' hne ((counts_old hi').1 hc)).app (MemOp.ofEvents 0 (G fr []).frame.fn (G fr []).frame.place (seen P fr.fn ((results fn fr.tmps).events P w' #[])))
        rcases hb with rfl | hb
        · exfalso
          unfold Trace.g? at hgi
          rw [hz] at hgi
          simp only [Option.map_some, Option.some.injEq] at hgi
          exact hne (hgi.symm.trans hz0)
        · exact ⟨q, by simp [Trace.g?, hz, hz0], hb⟩
      · rw [o1.g op hop] at e; exact absurd e.symm hne
    · refine ⟨fun g hg' => ?_, rfl⟩
      obtain ⟨i, hi', hgi⟩ := List.getElem_of_mem hg'
      have hi1 : i + 1 < gs.size := by simp [crowd] at hi'; omega
      have hgi' : gs[i + 1]? = some g := by
        rw [Array.getElem?_eq_getElem hi1]
        simp [crowd] at hgi
        rw [hgi]
      have hi : Idle M t := by
        have := H.ph; unfold PhI at this; rw [← hl.gh, hg] at this; exact this
      obtain ⟨g₁, h1, h2⟩ := H.go.gn (i + 1) (by omega) hi1 (hi.none _)
      rw [hgi'] at h1; cases h1
      exact ⟨_, h2.leaves⟩
    · intro i g hgi hne
      have hi : Idle M t := by
        have := H.ph; unfold PhI at this; rw [← hl.gh, hg] at this; exact this
      have hgi' : gs[i]? = some g := hgi
      obtain ⟨g₁, h1, h2⟩ := H.go.gn i (by omega) (Array.getElem?_eq_some_iff.1 hgi').1 (hi.none _)
      rw [hgi'] at h1; cases h1
      refine ⟨M.q i, ?_⟩
      have : (t ++ MemOp.ofEvents 0 (G fr []).frame.fn (G fr []).frame.place (seen P fr.fn ((results fn fr.tmps).events P w' #[]))).deaf i (t ++ MemOp.ofEvents 0 (G fr []).frame.fn (G fr []).frame.place (seen P fr.fn ((results fn fr.tmps).events P w' #[]))).size = Deaf t i := Deaf_other t (Ne.symm hne) _ g_of_ofEvents
      rw [this]
      exact h2.hears _
  · exact hk.elim

/-- A step of the machine. -/
theorem step_inv (H : Inv P R N0 W M gs w t) (sl : Option (Nat × Nat)) :
    (∃ o w' ops, stepT P (crowd gs w sl) = (.ended o w', ops) ∧ Conc.Good P (fun v w' => R v ∧ Since N0 W w') (crowd gs w sl) o w' (t ++ ops)) ∨
    ∃ M' gs' w' sl' ops, stepT P (crowd gs w sl) = (.next (crowd gs' w' sl'), ops) ∧ Inv P R N0 W M' gs' w' (t ++ ops) ∧ MuLt (M'.mu gs'.size) (M.mu gs.size) := by
  have some1 : ∃ (i : Nat) (g : Goroutine), gs[i]? = some g ∧ g.status = .running := by
    obtain ⟨fr, cs, h0, _⟩ := H.go.g0
    cases hb : M.bl with
    | false => rw [hb] at h0; exact ⟨0, _, h0, rfl⟩
    | true =>
      have hp := H.ph
      unfold PhI at hp
      cases hgm : M.h0.gh with
      | idle => rw [hgm] at hp; have := hp.bl; rw [hb] at this; cases this
      | main p s =>
        rw [hgm] at hp
        obtain ⟨st, sm, _, hmode⟩ := hp.grp
        rw [hb] at hmode
        obtain ⟨k, hk, hne⟩ := hmode.alive
        cases hD : M.D (M.b0 + k) with
        | none => exfalso; apply hne; unfold SG Gst.Gd; rw [hD]; rfl
        | some y =>
          obtain ⟨fr, cs, e1, _⟩ := H.go.lv _ y hD
          exact ⟨_, _, e1, rfl⟩
      | wrk p s => rw [hgm] at hp; exact hp.elim
  obtain ⟨i, g, d, sl', hgi, hrun, hst⟩ := crowd_pick (P := P) (w := w) (sl := sl) H.go.awake some1
  have H' := H.at d
  rcases Nat.eq_zero_or_pos i with rfl | hpos
  · -- the starter
    obtain ⟨fr, cs, h0, hG⟩ := H.go.g0
    have hbl : M.bl = false := by
      cases hb : M.bl with
      | false => rfl
      | true => rw [hb] at h0; rw [hgi] at h0; cases h0; cases hrun
    rw [hbl] at h0
    have h0 : gs[0]? = some (G fr cs) := h0
    have fin : SteppedM P R N0 W M gs (w.at d) t → ∃ M' gs' w' sl' ops, stepT P (crowd gs w sl) = (.next (crowd gs' w' sl'), ops) ∧ Inv P R N0 W M' gs' w' (t ++ ops) ∧ MuLt (M'.mu gs'.size) (M.mu gs.size) := fun hs => by
      obtain ⟨M', gs', w', ops, e1, e2, e3⟩ := hs sl'
      exact ⟨M', gs', w', sl', ops, hst.trans e1, e2, e3⟩
    cases ht : M.t0 with
    | stop =>
      rw [ht] at hG
      obtain ⟨v, w', ops, e1, e2⟩ := H'.ends h0 hG sl' sl w
      exact .inl ⟨_, w', ops, hst.trans e1, e2⟩
    | step k =>
      rw [ht] at hG
      obtain ⟨_, hk⟩ := hG
      obtain ⟨fr', cs', w', es, h', e1, e2, e3⟩ := hk (w.at d) (fun b m o e => H'.wo.hold 0 _ b m o M_K0 e)
      exact .inr (fin (steppedM_go h0 e1 (H'.mstep hbl e2 e3) fun _ _ => mu_own (by rw [ht]; exact .step _ _)))
    | move t₁ =>
      rw [ht] at hG
      obtain ⟨fr', cs', e1, e3⟩ := hG
      exact .inr (fin (steppedM_go h0 (e1 (w.at d)) (H'.mstep hbl (KStep.refl (h := M.h0) (fun b m o e => H'.wo.hold 0 _ b m o M_K0 e)) e3) fun _ _ => mu_own (by rw [ht]; exact .move _)))
    | act k =>
      rw [ht] at hG
      obtain ⟨h₀, Out, hl, ⟨_, ha⟩, hgo⟩ := hG
      exact .inr (fin (mact_step H' h0 hbl ht hl ha hgo))
  · -- another
    refine .inr ?_
    have hi0 : i ≠ 0 := by omega
    have hib : (i == 0) = false := by simp; omega
    have hlt : i < gs.size := (Array.getElem?_eq_some_iff.1 hgi).1
    cases hD : M.D i with
    | some y =>
      obtain ⟨fr, cs, e0, hG, _⟩ := H.go.lv i y hD
      have hK := M_Ki hi0 hD
      have fin : Stepped P R N0 W M gs (w.at d) t i false fr cs (G fr cs).frame.fn (G fr cs).frame.place → ∃ M' gs' w' sl' ops, stepT P (crowd gs w sl) = (.next (crowd gs' w' sl'), ops) ∧ Inv P R N0 W M' gs' w' (t ++ ops) ∧ MuLt (M'.mu gs'.size) (M.mu gs.size) := fun hs => by
        obtain ⟨fr', cs', w', es, M', e1, e2, e3⟩ := hs
        have hr := runT_crowd_go (P := P) (sl := sl') (i := i) e0 (by rw [hib]; exact e1)
        exact ⟨M', _, w', sl', _, hst.trans hr, e2, by simpa using e3⟩
      cases ht : y.2 with
      | stop =>
        rw [ht] at hG
        obtain ⟨h', hl, ⟨p', hg'⟩, _⟩ := hG
        obtain ⟨p, s, _, _, s', hs', _, hne⟩ := H.ph.live hD
        rw [← hl.gh, hg'] at hs'; cases hs'; exact absurd rfl hne
      | step k =>
        rw [ht] at hG
        obtain ⟨hp, hk⟩ := hG
        obtain ⟨fr', cs', w', es, h', e1, e2, e3⟩ := hk (w.at d) (fun b m o e => H'.wo.hold i _ b m o hK e)
        exact fin ⟨fr', cs', w', es, _, e1, H'.wstep hD e0 e2 (.inl hp) e3, mu_wrk hlt hD (by rw [ht]; exact .step _ _) rfl⟩
      | move t₁ =>
        rw [ht] at hG
        obtain ⟨fr', cs', e1, e3⟩ := hG
        exact fin ⟨fr', cs', w.at d, #[], _, e1 _, H'.wstep hD e0 (KStep.refl (h := y.1) (fun b m o e => H'.wo.hold i _ b m o hK e)) (.inr ⟨rfl, rfl, rfl⟩) e3, mu_wrk hlt hD (by rw [ht]; exact .move _) rfl⟩
      | act k =>
        rw [ht] at hG
        obtain ⟨h₀, Out, hl, ⟨_, ha⟩, hgo⟩ := hG
        exact fin (wact_step H' hD e0 ht hl ha hgo)
    | none =>
      obtain ⟨g₁, e0, hq⟩ := H.go.gn i (by omega) hlt hD
      rw [hgi] at e0; cases e0
      cases hqi : M.q i with
      | zero => rw [hqi] at hq; rw [hq.1] at hrun; cases hrun
      | succ k =>
        rw [hqi] at hq
        rcases hq with ⟨hf, _⟩ | ⟨_, g', es, hm, hstp, hq'⟩
        · rw [hf] at hrun; cases hrun
        have hr := runT_crowd_go (P := P) (sl := sl') (i := i) hgi (by rw [hib]; exact hstp (w.at d))
        exact ⟨_, _, w.at d, sl', _, hst.trans hr, H'.slip hi0 hD hgi hm hq', by simpa using mu_slip (k := k) hlt hD (by omega)⟩

/-- THE THEOREM OF THE MACHINE: a lone goroutine that follows the starter's acts ends well, on whatever tape. -/
theorem run_main {fr : Frame} {h : Know} {W : World} (hg : h.gh = .idle) (hh : h.holds W) (hro : ∀ b o, h b ≠ some (true, o)) (hgo : GoesS actsM P true (StopM P R) fr [] h) :
    ∃ n last o w' t', runNT P (n + 1) (solo (G fr []) W) #[] = (.ended o w', t') ∧ runN P n (solo (G fr []) W) = .next last ∧ step P last = .ended o w' ∧ Conc.Good P (fun v w' => R v ∧ Since W.heap.size W w') last o w' t' := by
  obtain ⟨t0, hgo⟩ := hgo
  rw [solo_eq_crowd]
  have nt : ∀ i a, touchAt (#[] : Trace) i ≠ some a := fun i a e => by obtain ⟨op, ho, _⟩ := touch_of e; simp at ho
  have H : Inv P R W.heap.size W ⟨fun _ => none, fun _ => 0, h, t0, false, fun _ => 0, 0, 0, 0⟩ #[G fr []] W #[] := by
    refine ⟨⟨⟨fr, [], rfl, hgo⟩, fun i y e => (by cases e), fun i h1 hi _ => ?_, rfl, by rw [show deafM h.gh = 0 by rw [hg]; rfl]; rfl⟩, ⟨fun g f b m o hf hb => ?_, ⟨fun g₁ f₁ g₂ f₂ b o hne h1 h2 hb => ?_, fun g f b y hf hb => ?_⟩, ⟨fun said => ?_, fun op hop => by simp at hop, fun op hop => by simp at hop, fun op hop => by simp at hop, fun g f _ i a b m o ha => absurd ha (nt i a)⟩,
      ⟨rfl, rfl, rfl, Nat.le_refl _, fun _ _ => rfl⟩, fun g f b o hf hb => ?_⟩, ?_⟩
    · simp at hi; omega
    · by_cases e : g = 0
      · subst e; simp [Gst.K] at hf; subst hf; exact hh b m o hb
      · simp [Gst.K, e] at hf
    · by_cases e : g₁ = 0
      · subst e; simp [Gst.K] at h1; subst h1; exact absurd hb (hro b o)
      · simp [Gst.K, e] at h1
    · by_cases e : g = 0
      · subst e; simp [Gst.K] at hf; subst hf; exact Know.lt_of hh hb
      · simp [Gst.K, e] at hf
    · rintro ⟨i, j, hij, ⟨a, b, ha, _⟩, _⟩
      obtain ⟨op, ho, _⟩ := touch_of ha
      simp at ho
    · by_cases e : g = 0
      · subst e; simp [Gst.K] at hf; subst hf; exact absurd hb (hro b o)
      · simp [Gst.K, e] at hf
    · unfold PhI
      rw [show (Gst.h0 ⟨fun _ => none, fun _ => 0, h, t0, false, fun _ => 0, 0, 0, 0⟩) = h from rfl, hg]
      exact ⟨fun _ => rfl, rfl, fun i g e => by simp [Trace.g?] at e⟩
  refine run_of_inv mu_wf (fun μ m t => ∃ M gs w sl, m = crowd gs w sl ∧ Inv P R W.heap.size W M gs w t ∧ μ = M.mu gs.size) (Conc.Good P (fun v w' => R v ∧ Since W.heap.size W w')) ?_ _ _ _ ⟨_, _, _, none, rfl, H, rfl⟩
  rintro μ m t ⟨M, gs, w, sl, rfl, HI, rfl⟩
  rcases step_inv HI sl with ⟨o, w', ops, e1, e2⟩ | ⟨M', gs', w', sl', ops, e1, e2, e3⟩
  · exact .inl ⟨o, w', ops, e1, e2⟩
  · exact .inr ⟨_, ops, _, e1, e3, M', gs', w', sl', rfl, e2, rfl⟩
end
end KL
end Go.Proofs.YtlmecmapkijcnaaDoor
