/- The invariant while a phase lasts; how a step of one keeps it. The invariant while a phase lasts: acts. The machine's invariant; the workers' steps. The workers' acts keep the invariant. -/
import Derived.Test.YtlmecmapkijcnaaDoorR13
set_option linter.unusedVariables false
namespace Go.Proofs.YtlmecmapkijcnaaDoor
namespace KL
open Go.Conc
open Go.ConcN (sumTo)
open Go.ConcR (g_of_ofEvents)

structure Since (N0 : Nat) (W w : World) : Prop where
  os : w.os = W.os
  output : w.output = W.output
  tape : w.tape = W.tape
  size : N0 ≤ w.heap.size
  keep : ∀ b, b < N0 → w.heap[b]? = W.heap[b]?

/-- What holds of memory and of the trace, phase or no phase. -/
structure Wo (N0 : Nat) (W : World) (K : Nat → Option Blk) (N : Nat) (w : World) (t : Trace) : Prop where
  hold : ∀ g f b m o, K g = some f → f b = some (m, o) → w.heap[b]? = some o
  ap : Ap w.heap.size K
  tr : TR t w.heap.size N K
  since : Since N0 W w
  fresh : ∀ g f b o, K g = some f → f b = some (true, o) → N0 ≤ b

def stG : Option Gh → WS
  | some g => stOf g
  | none => .quit
def SG (b0 : Nat) (Gd : Nat → Option Gh) (k : Nat) : WS := stG (Gd (b0 + k))
def relS : WS → Prop
  | .run _ | .has _ | .out => False
  | _ => True
def RelG (b0 N : Nat) (Gd : Nat → Option Gh) (g : Nat) : Prop := b0 ≤ g ∧ g < N ∧ relS (stG (Gd g))

structure Stat (p : Ph) (N0 : Nat) : Prop where
  W1 : 1 ≤ p.W
  W8 : p.W ≤ 1000
  n30 : p.n ≤ 2 ^ 30
  ngb : p.back p.gb = none
  ncb : p.back p.cb = none
  nrb : p.back p.rb = none
  gc : p.gb ≠ p.cb
  gr : p.gb ≠ p.rb
  cr : p.cb ≠ p.rb
  gN : N0 ≤ p.gb
  cN : N0 ≤ p.cb
  rN : N0 ≤ p.rb

structure PhM (p : Ph) (s : SS) (N0 : Nat) (Gd : Nat → Option Gh) (K : Nat → Option Blk) (own : Nat → Nat) (x b0 j : Nat) (bl : Bool) (N : Nat) (w : World) (t : Trace) : Prop where
  size : N = b0 + j
  b1 : 1 ≤ b0
  lv : ∀ i g, Gd i = some g → b0 ≤ i ∧ i < N ∧ ∃ s', g = .wrk p s' ∧ s' ≠ .gone ∧ s' ≠ .quit
  kd : ∀ g f, K g = some f → g = 0 ∨ b0 ≤ g
  st : Stat p N0
  free : ∀ g f, K g = some f → f p.gb = none ∧ f p.cb = none ∧ f p.rb = none
  backw : ∀ b y, p.back b = some y → w.heap[b]? = some y.2 ∧ (y.1 = true → N0 ≤ b)
  backk : ∀ g f b y m o, K g = some f → p.back b = some y → f b = some (m, o) → m = false
  grp : ∃ st sm, Grp p w st sm ∧ Mode p.W j (SG b0 Gd) s bl st sm
  cnt : Cnt p w x
  row : ∃ row, Rw p w row ∧ ∀ i, i < p.n → i < x → (∀ g, Gd g ≠ some (.wrk p (.has i))) → ∀ k, k < p.m → row[p.m * i + k]? = some (p.fin (p.m * i + k))
  has : ∀ g i, Gd g = some (.wrk p (.has i)) → i < x ∧ i < p.n ∧ own i = g
  run : ∀ g c, Gd g = some (.wrk p (.run c)) → c ≤ x
  xle : x ≤ p.n + sumTo j (fun k => beyond (SG b0 Gd k))
  full : ∀ k, k < j → beyond (SG b0 Gd k) = 1 → p.n ≤ x
  tp : TP t p b0 K own x (RelG b0 N Gd)

section
variable {p : Ph} {s : SS} {N0 : Nat} {W : World} {Gd : Nat → Option Gh} {K : Nat → Option Blk} {own own' : Nat → Nat} {x x' b0 j N : Nat} {bl bl' : Bool} {w w' : World} {t u : Trace} {f f' : Blk} {h h' : Know} {es : Array Event} {g : Nat} {fn : FuncId} {pos : String}

/-! ### What a private step lists -/
theorem ops_priv (k : KStep h w h' w' es) : OpsOf g w'.heap.size (MemOp.ofEvents g fn pos es) ∧ (∀ op ∈ MemOp.ofEvents g fn pos es, ∀ b, op.act.touch? = some b → Cls w.heap.size h.blk b) ∧ ∀ d, deafBehind d es = d := by
  have cov : ∀ e ∈ es, (MemAct.ofEvent e).low w'.heap.size ∧ (∀ a, MemAct.ofEvent e ≠ .mark (.release a)) ∧ (∀ b, (MemAct.ofEvent e).touch? = some b → Cls w.heap.size h.blk b) ∧ e.loc ≠ .mark .disable ∧ e.loc ≠ .mark .enable := by
    intro e he
    have h1 := k.evs e he
    have h2 := k.low e he
    obtain ⟨loc, wr, sy⟩ := e
    cases loc with
    | cell a =>
      obtain ⟨hs, hc⟩ := h1
      simp only at hs
      subst hs
      have e1 : MemAct.ofEvent ⟨.cell a, wr, false⟩ = .access ⟨.cell a, wr, false⟩ := by cases wr <;> rfl
      rw [e1]
      exact ⟨h2, fun a e => (by cases e), fun b hb => by simp only [MemAct.touch?, Option.some.injEq] at hb; subst hb; exact ⟨a.block, rfl, hc⟩, fun e => (by cases e), fun e => (by cases e)⟩
    | obj r =>
      obtain ⟨hs, hc⟩ := h1
      simp only at hs
      subst hs
      have e1 : MemAct.ofEvent ⟨.obj r, wr, false⟩ = .access ⟨.obj r, wr, false⟩ := by cases wr <;> rfl
      rw [e1]
      exact ⟨h2, fun a e => (by cases e), fun b hb => by simp only [MemAct.touch?, Option.some.injEq] at hb; subst hb; exact ⟨r, rfl, hc⟩, fun e => (by cases e), fun e => (by cases e)⟩
    | mark m =>
      have hm : m = .noRoom := h1
      subst hm
      have e1 : MemAct.ofEvent ⟨.mark .noRoom, wr, sy⟩ = .mark .noRoom := by cases wr <;> cases sy <;> rfl
      rw [e1]
      exact ⟨trivial, fun a e => (by cases e), fun b hb => (by cases hb), fun e => (by cases e), fun e => (by cases e)⟩
    | output => exact h1.elim
    | goroutines => exact h1.elim
  refine ⟨⟨g_of_ofEvents, fun op hop => ?_, fun op hop => ?_⟩, fun op hop => ?_, deafBehind_still fun e he => ⟨(cov e he).2.2.2.1, (cov e he).2.2.2.2⟩⟩
  · obtain ⟨e, he, rfl⟩ := Go.Conc.mem_ofEvents hop; exact (cov e he).1
  · obtain ⟨e, he, rfl⟩ := Go.Conc.mem_ofEvents hop; exact (cov e he).2.1
  · obtain ⟨e, he, rfl⟩ := Go.Conc.mem_ofEvents hop; exact (cov e he).2.2.1

theorem Wo.at (H : Wo N0 W K N w t) (d : Nat) : Wo N0 W K N (w.at d) t := ⟨H.hold, H.ap, H.tr, ⟨H.since.os, H.since.output, H.since.tape, H.since.size, H.since.keep⟩, H.fresh⟩
theorem PhM.at (H : PhM p s N0 Gd K own x b0 j bl N w t) (d : Nat) : PhM p s N0 Gd K own x b0 j bl N (w.at d) t :=
  ⟨H.size, H.b1, H.lv, H.kd, H.st, H.free, H.backw, H.backk, H.grp, H.cnt, H.row, H.has, H.run, H.xle, H.full, H.tp⟩

/-- What another knows stands. -/
theorem Wo.others (H : Wo N0 W K N w t) (hK : K g = some h.blk) (k : KStep h w h' w' es) {g' : Nat} (hg : g' ≠ g) {f : Blk} {b : Nat} {m : Bool} {o : Obj} (hf : K g' = some f) (hb : f b = some (m, o)) : w'.heap[b]? = w.heap[b]? := by
  refine k.keep b (H.ap.lt g' f b _ hf hb) fun ⟨o', e⟩ => ?_
  rw [H.ap.dis g h.blk g' f b o' (Ne.symm hg) hK hf e] at hb; cases hb

/-- A step over what g owns. -/
theorem Wo.priv (H : Wo N0 W K N w t) (hK : K g = some h.blk) (hg : g < N) (k : KStep h w h' w' es) : Wo N0 W (setK K g (some h'.blk)) N w' (t ++ MemOp.ofEvents g fn pos es) := by
  obtain ⟨o1, o2, _⟩ := ops_priv (g := g) (fn := fn) (pos := pos) k
  have ltk : ∀ b y, h'.blk b = some y → b < w'.heap.size := fun b y e => Know.lt_of k.holds e
  have own' : ∀ b m o, h'.blk b = some (m, o) → b < w.heap.size → ∃ o', h.blk b = some (m, o') := by
    intro b m o e hb
    cases m with
    | true => exact k.own b ⟨o, e⟩ hb
    | false => exact ⟨o, k.share b o e⟩
  refine ⟨fun g' f b m o hf hb => ?_, ⟨fun g₁ f₁ g₂ f₂ b o hne h1 h2 hb => ?_, fun g' f b y hf hb => ?_⟩, H.tr.app H.ap k.size hg o1 hK own' (fun op hop b hb => .inl (o2 op hop b hb)), ⟨k.os.trans H.since.os, k.output.trans H.since.output, k.tape.trans H.since.tape, Nat.le_trans H.since.size k.size, fun b hb => ?_⟩, fun g' f b o hf hb => ?_⟩
  · by_cases e : g' = g
    · subst e; rw [setK_same] at hf; obtain rfl := Option.some.inj hf; exact k.holds b m o hb
    · rw [setK_ne _ _ e] at hf; rw [H.others hK k e hf hb]; exact H.hold g' f b m o hf hb
  · by_cases e1 : g₁ = g
    · subst e1
      rw [setK_same] at h1; obtain rfl := Option.some.inj h1
      rw [setK_ne _ _ (Ne.symm hne)] at h2
      rcases Nat.lt_or_ge b w.heap.size with hlt | hge
      · obtain ⟨o', e⟩ := own' b true o hb hlt
        exact H.ap.dis _ _ _ _ b o' hne hK h2 e
      · cases e : f₂ b with
        | none => rfl
        | some y => exact absurd (H.ap.lt _ _ _ _ h2 e) (by omega)
    · rw [setK_ne _ _ e1] at h1
      by_cases e2 : g₂ = g
      · subst e2
        rw [setK_same] at h2; obtain rfl := Option.some.inj h2
        cases e : h'.blk b with
        | none => rfl
        | some y =>
          obtain ⟨m, o₂⟩ := y
          obtain ⟨o', e'⟩ := own' b m o₂ e (H.ap.lt _ _ _ _ h1 hb)
          rw [H.ap.dis _ _ _ _ b o hne h1 hK hb] at e'; cases e'
      · rw [setK_ne _ _ e2] at h2
        exact H.ap.dis _ _ _ _ b o hne h1 h2 hb
  · by_cases e : g' = g
    · subst e; rw [setK_same] at hf; obtain rfl := Option.some.inj hf; exact ltk b y hb
    · rw [setK_ne _ _ e] at hf; exact Nat.lt_of_lt_of_le (H.ap.lt _ _ _ _ hf hb) k.size
  · rw [k.keep b (Nat.lt_of_lt_of_le hb H.since.size) fun ⟨o, e⟩ => by have := H.fresh g _ b o hK e; omega]
    exact H.since.keep b hb
  · by_cases e : g' = g
    · subst e
      rw [setK_same] at hf; obtain rfl := Option.some.inj hf
      rcases Nat.lt_or_ge b w.heap.size with hlt | hge
      · obtain ⟨o', e'⟩ := own' b true o hb hlt
        exact H.fresh _ _ b o' hK e'
      · exact Nat.le_trans H.since.size hge
    · rw [setK_ne _ _ e] at hf; exact H.fresh _ _ b o hf hb

theorem lt_of_heap {w : World} {b : Nat} {o : Obj} (h : w.heap[b]? = some o) : b < w.heap.size := by
  rcases Nat.lt_or_ge b w.heap.size with g | g
  · exact g
  · rw [Array.getElem?_eq_none g] at h; cases h

theorem PhM.lts (H : PhM p s N0 Gd K own x b0 j bl N w t) : p.gb < w.heap.size ∧ p.cb < w.heap.size ∧ p.rb < w.heap.size := by
  obtain ⟨_, _, h1, _⟩ := H.grp
  obtain ⟨_, h2, _⟩ := H.row
  exact ⟨lt_of_heap h1, lt_of_heap H.cnt, lt_of_heap h2.1⟩

theorem PhM.priv (H : PhM p s N0 Gd K own x b0 j bl N w t) (Hw : Wo N0 W K N w t) (hK : K g = some h.blk) (k : KStep h w h' w' es) (hr : ¬ RelG b0 N Gd g) :
    PhM p s N0 Gd (setK K g (some h'.blk)) own x b0 j bl N w' (t ++ MemOp.ofEvents g fn pos es) := by
  obtain ⟨o1, o2, _⟩ := ops_priv (g := g) (fn := fn) (pos := pos) k
  obtain ⟨lg, lc, lr⟩ := H.lts
  obtain ⟨fg, fc, frr⟩ := H.free g _ hK
  have own' : ∀ b m o, h'.blk b = some (m, o) → b < w.heap.size → ∃ o', h.blk b = some (m, o') := by
    intro b m o e hb
    cases m with
    | true => exact k.own b ⟨o, e⟩ hb
    | false => exact ⟨o, k.share b o e⟩
  have keep : ∀ b, b < w.heap.size → h.blk b = none → w'.heap[b]? = w.heap[b]? := fun b hb e => k.keep b hb fun ⟨o, e'⟩ => by
    have : h.blk b = some (true, o) := e'
    rw [e] at this; cases this
  have none' : ∀ b, b < w.heap.size → h.blk b = none → h'.blk b = none := by
    intro b hb e
    cases e' : h'.blk b with
    | none => rfl
    | some y => obtain ⟨m, o⟩ := y; obtain ⟨o', e2⟩ := own' b m o e' hb; rw [e] at e2; cases e2
  refine ⟨H.size, H.b1, H.lv, fun g' f hf => ?_, H.st, fun g' f hf => ?_, fun b y hy => ⟨?_, (H.backw b y hy).2⟩, fun g' f b y m o hf hy hb => ?_, ?_, ?_, ?_, H.has, H.run, H.xle, H.full, ?_⟩
  · by_cases e : g' = g
    · subst e; exact H.kd g' _ hK
    · rw [setK_ne _ _ e] at hf; exact H.kd g' f hf
  · by_cases e : g' = g
    · subst e; rw [setK_same] at hf; obtain rfl := Option.some.inj hf; exact ⟨none' _ lg fg, none' _ lc fc, none' _ lr frr⟩
    · rw [setK_ne _ _ e] at hf; exact H.free g' f hf
  · have hb := (H.backw b y hy).1
    rw [k.keep b (lt_of_heap hb) fun ⟨o, e⟩ => by have := H.backk g _ b y true o hK hy e; cases this]
    exact hb
  · by_cases e : g' = g
    · subst e
      rw [setK_same] at hf; obtain rfl := Option.some.inj hf
      obtain ⟨o', e2⟩ := own' b m o hb (lt_of_heap (H.backw b y hy).1)
      exact H.backk g' _ b y m o' hK hy e2
    · rw [setK_ne _ _ e] at hf; exact H.backk g' f b y m o hf hy hb
  · obtain ⟨st, sm, h1, h2⟩ := H.grp
    exact ⟨st, sm, by unfold Grp; rw [keep _ lg fg]; exact h1, h2⟩
  · unfold Cnt; rw [keep _ lc fc]; exact H.cnt
  · obtain ⟨row, h1, h2⟩ := H.row
    exact ⟨row, ⟨by rw [keep _ lr frr]; exact h1.1, h1.2⟩, h2⟩
  · refine H.tp.app (B := w.heap.size) ⟨lg, lc, lr⟩ o1.g (H.kd g _ hK) (f := h.blk) ⟨fg, fc, frr⟩ ⟨H.st.gr, H.st.cr⟩ (fun b y hy => ⟨lt_of_heap (H.backw b y hy).1, fun e => ?_, fun e => ?_, fun e => ?_, fun m o e => H.backk g _ b y m o hK hy e⟩)
      (fun op hop b hb => .inl (o2 op hop b hb)) (Nat.le_refl _) (fun _ _ => rfl) (fun g' f₁ hf => ?_) (fun _ hr _ => hr) (fun hr' => absurd hr' hr)
    · rw [e, H.st.ngb] at hy; cases hy
    · rw [e, H.st.ncb] at hy; cases hy
    · rw [e, H.st.nrb] at hy; cases hy
    · by_cases e : g' = g
      · subst e; exact ⟨_, hK⟩
      · rw [setK_ne _ _ e] at hf; exact ⟨_, hf⟩
end
end KL
end Go.Proofs.YtlmecmapkijcnaaDoor

set_option linter.unusedVariables false
namespace Go.Proofs.YtlmecmapkijcnaaDoor
namespace KL
open Go.Conc
open Go.ConcN (sumTo)
open Go.ConcR (g_of_ofEvents)

def MarkOk (p : Ph) (g : Nat) (m : Mark) : Prop :=
  m = .disable ∨ m = .enable ∨ m = .releaseMerge (cel p.gb 0) ∨ m = .acquire (cel p.gb 0) ∨ ((m = .read (cel p.gb 1) ∨ m = .write (cel p.gb 1)) ∧ g = 0)
/-- What an act lists. -/
def EvA (p : Ph) (g : Nat) (own : Nat → Nat) (x : Nat) (e : Event) : Prop :=
  (∃ b i wr, (b = p.gb ∨ b = p.cb) ∧ e = ⟨.cell (cel b i), wr, true⟩) ∨ (∃ m, e = evM m ∧ MarkOk p g m) ∨ ∃ k, e = ⟨.cell (cel p.rb k), true, false⟩ ∧ k / p.m < x ∧ own (k / p.m) = g

section
variable {p : Ph} {s s' : SS} {N0 : Nat} {W : World} {Gd : Nat → Option Gh} {K : Nat → Option Blk} {own own' : Nat → Nat} {x x' b0 j N B : Nat} {bl bl' : Bool} {w w' : World} {t u : Trace} {f f' : Blk} {h h' : Know} {es : Array Event} {g i : Nat} {fn : FuncId} {pos : String}

theorem touch_evM {m : Mark} {b : Touch} (hm : MarkOk p g m) (hb : (MemAct.ofEvent (evM m)).touch? = some b) : b.loc = .cell (cel p.gb 1) ∧ b.kind = .said ∧ g = 0 := by
  have e : MemAct.ofEvent (evM m) = .mark m := rfl
  rw [e] at hb
  rcases hm with rfl | rfl | rfl | rfl | ⟨rfl | rfl, h0⟩ <;> simp [MemAct.touch?] at hb <;> (subst hb; exact ⟨rfl, rfl, h0⟩)
theorem ofEvent_sync (a : Addr) (wr : Bool) : MemAct.ofEvent ⟨.cell a, wr, true⟩ = .access ⟨.cell a, wr, true⟩ := by cases wr <;> rfl

theorem ops_act (lts : p.gb < B ∧ p.cb < B ∧ p.rb < B) (hes : ∀ e ∈ es, EvA p g own x e) : OpsOf g B (MemOp.ofEvents g fn pos es) ∧ ∀ op ∈ MemOp.ofEvents g fn pos es, ∀ b, op.act.touch? = some b →
    ((∃ k, locBlk b.loc = some k ∧ (k = p.gb ∨ k = p.cb)) ∧ b.kind ≠ .plain ∧ (b.kind = .said → g = 0)) ∨ ∃ k, b.loc = .cell (cel p.rb k) ∧ k / p.m < x ∧ own (k / p.m) = g := by
  refine ⟨⟨g_of_ofEvents, fun op hop => ?_, fun op hop a => ?_⟩, fun op hop b hb => ?_⟩
  · obtain ⟨e, he, rfl⟩ := Go.Conc.mem_ofEvents hop
    rcases hes e he with ⟨b, i, wr, hbb, rfl⟩ | ⟨m, rfl, hm⟩ | ⟨k, rfl, _⟩
    · rw [ofEvent_sync]
      rcases hbb with rfl | rfl
      · exact lts.1
      · exact lts.2.1
    · have e : MemAct.ofEvent (evM m) = .mark m := rfl
      rw [e]
      rcases hm with rfl | rfl | rfl | rfl | ⟨rfl | rfl, _⟩ <;> first | trivial | exact lts.1
    · exact lts.2.2
  · obtain ⟨e, he, rfl⟩ := Go.Conc.mem_ofEvents hop
    rcases hes e he with ⟨b, i, wr, hbb, rfl⟩ | ⟨m, rfl, hm⟩ | ⟨k, rfl, _⟩
    · rw [ofEvent_sync]; intro e; cases e
    · have e : MemAct.ofEvent (evM m) = .mark m := rfl
      rw [e]
      rcases hm with rfl | rfl | rfl | rfl | ⟨rfl | rfl, _⟩ <;> (intro e; cases e)
    · intro e; cases e
  · obtain ⟨e, he, rfl⟩ := Go.Conc.mem_ofEvents hop
    rcases hes e he with ⟨b', i, wr, hbb, rfl⟩ | ⟨m, rfl, hm⟩ | ⟨k, rfl, h1, h2⟩
    · rw [ofEvent_sync] at hb
      simp only [MemAct.touch?, Option.some.injEq, if_true] at hb
      subst hb
      exact .inl ⟨⟨b', rfl, hbb⟩, by simp, fun e => (by cases e)⟩
    · obtain ⟨e1, e2, e3⟩ := touch_evM hm hb
      exact .inl ⟨⟨p.gb, by rw [e1]; rfl, .inl rfl⟩, by rw [e2]; simp, fun _ => e3⟩
    · have e : MemAct.ofEvent ⟨.cell (cel p.rb k), true, false⟩ = .access ⟨.cell (cel p.rb k), true, false⟩ := rfl
      rw [e] at hb
      simp only [MemAct.touch?, Option.some.injEq] at hb
      subst hb
      exact .inr ⟨k, rfl, h1, h2⟩

/-- The world of an act: the three blocks alone turn. -/
structure Turned (p : Ph) (w w' : World) : Prop where
  size : w'.heap.size = w.heap.size
  os : w'.os = w.os
  output : w'.output = w.output
  tape : w'.tape = w.tape
  mem : ∀ b, b ≠ p.gb → b ≠ p.cb → b ≠ p.rb → w'.heap[b]? = w.heap[b]?
theorem Turned.refl (w : World) : Turned p w w := ⟨rfl, rfl, rfl, rfl, fun _ _ _ _ => rfl⟩
theorem Turned.set {a : Addr} (v : Value) (h : a.block = p.gb ∨ a.block = p.cb) : Turned p w (w.setCell a v) :=
  ⟨by simp [World.setCell], rfl, rfl, rfl, fun b h1 h2 _ => heap_modify_ne _ (by rcases h with e | e <;> (rw [e]; assumption))⟩

theorem Wo.act (H : Wo N0 W K N w t) (Hp : PhM p s N0 Gd K own x b0 j bl N w t) (hK : K g = some f) (hg : g < N) (hf : ∀ b y, f' b = some y → f b = some y) (T : Turned p w w') (hes : ∀ e ∈ es, EvA p g own x e) :
    Wo N0 W (setK K g (some f')) N w' (t ++ MemOp.ofEvents g fn pos es) := by
  obtain ⟨o1, o2⟩ := ops_act (fn := fn) (pos := pos) Hp.lts hes
  have hold : ∀ g' f b m o, K g' = some f → f b = some (m, o) → w'.heap[b]? = some o := by
    intro g' f b m o hf hb
    obtain ⟨fg, fc, frr⟩ := Hp.free g' f hf
    rw [T.mem b (fun e => by rw [e, fg] at hb; cases hb) (fun e => by rw [e, fc] at hb; cases hb) (fun e => by rw [e, frr] at hb; cases hb)]
    exact H.hold g' f b m o hf hb
  have sub : ∀ g' f₁, setK K g (some f') g' = some f₁ → ∃ f₂, K g' = some f₂ ∧ ∀ b y, f₁ b = some y → f₂ b = some y := by
    intro g' f₁ hf₁
    by_cases e : g' = g
    · subst e; rw [setK_same] at hf₁; obtain rfl := Option.some.inj hf₁; exact ⟨f, hK, hf⟩
    · rw [setK_ne _ _ e] at hf₁; exact ⟨f₁, hf₁, fun _ _ z => z⟩
  refine ⟨fun g' f₁ b m o hf₁ hb => ?_, ⟨fun g₁ f₁ g₂ f₂ b o hne h1 h2 hb => ?_, fun g' f₁ b y hf₁ hb => ?_⟩, ?_, ⟨T.os.trans H.since.os, T.output.trans H.since.output, T.tape.trans H.since.tape, by rw [T.size]; exact H.since.size, fun b hb => ?_⟩, fun g' f₁ b o hf₁ hb => ?_⟩
  · obtain ⟨f₂, e1, e2⟩ := sub g' f₁ hf₁
    exact hold g' f₂ b m o e1 (e2 b _ hb)
  · obtain ⟨f₁', e1, e2⟩ := sub g₁ f₁ h1
    obtain ⟨f₂', e3, e4⟩ := sub g₂ f₂ h2
    have := H.ap.dis _ _ _ _ b o hne e1 e3 (e2 b _ hb)
    cases e : f₂ b with
    | none => rfl
    | some y => rw [e4 b y e] at this; cases this
  · obtain ⟨f₂, e1, e2⟩ := sub g' f₁ hf₁
    rw [T.size]; exact H.ap.lt _ _ _ _ e1 (e2 b _ hb)
  · rw [T.size]
    exact H.tr.app H.ap (Nat.le_refl _) hg o1 hK (fun b m o e _ => ⟨o, hf b _ e⟩) fun op hop b hb => .inr (Hp.tp.shd hK Hp.free (o2 op hop b hb))
  · rw [T.mem b (fun e => by have := Hp.st.gN; omega) (fun e => by have := Hp.st.cN; omega) (fun e => by have := Hp.st.rN; omega)]
    exact H.since.keep b hb
  · obtain ⟨f₂, e1, e2⟩ := sub g' f₁ hf₁
    exact H.fresh _ _ b o e1 (e2 b _ hb)

/-- Fewer are there. -/
theorem Wo.less {K' : Nat → Option Blk} (H : Wo N0 W K N w t) (sub : ∀ g f', K' g = some f' → ∃ f, K g = some f ∧ ∀ b y, f' b = some y → f b = some y) : Wo N0 W K' N w t := by
  refine ⟨fun g f b m o hf hb => ?_, ⟨fun g₁ f₁ g₂ f₂ b o hne h1 h2 hb => ?_, fun g f b y hf hb => ?_⟩, H.tr.less fun g f' hf' => ?_, H.since, fun g f b o hf hb => ?_⟩
  · obtain ⟨f₂, e1, e2⟩ := sub g f hf; exact H.hold g f₂ b m o e1 (e2 b _ hb)
  · obtain ⟨f₁', e1, e2⟩ := sub g₁ f₁ h1
    obtain ⟨f₂', e3, e4⟩ := sub g₂ f₂ h2
    have := H.ap.dis _ _ _ _ b o hne e1 e3 (e2 b _ hb)
    cases e : f₂ b with
    | none => rfl
    | some y => rw [e4 b y e] at this; cases this
  · obtain ⟨f₂, e1, e2⟩ := sub g f hf; exact H.ap.lt _ _ _ _ e1 (e2 b _ hb)
  · obtain ⟨f₂, e1, e2⟩ := sub g f' hf'; exact ⟨f₂, e1, fun b m o e => ⟨m, o, e2 b _ e, id⟩⟩
  · obtain ⟨f₂, e1, e2⟩ := sub g f hf; exact H.fresh _ _ b o e1 (e2 b _ hb)

theorem SG_set (hi : b0 ≤ i) (go : Option Gh) : SG b0 (setK Gd i go) = setK (SG b0 Gd) (i - b0) (stG go) := by
  funext k
  unfold SG setK
  by_cases e : b0 + k = i
  · rw [if_pos e, if_pos (by omega)]
  · rw [if_neg e, if_neg (by omega)]
theorem sum_set (S : Nat → WS) (y : WS) {L : Nat} (hL : L < j) : sumTo j (fun k => beyond (setK S L y k)) + beyond (S L) = sumTo j (fun k => beyond (S k)) + beyond y := by
  have := Go.ConcN.sumTo_upd S y beyond hL
  have e : (fun a => beyond (Go.ConcN.upd S L y a)) = fun a => beyond (setK S L y a) := by funext a; rfl
  rw [e] at this
  exact this

/-- A worker's act: the new data are handed in. -/
theorem PhM.wrk (H : PhM p s N0 Gd K own x b0 j bl N w t) {s₀ : WS} (hi : Gd i = some (.wrk p s₀)) (hK : K i = some f) {go : Option Gh} {ko : Option Blk} (hgo : ∀ z, go = some z → ∃ s', z = .wrk p s' ∧ s' ≠ .gone ∧ s' ≠ .quit)
    (hko : ∀ f₁, ko = some f₁ → ∀ b y, f₁ b = some y → f b = some y) (T : Turned p w w') (hes : ∀ e ∈ es, EvA p i own x e)
    {st' sm' : Int} (hgrp : Grp p w' st' sm') (hmode : Mode p.W j (setK (SG b0 Gd) (i - b0) (stG go)) s bl' st' sm') (hcnt : Cnt p w' x')
    (hrow : ∃ row, Rw p w' row ∧ ∀ i', i' < p.n → i' < x' → (∀ g, setK Gd i go g ≠ some (.wrk p (.has i'))) → ∀ k, k < p.m → row[p.m * i' + k]? = some (p.fin (p.m * i' + k)))
    (hhas : ∀ i', go = some (.wrk p (.has i')) → i' < x' ∧ i' < p.n ∧ own' i' = i) (hown : ∀ k, k < x → own' k = own k) (hx : x ≤ x') (hrun : ∀ c, go = some (.wrk p (.run c)) → c ≤ x')
    (hxle : x' ≤ p.n + sumTo j (fun k => beyond (setK (SG b0 Gd) (i - b0) (stG go) k))) (hfull : beyond (stG go) = 1 → p.n ≤ x')
    (hrel : relS (stG go) → ∃ r, Reld p (t ++ MemOp.ofEvents i fn pos es) i r) :
    PhM p s N0 (setK Gd i go) (setK K i ko) own' x' b0 j bl' N w' (t ++ MemOp.ofEvents i fn pos es) := by
  obtain ⟨hib, hiN, _⟩ := H.lv i _ hi
  obtain ⟨o1, o2⟩ := ops_act (fn := fn) (pos := pos) H.lts hes
  have sub : ∀ g' f₁, setK K i ko g' = some f₁ → ∃ f₂, K g' = some f₂ ∧ ∀ b y, f₁ b = some y → f₂ b = some y := by
    intro g' f₁ hf₁
    by_cases e : g' = i
    · subst e; rw [setK_same] at hf₁; exact ⟨f, hK, hko f₁ hf₁⟩
    · rw [setK_ne _ _ e] at hf₁; exact ⟨f₁, hf₁, fun _ _ z => z⟩
  have less : ∀ {g' f₁ b}, setK K i ko g' = some f₁ → (∀ f₂, K g' = some f₂ → f₂ b = none) → f₁ b = none := by
    intro g' f₁ b hf₁ hn
    obtain ⟨f₂, e1, e2⟩ := sub g' f₁ hf₁
    cases e : f₁ b with
    | none => rfl
    | some y => have := hn f₂ e1; rw [e2 b y e] at this; cases this
  have bk : ∀ b y, p.back b = some y → b ≠ p.gb ∧ b ≠ p.cb ∧ b ≠ p.rb := fun b y hy =>
    ⟨fun e => (by rw [e, H.st.ngb] at hy; cases hy), fun e => (by rw [e, H.st.ncb] at hy; cases hy), fun e => (by rw [e, H.st.nrb] at hy; cases hy)⟩
  refine ⟨H.size, H.b1, fun g z hz => ?_, fun g' f₁ hf₁ => ?_, H.st, fun g' f₁ hf₁ => ?_, fun b y hy => ⟨?_, (H.backw b y hy).2⟩, fun g' f₁ b y m o hf₁ hy hb => ?_, ⟨st', sm', hgrp, by rw [SG_set hib]; exact hmode⟩, hcnt, hrow, fun g i' hg => ?_, fun g c hg => ?_, by rw [SG_set hib]; exact hxle, fun k hk hb => ?_, ?_⟩
  · by_cases e : g = i
    · subst e; rw [setK_same] at hz; exact ⟨hib, hiN, hgo z hz⟩
    · rw [setK_ne _ _ e] at hz; exact H.lv g z hz
  · obtain ⟨f₂, e1, _⟩ := sub g' f₁ hf₁; exact H.kd g' f₂ e1
  · exact ⟨less hf₁ fun f₂ e => (H.free _ _ e).1, less hf₁ fun f₂ e => (H.free _ _ e).2.1, less hf₁ fun f₂ e => (H.free _ _ e).2.2⟩
  · obtain ⟨h1, h2, h3⟩ := bk b y hy
    rw [T.mem b h1 h2 h3]; exact (H.backw b y hy).1
  · obtain ⟨f₂, e1, e2⟩ := sub g' f₁ hf₁
    exact H.backk g' f₂ b y m o e1 hy (e2 b _ hb)
  · by_cases e : g = i
    · subst e; rw [setK_same] at hg; exact hhas i' hg
    · rw [setK_ne _ _ e] at hg
      obtain ⟨h1, h2, h3⟩ := H.has g i' hg
      exact ⟨by omega, h2, (hown _ h1).trans h3⟩
  · by_cases e : g = i
    · subst e; rw [setK_same] at hg; exact hrun c hg
    · rw [setK_ne _ _ e] at hg
      have := H.run g c hg; omega
  · rw [SG_set hib] at hb
    by_cases e : k = i - b0
    · subst e; rw [setK_same] at hb; exact hfull hb
    · rw [setK_ne _ _ e] at hb
      have := H.full k hk hb; omega
  · have hib0 : i ≠ 0 := by have := H.b1; omega
    refine H.tp.app (B := w.heap.size) H.lts o1.g (.inr hib) (f := f) (H.free i f hK) ⟨H.st.gr, H.st.cr⟩ (fun b y hy => ⟨lt_of_heap (H.backw b y hy).1, (bk b y hy).1, (bk b y hy).2.1, (bk b y hy).2.2, fun m o e => H.backk i f b y m o hK hy e⟩)
      (fun op hop b hb => .inr ((o2 op hop b hb).imp id fun ⟨k, h1, h2, h3⟩ => ⟨k, h1, by omega, (hown _ h2).trans h3⟩)) hx hown (fun g' f₁ hf₁ => let ⟨f₂, e1, _⟩ := sub g' f₁ hf₁; ⟨f₂, e1⟩) (fun g' hr hne => ?_) (fun hr => hrel ?_)
    · obtain ⟨h1, h2, h3⟩ := hr
      rw [setK_ne _ _ hne] at h3; exact ⟨h1, h2, h3⟩
    · obtain ⟨_, _, h3⟩ := hr
      rw [setK_same] at h3; exact h3

/-- The starter's act while the phase lasts. -/
theorem PhM.own0 (H : PhM p s N0 Gd K own x b0 j bl N w t) (hK : K 0 = some f) (hf : ∀ b y, f' b = some y → f b = some y) (T : Turned p w w') (hes : ∀ e ∈ es, EvA p 0 own x e)
    {st' sm' : Int} (hgrp : Grp p w' st' sm') (hmode : Mode p.W j (SG b0 Gd) s' bl' st' sm') (hcb : w'.heap[p.cb]? = w.heap[p.cb]?) (hrb : w'.heap[p.rb]? = w.heap[p.rb]?) :
    PhM p s' N0 Gd (setK K 0 (some f')) own x b0 j bl' N w' (t ++ MemOp.ofEvents 0 fn pos es) := by
  obtain ⟨o1, o2⟩ := ops_act (fn := fn) (pos := pos) H.lts hes
  have sub : ∀ g' f₁, setK K 0 (some f') g' = some f₁ → ∃ f₂, K g' = some f₂ ∧ ∀ b y, f₁ b = some y → f₂ b = some y := by
    intro g' f₁ hf₁
    by_cases e : g' = 0
    · subst e; rw [setK_same] at hf₁; obtain rfl := Option.some.inj hf₁; exact ⟨f, hK, hf⟩
    · rw [setK_ne _ _ e] at hf₁; exact ⟨f₁, hf₁, fun _ _ z => z⟩
  have less : ∀ {g' f₁ b}, setK K 0 (some f') g' = some f₁ → (∀ f₂, K g' = some f₂ → f₂ b = none) → f₁ b = none := by
    intro g' f₁ b hf₁ hn
    obtain ⟨f₂, e1, e2⟩ := sub g' f₁ hf₁
    cases e : f₁ b with
    | none => rfl
    | some y => have := hn f₂ e1; rw [e2 b y e] at this; cases this
  have bk : ∀ b y, p.back b = some y → b ≠ p.gb ∧ b ≠ p.cb ∧ b ≠ p.rb := fun b y hy =>
    ⟨fun e => (by rw [e, H.st.ngb] at hy; cases hy), fun e => (by rw [e, H.st.ncb] at hy; cases hy), fun e => (by rw [e, H.st.nrb] at hy; cases hy)⟩
  refine ⟨H.size, H.b1, H.lv, fun g' f₁ hf₁ => ?_, H.st, fun g' f₁ hf₁ => ?_, fun b y hy => ⟨?_, (H.backw b y hy).2⟩, fun g' f₁ b y m o hf₁ hy hb => ?_, ⟨st', sm', hgrp, hmode⟩, by unfold Cnt; rw [hcb]; exact H.cnt, ?_, H.has, H.run, H.xle, H.full, ?_⟩
  · obtain ⟨f₂, e1, _⟩ := sub g' f₁ hf₁; exact H.kd g' f₂ e1
  · exact ⟨less hf₁ fun f₂ e => (H.free _ _ e).1, less hf₁ fun f₂ e => (H.free _ _ e).2.1, less hf₁ fun f₂ e => (H.free _ _ e).2.2⟩
  · obtain ⟨h1, h2, h3⟩ := bk b y hy
    rw [T.mem b h1 h2 h3]; exact (H.backw b y hy).1
  · obtain ⟨f₂, e1, e2⟩ := sub g' f₁ hf₁
    exact H.backk g' f₂ b y m o e1 hy (e2 b _ hb)
  · obtain ⟨row, h1, h2⟩ := H.row
    exact ⟨row, ⟨by rw [hrb]; exact h1.1, h1.2⟩, h2⟩
  · exact H.tp.app (B := w.heap.size) H.lts o1.g (.inl rfl) (f := f) (H.free 0 f hK) ⟨H.st.gr, H.st.cr⟩ (fun b y hy => ⟨lt_of_heap (H.backw b y hy).1, (bk b y hy).1, (bk b y hy).2.1, (bk b y hy).2.2, fun m o e => H.backk 0 f b y m o hK hy e⟩)
      (fun op hop b hb => .inr (o2 op hop b hb)) (Nat.le_refl _) (fun _ _ => rfl) (fun g' f₁ hf₁ => let ⟨f₂, e1, _⟩ := sub g' f₁ hf₁; ⟨f₂, e1⟩) (fun g' hr _ => hr) (fun hr => by have := hr.1; have := H.b1; omega)

/-! ### Releases -/
theorem Reld.new (hd : Deaf t i = 0) : Reld p (t ++ MemOp.ofEvents i fn pos #[evM (.releaseMerge (cel p.gb 0))]) i t.size := by
  have e1 : MemOp.ofEvents i fn pos #[evM (.releaseMerge (cel p.gb 0))] = #[{ g := i, fn, pos, act := .mark (.releaseMerge (cel p.gb 0)) }] := by rw [ofEvents_eq]; simp [evM, MemAct.ofEvent]
  rw [e1]
  have hy : (t ++ #[({ g := i, fn, pos, act := .mark (.releaseMerge (cel p.gb 0)) } : MemOp)])[t.size]? = some { g := i, fn, pos, act := .mark (.releaseMerge (cel p.gb 0)) } := by simp
  refine ⟨by rw [act?_of hy], by simp [Trace.g?], ⟨i, by simp [Trace.g?], by rw [deaf_old (Nat.le_refl _)]; exact hd⟩, fun k hk hg => ?_⟩
  unfold Trace.g? at hg
  obtain ⟨op, ho, _⟩ := Option.map_eq_some_iff.1 hg
  have := lt_size_of_getElem? ho
  simp at this; omega
/-- Whoever has released lists nothing but what touches no memory, or atomic accesses to the group's cells, deaf. -/
theorem Reld.mine {r : Nat} (h : Reld p t i r) (hes : ∀ j e, es[j]? = some e → (MemAct.ofEvent e).touch? = none ∨ ((∃ c wr, e = ⟨.cell (cel p.gb c), wr, true⟩) ∧ 0 < deafBehind (Deaf t i) (es.extract 0 j))) : Reld p (t ++ MemOp.ofEvents i fn pos es) i r := by
  refine h.app fun k hk hg => ?_
  have at_ : ∀ op, (t ++ MemOp.ofEvents i fn pos es)[k]? = some op → ∃ e, es[k - t.size]? = some e ∧ op.act = .ofEvent e ∧ op.g = i := by
    intro op ho
    rw [Array.getElem?_append] at ho
    simp only [Nat.not_lt.2 hk, if_false] at ho
    rw [ofEvents_eq, Array.getElem?_map] at ho
    obtain ⟨e, he, rfl⟩ := Option.map_eq_some_iff.1 ho
    exact ⟨e, he, rfl, rfl⟩
  refine ⟨fun hc => ?_, fun a b ha hb => ?_⟩
  · obtain ⟨z, hz, _, hk2⟩ := hc
    obtain ⟨op, ho, hoz⟩ := touch_of hz
    obtain ⟨e, he, hact, hgi⟩ := at_ op ho
    rw [hact] at hoz
    rcases hes _ e he with h0 | ⟨⟨c, wr, rfl⟩, hd⟩
    · rw [h0] at hoz; cases hoz
    · rw [ofEvent_sync] at hoz
      simp only [MemAct.touch?, Option.some.injEq, if_true] at hoz
      subst hoz
      rcases hk2 with hk2 | ⟨g, hg', hdf⟩
      · exact hk2 rfl
      · rw [hg] at hg'; cases hg'
        have hlt : k - t.size ≤ es.size := by
          rcases Nat.lt_or_ge (k - t.size) es.size with h' | h'
          · omega
          · rw [Array.getElem?_eq_none h'] at he; cases he
        have := deaf_inside t i fn pos es (k - t.size) hlt
        rw [show t.size + (k - t.size) = k by omega, hdf] at this
        omega
  · obtain ⟨op, ho, hoz⟩ := touch_of ha
    obtain ⟨e, he, hact, _⟩ := at_ op ho
    rw [hact] at hoz
    rcases hes _ e he with h0 | ⟨⟨c, wr, rfl⟩, _⟩
    · rw [h0] at hoz; cases hoz
    · rw [ofEvent_sync] at hoz
      simp only [MemAct.touch?, Option.some.injEq, if_true] at hoz
      subst hoz
      simp only [locBlk, cel, Option.some.injEq] at hb
      exact hb.symm
end
end KL
end Go.Proofs.YtlmecmapkijcnaaDoor

set_option linter.unusedVariables false
namespace Go.Proofs.YtlmecmapkijcnaaDoor
namespace KL
open Go.Conc
open Go.ConcN (sumTo)
open Go.ConcR (g_of_ofEvents)

def Gst.Gd (M : Gst) : Nat → Option Gh := fun i => (M.D i).map fun y => y.1.gh
structure Idle (M : Gst) (t : Trace) : Prop where
  none : ∀ i, M.D i = none
  bl : M.bl = false
  over : ∀ i g, t.g? i = some g → g ≠ 0 → t.counts i → Knows t 0 i
def PhI (N0 : Nat) (M : Gst) (N : Nat) (w : World) (t : Trace) : Prop :=
  match M.h0.gh with
  | .idle => Idle M t
  | .main p s => PhM p s N0 M.Gd M.K M.own M.x M.b0 M.j M.bl N w t
  | .wrk _ _ => False
structure Inv (P : Program) (R : Value → Prop) (N0 : Nat) (W : World) (M : Gst) (gs : Array Goroutine) (w : World) (t : Trace) : Prop where
  go : Gs P R M gs t
  wo : Wo N0 W M.K gs.size w t
  ph : PhI N0 M gs.size w t

section
variable {P : Program} {R : Value → Prop} {N0 : Nat} {W : World} {M : Gst} {gs : Array Goroutine} {w w' : World} {t : Trace} {i : Nat} {h h' : Know} {t' : Tr}

theorem PhI.at {N : Nat} (H : PhI N0 M N w t) (d : Nat) : PhI N0 M N (w.at d) t := by
  unfold PhI at H ⊢
  cases hg : M.h0.gh with
  | idle => rw [hg] at H; exact H
  | main p s => rw [hg] at H; exact PhM.at H d
  | wrk p s => rw [hg] at H; exact H
theorem Inv.at (H : Inv P R N0 W M gs w t) (d : Nat) : Inv P R N0 W M gs (w.at d) t := ⟨H.go, H.wo.at d, H.ph.at d⟩

theorem K_wrk {q : Nat → Nat} {t0 : Tr} {bl : Bool} {own : Nat → Nat} {x b0 j : Nat} (hi : i ≠ 0) : Gst.K ⟨setK M.D i (some (h', t')), q, M.h0, t0, bl, own, x, b0, j⟩ = setK M.K i (some h'.blk) := by
  funext g
  unfold Gst.K setK
  by_cases e : g = i
  · subst e; simp [hi]
  · simp [e]
theorem K_out {q : Nat → Nat} {t0 : Tr} {bl : Bool} {own : Nat → Nat} {x b0 j : Nat} (hi : i ≠ 0) : Gst.K ⟨setK M.D i none, q, M.h0, t0, bl, own, x, b0, j⟩ = setK M.K i none := by
  funext g
  unfold Gst.K setK
  by_cases e : g = i
  · subst e; simp [hi]
  · simp [e]
theorem K_own {q : Nat → Nat} {t0 : Tr} {bl : Bool} {own : Nat → Nat} {x b0 j : Nat} : Gst.K ⟨M.D, q, h', t0, bl, own, x, b0, j⟩ = setK M.K 0 (some h'.blk) := by
  funext g
  unfold Gst.K setK
  by_cases e : g = 0
  · subst e; simp
  · simp [e]
theorem Gd_wrk {q : Nat → Nat} {h0 : Know} {t0 : Tr} {bl : Bool} {own : Nat → Nat} {x b0 j : Nat} : Gst.Gd ⟨setK M.D i (some (h', t')), q, h0, t0, bl, own, x, b0, j⟩ = setK M.Gd i (some h'.gh) := by
  funext g
  unfold Gst.Gd setK
  by_cases e : g = i
  · subst e; simp
  · simp [e]
theorem Gd_out {q : Nat → Nat} {h0 : Know} {t0 : Tr} {bl : Bool} {own : Nat → Nat} {x b0 j : Nat} : Gst.Gd ⟨setK M.D i none, q, h0, t0, bl, own, x, b0, j⟩ = setK M.Gd i none := by
  funext g
  unfold Gst.Gd setK
  by_cases e : g = i
  · subst e; simp
  · simp [e]
theorem setK_self {α : Type} {K : Nat → α} {g : Nat} {x : α} (e : K g = x) : setK K g x = K := by
  funext a
  unfold setK
  by_cases h : a = g
  · subst h; rw [if_pos rfl, e]
  · rw [if_neg h]
theorem M_K0 : M.K 0 = some M.h0.blk := by simp [Gst.K]
theorem M_Ki (hi : i ≠ 0) {y : Know × Tr} (hD : M.D i = some y) : M.K i = some y.1.blk := by simp [Gst.K, hi, hD]
theorem M_Gdi {y : Know × Tr} (hD : M.D i = some y) : M.Gd i = some y.1.gh := by simp [Gst.Gd, hD]

/-- Nothing is listed. -/
theorem app_none {g : Nat} {fn : FuncId} {pos : String} : t ++ MemOp.ofEvents g fn pos #[] = t := by rw [ofEvents_eq]; simp

/-- A worker's step goes down. -/
theorem mu_wrk {N : Nat} {q : Nat → Nat} {bl : Bool} {own : Nat → Nat} {x b0 j : Nat} {y : Know × Tr} (hi : i < N) (hD : M.D i = some y) (hs : Sub t' y.2) (hq : q = M.q) : MuLt (Gst.mu ⟨setK M.D i (some (h', t')), q, M.h0, M.t0, bl, own, x, b0, j⟩ N) (M.mu N) := by
  subst hq
  refine .right _ (.left _ _ (lows_map (i := i) (List.range N) List.nodup_range (List.mem_range.2 hi) (fun k hk => ?_) ?_))
  · simp [setK, hk]
  · simp only [setK_same, hD]
    exact .tree hs
theorem mu_out {N k : Nat} {bl : Bool} {own : Nat → Nat} {x b0 j : Nat} {y : Know × Tr} (hi : i < N) (hD : M.D i = some y) : MuLt (Gst.mu ⟨setK M.D i none, setK M.q i k, M.h0, M.t0, bl, own, x, b0, j⟩ N) (M.mu N) := by
  refine .right _ (.left _ _ (lows_map (i := i) (List.range N) List.nodup_range (List.mem_range.2 hi) (fun k hk => ?_) ?_))
  · simp [setK, hk]
  · simp only [setK_same, hD]
    exact .out _ _
theorem mu_slip {N k : Nat} {bl : Bool} {own : Nat → Nat} {x b0 j : Nat} (hi : i < N) (hD : M.D i = none) (hk : k < M.q i) : MuLt (Gst.mu ⟨setK M.D i none, setK M.q i k, M.h0, M.t0, bl, own, x, b0, j⟩ N) (M.mu N) := by
  refine .right _ (.left _ _ (lows_map (i := i) (List.range N) List.nodup_range (List.mem_range.2 hi) (fun k hk => ?_) ?_))
  · simp [setK, hk]
  · simp only [setK_same, hD]
    exact .num hk

/-! ### The group's cells, the counter -/
variable {p : Ph} {st sm : Int}
theorem grp_set0 (h : Grp p w st sm) (st' : Int) : Grp p (w.setCell (cel p.gb 0) (.int .u64 st')) st' sm := by
  unfold Grp World.setCell at *
  rw [show (cel p.gb 0).block = p.gb from rfl, heap_modify_same _ h]
  rfl
theorem grp_set1 (h : Grp p w st sm) (sm' : Int) : Grp p (w.setCell (cel p.gb 1) (.int .u32 sm')) st sm' := by
  unfold Grp World.setCell at *
  rw [show (cel p.gb 1).block = p.gb from rfl, heap_modify_same _ h]
  rfl
theorem cnt_set {x : Int} (h : Cnt p w x) (x' : Int) : Cnt p (w.setCell (cel p.cb 0) (.int .i64 x')) x' := by
  unfold Cnt World.setCell at *
  rw [show (cel p.cb 0).block = p.cb from rfl, heap_modify_same _ h]
  rfl
theorem set_ne {b c i : Nat} (v : Value) (h : b ≠ c) : (w.setCell (cel c i) v).heap[b]? = w.heap[b]? := heap_modify_ne _ h
theorem grp_cell {p : Ph} (h : Grp p w st sm) : w.cell? (cel p.gb 0) = some (.int .u64 st) ∧ w.cell? (cel p.gb 1) = some (.int .u32 sm) ∧ ∀ i, w.frozen? (cel p.gb i) = false := by
  unfold Grp at h
  refine ⟨?_, ?_, fun i => ?_⟩ <;> simp [World.cell?, World.frozen?, cel, h]
theorem cnt_cell {p : Ph} {x : Int} (h : Cnt p w x) : w.cell? (cel p.cb 0) = some (.int .i64 x) ∧ w.frozen? (cel p.cb 0) = false := by
  unfold Cnt at h
  refine ⟨?_, ?_⟩ <;> simp [World.cell?, World.frozen?, cel, h]

/-! ### A worker's step over what it owns; a move of it -/
theorem PhI.main {N : Nat} {s : SS} (H : PhI N0 M N w t) (hg : M.h0.gh = .main p s) : PhM p s N0 M.Gd M.K M.own M.x M.b0 M.j M.bl N w t := by unfold PhI at H; rw [hg] at H; exact H
/-- Where a worker is there is a phase. -/
theorem PhI.live {N : Nat} (H : PhI N0 M N w t) {y : Know × Tr} (hD : M.D i = some y) : ∃ p s, M.h0.gh = .main p s ∧ PhM p s N0 M.Gd M.K M.own M.x M.b0 M.j M.bl N w t ∧ ∃ s', y.1.gh = .wrk p s' ∧ s' ≠ .gone ∧ s' ≠ .quit := by
  have H' := H
  unfold PhI at H
  cases hg : M.h0.gh with
  | idle => rw [hg] at H; have := H.none i; rw [hD] at this; cases this
  | main p s =>
    have := H'.main hg
    obtain ⟨_, _, h3⟩ := this.lv i _ (M_Gdi hD)
    exact ⟨p, s, rfl, this, h3⟩
  | wrk p s => rw [hg] at H; exact H.elim
theorem PhI.mk {N : Nat} {s : SS} (hg : M.h0.gh = .main p s) (H : PhM p s N0 M.Gd M.K M.own M.x M.b0 M.j M.bl N w t) : PhI N0 M N w t := by unfold PhI; rw [hg]; exact H

theorem PhM.wakes {s : SS} {Gd : Nat → Option Gh} {K : Nat → Option Blk} {own : Nat → Nat} {x b0 j N : Nat} {bl : Bool} (H : PhM p s N0 Gd K own x b0 j bl N w t) (b : Bool) : PhM p s N0 Gd K own x b0 j (bl && b) N w t :=
  ⟨H.size, H.b1, H.lv, H.kd, H.st, H.free, H.backw, H.backk, let ⟨st, sm, h1, h2⟩ := H.grp; ⟨st, sm, h1, h2.wakes b⟩, H.cnt, H.row, H.has, H.run, H.xle, H.full, H.tp⟩

/-- A worker moves, or steps over what it owns. -/
theorem Inv.wstep (H : Inv P R N0 W M gs w t) {y : Know × Tr} (hD : M.D i = some y) {fr fr' : Frame} {cs cs' : List Frame} (hgi : gs[i]? = some (G fr cs)) {es : Array Event} (k : KStep y.1 w h' w' es) (hp : privW y.1.gh ∨ (es = #[] ∧ w' = w ∧ h' = y.1))
    (hg : GoesT actsW P false (StopW P) t' fr' cs' h') {fn : FuncId} {pos : String} :
    Inv P R N0 W ⟨setK M.D i (some (h', t')), M.q, M.h0, M.t0, M.bl && !mayWake P (G fr cs), M.own, M.x, M.b0, M.j⟩ ((gs.map (woken P (G fr cs) (G fr' cs') w')).setIfInBounds i (G fr' cs')) w' (t ++ MemOp.ofEvents i fn pos es) := by
  have hi0 := H.go.ne0 hD
  have hK := M_Ki hi0 hD
  have hlt : i < gs.size := (Array.getElem?_eq_some_iff.1 hgi).1
  obtain ⟨p, s, hgm, Hp, s', hs', _⟩ := H.ph.live hD
  have hgd : h'.gh = y.1.gh := k.gh
  have eG : setK M.Gd i (some h'.gh) = M.Gd := setK_self (by rw [hgd]; exact M_Gdi hD)
  refine ⟨H.go.wrk hD hgi hg (by rw [(ops_priv (g := i) (fn := fn) (pos := pos) k).2.2, hgd]), ?_, ?_⟩
  · rw [K_wrk (M := M) hi0]
    have := H.wo.priv (fn := fn) (pos := pos) hK hlt k
    simpa using this
  · refine PhI.mk (p := p) (s := s) hgm ?_
    show PhM p s N0 (Gst.Gd ⟨_, _, _, _, _, _, _, _, _⟩) (Gst.K ⟨_, _, _, _, _, _, _, _, _⟩) M.own M.x M.b0 M.j (M.bl && !mayWake P (G fr cs)) _ w' _
    rw [K_wrk (M := M) hi0, Gd_wrk, eG]
    have hsz : ((gs.map (woken P (G fr cs) (G fr' cs') w')).setIfInBounds i (G fr' cs')).size = gs.size := by simp
    rw [hsz]
    rcases hp with hp | ⟨rfl, rfl, rfl⟩
    · refine (Hp.priv H.wo hK k fun hr => ?_).wakes _
      have := hr.2.2
      rw [M_Gdi hD, hs'] at this
      rw [hs'] at hp
      cases s' <;> first | exact this.elim | exact hp.elim
    · rw [app_none, setK_self hK]
      exact Hp.wakes _
end
end KL
end Go.Proofs.YtlmecmapkijcnaaDoor

set_option linter.unusedVariables false
namespace Go.Proofs.YtlmecmapkijcnaaDoor
namespace KL
open Go.Conc
open Go.ConcN (sumTo)
open Go.ConcR (g_of_ofEvents)

theorem splice_get : ∀ (l : List Value) (c : Array Value) (off j : Nat), off + l.length ≤ c.size → (splice c off l)[j]? = if off ≤ j ∧ j < off + l.length then l[j - off]? else c[j]? := by
  intro l
  induction l with
  | nil => intro c off j _; rw [if_neg (by simp)]; rfl
  | cons v l ih =>
    intro c off j hs
    simp only [List.length_cons] at hs ⊢
    rw [splice, ih _ _ _ (by simp; omega)]
    by_cases h1 : off + 1 ≤ j ∧ j < off + 1 + l.length
    · rw [if_pos h1, if_pos (by omega), show j - off = (j - (off + 1)) + 1 by omega, List.getElem?_cons_succ]
    · rw [if_neg h1]
      by_cases h2 : j = off
      · subst h2
        rw [if_pos (by omega), Array.getElem?_setIfInBounds_self_of_lt (by omega)]; simp
      · rw [if_neg (by omega), Array.getElem?_setIfInBounds_ne (Ne.symm h2)]

section
variable {P : Program} {R : Value → Prop} {N0 : Nat} {W : World} {M : Gst} {gs : Array Goroutine} {w w' : World} {t : Trace} {i : Nat} {h h' h₀ : Know} {t' : Tr} {p : Ph} {s : SS} {s₀ s₁ : WS} {es : Array Event} {fn : FuncId} {pos : String}
  {fr fr' : Frame} {cs : List Frame} {y : Know × Tr} {own' : Nat → Nat} {x' : Nat}

theorem evA_cell {g : Nat} {own : Nat → Nat} {x b k : Nat} {wr : Bool} (hb : b = p.gb ∨ b = p.cb) : EvA p g own x ⟨.cell (cel b k), wr, true⟩ := .inl ⟨b, k, wr, hb, rfl⟩
theorem evA_mark {g : Nat} {own : Nat → Nat} {x : Nat} {m : Mark} (hm : MarkOk p g m) : EvA p g own x (evM m) := .inr (.inl ⟨m, rfl, hm⟩)
theorem evA_rw {g : Nat} {own : Nat → Nat} {x b k : Nat} (hb : b = p.gb ∨ b = p.cb) : ∀ e ∈ (#[evR (cel b k), evW (cel b k)] : Array Event), EvA p g own x e := by
  intro e he
  simp at he
  rcases he with rfl | rfl <;> exact evA_cell hb
theorem evA_one {g : Nat} {own : Nat → Nat} {x : Nat} {e₀ : Event} (h : EvA p g own x e₀) : ∀ e ∈ (#[e₀] : Array Event), EvA p g own x e := by
  intro e he
  simp at he; subst he; exact h
theorem evA_sem {g : Nat} {own : Nat → Nat} {x : Nat} : ∀ e ∈ semEvents (cel p.gb 1), EvA p g own x e := by
  intro e he
  simp [semEvents] at he
  rcases he with rfl | rfl | rfl | rfl
  · exact evA_mark (.inl rfl)
  · exact evA_cell (.inl rfl)
  · exact evA_cell (.inl rfl)
  · exact evA_mark (.inr (.inl rfl))

theorem Inv.wact (H : Inv P R N0 W M gs w t) (hD : M.D i = some y) (hgi : gs[i]? = some (G fr cs)) (hgm : M.h0.gh = .main p s) (hg : y.1.gh = .wrk p s₀) (hl : h₀.le y.1) (hgo : GoesT actsW P false (StopW P) t' fr' cs ⟨h₀.blk, .wrk p s₁⟩) (T : Turned p w w')
    (hes : ∀ e ∈ es, EvA p i M.own M.x e) (hd : deafBehind (deafW s₀) es = deafW s₁)
    (ph' : PhM p s N0 (setK M.Gd i (some (.wrk p s₁))) (setK M.K i (some h₀.blk)) own' x' M.b0 M.j (M.bl && !mayWake P (G fr cs)) gs.size w' (t ++ MemOp.ofEvents i fn pos es)) :
    Inv P R N0 W ⟨setK M.D i (some (⟨h₀.blk, .wrk p s₁⟩, t')), M.q, M.h0, M.t0, M.bl && !mayWake P (G fr cs), own', x', M.b0, M.j⟩ ((gs.map (woken P (G fr cs) (G fr' cs) w')).setIfInBounds i (G fr' cs)) w' (t ++ MemOp.ofEvents i fn pos es) := by
  have hi0 := H.go.ne0 hD
  have hK := M_Ki hi0 hD
  have hlt : i < gs.size := (Array.getElem?_eq_some_iff.1 hgi).1
  have hsz : ((gs.map (woken P (G fr cs) (G fr' cs) w')).setIfInBounds i (G fr' cs)).size = gs.size := by simp
  refine ⟨H.go.wrk hD hgi hgo (by rw [hg]; exact hd), ?_, PhI.mk (p := p) (s := s) hgm ?_⟩
  · rw [K_wrk (M := M) hi0, hsz]
    exact H.wo.act (H.ph.main hgm) hK hlt (fun b z e => hl b z e) T hes
  · show PhM p s N0 (Gst.Gd ⟨_, _, _, _, _, _, _, _, _⟩) (Gst.K ⟨_, _, _, _, _, _, _, _, _⟩) own' x' M.b0 M.j (M.bl && !mayWake P (G fr cs)) _ w' _
    rw [K_wrk (M := M) hi0, Gd_wrk, hsz]
    exact ph'
theorem Inv.wout (H : Inv P R N0 W M gs w t) (hD : M.D i = some y) (hgi : gs[i]? = some (G fr cs)) (hgm : M.h0.gh = .main p s) (hg : y.1.gh = .wrk p s₀) {k : Nat} (hq : QuitsD P k 1 (G fr' cs)) (T : Turned p w w')
    (hes : ∀ e ∈ es, EvA p i M.own M.x e) (hd : deafBehind (deafW s₀) es = 1)
    (ph' : PhM p s N0 (setK M.Gd i none) (setK M.K i none) own' x' M.b0 M.j (M.bl && !mayWake P (G fr cs)) gs.size w' (t ++ MemOp.ofEvents i fn pos es)) :
    Inv P R N0 W ⟨setK M.D i none, setK M.q i k, M.h0, M.t0, M.bl && !mayWake P (G fr cs), own', x', M.b0, M.j⟩ ((gs.map (woken P (G fr cs) (G fr' cs) w')).setIfInBounds i (G fr' cs)) w' (t ++ MemOp.ofEvents i fn pos es) := by
  have hi0 := H.go.ne0 hD
  have hK := M_Ki hi0 hD
  have hlt : i < gs.size := (Array.getElem?_eq_some_iff.1 hgi).1
  have hsz : ((gs.map (woken P (G fr cs) (G fr' cs) w')).setIfInBounds i (G fr' cs)).size = gs.size := by simp
  obtain ⟨_, _, _, _, hdf⟩ := H.go.lv i y hD
  refine ⟨H.go.out hi0 hgi (by rw [hdf, hg]; rw [show stOf (Gh.wrk p s₀) = s₀ from rfl, hd]; exact hq), ?_, PhI.mk (p := p) (s := s) hgm ?_⟩
  · rw [K_out (M := M) hi0, hsz]
    refine (H.wo.act (f' := y.1.blk) (H.ph.main hgm) hK hlt (fun b z e => e) T hes).less fun g f hf => ?_
    by_cases e : g = i
    · subst e; rw [setK_same] at hf; cases hf
    · rw [setK_ne _ _ e] at hf ⊢; exact ⟨f, hf, fun _ _ z => z⟩
  · show PhM p s N0 (Gst.Gd ⟨_, _, _, _, _, _, _, _, _⟩) (Gst.K ⟨_, _, _, _, _, _, _, _, _⟩) own' x' M.b0 M.j (M.bl && !mayWake P (G fr cs)) _ w' _
    rw [K_out (M := M) hi0, Gd_out, hsz]
    exact ph'

/-- The phase's data of an act that neither draws nor stores; 'late': nothing of the row or the counter turns. -/
theorem PhM.late {Gd : Nat → Option Gh} {K : Nat → Option Blk} {own : Nat → Nat} {x b0 j N : Nat} {bl bl' : Bool} {f : Blk} (H : PhM p s N0 Gd K own x b0 j bl N w t) (hi : Gd i = some (.wrk p s₀)) (hK : K i = some f) {go : Option Gh} {ko : Option Blk} (hgo : ∀ z, go = some z → ∃ s', z = .wrk p s' ∧ s' ≠ .gone ∧ s' ≠ .quit)
    (hko : ∀ f₁, ko = some f₁ → ∀ b y, f₁ b = some y → f b = some y) (T : Turned p w w') (hes : ∀ e ∈ es, EvA p i own x e) {st' sm' : Int} (hgrp : Grp p w' st' sm') (hmode : Mode p.W j (setK (SG b0 Gd) (i - b0) (stG go)) s bl' st' sm')
    (hcb : w'.heap[p.cb]? = w.heap[p.cb]?) (hrb : w'.heap[p.rb]? = w.heap[p.rb]?) (h0 : beyond s₀ = 1) (h1 : beyond (stG go) = 1) (hrel : relS (stG go) → ∃ r, Reld p (t ++ MemOp.ofEvents i fn pos es) i r) :
    PhM p s N0 (setK Gd i go) (setK K i ko) own x b0 j bl' N w' (t ++ MemOp.ofEvents i fn pos es) := by
  obtain ⟨hib, hiN, _⟩ := H.lv i _ hi
  have hL : i - b0 < j := by have := H.size; omega
  have eL : SG b0 Gd (i - b0) = s₀ := by unfold SG; rw [show b0 + (i - b0) = i by omega, hi]; rfl
  obtain ⟨row, hr1, hr2⟩ := H.row
  have noHas : ∀ k, go ≠ some (.wrk p (.has k)) := fun k e => by rw [e] at h1; cases h1
  have noRun : ∀ k, go ≠ some (.wrk p (.run k)) := fun k e => by rw [e] at h1; cases h1
  have noHas0 : ∀ k, s₀ ≠ .has k := fun k e => by rw [e] at h0; cases h0
  refine H.wrk hi hK hgo hko T hes hgrp hmode (by unfold Cnt; rw [hcb]; exact H.cnt) ⟨row, ⟨by rw [hrb]; exact hr1.1, hr1.2⟩, fun i' hn hx hno k hk => hr2 i' hn hx (fun g e => ?_) k hk⟩
    (fun i' e => absurd e (noHas i')) (fun _ _ => rfl) (Nat.le_refl _) (fun c e => absurd e (noRun c)) ?_ (fun _ => ?_) hrel
  · by_cases eg : g = i
    · subst eg; rw [hi] at e; cases e; exact noHas0 i' rfl
    · exact hno g (by rw [setK_ne _ _ eg]; exact e)
  · have := sum_set (SG b0 Gd) (stG go) hL
    rw [eL, h0, h1] at this
    have := H.xle; omega
  · exact H.full (i - b0) hL (by rw [eL]; exact h0)
end
end KL
end Go.Proofs.YtlmecmapkijcnaaDoor
