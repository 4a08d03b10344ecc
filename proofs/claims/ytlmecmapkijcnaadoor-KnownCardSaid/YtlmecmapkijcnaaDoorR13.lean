/- The trace's laws: what each goroutine knows of the touches of what it may read or write; what a phase asks besides. The machine of a starter and its workers: who stands where; how a step of one leaves the others. How the group's cells hang on where everybody stands. -/
import Derived.Test.YtlmecmapkijcnaaDoorR04
import Derived.Conc.Beside
import Derived.Conc.CrowdTrace
import Derived.Conc.LeavingOf
set_option linter.unusedVariables false
namespace Go.Proofs.YtlmecmapkijcnaaDoor
namespace KL
open Go.Conc

abbrev Blk := Nat → Option (Bool × Obj)
def locBlk : Loc → Option Nat
  | .cell a => some a.block
  | .obj r => some r
  | _ => none
theorem low_locBlk {B k : Nat} {l : Loc} (h : l.low B) (e : locBlk l = some k) : k < B := by
  cases l <;> simp [locBlk] at e <;> (subst e; exact h)
theorem isMemory_locBlk {l : Loc} (h : l.isMemory = true) : ∃ k, locBlk l = some k := by
  cases l with
  | cell a => exact ⟨_, rfl⟩
  | obj r => exact ⟨_, rfl⟩
  | _ => cases h
theorem touch_low {x : MemAct} {B : Nat} {b : Touch} (hx : x.low B) (hb : x.touch? = some b) {k : Nat} (e : locBlk b.loc = some k) : k < B := by
  cases x with
  | access ev => simp only [MemAct.touch?, Option.some.injEq] at hb; subst hb; exact low_locBlk hx e
  | mark m => cases m <;> simp [MemAct.touch?] at hb <;> (subst hb; simp [locBlk] at e; subst e; exact hx)
  | _ => simp [MemAct.touch?] at hb

def setK {α : Type} (K : Nat → α) (g : Nat) (x : α) : Nat → α := fun a => if a = g then x else K a
theorem setK_same {α : Type} (K : Nat → α) (g : Nat) (x : α) : setK K g x g = x := by simp [setK]
theorem setK_ne {α : Type} (K : Nat → α) {g a : Nat} (x : α) (h : a ≠ g) : setK K g x a = K a := by simp [setK, h]

/-- The touch is of what is known (a write: of what may be written), or of a new block. -/
def Cls (B : Nat) (f : Blk) (b : Touch) : Prop := ∃ k, locBlk b.loc = some k ∧ ((∃ m o, f k = some (m, o) ∧ (b.write = true → m = true)) ∨ B ≤ k)

structure TR (t : Trace) (B N : Nat) (K : Nat → Option Blk) : Prop where
  clean : ∀ said, ¬ Race said t
  low : ∀ op ∈ t, op.act.low B
  gs : ∀ op ∈ t, op.g < N
  norel : ∀ op ∈ t, ∀ a, op.act ≠ .mark (.release a)
  know : ∀ g f, K g = some f → ∀ i a b m o, touchAt t i = some a → locBlk a.loc = some b → f b = some (m, o) → (m = true ∨ a.write = true) → Knows t g i

structure OpsOf (g B : Nat) (u : Trace) : Prop where
  g : ∀ op ∈ u, op.g = g
  low : ∀ op ∈ u, op.act.low B
  norel : ∀ op ∈ u, ∀ a, op.act ≠ .mark (.release a)

/-- What is owned by one is known to no other. -/
structure Ap (B : Nat) (K : Nat → Option Blk) : Prop where
  dis : ∀ g₁ f₁ g₂ f₂ b o, g₁ ≠ g₂ → K g₁ = some f₁ → K g₂ = some f₂ → f₁ b = some (true, o) → f₂ b = none
  lt : ∀ g f b x, K g = some f → f b = some x → b < B

/-- A touch of what is shared: what conflicts with it is known; nobody holds it. -/
def Shd (t : Trace) (K : Nat → Option Blk) (g : Nat) (b : Touch) : Prop :=
  (∀ said i a, touchAt t i = some a → a.conflicts said b → Knows t g i) ∧ ∀ k, locBlk b.loc = some k → ∀ g' f', K g' = some f' → f' k = none

section
variable {t u : Trace} {B B' N g : Nat} {K : Nat → Option Blk} {f f' : Blk}

theorem TR.touch_lt (h : TR t B N K) {i : Nat} {a : Touch} {k : Nat} (ha : touchAt t i = some a) (e : locBlk a.loc = some k) : k < B := by
  obtain ⟨op, ho, hoa⟩ := touch_of ha
  exact touch_low (h.low op (mem_of_getElem? ho)) hoa e

theorem touch_cases {i : Nat} {a : Touch} (ha : touchAt (t ++ u) i = some a) : (i < t.size ∧ touchAt t i = some a) ∨ ∃ op, op ∈ u ∧ (t ++ u)[i]? = some op ∧ op.act.touch? = some a := by
  obtain ⟨x, hx, hxa⟩ := touch_of ha
  rcases getElem?_append_cases hx with ⟨hi, hx'⟩ | ⟨_, hxu⟩
  · exact .inl ⟨hi, by rw [touchAt_of hx']; exact hxa⟩
  · exact .inr ⟨x, hxu, hx, hxa⟩

theorem low_app (h : ∀ op ∈ t, op.act.low B) (hB : B ≤ B') (hu : ∀ op ∈ u, op.act.low B') : ∀ op ∈ t ++ u, op.act.low B' :=
  fun op hop => (Array.mem_append.1 hop).elim (fun x => MemAct.low_mono hB (h op x)) (hu op)

theorem TR.app (h : TR t B N K) (ap : Ap B K) (hB : B ≤ B') (hg : g < N) (o : OpsOf g B' u) (hK : K g = some f) (hf : ∀ b m o, f' b = some (m, o) → b < B → ∃ o', f b = some (m, o'))
    (ht : ∀ op ∈ u, ∀ b, op.act.touch? = some b → Cls B f b ∨ Shd t K g b) : TR (t ++ u) B' N (setK K g (some f')) := by
  refine ⟨fun said => noRace_append (h.clean said) o.g fun i a ha op hop b hb hc => ?_, low_app h.low hB o.low, fun op hop => (Array.mem_append.1 hop).elim (h.gs op) fun x => by rw [o.g op x]; exact hg,
    fun op hop => (Array.mem_append.1 hop).elim (h.norel op) (o.norel op), fun g' f₁ hf₁ i a b m ob ha hb hfb hmw => ?_⟩
  · rcases ht op hop b hb with ⟨k, hk, hc2⟩ | hs
    · have hka : locBlk a.loc = some k := by rw [hc.1]; exact hk
      rcases hc2 with ⟨m, ob, hfk, hwm⟩ | hk2
      · refine h.know g f hK i a k m ob ha hka hfk ?_
        rcases hc.2.2.1 with hw | hw
        · exact .inr hw
        · exact .inl (hwm hw)
      · exact absurd (h.touch_lt ha hka) (by omega)
    · exact hs.1 said i a ha hc
  · by_cases hgg : g' = g
    · subst hgg
      rw [setK_same] at hf₁
      obtain rfl := Option.some.inj hf₁
      rcases touch_cases ha with ⟨_, ha'⟩ | ⟨op, hop, hx, _⟩
      · have hlt := h.touch_lt ha' hb
        obtain ⟨o', ho'⟩ := hf b m ob hfb hlt
        exact (h.know g' f hK i a b m o' ha' hb ho' hmw).app u
      · have := knows_own hx
        rwa [o.g op hop] at this
    · rw [setK_ne _ _ hgg] at hf₁
      rcases touch_cases ha with ⟨_, ha'⟩ | ⟨op, hop, hx, hxa⟩
      · exact (h.know g' f₁ hf₁ i a b m ob ha' hb hfb hmw).app u
      · exfalso
        rcases ht op hop a hxa with ⟨k, hk, hc2⟩ | hs
        · rw [hb] at hk; cases hk
          rcases hc2 with ⟨m2, o2, hfk, hwm⟩ | hk2
          · rcases hmw with rfl | hw
            · rw [ap.dis g' f₁ g f b ob hgg hf₁ hK hfb] at hfk; cases hfk
            · rw [hwm hw] at hfk
              rw [ap.dis g f g' f₁ b o2 (Ne.symm hgg) hK hf₁ hfk] at hfb; cases hfb
          · exact absurd (ap.lt g' f₁ b _ hf₁ hfb) (by omega)
        · rw [hs.2 b hb g' f₁ hf₁] at hfb; cases hfb

/-- Operations that touch nothing. -/
theorem TR.mute (h : TR t B N K) (hg : g < N) (o : OpsOf g B u) (hn : ∀ op ∈ u, op.act.touch? = none) : TR (t ++ u) B N K := by
  refine ⟨fun said => noRace_append (h.clean said) o.g fun i a _ op hop b hb _ => (by rw [hn op hop] at hb; cases hb), low_app h.low (Nat.le_refl _) o.low, fun op hop => (Array.mem_append.1 hop).elim (h.gs op) fun x => by rw [o.g op x]; exact hg,
    fun op hop => (Array.mem_append.1 hop).elim (h.norel op) (o.norel op), fun g' f₁ hf₁ i a b m ob ha hb hfb hmw => ?_⟩
  rcases touch_cases ha with ⟨_, ha'⟩ | ⟨op, hop, hx, hxa⟩
  · exact (h.know g' f₁ hf₁ i a b m ob ha' hb hfb hmw).app u
  · rw [hn op hop] at hxa; cases hxa

/-- Less is known, or fewer are there. -/
theorem TR.less {K' : Nat → Option Blk} (h : TR t B N K) (hK : ∀ g f', K' g = some f' → ∃ f, K g = some f ∧ ∀ b m o, f' b = some (m, o) → ∃ m' o', f b = some (m', o') ∧ (m = true → m' = true)) : TR t B N K' := by
  refine ⟨h.clean, h.low, h.gs, h.norel, fun g f' hf' i a b m o ha hb hfb hmw => ?_⟩
  obtain ⟨f, hf, hle⟩ := hK g f' hf'
  obtain ⟨m', o', e, hm⟩ := hle b m o hfb
  exact h.know g f hf i a b m' o' ha hb e (hmw.imp hm id)

/-- A go statement: the child knows what its starter knows. -/
theorem TR.fork (h : TR t B N K) {x y : MemOp} (hN : 0 < N) (hx : x.g = 0 ∧ x.act = .go N) (hy : y.g = N ∧ y.act = .start) (h0 : Deaf t 0 = 0) {fc : Blk} (hc : ∀ i a b m o, touchAt t i = some a → locBlk a.loc = some b → fc b = some (m, o) → (m = true ∨ a.write = true) → Knows t 0 i) :
    TR (t ++ #[x, y]) B (N + 1) (setK K N (some fc)) := by
  have hk : Deaf t N = 0 := Go.ConcN.Deaf_absent fun i op hi e => by have := h.gs op (mem_of_getElem? hi); omega
  have hm : ∀ op ∈ #[x, y], op = x ∨ op = y := fun op hop => by simpa using hop
  have hnt : ∀ op ∈ #[x, y], op.act.touch? = none := by
    intro op hop
    rcases hm op hop with rfl | rfl
    · rw [hx.2]; rfl
    · rw [hy.2]; rfl
  have old : ∀ {i : Nat} {a : Touch}, touchAt (t ++ #[x, y]) i = some a → touchAt t i = some a := fun ha => by
    rcases touch_cases ha with ⟨_, ha'⟩ | ⟨op, hop, _, hxa⟩
    · exact ha'
    · rw [hnt op hop] at hxa; cases hxa
  refine ⟨fun said => ?_, low_app h.low (Nat.le_refl _) (fun op hop => ?_), fun op hop => ?_, fun op hop => (Array.mem_append.1 hop).elim (h.norel op) (fun z a e => ?_), fun g' f₁ hf₁ i a b m ob ha hb hfb hmw => ?_⟩
  · have e : t ++ #[x, y] = (t ++ #[x]) ++ #[y] := by apply Array.ext'; simp
    rw [e]
    refine noRace_append (g := N) (noRace_append (g := 0) (h.clean said) (fun op hop => by simp at hop; rw [hop]; exact hx.1) (fun i a _ op hop b hb _ => ?_)) (fun op hop => by simp at hop; rw [hop]; exact hy.1) (fun i a _ op hop b hb _ => ?_)
    · rw [hnt op (by simp at hop ⊢; exact .inl hop)] at hb; cases hb
    · rw [hnt op (by simp at hop ⊢; exact .inr hop)] at hb; cases hb
  · rcases hm op hop with rfl | rfl
    · rw [hx.2]; trivial
    · rw [hy.2]; trivial
  · rcases Array.mem_append.1 hop with hop | hop
    · exact Nat.lt_succ_of_lt (h.gs op hop)
    · rcases hm op hop with rfl | rfl
      · rw [hx.1]; omega
      · rw [hy.1]; omega
  · rcases hm op z with rfl | rfl
    · rw [hx.2] at e; cases e
    · rw [hy.2] at e; cases e
  · by_cases hgN : g' = N
    · subst hgN
      rw [setK_same] at hf₁
      obtain rfl := Option.some.inj hf₁
      exact Go.ConcN.fork_knows hx hy h0 hk (hc i a b m ob (old ha) hb hfb hmw)
    · rw [setK_ne _ _ hgN] at hf₁
      exact (h.know g' f₁ hf₁ i a b m ob (old ha) hb hfb hmw).app _
end

/-! ### A phase -/

/-- Goroutine g has released; behind that it touches the group's cells alone, and nothing that counts. -/
structure Reld (p : Ph) (t : Trace) (g r : Nat) : Prop where
  act : t.act? r = some (.mark (.releaseMerge (cel p.gb 0)))
  gr : t.g? r = some g
  heard : t.heard r
  after : ∀ i, r < i → t.g? i = some g → ¬ t.counts i ∧ ∀ a k, touchAt t i = some a → locBlk a.loc = some k → k = p.gb

structure TP (t : Trace) (p : Ph) (b0 : Nat) (K : Nat → Option Blk) (own : Nat → Nat) (x : Nat) (Rel : Nat → Prop) : Prop where
  atom : ∀ i a b, touchAt t i = some a → locBlk a.loc = some b → (b = p.gb ∨ b = p.cb) → (a.kind ≠ .plain ∧ (a.kind = .said → t.g? i = some 0)) ∨ ∀ g f, K g = some f → Knows t g i
  row : ∀ i a, touchAt t i = some a → locBlk a.loc = some p.rb → (∀ g f, K g = some f → Knows t g i) ∨ ∃ k, a.loc = .cell (cel p.rb k) ∧ k / p.m < x ∧ t.g? i = some (own (k / p.m))
  home : ∀ i a b, touchAt t i = some a → locBlk a.loc = some b → (b = p.rb ∨ ∃ y, p.back b = some y ∧ (y.1 = true ∨ a.write = true)) → Knows t 0 i ∨ ∃ g, t.g? i = some g ∧ b0 ≤ g
  old : ∀ i g, t.g? i = some g → g ≠ 0 → g < b0 → t.counts i → Knows t 0 i
  rd : ∀ i a b y, touchAt t i = some a → locBlk a.loc = some b → p.back b = some y → a.write = true → ∀ g f, K g = some f → Knows t g i
  done : ∀ g, Rel g → ∃ r, Reld p t g r

/-- What a touch by g in a phase may be. -/
def PTouch (p : Ph) (B g : Nat) (f : Blk) (own : Nat → Nat) (x : Nat) (b : Touch) : Prop :=
  Cls B f b ∨ ((∃ k, locBlk b.loc = some k ∧ (k = p.gb ∨ k = p.cb)) ∧ b.kind ≠ .plain ∧ (b.kind = .said → g = 0)) ∨ ∃ k, b.loc = .cell (cel p.rb k) ∧ k / p.m < x ∧ own (k / p.m) = g

section
variable {t u : Trace} {p : Ph} {b0 B N g x x' : Nat} {K : Nat → Option Blk} {f f' : Blk} {own own' : Nat → Nat} {Rel Rel' : Nat → Prop}

theorem g?_new {i : Nat} {op : MemOp} (h : (t ++ u)[i]? = some op) : (t ++ u).g? i = some op.g := by simp [Trace.g?, h]
theorem g?_keep {i g : Nat} (h : t.g? i = some g) : (t ++ u).g? i = some g := by
  unfold Trace.g? at h ⊢
  obtain ⟨z, hz, e⟩ := Option.map_eq_some_iff.1 h
  rw [getElem?_append_old (lt_size_of_getElem? hz), hz]; simpa using e
theorem g?_cases {i g : Nat} (h : (t ++ u).g? i = some g) : (i < t.size ∧ t.g? i = some g) ∨ ∃ op ∈ u, (t ++ u)[i]? = some op ∧ op.g = g := by
  unfold Trace.g? at h
  obtain ⟨z, hz, e⟩ := Option.map_eq_some_iff.1 h
  rcases getElem?_append_cases hz with ⟨hi, hz'⟩ | ⟨_, hu⟩
  · exact .inl ⟨hi, by simp [Trace.g?, hz', e]⟩
  · exact .inr ⟨z, hu, hz, e⟩

theorem Reld.app {r : Nat} (h : Reld p t g r) (hu : ∀ i, t.size ≤ i → (t ++ u).g? i = some g → ¬ (t ++ u).counts i ∧ ∀ a k, touchAt (t ++ u) i = some a → locBlk a.loc = some k → k = p.gb) : Reld p (t ++ u) g r := by
  have hr : r < t.size := lt_of_act? h.act
  refine ⟨by rw [act?_old hr]; exact h.act, by rw [g?_old hr]; exact h.gr, (heard_old hr).2 h.heard, fun i hi hg => ?_⟩
  rcases Nat.lt_or_ge i t.size with hlt | hge
  · obtain ⟨h1, h2⟩ := h.after i hi (by rw [← g?_old (u := u) hlt]; exact hg)
    exact ⟨by rw [counts_old hlt]; exact h1, fun a k ha => h2 a k (by rw [← touchAt_old (u := u) hlt]; exact ha)⟩
  · exact hu i hge hg
theorem Reld.other {r g' : Nat} (h : Reld p t g' r) (hu : ∀ op ∈ u, op.g = g) (hne : g' ≠ g) : Reld p (t ++ u) g' r := by
  refine h.app fun i hi hg => ?_
  rcases g?_cases hg with ⟨hlt, _⟩ | ⟨op, hop, _, e⟩
  · omega
  · rw [hu op hop] at e; exact absurd e.symm hne

/-- The touch is none of those that a phase has in common, or it is known what conflicts. -/
theorem TP.shd (h : TP t p b0 K own x Rel) (hK : K g = some f) (free : ∀ g f, K g = some f → f p.gb = none ∧ f p.cb = none ∧ f p.rb = none) {b : Touch}
    (hb : ((∃ k, locBlk b.loc = some k ∧ (k = p.gb ∨ k = p.cb)) ∧ b.kind ≠ .plain ∧ (b.kind = .said → g = 0)) ∨ ∃ k, b.loc = .cell (cel p.rb k) ∧ k / p.m < x ∧ own (k / p.m) = g) : Shd t K g b := by
  rcases hb with ⟨⟨k, hk, hkk⟩, hp, hs⟩ | ⟨k, hk, hx, ho⟩
  · refine ⟨fun said i a ha hc => ?_, fun k' hk' g' f' hf' => ?_⟩
    · rcases h.atom i a k ha (by rw [hc.1]; exact hk) hkk with ⟨h1, h2⟩ | h1
      · rcases hc.2.2.2 with e | e | ⟨_, e1, e2⟩
        · exact absurd e h1
        · exact absurd e hp
        · have := h2 e1
          unfold Trace.g? at this
          obtain ⟨z, hz, e⟩ := Option.map_eq_some_iff.1 this
          have hz' := knows_own hz
          rw [e, ← hs e2] at hz'; exact hz'
      · exact h1 g f hK
    · rw [hk] at hk'; cases hk'
      rcases hkk with rfl | rfl
      · exact (free g' f' hf').1
      · exact (free g' f' hf').2.1
  · refine ⟨fun said i a ha hc => ?_, fun k' hk' g' f' hf' => ?_⟩
    · rcases h.row i a ha (by rw [hc.1, hk]; rfl) with h1 | ⟨k2, h1, h2, h3⟩
      · exact h1 g f hK
      · have : k2 = k := by
          have e := hc.1
          rw [h1, hk] at e
          simpa [cel] using e
        subst this
        rw [ho] at h3
        unfold Trace.g? at h3
        obtain ⟨z, hz, e⟩ := Option.map_eq_some_iff.1 h3
        have hz' := knows_own hz
        rw [e] at hz'; exact hz'
    · rw [hk] at hk'; simp only [locBlk, cel, Option.some.injEq] at hk'; subst hk'
      exact (free g' f' hf').2.2

theorem TP.app (h : TP t p b0 K own x Rel) (lt : p.gb < B ∧ p.cb < B ∧ p.rb < B) (hu : ∀ op ∈ u, op.g = g) (hg : g = 0 ∨ b0 ≤ g) (hf : f p.gb = none ∧ f p.cb = none ∧ f p.rb = none) (hne : p.gb ≠ p.rb ∧ p.cb ≠ p.rb)
    (hbk : ∀ b y, p.back b = some y → b < B ∧ b ≠ p.gb ∧ b ≠ p.cb ∧ b ≠ p.rb ∧ ∀ m o, f b = some (m, o) → m = false) (ht : ∀ op ∈ u, ∀ b, op.act.touch? = some b → PTouch p B g f own' x' b) (hx : x ≤ x') (hown : ∀ k, k < x → own' k = own k) {K' : Nat → Option Blk} (hK' : ∀ g' f₁, K' g' = some f₁ → ∃ f₂, K g' = some f₂)
    (hRel : ∀ g', Rel' g' → g' ≠ g → Rel g') (hme : Rel' g → ∃ r, Reld p (t ++ u) g r) : TP (t ++ u) p b0 K' own' x' Rel' := by
  have nocls : ∀ op ∈ u, ∀ b, op.act.touch? = some b → ∀ k, locBlk b.loc = some k → (k = p.gb ∨ k = p.cb ∨ k = p.rb) → Cls B f b → False := by
    rintro op hop b hb k hk hkk ⟨k', hk', hc⟩
    rw [hk] at hk'; cases hk'
    rcases hkk with rfl | rfl | rfl
    · rcases hc with ⟨m, o, e, _⟩ | e
      · rw [hf.1] at e; cases e
      · omega
    · rcases hc with ⟨m, o, e, _⟩ | e
      · rw [hf.2.1] at e; cases e
      · omega
    · rcases hc with ⟨m, o, e, _⟩ | e
      · rw [hf.2.2] at e; cases e
      · omega
  refine ⟨fun i a b ha hb hbb => ?_, fun i a ha hb => ?_, fun i a b ha hb hbb => ?_, fun i g' hg' h0 hlt hc => ?_, fun i a b y ha hb hy hw g₁ f₁ hf₁ => ?_, fun g' hr => ?_⟩
  · rcases touch_cases ha with ⟨hi, ha'⟩ | ⟨op, hop, hx, hxa⟩
    · rcases h.atom i a b ha' hb hbb with ⟨h1, h2⟩ | h1
      · exact .inl ⟨h1, fun e => g?_keep (h2 e)⟩
      · exact .inr fun g f hf => let ⟨f₂, e⟩ := hK' g f hf; (h1 g f₂ e).app u
    · rcases ht op hop a hxa with hc | ⟨⟨k, hk, hkk⟩, hp, hs⟩ | ⟨k, hk, _, _⟩
      · exact (nocls op hop a hxa b hb (by rcases hbb with rfl | rfl <;> simp) hc).elim
      · exact .inl ⟨hp, fun e => by rw [g?_new hx, hu op hop, hs e]⟩
      · rw [hk] at hb; simp only [locBlk, cel, Option.some.injEq] at hb
        rcases hbb with rfl | rfl
        · exact absurd hb.symm hne.1
        · exact absurd hb.symm hne.2
  · rcases touch_cases ha with ⟨hi, ha'⟩ | ⟨op, hop, hx', hxa⟩
    · rcases h.row i a ha' hb with h1 | ⟨k, h1, h2, h3⟩
      · exact .inl fun g f hf => let ⟨f₂, e⟩ := hK' g f hf; (h1 g f₂ e).app u
      · exact .inr ⟨k, h1, by omega, by rw [hown _ h2]; exact g?_keep h3⟩
    · rcases ht op hop a hxa with hc | ⟨⟨k, hk, hkk⟩, hp, hs⟩ | ⟨k, hk, h2, h3⟩
      · exact (nocls op hop a hxa _ hb (by simp) hc).elim
      · rw [hb] at hk; cases hk
        rcases hkk with e | e
        · exact absurd e.symm hne.1
        · exact absurd e.symm hne.2
      · exact .inr ⟨k, hk, h2, by rw [g?_new hx', hu op hop, h3]⟩
  · rcases touch_cases ha with ⟨hi, ha'⟩ | ⟨op, hop, hx', hxa⟩
    · rcases h.home i a b ha' hb hbb with h1 | ⟨g', h1, h2⟩
      · exact .inl (h1.app u)
      · exact .inr ⟨g', g?_keep h1, h2⟩
    · rcases hg with rfl | hg
      · have := knows_own hx'
        rw [hu op hop] at this
        exact .inl this
      · exact .inr ⟨g, by rw [g?_new hx', hu op hop], hg⟩
  · rcases g?_cases hg' with ⟨hi, hg''⟩ | ⟨op, hop, hx', e⟩
    · exact (h.old i g' hg'' h0 hlt ((counts_old hi).1 hc)).app u
    · rw [hu op hop] at e
      rcases hg with e0 | e0 <;> omega
  · obtain ⟨b1, b2, b3, b4, b5⟩ := hbk b y hy
    rcases touch_cases ha with ⟨hi, ha'⟩ | ⟨op, hop, hx', hxa⟩
    · obtain ⟨f₂, e⟩ := hK' g₁ f₁ hf₁
      exact (h.rd i a b y ha' hb hy hw g₁ f₂ e).app u
    · exfalso
      rcases ht op hop a hxa with ⟨k, hk, hc⟩ | ⟨⟨k, hk, hkk⟩, hp, hs⟩ | ⟨k, hk, h2, h3⟩
      · rw [hb] at hk; cases hk
        rcases hc with ⟨m, o, e, hwm⟩ | e
        · have := b5 m o e
          rw [hwm hw] at this; cases this
        · omega
      · rw [hb] at hk; cases hk
        rcases hkk with e | e
        · exact b2 e
        · exact b3 e
      · rw [hk] at hb; simp only [locBlk, cel, Option.some.injEq] at hb
        exact b4 hb.symm
  · by_cases e : g' = g
    · subst e; exact hme hr
    · obtain ⟨r, hr'⟩ := h.done g' (hRel g' hr e)
      exact ⟨r, hr'.other hu e⟩

/-- Somebody who is no part of the phase slips. -/
theorem TP.mute (h : TP t p b0 K own x Rel) (hu : ∀ op ∈ u, op.g = g) (hn : ∀ op ∈ u, op.act.touch? = none) : TP (t ++ u) p b0 K own x Rel := by
  have nt : ∀ {i : Nat} {a : Touch}, touchAt (t ++ u) i = some a → i < t.size ∧ touchAt t i = some a := fun ha => by
    rcases touch_cases ha with ha' | ⟨op, hop, _, hxa⟩
    · exact ha'
    · rw [hn op hop] at hxa; cases hxa
  refine ⟨fun i a b ha hb hbb => ?_, fun i a ha hb => ?_, fun i a b ha hb hbb => ?_, fun i g' hg' h0 hlt hc => ?_, fun i a b y ha hb hy hw g₁ f₁ hf₁ => (h.rd i a b y (nt ha).2 hb hy hw g₁ f₁ hf₁).app u, fun g' hr => ?_⟩
  · rcases h.atom i a b (nt ha).2 hb hbb with ⟨h1, h2⟩ | h1
    · exact .inl ⟨h1, fun e => g?_keep (h2 e)⟩
    · exact .inr fun g f hf => (h1 g f hf).app u
  · rcases h.row i a (nt ha).2 hb with h1 | ⟨k, h1, h2, h3⟩
    · exact .inl fun g f hf => (h1 g f hf).app u
    · exact .inr ⟨k, h1, h2, g?_keep h3⟩
  · rcases h.home i a b (nt ha).2 hb hbb with h1 | ⟨g', h1, h2⟩
    · exact .inl (h1.app u)
    · exact .inr ⟨g', g?_keep h1, h2⟩
  · have ht := hc
    obtain ⟨a, ha, _⟩ := ht
    have hi := (nt ha).1
    rcases g?_cases hg' with ⟨_, hg''⟩ | ⟨op, hop, hx', e⟩
    · exact (h.old i g' hg'' h0 hlt ((counts_old hi).1 hc)).app u
    · obtain ⟨z, hz, hza⟩ := touch_of ha
      rw [hx'] at hz; cases hz
      rw [hn op hop] at hza; cases hza
  · obtain ⟨r, hr'⟩ := h.done g' hr
    refine ⟨r, hr'.app fun i hi hg' => ?_⟩
    refine ⟨fun hc => ?_, fun a k ha => ?_⟩
    · obtain ⟨a, ha, _⟩ := hc
      have := (nt ha).1; omega
    · have := (nt ha).1; omega

/-- The phase begins. -/
theorem TP.opn (h : TR t B N K) (hK : ∀ g f, K g = some f → g = 0) (h0 : K 0 = some f) (over : ∀ i g, t.g? i = some g → g ≠ 0 → t.counts i → Knows t 0 i) (hp : ∃ gh, Opens p ⟨f, gh⟩) {K' : Nat → Option Blk} (hK' : ∀ g f', K' g = some f' → g = 0) :
    TP t p b0 K' own 0 (fun _ => False) := by
  obtain ⟨gh, hp⟩ := hp
  have kn : ∀ i a b o, touchAt t i = some a → locBlk a.loc = some b → f b = some (true, o) → Knows t 0 i := fun i a b o ha hb hf => h.know 0 f h0 i a b true o ha hb hf (.inl rfl)
  refine ⟨fun i a b ha hb hbb => .inr fun g f' hg => ?_, fun i a ha hb => .inl fun g f' hg => ?_, fun i a b ha hb hbb => .inl ?_, fun i g hg h0 _ hc => over i g hg h0 hc, fun i a b y ha hb hy hw g f' hg => ?_, fun _ x => x.elim⟩
  · rw [hK' g f' hg]
    rcases hbb with rfl | rfl
    · exact kn i a _ _ ha hb hp.gb
    · exact kn i a _ _ ha hb hp.cb
  · rw [hK' g f' hg]
    obtain ⟨row, e, _⟩ := hp.rb
    exact kn i a _ _ ha hb e
  · rcases hbb with rfl | ⟨y, hy, hyw⟩
    · obtain ⟨row, e, _⟩ := hp.rb
      exact kn i a _ _ ha hb e
    · exact h.know 0 f h0 i a b y.1 y.2 ha hb (hp.back b y hy) hyw
  · rw [hK' g f' hg]
    exact h.know 0 f h0 i a b y.1 y.2 ha hb (hp.back b y hy) (.inr hw)

/-- A worker is started. -/
theorem TP.fork (h : TP t p b0 K own x Rel) (hT : TR t B N K) (h0 : K 0 = some f) {a b : MemOp} (ha : a.g = 0 ∧ a.act = .go N) (hb : b.g = N ∧ b.act = .start) (hd : Deaf t 0 = 0) {fc : Blk} (hN : b0 ≤ N) (hN0 : 0 < N) :
    TP (t ++ #[a, b]) p b0 (setK K N (some fc)) own x Rel := by
  have hk : Deaf t N = 0 := Go.ConcN.Deaf_absent fun i op hi e => by have := hT.gs op (mem_of_getElem? hi); omega
  have hm : ∀ op ∈ #[a, b], op = a ∨ op = b := fun op hop => by simpa using hop
  have hnt : ∀ op ∈ #[a, b], op.act.touch? = none := by
    intro op hop
    rcases hm op hop with rfl | rfl
    · rw [ha.2]; rfl
    · rw [hb.2]; rfl
  have nt : ∀ {i : Nat} {z : Touch}, touchAt (t ++ #[a, b]) i = some z → i < t.size ∧ touchAt t i = some z := fun hz => by
    rcases touch_cases hz with hz' | ⟨op, hop, _, hxa⟩
    · exact hz'
    · rw [hnt op hop] at hxa; cases hxa
  have all : ∀ {i : Nat}, (∀ g f, K g = some f → Knows t g i) → ∀ g f, setK K N (some fc) g = some f → Knows (t ++ #[a, b]) g i := by
    intro i hi g f' hg
    by_cases e : g = N
    · subst e
      exact Go.ConcN.fork_knows ha hb hd hk (hi 0 f h0)
    · rw [setK_ne _ _ e] at hg
      exact (hi g f' hg).app _
  refine ⟨fun i z k hz hk hkk => ?_, fun i z hz hk => ?_, fun i z k hz hk hkk => ?_, fun i g' hg' h0' hlt hc => ?_, fun i z k y hz hk hy hw => all (h.rd i z k y (nt hz).2 hk hy hw), fun g' hr => ?_⟩
  · rcases h.atom i z k (nt hz).2 hk hkk with ⟨h1, h2⟩ | h1
    · exact .inl ⟨h1, fun e => g?_keep (h2 e)⟩
    · exact .inr (all h1)
  · rcases h.row i z (nt hz).2 hk with h1 | ⟨k, h1, h2, h3⟩
    · exact .inl (all h1)
    · exact .inr ⟨k, h1, h2, g?_keep h3⟩
  · rcases h.home i z k (nt hz).2 hk hkk with h1 | ⟨g', h1, h2⟩
    · exact .inl (h1.app _)
    · exact .inr ⟨g', g?_keep h1, h2⟩
  · have ht := hc
    obtain ⟨z, hz, _⟩ := ht
    have hi := (nt hz).1
    rcases g?_cases hg' with ⟨_, hg''⟩ | ⟨op, hop, hx', e⟩
    · exact (h.old i g' hg'' h0' hlt ((counts_old hi).1 hc)).app _
    · obtain ⟨z', hz', hza⟩ := touch_of hz
      rw [hx'] at hz'; cases hz'
      rw [hnt op hop] at hza; cases hza
  · obtain ⟨r, hr'⟩ := h.done g' hr
    refine ⟨r, hr'.app fun i hi hg' => ⟨fun hc => ?_, fun z k hz => ?_⟩⟩
    · obtain ⟨z, hz, _⟩ := hc
      have := (nt hz).1; omega
    · have := (nt hz).1; omega

/-- The phase ends: the starter has said 'acquire'. -/
theorem TP.shut (h : TP t p b0 K own x Rel) (hT : TR t B N K) (h0 : K 0 = some f) (hb0 : 0 < b0) {y : MemOp} (hy : y.g = 0 ∧ y.act = .mark (.acquire (cel p.gb 0))) (hgb : p.gb < B) (hN : 0 < N) (hd : Deaf t 0 = 0) (all : ∀ g, b0 ≤ g → g < N → Rel g)
    (hne : p.gb ≠ p.rb) (hng : p.back p.gb = none) {K' : Nat → Option Blk} (hK' : ∀ g f', K' g = some f' → g = 0 ∧ f' = shutB p f) :
    TR (t ++ #[y]) B N K' ∧ ∀ i g, (t ++ #[y]).g? i = some g → g ≠ 0 → (t ++ #[y]).counts i → Knows (t ++ #[y]) 0 i := by
  have hm : ∀ op ∈ #[y], op = y := fun op hop => by simpa using hop
  have hnt : ∀ op ∈ #[y], op.act.touch? = none := by
    intro op hop; rw [hm op hop, hy.2]; rfl
  have nt : ∀ {i : Nat} {z : Touch}, touchAt (t ++ #[y]) i = some z → i < t.size ∧ touchAt t i = some z := fun hz => by
    rcases touch_cases hz with hz' | ⟨op, hop, _, hxa⟩
    · exact hz'
    · rw [hnt op hop] at hxa; cases hxa
  have hyp : (t ++ #[y])[t.size]? = some y := by rw [Array.getElem?_append_right (Nat.le_refl _)]; simp
  have hyh : (t ++ #[y]).heard t.size := ⟨0, by simp [Trace.g?, hy.1], by rw [deaf_old (Nat.le_refl _)]; exact hd⟩
  -- what stands at or ahead of a release is known
  have rel : ∀ g r i, Reld p t g r → t.g? i = some g → i ≤ r → Knows (t ++ #[y]) 0 i := by
    intro g r i hr hg hir
    have hrlt : r < t.size := lt_of_act? hr.act
    have edge : HappensBefore (t ++ #[y]) r t.size := .single (.inr ⟨.marked hrlt (.inr (by rw [act?_old hrlt]; exact hr.act)) (by rw [act?_of hyp, hy.2]) (fun k h1 h2 e => by
      obtain ⟨op, ho, hoa⟩ := Option.map_eq_some_iff.1 e
      rw [getElem?_append_old h2] at ho
      exact hT.norel op (mem_of_getElem? ho) _ hoa), (heard_old hrlt).2 hr.heard, hyh⟩)
    refine ⟨t.size, y, hyp, hy.1, .inr ?_⟩
    rcases Nat.lt_or_ge i r with hlt | hge
    · exact .trans (.single (.inl ⟨hlt, g, g?_keep hg, g?_keep hr.gr⟩)) edge
    · obtain rfl : i = r := by omega
      exact edge
  have hgN : ∀ {i g : Nat}, t.g? i = some g → g < N := by
    intro i g hg
    unfold Trace.g? at hg
    obtain ⟨z, hz, e⟩ := Option.map_eq_some_iff.1 hg
    rw [← e]; exact hT.gs z (mem_of_getElem? hz)
  have known : ∀ i a b, touchAt t i = some a → locBlk a.loc = some b → (b = p.rb ∨ ∃ y, p.back b = some y ∧ (y.1 = true ∨ a.write = true)) → Knows (t ++ #[y]) 0 i := by
    intro i a b ha hb hbb
    rcases h.home i a b ha hb hbb with h1 | ⟨g, h1, h2⟩
    · exact h1.app _
    · obtain ⟨r, hr⟩ := h.done g (all g h2 (hgN h1))
      rcases Nat.lt_or_ge r i with hlt | hge
      · have := (hr.after i hlt h1).2 a b ha hb
        exfalso
        rcases hbb with e | ⟨z, e, _⟩
        · exact hne (this.symm.trans e)
        · rw [this, hng] at e; cases e
      · exact rel g r i hr h1 hge
  refine ⟨⟨fun said => noRace_append (g := 0) (hT.clean said) (fun op hop => by rw [hm op hop]; exact hy.1) (fun i a _ op hop b hb _ => by rw [hnt op hop] at hb; cases hb), low_app hT.low (Nat.le_refl _) (fun op hop => by rw [hm op hop, hy.2]; exact hgb),
    fun op hop => (Array.mem_append.1 hop).elim (hT.gs op) fun z => by rw [hm op z, hy.1]; exact hN, fun op hop => (Array.mem_append.1 hop).elim (hT.norel op) fun z a e => (by rw [hm op z, hy.2] at e; cases e), fun g f' hf' i a b m o ha hb hfb hmw => ?_⟩, fun i g hg hg0 hc => ?_⟩
  · obtain ⟨rfl, rfl⟩ := hK' g f' hf'
    obtain ⟨hi, ha'⟩ := nt ha
    unfold shutB at hfb
    by_cases hr : b = p.rb
    · exact known i a b ha' hb (.inl hr)
    · rw [if_neg hr] at hfb
      cases hbk : p.back b with
      | none => rw [hbk] at hfb; exact (hT.know 0 f h0 i a b m o ha' hb hfb hmw).app _
      | some z =>
        rw [hbk] at hfb
        simp only [Option.some.injEq] at hfb
        subst hfb
        exact known i a b ha' hb (.inr ⟨_, hbk, hmw⟩)
  · have hc' := hc
    obtain ⟨a, ha, _⟩ := hc'
    obtain ⟨hi, ha'⟩ := nt ha
    rcases g?_cases hg with ⟨_, hg'⟩ | ⟨op, hop, _, e⟩
    · rcases Nat.lt_or_ge g b0 with hlt | hge
      · exact (h.old i g hg' hg0 hlt ((counts_old hi).1 hc)).app _
      · obtain ⟨r, hr⟩ := h.done g (all g hge (hgN hg'))
        rcases Nat.lt_or_ge r i with hlt | hge'
        · exact absurd ((counts_old hi).1 hc) (hr.after i hlt hg').1
        · exact rel g r i hr hg' hge'
    · rw [hm op hop, hy.1] at e; exact absurd e.symm hg0
end
end KL
end Go.Proofs.YtlmecmapkijcnaaDoor

set_option linter.unusedVariables false
namespace Go.Proofs.YtlmecmapkijcnaaDoor
namespace KL
open Go.Conc
open Go.ConcN (sumTo)
open Go.ConcR (g_of_ofEvents)

/-! ### A measure: trees -/
inductive Sub : Tr → Tr → Prop
  | step (k : World → Tr) (w : World) : Sub (k w) (.step k)
  | move (t : Tr) : Sub t (.move t)
  | act (k : Frame → List Frame → Know → Tr) (fr : Frame) (cs : List Frame) (h : Know) : Sub (k fr cs h) (.act k)
theorem sub_acc : ∀ t, Acc Sub t := by
  intro t
  induction t with
  | stop => exact ⟨_, fun y h => by cases h⟩
  | step k ih => exact ⟨_, fun y h => by cases h; exact ih _⟩
  | move t ih => exact ⟨_, fun y h => by cases h; exact ih⟩
  | act k ih => exact ⟨_, fun y h => by cases h; exact ih _ _ _⟩

/-- A worker's measure: a tree, or a number of steps that are left. -/
inductive Low : Tr ⊕ Nat → Tr ⊕ Nat → Prop
  | tree {a b : Tr} : Sub a b → Low (.inl a) (.inl b)
  | out (n : Nat) (b : Tr) : Low (.inr n) (.inl b)
  | num {a b : Nat} : a < b → Low (.inr a) (.inr b)
theorem low_acc : ∀ x, Acc Low x := by
  have hn : ∀ n, Acc Low (.inr n) := by
    intro n
    induction n using Nat.strongRecOn with
    | _ n ih => exact ⟨_, fun y h => by cases h with | num h => exact ih _ h⟩
  have ht : ∀ t, Acc Sub t → Acc Low (.inl t) := by
    intro t h
    induction h with
    | intro t _ ih => exact ⟨_, fun y h => by
        cases h with
        | tree h => exact ih _ h
        | out n => exact hn n⟩
  intro x
  cases x with
  | inl t => exact ht t (sub_acc t)
  | inr n => exact hn n

/-- One of the list goes down. -/
inductive Lows : List (Tr ⊕ Nat) → List (Tr ⊕ Nat) → Prop
  | here {a b : Tr ⊕ Nat} (l : List (Tr ⊕ Nat)) : Low a b → Lows (a :: l) (b :: l)
  | there (a : Tr ⊕ Nat) {l l' : List (Tr ⊕ Nat)} : Lows l l' → Lows (a :: l) (a :: l')
theorem lows_acc : ∀ l, Acc Lows l := by
  intro l
  induction l with
  | nil => exact ⟨_, fun y h => by cases h⟩
  | cons a l ih =>
    have key : ∀ a, Acc Low a → ∀ l, Acc Lows l → Acc Lows (a :: l) := by
      intro a ha
      induction ha with
      | intro a _ iha =>
        intro l hl
        induction hl with
        | intro l hl ihl =>
          exact ⟨_, fun y h => by
            cases h with
            | here _ h => exact iha _ h l ⟨_, hl⟩
            | there _ h => exact ihl _ h⟩
    exact key a (low_acc a) l ih
theorem lows_map {f f' : Nat → Tr ⊕ Nat} {i : Nat} : ∀ (l : List Nat), l.Nodup → i ∈ l → (∀ j, j ≠ i → f' j = f j) → Low (f' i) (f i) → Lows (l.map f') (l.map f) := by
  intro l
  induction l with
  | nil => intro _ h; cases h
  | cons a l ih =>
    intro hn hi ho hl
    rw [List.nodup_cons] at hn
    rcases List.mem_cons.1 hi with rfl | hi
    · have : l.map f' = l.map f := List.map_congr_left fun j hj => ho j fun e => hn.1 (e ▸ hj)
      simp only [List.map_cons, this]
      exact .here _ hl
    · have : f' a = f a := ho a fun e => hn.1 (e ▸ hi)
      simp only [List.map_cons, this]
      exact .there _ (ih hn.2 hi ho hl)

abbrev Mu := Tr × List (Tr ⊕ Nat) × Nat
abbrev MuLt : Mu → Mu → Prop := Prod.Lex Sub (Prod.Lex Lows (· < ·))
theorem mu_wf : WellFounded MuLt := (Prod.lex ⟨Sub, ⟨sub_acc⟩⟩ (Prod.lex ⟨Lows, ⟨lows_acc⟩⟩ Nat.lt_wfRel)).wf

theorem get_map_set {gs : Array Goroutine} (f : Goroutine → Goroutine) (a : Nat) (x : Goroutine) (b : Nat) (hb : a ≠ b) : ((gs.map f).setIfInBounds a x)[b]? = (gs[b]?).map f := by
  rw [Array.getElem?_setIfInBounds_ne hb, Array.getElem?_map]
theorem get_map_set_same {gs : Array Goroutine} (f : Goroutine → Goroutine) (a : Nat) (x : Goroutine) (ha : a < gs.size) : ((gs.map f).setIfInBounds a x)[a]? = some x := by
  simp [ha]

/-! ### Who stands where -/
structure Gst where
  D : Nat → Option (Know × Tr)
  q : Nat → Nat
  h0 : Know
  t0 : Tr
  bl : Bool
  own : Nat → Nat
  x : Nat
  b0 : Nat
  j : Nat
def Gst.K (M : Gst) : Nat → Option Blk := fun g => if g = 0 then some M.h0.blk else (M.D g).map fun y => y.1.blk
def stOf : Gh → WS
  | .wrk _ s => s
  | _ => .quit
def stD : Option (Know × Tr) → WS
  | some y => stOf y.1.gh
  | none => .quit
def Gst.S (M : Gst) (k : Nat) : WS := stD (M.D (M.b0 + k))
def deafW : WS → Nat
  | .dea | .last1 | .last2 | .last3 | .gone => 1
  | _ => 0
def deafS : SS → Nat
  | .add _ | .go _ | .fin2 => 0
  | _ => 1
def deafM : Gh → Nat
  | .main _ s => deafS s
  | _ => 0
def Gst.mu (M : Gst) (N : Nat) : Mu := (M.t0, (List.range N).map (fun i => match M.D i with | some y => .inl y.2 | none => .inr (M.q i)), if M.bl then 0 else 1)

/-- The starter's end. -/
def StopM (P : Program) (R : Value → Prop) (fr : Frame) (cs : List Frame) (h : Know) : Prop :=
  h.gh = .idle ∧ cs = [] ∧ fr.defers = [] ∧ fr.kind = .normal ∧ fr.mode = .returning ∧ P.inits.idxOf? fr.fn = none ∧ ∃ fn, P.funcs[fr.fn]? = some fn ∧ semS P (fun _ _ => False) (results fn fr.tmps) h (fun v _ => R v)

def blkd (bl : Bool) (g : Goroutine) : Goroutine := if bl then { g with status := .blocked } else g

structure Gs (P : Program) (R : Value → Prop) (M : Gst) (gs : Array Goroutine) (t : Trace) : Prop where
  g0 : ∃ fr cs, gs[0]? = some (blkd M.bl (G fr cs)) ∧ GoesT actsM P true (StopM P R) M.t0 fr cs M.h0
  lv : ∀ i y, M.D i = some y → ∃ fr cs, gs[i]? = some (G fr cs) ∧ GoesT actsW P false (StopW P) y.2 fr cs y.1 ∧ Deaf t i = deafW (stOf y.1.gh)
  gn : ∀ i, 1 ≤ i → i < gs.size → M.D i = none → ∃ g, gs[i]? = some g ∧ QuitsD P (M.q i) (Deaf t i) g
  D0 : M.D 0 = none
  deaf : Deaf t 0 = deafM M.h0.gh

section
variable {P : Program} {R : Value → Prop} {M : Gst} {gs : Array Goroutine} {t : Trace} {w w' : World}

theorem blkd_false (g : Goroutine) : blkd false g = g := rfl
theorem Gs.lt (H : Gs P R M gs t) : 0 < gs.size := by
  obtain ⟨fr, cs, h, _⟩ := H.g0
  exact (Array.getElem?_eq_some_iff.1 h).1
theorem Gs.ne0 (H : Gs P R M gs t) {i : Nat} {y : Know × Tr} (e : M.D i = some y) : i ≠ 0 := fun e0 => by subst e0; rw [H.D0] at e; cases e

theorem Gs.awake (H : Gs P R M gs t) : ∀ g ∈ gs, awake g := by
  intro g hg
  obtain ⟨i, hi, rfl⟩ := Array.mem_iff_getElem.1 hg
  have hgi : gs[i]? = some gs[i] := Array.getElem?_eq_getElem hi
  rcases Nat.eq_zero_or_pos i with rfl | hpos
  · obtain ⟨fr, cs, h, _⟩ := H.g0
    rw [hgi] at h
    obtain h := Option.some.inj h
    rw [h]
    cases M.bl
    · exact awake_of (.inl rfl)
    · exact awake_of (.inr (.inl rfl))
  · cases hD : M.D i with
    | some y =>
      obtain ⟨fr, cs, h, _⟩ := H.lv i y hD
      rw [hgi] at h
      obtain h := Option.some.inj h
      rw [h]; exact awake_of (.inl rfl)
    | none =>
      obtain ⟨g, h, hq⟩ := H.gn i hpos hi hD
      rw [hgi] at h
      obtain h := Option.some.inj h
      rw [h]; exact awake_of (hq.status.elim .inl fun x => .inr (.inr x))

theorem woken_worker (H : Gs P R M gs t) {i : Nat} (hi : i ≠ 0) {g : Goroutine} (hg : gs[i]? = some g) (x x' : Goroutine) (w : World) : woken P x x' w g = g := by
  cases hD : M.D i with
  | some y =>
    obtain ⟨fr, cs, h, _⟩ := H.lv i y hD
    rw [hg] at h
    obtain rfl := Option.some.inj h
    exact woken_run rfl
  | none =>
    obtain ⟨g', h, hq⟩ := H.gn i (by omega) (Array.getElem?_eq_some_iff.1 hg).1 hD
    rw [hg] at h
    obtain rfl := Option.some.inj h
    exact woken_quitsD hq
theorem woken_main (bl : Bool) (fr : Frame) (cs : List Frame) (x x' : Goroutine) (w : World) (hx' : x'.status = .running ∨ x'.status = .finished) : woken P x x' w (blkd bl (G fr cs)) = blkd (bl && !mayWake P x) (G fr cs) := by
  have e1 : (x'.status != .blocked && x'.status != .waiting) = true := by rcases hx' with e | e <;> rw [e] <;> rfl
  unfold woken
  rw [Bool.and_assoc, e1, Bool.and_true]
  cases hm : mayWake P x with
  | true =>
    simp only [if_true, Bool.not_true, Bool.and_false]
    cases bl <;> rfl
  | false =>
    simp only [Bool.not_false, Bool.and_true]
    cases bl <;> rfl

/-- The starter takes a step. -/
theorem Gs.own (H : Gs P R M gs t) {fr fr' : Frame} {cs cs' : List Frame} {fn : FuncId} {pos : String} {es : Array Event} {h' : Know} {t' : Tr} (hg : GoesT actsM P true (StopM P R) t' fr' cs' h') (hd : deafBehind (deafM M.h0.gh) es = deafM h'.gh)
    {own : Nat → Nat} {x b0 j : Nat} : Gs P R ⟨M.D, M.q, h', t', false, own, x, b0, j⟩ ((gs.map (woken P (G fr cs) (G fr' cs') w')).setIfInBounds 0 (G fr' cs')) (t ++ MemOp.ofEvents 0 fn pos es) := by
  refine ⟨⟨fr', cs', get_map_set_same _ _ _ H.lt, hg⟩, fun i y hD => ?_, fun i h1 hi hD => ?_, H.D0, by rw [Deaf_own, H.deaf]; exact hd⟩
  · obtain ⟨fr, cs, e1, e2, e3⟩ := H.lv i y hD
    have h0 := H.ne0 hD
    exact ⟨fr, cs, by rw [get_map_set _ _ _ _ (Ne.symm h0), e1, Option.map_some, woken_worker H h0 e1], e2, by rw [Deaf_other t (Ne.symm h0) _ g_of_ofEvents]; exact e3⟩
  · obtain ⟨g, e1, e2⟩ := H.gn i h1 (by simpa using hi) hD
    have h0 : i ≠ 0 := by omega
    exact ⟨g, by rw [get_map_set _ _ _ _ (Ne.symm h0), e1, Option.map_some, woken_worker H h0 e1], by rw [Deaf_other t (Ne.symm h0) _ g_of_ofEvents]; exact e2⟩

/-- It stands blocked. -/
theorem Gs.blk (H : Gs P R M gs t) {fr : Frame} {cs : List Frame} (h0 : gs[0]? = some (G fr cs)) :
    Gs P R { M with bl := true } ((gs.map (woken P (G fr cs) { G fr cs with status := .blocked } w')).setIfInBounds 0 { G fr cs with status := .blocked }) t := by
  have hid : woken P (G fr cs) { G fr cs with status := .blocked } w' = id := by
    funext o; simp [woken, G]
  rw [hid, Array.map_id]
  obtain ⟨fr₁, cs₁, e, hg⟩ := H.g0
  rw [h0] at e
  have e := Option.some.inj e
  cases hb : M.bl with
  | true => rw [hb] at e; have := congrArg Goroutine.status e; cases this
  | false =>
    rw [hb] at e
    obtain ⟨rfl, rfl⟩ : fr = fr₁ ∧ cs = cs₁ := ⟨congrArg Goroutine.frame e, congrArg Goroutine.callers e⟩
    refine ⟨⟨fr, cs, by simp [H.lt, blkd], hg⟩, fun i y hD => ?_, fun i h1 hi hD => ?_, H.D0, H.deaf⟩
    · obtain ⟨fr, cs, e1, e2, e3⟩ := H.lv i y hD
      exact ⟨fr, cs, by rw [Array.getElem?_setIfInBounds_ne (Ne.symm (H.ne0 hD))]; exact e1, e2, e3⟩
    · obtain ⟨g, e1, e2⟩ := H.gn i h1 (by simpa using hi) hD
      exact ⟨g, by rw [Array.getElem?_setIfInBounds_ne (by omega)]; exact e1, e2⟩

/-- A worker takes a step. -/
theorem Gs.wrk (H : Gs P R M gs t) {i : Nat} {y : Know × Tr} (hD : M.D i = some y) {fr fr' : Frame} {cs cs' : List Frame} (hgi : gs[i]? = some (G fr cs)) {fn : FuncId} {pos : String} {es : Array Event} {h' : Know} {t' : Tr}
    (hg : GoesT actsW P false (StopW P) t' fr' cs' h') (hd : deafBehind (deafW (stOf y.1.gh)) es = deafW (stOf h'.gh)) {own : Nat → Nat} {x : Nat} :
    Gs P R ⟨setK M.D i (some (h', t')), M.q, M.h0, M.t0, M.bl && !mayWake P (G fr cs), own, x, M.b0, M.j⟩ ((gs.map (woken P (G fr cs) (G fr' cs') w')).setIfInBounds i (G fr' cs')) (t ++ MemOp.ofEvents i fn pos es) := by
  have hi0 := H.ne0 hD
  have hlt : i < gs.size := (Array.getElem?_eq_some_iff.1 hgi).1
  refine ⟨?_, fun k z hk => ?_, fun k h1 hk hDk => ?_, (setK_ne _ _ (Ne.symm hi0)).trans H.D0, by rw [Deaf_other t hi0 _ g_of_ofEvents]; exact H.deaf⟩
  · obtain ⟨fr₁, cs₁, e, hg₁⟩ := H.g0
    exact ⟨fr₁, cs₁, by rw [get_map_set _ _ _ _ hi0, e, Option.map_some, woken_main _ _ _ _ _ _ (.inl rfl)], hg₁⟩
  · by_cases e : k = i
    · subst e
      replace hk := (setK_same _ _ _).symm.trans hk
      obtain rfl := Option.some.inj hk
      obtain ⟨_, _, _, _, e3⟩ := H.lv k y hD
      exact ⟨fr', cs', get_map_set_same _ _ _ hlt, hg, by rw [Deaf_own, e3]; exact hd⟩
    · replace hk := (setK_ne _ _ e).symm.trans hk
      obtain ⟨fr₁, cs₁, e1, e2, e3⟩ := H.lv k z hk
      exact ⟨fr₁, cs₁, by rw [get_map_set _ _ _ _ (Ne.symm e), e1, Option.map_some, woken_worker H (H.ne0 hk) e1], e2, by rw [Deaf_other t (Ne.symm e) _ g_of_ofEvents]; exact e3⟩
  · by_cases e : k = i
    · subst e; simp [setK] at hDk
    · have hDk' : M.D k = none := by simpa [setK, e] using hDk
      obtain ⟨g, e1, e2⟩ := H.gn k h1 (by simpa using hk) hDk'
      exact ⟨g, by rw [get_map_set _ _ _ _ (Ne.symm e), e1, Option.map_some, woken_worker H (by omega) e1], by rw [Deaf_other t (Ne.symm e) _ g_of_ofEvents]; exact e2⟩

/-- A worker takes its last act, or a step while it leaves. -/
theorem Gs.out (H : Gs P R M gs t) {i : Nat} (hi0 : i ≠ 0) {g g' : Goroutine} (hgi : gs[i]? = some g) {fn : FuncId} {pos : String} {es : Array Event} {k : Nat}
    (hq : QuitsD P k (deafBehind (Deaf t i) es) g') {own : Nat → Nat} {x : Nat} :
    Gs P R ⟨setK M.D i none, setK M.q i k, M.h0, M.t0, M.bl && !mayWake P g, own, x, M.b0, M.j⟩ ((gs.map (woken P g g' w')).setIfInBounds i g') (t ++ MemOp.ofEvents i fn pos es) := by
  have hlt : i < gs.size := (Array.getElem?_eq_some_iff.1 hgi).1
  refine ⟨?_, fun k' z hk => ?_, fun k' h1 hk hDk => ?_, (setK_ne _ _ (Ne.symm hi0)).trans H.D0, by rw [Deaf_other t hi0 _ g_of_ofEvents]; exact H.deaf⟩
  · obtain ⟨fr₁, cs₁, e, hg₁⟩ := H.g0
    exact ⟨fr₁, cs₁, by rw [get_map_set _ _ _ _ hi0, e, Option.map_some, woken_main _ _ _ _ _ _ hq.status], hg₁⟩
  · by_cases e : k' = i
    · subst e; simp [setK] at hk
    · have hk' : M.D k' = some z := by simpa [setK, e] using hk
      obtain ⟨fr₁, cs₁, e1, e2, e3⟩ := H.lv k' z hk'
      exact ⟨fr₁, cs₁, by rw [get_map_set _ _ _ _ (Ne.symm e), e1, Option.map_some, woken_worker H (H.ne0 hk') e1], e2, by rw [Deaf_other t (Ne.symm e) _ g_of_ofEvents]; exact e3⟩
  · by_cases e : k' = i
    · subst e
      refine ⟨g', get_map_set_same _ _ _ hlt, ?_⟩
      rw [Deaf_own]
      simpa [setK] using hq
    · have hDk' : M.D k' = none := by simpa [setK, e] using hDk
      obtain ⟨g₁, e1, e2⟩ := H.gn k' h1 (by simpa using hk) hDk'
      exact ⟨g₁, by rw [get_map_set _ _ _ _ (Ne.symm e), e1, Option.map_some, woken_worker H (by omega) e1], by rw [Deaf_other t (Ne.symm e) _ g_of_ofEvents]; simpa [setK, e] using e2⟩

/-- A worker is started. -/
theorem Gs.spawn (H : Gs P R M gs t) {fr' ch : Frame} {cs : List Frame} {x y : MemOp} (hx : x.g = 0 ∧ x.act = .go gs.size) (hy : y.g = gs.size ∧ y.act = .start) (habs : ∀ op ∈ t, op.g < gs.size) {h' hc : Know} {t' tc : Tr}
    (hg : GoesT actsM P true (StopM P R) t' fr' cs h') (hgc : GoesT actsW P false (StopW P) tc ch [] hc) (hd : deafM h'.gh = deafM M.h0.gh) (hdc : deafW (stOf hc.gh) = 0) {own : Nat → Nat} {c b0 j : Nat} :
    Gs P R ⟨setK M.D gs.size (some (hc, tc)), M.q, h', t', false, own, c, b0, j⟩ ((gs.setIfInBounds 0 (G fr' cs)).push (G ch [])) (t ++ #[x, y]) := by
  have hNp := H.lt
  have deafo : ∀ g, Deaf (t ++ #[x, y]) g = Deaf t g := by
    intro g
    have e : t ++ #[x, y] = (t ++ #[x]) ++ #[y] := by apply Array.ext'; simp
    rw [e, Deaf_push, Deaf_push]
    simp [deafStep, hx.2, hy.2]
  have get : ∀ i, i ≠ 0 → i < gs.size → ((gs.setIfInBounds 0 (G fr' cs)).push (G ch []))[i]? = gs[i]? := by
    intro i h0 hi
    rw [Array.getElem?_push_lt (by simpa using hi)]
    simp [Ne.symm h0, hi]
  refine ⟨⟨fr', cs, ?_, hg⟩, fun i z hD => ?_, fun i h1 hi hD => ?_, (setK_ne _ _ (by omega)).trans H.D0, by rw [deafo, H.deaf]; exact hd.symm⟩
  · rw [Array.getElem?_push_lt (by simpa using hNp)]
    simp [blkd]
  · by_cases e : i = gs.size
    · subst e
      replace hD := (setK_same _ _ _).symm.trans hD
      obtain rfl := Option.some.inj hD
      refine ⟨ch, [], ?_, hgc, ?_⟩
      · rw [Array.getElem?_push]; simp
      · rw [deafo, hdc]
        exact Go.ConcN.Deaf_absent fun i op hi e => by have := habs op (mem_of_getElem? hi); omega
    · replace hD := (setK_ne _ _ e).symm.trans hD
      obtain ⟨fr₁, cs₁, e1, e2, e3⟩ := H.lv i z hD
      exact ⟨fr₁, cs₁, by rw [get i (H.ne0 hD) (Array.getElem?_eq_some_iff.1 e1).1]; exact e1, e2, by rw [deafo]; exact e3⟩
  · have hne : i ≠ gs.size := fun e => by subst e; simp [setK] at hD
    have hD' : M.D i = none := by simpa [setK, hne] using hD
    have hlt : i < gs.size := by simp at hi; omega
    obtain ⟨g, e1, e2⟩ := H.gn i h1 hlt hD'
    exact ⟨g, by rw [get i (by omega) hlt]; exact e1, by rw [deafo]; exact e2⟩
end
end KL
end Go.Proofs.YtlmecmapkijcnaaDoor

set_option linter.unusedVariables false
namespace Go.Proofs.YtlmecmapkijcnaaDoor
namespace KL
open Go.Conc
open Go.ConcN (sumTo)

def cntS : WS → Nat
  | .run _ | .has _ | .out | .rel | .dea => 1
  | _ => 0
def beyond : WS → Nat
  | .run _ | .has _ => 0
  | _ => 1
def VV (j : Nat) (S : Nat → WS) : Nat := sumTo j fun k => cntS (S k)
def Busy (j : Nat) (S : Nat → WS) : Prop := ∀ k, k < j → cntS (S k) = 1 ∨ S k = .quit

inductive Mode (W j : Nat) (S : Nat → WS) : SS → Bool → Int → Int → Prop
  | add (hj : j ≤ W) (hb : Busy j S) : Mode W j S (.add j) false ((VV j S : Nat) * KK) 0
  | add1 (hj : j < W) (hb : Busy j S) : Mode W j S (.add1 j) false ((VV j S : Nat) * KK) 0
  | add2 (hj : j < W) (hb : Busy j S) : Mode W j S (.add2 j) false ((VV j S + 1 : Nat) * KK) 0
  | go (hj : j < W) (hb : Busy j S) : Mode W j S (.go j) false ((VV j S + 1 : Nat) * KK) 0
  | w1 {vs : Nat} (hj : j = W) (hb : Busy j S) (hv : VV j S ≤ vs) : Mode W j S (.w1 vs) false ((VV j S : Nat) * KK) 0
  | w2 {vs : Nat} (hj : j = W) (hb : Busy j S) (hv : VV j S ≤ vs) (h1 : 1 ≤ vs) : Mode W j S (.w2 vs) false ((VV j S : Nat) * KK) 0
  | reg {bl : Bool} (hj : j = W) (hb : Busy j S) (h1 : 1 ≤ VV j S) : Mode W j S .w3 bl ((VV j S : Nat) * KK + 1) 0
  | last {bl : Bool} {st : Int} (L : Nat) (hL : L < j) (hj : j = W) (hS : (S L = .last1 ∧ st = 1) ∨ (S L = .last2 ∧ st = 1) ∨ (S L = .last3 ∧ st = 0)) (ho : ∀ k, k < j → k ≠ L → S k = .quit) : Mode W j S .w3 bl st 0
  | sema (hj : j = W) (hq : ∀ k, k < j → S k = .quit) : Mode W j S .w3 false 0 1
  | fin {s : SS} (hs : s = .w4 ∨ s = .fin ∨ s = .fin2) (hj : j = W) (hq : ∀ k, k < j → S k = .quit) : Mode W j S s false 0 0

section
variable {W j L : Nat} {S : Nat → WS} {s : SS} {bl : Bool} {st sm : Int}

theorem VV_le (j : Nat) (S : Nat → WS) : VV j S ≤ j := by
  induction j with
  | zero => exact Nat.le_refl _
  | succ j ih =>
    have : cntS (S j) ≤ 1 := by cases S j <;> simp [cntS]
    simp only [VV, sumTo] at ih ⊢; omega
theorem VV_set (S : Nat → WS) (y : WS) (hL : L < j) : VV j (setK S L y) + cntS (S L) = VV j S + cntS y := by
  have := Go.ConcN.sumTo_upd S y cntS hL
  have e : (fun a => cntS (Go.ConcN.upd S L y a)) = fun a => cntS (setK S L y a) := by funext a; rfl
  rw [e] at this
  exact this
theorem VV_same (S : Nat → WS) {y : WS} (hL : L < j) (h : cntS (S L) = cntS y) : VV j (setK S L y) = VV j S := by
  have := VV_set S y hL; omega
theorem VV_pos (S : Nat → WS) (hL : L < j) (h : cntS (S L) = 1) : 1 ≤ VV j S := by
  have := Go.ConcN.le_sumTo (f := fun k => cntS (S k)) hL
  unfold VV; omega
theorem VV_quit (hq : ∀ k, k < j → S k = .quit) : VV j S = 0 := by
  induction j with
  | zero => rfl
  | succ j ih =>
    have := ih fun k hk => hq k (by omega)
    simp only [VV, sumTo] at this ⊢
    rw [this, hq j (by omega)]; rfl
theorem VV_one (S : Nat → WS) (hb : Busy j S) (hL : L < j) (h : cntS (S L) = 1) (h1 : VV j S = 1) : ∀ k, k < j → k ≠ L → S k = .quit := by
  intro k hk hne
  rcases hb k hk with e | e
  · exfalso
    have h2 := VV_set S .quit hL
    have h3 : 1 ≤ VV j (setK S L .quit) := VV_pos _ hk (by rw [setK_ne _ _ hne]; exact e)
    have : cntS .quit = 0 := rfl
    omega
  · exact e
theorem Busy.set (hb : Busy j S) {y : WS} (hy : cntS y = 1 ∨ y = .quit) : Busy j (setK S L y) := by
  intro k hk
  by_cases e : k = L
  · subst e; rw [setK_same]; exact hy
  · rw [setK_ne _ _ e]; exact hb k hk

theorem Mode.blF (h : Mode W j S s bl st sm) (hs : s ≠ .w3) : bl = false := by cases h <;> first | rfl | exact absurd rfl hs
theorem Mode.jW (h : Mode W j S s bl st sm) : j ≤ W := by cases h <;> omega

/-- One that counts goes on counting. -/
theorem Mode.same (h : Mode W j S s bl st sm) {y : WS} (hL : L < j) (h1 : cntS (S L) = 1) (h2 : cntS y = 1) : Mode W j (setK S L y) s bl st sm := by
  have e := VV_same S hL (h1.trans h2.symm)
  cases h with
  | add hj hb => rw [← e]; exact .add hj (hb.set (.inl h2))
  | add1 hj hb => rw [← e]; exact .add1 hj (hb.set (.inl h2))
  | add2 hj hb => rw [← e]; exact .add2 hj (hb.set (.inl h2))
  | go hj hb => rw [← e]; exact .go hj (hb.set (.inl h2))
  | w1 hj hb hv => rw [← e] at hv ⊢; exact .w1 hj (hb.set (.inl h2)) hv
  | w2 hj hb hv h1 => rw [← e] at hv ⊢; exact .w2 hj (hb.set (.inl h2)) hv h1
  | reg hj hb h1 => rw [← e] at h1 ⊢; exact .reg hj (hb.set (.inl h2)) h1
  | last L' hL' hj hS ho =>
    exfalso
    by_cases g : L = L'
    · subst g; rcases hS with ⟨g, _⟩ | ⟨g, _⟩ | ⟨g, _⟩ <;> (rw [g] at h1; cases h1)
    · rw [ho L hL g] at h1; cases h1
  | sema hj hq => rw [hq L hL] at h1; cases h1
  | fin hs hj hq => rw [hq L hL] at h1; cases h1

/-- Whoever stands released takes itself off. -/
theorem Mode.down (h : Mode W j S s bl st sm) (hL : L < j) (h1 : S L = .dea) : sm = 0 ∧ ∃ v wt : Nat, wt ≤ 1 ∧ v ≤ j ∧ st = (v + 1) * KK + wt ∧
    Mode W j (setK S L (if v = 0 ∧ wt = 1 then .last1 else .quit)) s bl (v * KK + wt) 0 := by
  have hc : cntS (S L) = 1 := by rw [h1]; rfl
  have e : VV j (setK S L .quit) + 1 = VV j S := by have := VV_set S .quit hL; rw [hc] at this; exact this
  have hp := VV_pos S hL hc
  have hle := VV_le j S
  have q : cntS WS.quit = 1 ∨ WS.quit = .quit := .inr rfl
  have opn : ∀ k : Nat, ∃ v wt : Nat, wt ≤ 1 ∧ (((VV j S + k : Nat) : Int) * KK) = (v + 1) * KK + wt ∧ wt = 0 ∧ v + 1 = VV j S + k := fun k =>
    ⟨VV j S + k - 1, 0, by omega, by have : ((VV j S + k : Nat) : Int) = ((VV j S + k - 1 : Nat) : Int) + 1 := by omega
                                     rw [this]; simp, rfl, by omega⟩
  cases h with
  | add hj hb => exact ⟨rfl, VV j S - 1, 0, by omega, by omega, by rw [show ((VV j S : Nat) : Int) = ((VV j S - 1 : Nat) : Int) + 1 by omega]; simp, by
      rw [if_neg (by omega), show VV j S - 1 = VV j (setK S L .quit) by omega, show (((VV j (setK S L .quit) : Nat) : Int) * KK + ((0 : Nat) : Int)) = ((VV j (setK S L .quit) : Nat) : Int) * KK by simp]; exact .add hj (hb.set q)⟩
  | add1 hj hb => exact ⟨rfl, VV j S - 1, 0, by omega, by omega, by rw [show ((VV j S : Nat) : Int) = ((VV j S - 1 : Nat) : Int) + 1 by omega]; simp, by
      rw [if_neg (by omega), show VV j S - 1 = VV j (setK S L .quit) by omega, show (((VV j (setK S L .quit) : Nat) : Int) * KK + ((0 : Nat) : Int)) = ((VV j (setK S L .quit) : Nat) : Int) * KK by simp]; exact .add1 hj (hb.set q)⟩
  | add2 hj hb => exact ⟨rfl, VV j S, 0, by omega, by omega, by simp, by
      rw [if_neg (by omega), ← e, show (((VV j (setK S L .quit) + 1 : Nat) : Int) * KK + ((0 : Nat) : Int)) = ((VV j (setK S L .quit) + 1 : Nat) : Int) * KK by simp]; exact .add2 hj (hb.set q)⟩
  | go hj hb => exact ⟨rfl, VV j S, 0, by omega, by omega, by simp, by
      rw [if_neg (by omega), ← e, show (((VV j (setK S L .quit) + 1 : Nat) : Int) * KK + ((0 : Nat) : Int)) = ((VV j (setK S L .quit) + 1 : Nat) : Int) * KK by simp]; exact .go hj (hb.set q)⟩
  | w1 hj hb hv => exact ⟨rfl, VV j S - 1, 0, by omega, by omega, by rw [show ((VV j S : Nat) : Int) = ((VV j S - 1 : Nat) : Int) + 1 by omega]; simp, by
      rw [if_neg (by omega), show VV j S - 1 = VV j (setK S L .quit) by omega, show (((VV j (setK S L .quit) : Nat) : Int) * KK + ((0 : Nat) : Int)) = ((VV j (setK S L .quit) : Nat) : Int) * KK by simp]; exact .w1 hj (hb.set q) (by omega)⟩
  | w2 hj hb hv h1 => exact ⟨rfl, VV j S - 1, 0, by omega, by omega, by rw [show ((VV j S : Nat) : Int) = ((VV j S - 1 : Nat) : Int) + 1 by omega]; simp, by
      rw [if_neg (by omega), show VV j S - 1 = VV j (setK S L .quit) by omega, show (((VV j (setK S L .quit) : Nat) : Int) * KK + ((0 : Nat) : Int)) = ((VV j (setK S L .quit) : Nat) : Int) * KK by simp]; exact .w2 hj (hb.set q) (by omega) h1⟩
  | reg hj hb h2 =>
    refine ⟨rfl, VV j S - 1, 1, by omega, by omega, by rw [show ((VV j S : Nat) : Int) = ((VV j S - 1 : Nat) : Int) + 1 by omega]; simp, ?_⟩
    by_cases g : VV j S = 1
    · rw [if_pos ⟨by omega, rfl⟩, g]
      refine .last L hL hj (.inl ⟨setK_same _ _ _, by simp⟩) fun k hk hne => ?_
      rw [setK_ne _ _ hne]
      exact VV_one S hb hL hc g k hk hne
    · rw [if_neg (by omega), show VV j S - 1 = VV j (setK S L .quit) by omega]
      exact .reg hj (hb.set q) (by omega)
  | last L' hL' hj hS ho =>
    exfalso
    by_cases g : L = L'
    · subst g; rcases hS with ⟨g, _⟩ | ⟨g, _⟩ | ⟨g, _⟩ <;> (rw [g] at h1; cases h1)
    · rw [ho L hL g] at h1; cases h1
  | sema hj hq => rw [hq L hL] at h1; cases h1
  | fin hs hj hq => rw [hq L hL] at h1; cases h1

/-- The last one on its way. -/
theorem Mode.lastOf (h : Mode W j S s bl st sm) (hL : L < j) (h1 : S L = .last1 ∨ S L = .last2 ∨ S L = .last3) :
    s = .w3 ∧ sm = 0 ∧ j = W ∧ ((S L = .last1 ∧ st = 1) ∨ (S L = .last2 ∧ st = 1) ∨ (S L = .last3 ∧ st = 0)) ∧ ∀ k, k < j → k ≠ L → S k = .quit := by
  have nb : Busy j S → False := fun hb => by
    rcases hb L hL with e | e <;> rcases h1 with g | g | g <;> (rw [g] at e; cases e)
  have nq : (∀ k, k < j → S k = .quit) → False := fun hq => by
    have := hq L hL
    rcases h1 with g | g | g <;> (rw [g] at this; cases this)
  cases h with
  | add hj hb => exact (nb hb).elim
  | add1 hj hb => exact (nb hb).elim
  | add2 hj hb => exact (nb hb).elim
  | go hj hb => exact (nb hb).elim
  | w1 hj hb hv => exact (nb hb).elim
  | w2 hj hb hv h1 => exact (nb hb).elim
  | reg hj hb h2 => exact (nb hb).elim
  | last L' hL' hj hS ho =>
    by_cases g : L = L'
    · subst g; exact ⟨rfl, rfl, hj, hS, ho⟩
    · exfalso
      have := ho L hL g
      rcases h1 with g | g | g <;> (rw [g] at this; cases this)
  | sema hj hq => exact (nq hq).elim
  | fin hs hj hq => exact (nq hq).elim

/-- While the starter stands blocked some worker can go. -/
theorem Mode.alive (h : Mode W j S s true st sm) : ∃ k, k < j ∧ S k ≠ .quit := by
  cases h with
  | reg hj hb h1 =>
    refine Classical.byContradiction fun hn => ?_
    have : ∀ k, k < j → S k = .quit := fun k hk => Classical.byContradiction fun e => hn ⟨k, hk, e⟩
    rw [VV_quit this] at h1; omega
  | last L hL hj hS ho =>
    refine ⟨L, hL, fun e => ?_⟩
    rcases hS with ⟨g, _⟩ | ⟨g, _⟩ | ⟨g, _⟩ <;> (rw [g] at e; cases e)
/-- It may be woken. -/
theorem Mode.wake (h : Mode W j S s bl st sm) : Mode W j S s false st sm := by
  cases h with
  | add hj hb => exact .add hj hb
  | add1 hj hb => exact .add1 hj hb
  | add2 hj hb => exact .add2 hj hb
  | go hj hb => exact .go hj hb
  | w1 hj hb hv => exact .w1 hj hb hv
  | w2 hj hb hv h1 => exact .w2 hj hb hv h1
  | reg hj hb h1 => exact .reg hj hb h1
  | last L hL hj hS ho => exact .last L hL hj hS ho
  | sema hj hq => exact .sema hj hq
  | fin hs hj hq => exact .fin hs hj hq
theorem Mode.wakes (h : Mode W j S s bl st sm) (b : Bool) : Mode W j S s (bl && b) st sm := by
  cases bl
  · exact h
  · cases b
    · exact h.wake
    · exact h
end
end KL
end Go.Proofs.YtlmecmapkijcnaaDoor
