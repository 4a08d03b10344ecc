/- What a goroutine knows of memory, block by block, and what an operation does to that knowledge: soundness of the reading of the model's memory actions over partial knowledge. The walk over what is known: one goroutine's own steps, pieces of code, regions, calls. Contracts out of walks; a walk as a contract of the lone machine. A region that draws its order: its head's operations leave what is known as it is; its tail is in one order. -/
import Derived.Conc.Own5
import Derived.Conc.Listed
import Derived.Orders
set_option linter.unusedVariables false
namespace Go.Proofs.YtlmecmapkijcnaaDoor
namespace KL
open Go.Conc (G listed)

/-- A phase: workers that fill a row together, a group on which their starter waits, a counter. -/
structure Ph where
  gb : Nat
  cb : Nat
  rb : Nat
  tg : TypeId
  tc : TypeId
  te : TypeId
  n : Nat
  W : Nat
  m : Nat
  fin : Nat → Value
  back : Nat → Option (Bool × Obj)
/-- Where a worker stands: it may draw (the counter is at c or above); it has drawn i; it has drawn its last; it has released; it is deaf; it is the last one on its way; it only leaves, deaf; it only leaves. -/
inductive WS where
  | run (c : Nat)
  | has (i : Nat)
  | out
  | rel
  | dea
  | last1
  | last2
  | last3
  | gone
  | quit
/-- Where the starter stands. -/
inductive SS where
  | add (j : Nat)
  | add1 (j : Nat)
  | add2 (j : Nat)
  | go (j : Nat)
  | w1 (vs : Nat)
  | w2 (v : Nat)
  | w3
  | w4
  | fin
  | fin2
inductive Gh where
  | idle
  | main (p : Ph) (s : SS)
  | wrk (p : Ph) (s : WS)

/-- What is known of memory: a block's object, and whether the goroutine may write it; and where the goroutine stands. -/
structure Know where
  blk : Nat → Option (Bool × Obj)
  gh : Gh
instance : CoeFun Know fun _ => Nat → Option (Bool × Obj) := ⟨Know.blk⟩
def Know.upd (h : Know) (b : Nat) (x : Bool × Obj) : Know := ⟨fun c => if c = b then some x else h c, h.gh⟩
def Know.holds (h : Know) (w : World) : Prop := ∀ b m o, h b = some (m, o) → w.heap[b]? = some o
structure Know.le (h h' : Know) : Prop where
  gh : h.gh = h'.gh
  blk : ∀ b x, h b = some x → h' b = some x
instance {h h' : Know} : CoeFun (Know.le h h') fun _ => ∀ b x, h b = some x → h' b = some x := ⟨Know.le.blk⟩
def Know.owned (h : Know) (b : Nat) : Prop := ∃ o, h b = some (true, o)

theorem Know.upd_same (h : Know) (b : Nat) (x : Bool × Obj) : h.upd b x b = some x := by simp [Know.upd]
theorem Know.upd_ne (h : Know) {b c : Nat} (x : Bool × Obj) (hn : c ≠ b) : h.upd b x c = h c := by simp [Know.upd, hn]
theorem Know.le_refl (h : Know) : h.le h := ⟨rfl, fun _ _ x => x⟩
theorem Know.le_trans {a b c : Know} (h : a.le b) (k : b.le c) : a.le c := ⟨h.gh.trans k.gh, fun i x e => k i x (h i x e)⟩
theorem Know.holds_le {h h' : Know} {w : World} (hl : h.le h') (hw : h'.holds w) : h.holds w := fun b m o e => hw b m o (hl b _ e)
theorem Know.lt_of {h : Know} {w : World} (hw : h.holds w) {b : Nat} {x : Bool × Obj} (e : h b = some x) : b < w.heap.size := by
  obtain ⟨m, o⟩ := x
  have := hw b m o e
  rcases Nat.lt_or_ge b w.heap.size with g | g
  · exact g
  · rw [Array.getElem?_eq_none g] at this; cases this
theorem Know.fresh {h : Know} {w : World} (hw : h.holds w) : h w.heap.size = none := by
  cases e : h w.heap.size with
  | none => rfl
  | some x => exact absurd (Know.lt_of hw e) (Nat.lt_irrefl _)

/-- The event is an access to what is known (a write: to what may be written), or to a block that is new. -/
def EvCov (h : Know) (n : Nat) (e : Event) : Prop :=
  match e.loc with
    | .cell a => e.sync = false ∧ ((∃ m o, h a.block = some (m, o) ∧ (e.write = true → m = true)) ∨ n ≤ a.block)
    | .obj r => e.sync = false ∧ ((∃ m o, h r = some (m, o) ∧ (e.write = true → m = true)) ∨ n ≤ r)
    | .mark m => m = .noRoom
    | _ => False

/-- The place lies in a block below n. -/
def lowL (n : Nat) : Loc → Prop
  | .cell a => a.block < n
  | .obj r => r < n
  | _ => True
theorem lowL_mono {n n' : Nat} (h : n ≤ n') {l : Loc} (hl : lowL n l) : lowL n' l := by
  cases l <;> first | exact Nat.lt_of_lt_of_le hl h | trivial
/-- One or more actions: only what may be written has turned, and there may be new blocks. -/
structure KStep (h : Know) (w : World) (h' : Know) (w' : World) (es : Array Event) : Prop where
  holds : h'.holds w'
  size : w.heap.size ≤ w'.heap.size
  keep : ∀ b, b < w.heap.size → ¬ h.owned b → w'.heap[b]? = w.heap[b]?
  own : ∀ b, h'.owned b → b < w.heap.size → h.owned b
  share : ∀ b o, h' b = some (false, o) → h b = some (false, o)
  evs : ∀ e ∈ es, EvCov h w.heap.size e
  os : w'.os = w.os
  output : w'.output = w.output
  tape : w'.tape = w.tape
  gh : h'.gh = h.gh
  low : ∀ e ∈ es, lowL w'.heap.size e.loc

theorem KStep.refl {h : Know} {w : World} (hw : h.holds w) : KStep h w h w #[] :=
  ⟨hw, Nat.le_refl _, fun _ _ _ => rfl, fun _ x _ => x, fun _ _ x => x, fun e he => by simp at he, rfl, rfl, rfl, rfl, fun e he => by simp at he⟩

theorem EvCov.back {h h₁ : Know} {w w₁ : World} {es : Array Event} (k : KStep h w h₁ w₁ es) {e : Event} (he : EvCov h₁ w₁.heap.size e) : EvCov h w.heap.size e := by
  have key : ∀ (b : Nat) (wr : Bool), ((∃ m o, h₁ b = some (m, o) ∧ (wr = true → m = true)) ∨ w₁.heap.size ≤ b) → ((∃ m o, h b = some (m, o) ∧ (wr = true → m = true)) ∨ w.heap.size ≤ b) := by
    intro b wr hb
    rcases Nat.lt_or_ge b w.heap.size with g | g
    · rcases hb with ⟨m, o, e1, e2⟩ | hb
      · cases m with
        | true => obtain ⟨o', e'⟩ := k.own b ⟨o, e1⟩ g; exact .inl ⟨true, o', e', fun _ => rfl⟩
        | false => exact .inl ⟨false, o, k.share b o e1, e2⟩
      · exact absurd (Nat.lt_of_lt_of_le g (Nat.le_trans k.size hb)) (Nat.lt_irrefl _)
    · exact .inr g
  unfold EvCov at he ⊢
  cases hloc : e.loc with
  | cell a => rw [hloc] at he; exact ⟨he.1, key _ _ he.2⟩
  | obj r => rw [hloc] at he; exact ⟨he.1, key _ _ he.2⟩
  | output => rw [hloc] at he; exact he.elim
  | goroutines => rw [hloc] at he; exact he.elim
  | mark m => rw [hloc] at he; exact he

theorem KStep.trans {h h₁ h₂ : Know} {w w₁ w₂ : World} {es es₂ : Array Event} (a : KStep h w h₁ w₁ es) (b : KStep h₁ w₁ h₂ w₂ es₂) : KStep h w h₂ w₂ (es ++ es₂) :=
  ⟨b.holds, Nat.le_trans a.size b.size,
   fun i hi hn => by
    rw [b.keep i (Nat.lt_of_lt_of_le hi a.size) (fun ho => hn (a.own i ho hi)), a.keep i hi hn],
   fun i ho hi => a.own i (b.own i ho (Nat.lt_of_lt_of_le hi a.size)) hi,
   fun i o e => a.share i o (b.share i o e),
   fun e he => by
    rcases Array.mem_append.1 he with he | he
    · exact a.evs e he
    · exact (b.evs e he).back a,
   b.os.trans a.os, b.output.trans a.output, b.tape.trans a.tape, b.gh.trans a.gh, fun e he => (Array.mem_append.1 he).elim (fun x => lowL_mono b.size (a.low e x)) (b.low e)⟩

/-- A subset of the events. -/
theorem KStep.sub {h h' : Know} {w w' : World} {es es' : Array Event} (k : KStep h w h' w' es) (hs : ∀ e ∈ es', e ∈ es) : KStep h w h' w' es' :=
  ⟨k.holds, k.size, k.keep, k.own, k.share, fun e he => k.evs e (hs e he), k.os, k.output, k.tape, k.gh, fun e he => k.low e (hs e he)⟩

/-- What is asked of an answer. -/
def Fits (q : Question) (n : Nat) : Prop := if q.forced then n = 0 else ∃ t, n = q.cut t

/-- The actions, read over what is known. 'K': behind them; 'E': they end by a panic. -/
def semS (P : Program) {α : Type} (E : Value → Know → Prop) : Sem α → Know → (α → Know → Prop) → Prop
  | .pure a, h, K => K a h
  | .load m a k, h, K => m = .plain ∧ a.spot = none ∧ ∃ mu c ty fr v, h a.block = some (mu, .cells c ty fr) ∧ c[a.off]? = some v ∧ semS P E (k v) h K
  | .store m a v k, h, K => m = .plain ∧ a.spot = none ∧ (∀ cs, v ≠ .agg cs) ∧ (∀ cs, v ≠ .tuple cs) ∧
      ∃ c ty fr, h a.block = some (true, .cells c ty fr) ∧ a.off < c.size ∧ ¬ (fr.1 ≤ a.off ∧ a.off < fr.2) ∧ semS P E k (h.upd a.block (true, .cells (c.setIfInBounds a.off v) ty fr)) K
  | .new o k, h, K => ∀ r, h r = none → semS P E (k r) (h.upd r (true, o)) K
  | .shape r k, h, K => ∃ mu c ty fr, h r = some (mu, .cells c ty fr) ∧ semS P E (k (some (ty, c.size))) h K
  | .freeze a n k, h, K => (n = 0 ∧ semS P E k h K) ∨ (n ≠ 0 ∧ ∃ c ty fr, h a.block = some (true, .cells c ty fr) ∧
      semS P E k (h.upd a.block (true, .cells c ty (if fr.1 == fr.2 then (a.off, a.off + n) else (min fr.1 a.off, max fr.2 (a.off + n))))) K)
  | .frozen a k, h, K => ∃ mu c ty fr, h a.block = some (mu, .cells c ty fr) ∧ semS P E (k (decide (fr.1 ≤ a.off) && decide (a.off < fr.2))) h K
  | .getObj r k, h, K => ∃ mu o, h r = some (mu, o) ∧ (∀ c ty fr, o ≠ .cells c ty fr) ∧ o.isChan = false ∧ semS P E (k o) h K
  | .setObj r o k, h, K => ∃ o', h r = some (true, o') ∧ (∀ c ty fr, o' ≠ .cells c ty fr) ∧ o.isChan = false ∧ semS P E k (h.upd r (true, o)) K
  | .choose q k, h, K => ∀ n, Fits q n → semS P E (k n) h K
  | .program k, h, K => semS P E (k P) h K
  | .mark m k, h, K => m = .noRoom ∧ semS P E k h K
  | .halt (.panic v), h, _ => E v h
  | _, _, _ => False

/-- What comes of it. -/
def Came {α : Type} (h : Know) (w : World) (es : Array Event) (E : Value → Know → Prop) (K : α → Know → Prop) (r : Result α × Array Event) : Prop :=
  ∃ w' es' h', r.2 = es ++ es' ∧ KStep h w h' w' es' ∧ ((∃ x, r.1 = .ok x w' ∧ K x h') ∨ ∃ v, r.1 = .halt (.panic v) w' ∧ E v h')

theorem Came.behind {α : Type} {h h₁ : Know} {w w₁ : World} {es es₁ : Array Event} {E : Value → Know → Prop} {K : α → Know → Prop} {r : Result α × Array Event} (k : KStep h w h₁ w₁ es₁)
    (c : Came h₁ w₁ (es ++ es₁) E K r) : Came h w es E K r := by
  obtain ⟨w', es', h', e1, e2, e3⟩ := c
  exact ⟨w', es₁ ++ es', h', by rw [e1, Array.append_assoc], k.trans e2, e3⟩

theorem heap_modify_same {a : Array Obj} {b : Nat} {o : Obj} (f : Obj → Obj) (h : a[b]? = some o) : (a.modify b f)[b]? = some (f o) := by
  obtain ⟨hb, he⟩ := Array.getElem?_eq_some_iff.1 h
  rw [Array.getElem?_eq_getElem (by simpa using hb), Array.getElem_modify_self, he]
theorem heap_modify_ne {a : Array Obj} {b c : Nat} (f : Obj → Obj) (h : c ≠ b) : (a.modify b f)[c]? = a[c]? := by
  rcases Nat.lt_or_ge c a.size with g | g
  · rw [Array.getElem?_eq_getElem (by simpa using g), Array.getElem?_eq_getElem g, Array.getElem_modify_of_ne (Ne.symm h)]
  · rw [Array.getElem?_eq_none (by simpa using g), Array.getElem?_eq_none g]

/-- A block that may be written is turned. -/
theorem KStep.turn {h : Know} {w w' : World} {b : Nat} {o o' : Obj} {es : Array Event} (hw : h.holds w) (hb : h b = some (true, o)) (hs : w'.heap.size = w.heap.size) (h1 : w'.heap[b]? = some o')
    (h2 : ∀ c, c ≠ b → w'.heap[c]? = w.heap[c]?) (hos : w'.os = w.os) (hout : w'.output = w.output) (htape : w'.tape = w.tape) (hev : ∀ e ∈ es, EvCov h w.heap.size e) (hlo : ∀ e ∈ es, lowL w.heap.size e.loc) : KStep h w (h.upd b (true, o')) w' es := by
  refine ⟨fun c m x e => ?_, by omega, fun c _ hn => h2 c fun e => hn (by subst e; exact ⟨o, hb⟩), fun c hc _ => ?_, fun c x e => ?_, hev, hos, hout, htape, rfl, fun e he => by rw [hs]; exact hlo e he⟩
  · by_cases hc : c = b
    · subst hc; rw [Know.upd_same] at e; cases e; exact h1
    · rw [Know.upd_ne _ _ hc] at e; rw [h2 c hc]; exact hw c m x e
  · by_cases hcb : c = b
    · subst hcb; exact ⟨o, hb⟩
    · obtain ⟨x, e⟩ := hc; rw [Know.upd_ne _ _ hcb] at e; exact ⟨x, e⟩
  · by_cases hcb : c = b
    · subst hcb; rw [Know.upd_same] at e; cases e
    · rw [Know.upd_ne _ _ hcb] at e; exact e

/-- A new block. -/
theorem KStep.new {h : Know} {w : World} (hw : h.holds w) (o : Obj) : KStep h w (h.upd w.heap.size (true, o)) { w with heap := w.heap.push o } #[] := by
  refine ⟨fun c m x e => ?_, by simp, fun c hc _ => ?_, fun c hc hlt => ?_, fun c x e => ?_, fun e he => by simp at he, rfl, rfl, rfl, rfl, fun e he => by simp at he⟩
  · by_cases hc : c = w.heap.size
    · subst hc; rw [Know.upd_same] at e; cases e; simp
    · rw [Know.upd_ne _ _ hc] at e
      have := hw c m x e
      have hlt := Know.lt_of hw e
      simp only [Array.getElem?_push]
      rw [if_neg (Nat.ne_of_lt hlt)]; exact this
  · simp only [Array.getElem?_push]; rw [if_neg (Nat.ne_of_lt hc)]
  · obtain ⟨x, e⟩ := hc; rw [Know.upd_ne _ _ (Nat.ne_of_lt hlt)] at e; exact ⟨x, e⟩
  · by_cases hc : c = w.heap.size
    · subst hc; rw [Know.upd_same] at e; cases e
    · rw [Know.upd_ne _ _ hc] at e; exact e

/-- No memory is touched: the count of draws moves at the most. -/
theorem KStep.draw {h : Know} {w w' : World} (hw : h.holds w) (hh : w'.heap = w.heap) (hos : w'.os = w.os) (hout : w'.output = w.output) (htape : w'.tape = w.tape) : KStep h w h w' #[] :=
  ⟨fun b m o e => by rw [hh]; exact hw b m o e, by rw [hh]; exact Nat.le_refl _, fun _ _ _ => by rw [hh], fun _ x _ => x, fun _ _ x => x, fun e he => by simp at he, hos, hout, htape, rfl, fun e he => by simp at he⟩

/-- An access to what is known. -/
theorem KStep.read {h : Know} {w : World} (hw : h.holds w) {e : Event} (he : EvCov h w.heap.size e) (hlo : lowL w.heap.size e.loc) : KStep h w h w #[e] :=
  ⟨hw, Nat.le_refl _, fun _ _ _ => rfl, fun _ x _ => x, fun _ _ x => x, fun x hx => by simp at hx; subst hx; exact he, rfl, rfl, rfl, rfl, fun x hx => by simp at hx; subst hx; exact hlo⟩

theorem came_here {α : Type} {h : Know} {w : World} {es : Array Event} {E : Value → Know → Prop} {K : α → Know → Prop} {x : α} (hw : h.holds w) (k : K x h) : Came h w es E K (.ok x w, es) :=
  ⟨w, #[], h, by simp, KStep.refl hw, .inl ⟨x, rfl, k⟩⟩

theorem semS_sound {P : Program} {α : Type} {E : Value → Know → Prop} (s : Sem α) : ∀ (h : Know) (w : World) (es : Array Event) (K : α → Know → Prop), semS P E s h K → h.holds w → Came h w es E K (s.runT P w es) := by
  induction s with
  | pure a => exact fun h w es K k hw => came_here hw k
  | load m a k ih =>
    rintro h w es K ⟨rfl, hsp, mu, c, ty, fr, v, hb, hc, hk⟩ hw
    have hcell : w.cell? a = some v := by simp [World.cell?, hw _ _ _ hb, hsp, hc]
    simp only [Sem.runT, hcell]
    rw [Array.push_eq_append]
    exact Came.behind (KStep.read (e := ⟨.cell a, false, false⟩) hw ⟨rfl, .inl ⟨mu, _, hb, fun x => by simp at x⟩⟩ (Know.lt_of hw hb)) (ih v h w _ K hk hw)
  | store m a v k ih =>
    rintro h w es K ⟨rfl, hsp, hna, hnt, c, ty, fr, hb, hoff, hfr, hk⟩ hw
    have hB := hw _ _ _ hb
    have hcell : w.cell? a = some c[a.off] := by simp [World.cell?, hB, hsp, hoff]
    have hfz : w.frozen? a = false := by
      obtain ⟨lo, hi⟩ := fr
      simp only [World.frozen?, hB]
      simpa using hfr
    have hrun : (Sem.store Mode.plain a v k).runT P w es = k.runT P (w.setCell a v) (es.push ⟨.cell a, true, false⟩) := by
      cases v <;> first | (exact absurd rfl (hna _)) | (exact absurd rfl (hnt _)) | (simp [Sem.runT, hcell, hfz]; rfl)
    rw [hrun, Array.push_eq_append]
    have hst : KStep h w (h.upd a.block (true, .cells (c.setIfInBounds a.off v) ty fr)) (w.setCell a v) #[⟨.cell a, true, false⟩] := by
      refine KStep.turn hw hb (by simp [World.setCell]) ?_ (fun b hne => heap_modify_ne _ hne) rfl rfl rfl (fun e he => by simp at he; subst he; exact ⟨rfl, .inl ⟨true, _, hb, fun _ => rfl⟩⟩) (fun e he => by simp at he; subst he; exact Know.lt_of hw hb)
      show (w.heap.modify a.block _)[a.block]? = _
      rw [heap_modify_same _ hB]
      simp [hsp]
    exact Came.behind hst (ih _ _ _ K hk hst.holds)
  | new o k ih =>
    intro h w es K hk hw
    simp only [Sem.runT]
    have hst := KStep.new hw o
    have := ih w.heap.size _ _ (es ++ #[]) K (hk _ (Know.fresh hw)) hst.holds
    rw [Array.append_empty] at this
    exact Came.behind hst (by rw [Array.append_empty]; exact this)
  | shape r k ih =>
    rintro h w es K ⟨mu, c, ty, fr, hb, hk⟩ hw
    have hsh : w.shape? r = some (ty, c.size) := by simp [World.shape?, hw _ _ _ hb]
    simp only [Sem.runT, hsh]
    exact ih _ h w es K hk hw
  | freeze a n k ih =>
    rintro h w es K (⟨rfl, hk⟩ | ⟨hn, c, ty, fr, hb, hk⟩) hw
    · simp only [Sem.runT, World.freeze, if_true]
      exact ih h w es K hk hw
    · simp only [Sem.runT, World.freeze, if_neg hn]
      have hB := hw _ _ _ hb
      obtain ⟨lo, hi⟩ := fr
      have hst : KStep h w (h.upd a.block (true, .cells c ty (if lo == hi then (a.off, a.off + n) else (min lo a.off, max hi (a.off + n))))) { w with heap := w.heap.modify a.block fun
          | .cells c elem (lo, hi) => .cells c elem (if lo == hi then (a.off, a.off + n) else (min lo a.off, max hi (a.off + n)))
          | o => o } #[] := by
        refine KStep.turn hw hb (by simp) ?_ (fun b hne => heap_modify_ne _ hne) rfl rfl rfl (fun e he => by simp at he) (fun e he => by simp at he)
        exact heap_modify_same _ hB
      have := ih _ _ (es ++ #[]) K hk hst.holds
      rw [Array.append_empty] at this
      exact Came.behind hst (by rw [Array.append_empty]; exact this)
  | frozen a k ih =>
    rintro h w es K ⟨mu, c, ty, fr, hb, hk⟩ hw
    have hfz : w.frozen? a = (decide (fr.1 ≤ a.off) && decide (a.off < fr.2)) := by
      obtain ⟨lo, hi⟩ := fr
      simp [World.frozen?, hw _ _ _ hb]
    simp only [Sem.runT, hfz]
    exact ih _ h w es K hk hw
  | getObj r k ih =>
    rintro h w es K ⟨mu, o, hb, hnc, hch, hk⟩ hw
    have hB := hw _ _ _ hb
    have hrun : (Sem.getObj r k).runT P w es = (k o).runT P w (es.push ⟨.obj r, false, o.isChan⟩) := by
      simp only [Sem.runT, hB]
    rw [hrun, Array.push_eq_append, hch]
    exact Came.behind (KStep.read (e := ⟨.obj r, false, false⟩) hw ⟨rfl, .inl ⟨mu, _, hb, fun x => by simp at x⟩⟩ (Know.lt_of hw hb)) (ih o h w _ K hk hw)
  | setObj r o k ih =>
    rintro h w es K ⟨o', hb, hnc, hch, hk⟩ hw
    have hB := hw _ _ _ hb
    have hrun : (Sem.setObj r o k).runT P w es = k.runT P { w with heap := w.heap.setIfInBounds r o } (es.push ⟨.obj r, true, o.isChan⟩) := by
      simp only [Sem.runT, hB]
    rw [hrun, Array.push_eq_append, hch]
    have hlt : r < w.heap.size := Know.lt_of hw hb
    have hst : KStep h w (h.upd r (true, o)) { w with heap := w.heap.setIfInBounds r o } #[⟨.obj r, true, false⟩] := by
      refine KStep.turn hw hb (by simp) (by simp [hlt]) (fun b hne => by simp [Array.getElem?_setIfInBounds_ne (Ne.symm hne)]) rfl rfl rfl (fun e he => by simp at he; subst he; exact ⟨rfl, .inl ⟨true, _, hb, fun _ => rfl⟩⟩) (fun e he => by simp at he; subst he; exact hlt)
    exact Came.behind hst (ih _ _ _ K hk hst.holds)
  | choose q k ih =>
    intro h w es K hk hw
    simp only [Sem.runT]
    split
    · rename_i hf
      exact ih 0 h w es K (hk 0 (by simp [Fits, hf])) hw
    · rename_i hf
      have hst : KStep h w h { w with drawn := w.drawn + 1 } #[] := KStep.draw hw rfl rfl rfl rfl
      have := ih _ h _ (es ++ #[]) K (hk (q.cut (w.tape w.drawn q)) (by simp only [Fits, hf]; exact ⟨_, rfl⟩)) hst.holds
      rw [Array.append_empty] at this
      exact Came.behind hst (by rw [Array.append_empty]; exact this)
  | sys c k ih => exact fun h w es K hk hw => hk.elim
  | program k ih =>
    intro h w es K hk hw
    simp only [Sem.runT]
    exact ih P h w es K hk hw
  | mark m k ih =>
    rintro h w es K ⟨rfl, hk⟩ hw
    simp only [Sem.runT]
    rw [Array.push_eq_append]
    exact Came.behind (KStep.read (e := ⟨.mark .noRoom, false, true⟩) hw rfl trivial) (ih h w _ K hk hw)
  | halt x =>
    intro h w es K hk hw
    cases x <;> first | exact hk.elim | exact ⟨w, #[], h, by simp [Sem.runT], KStep.refl hw, .inr ⟨_, rfl, hk⟩⟩

theorem semS_mono {P : Program} {α : Type} {E E' : Value → Know → Prop} (hE : ∀ v h, E v h → E' v h) (s : Sem α) : ∀ (h : Know) (K K' : α → Know → Prop), (∀ x h, K x h → K' x h) → semS P E s h K → semS P E' s h K' := by
  induction s with
  | pure a => exact fun h K K' hK k => hK _ _ k
  | load m a k ih => exact fun h K K' hK ⟨e1, e2, mu, c, ty, fr, v, hb, hc, hk⟩ => ⟨e1, e2, mu, c, ty, fr, v, hb, hc, ih v h K K' hK hk⟩
  | store m a v k ih => exact fun h K K' hK ⟨e1, e2, e3, e4, c, ty, fr, hb, hc, hf, hk⟩ => ⟨e1, e2, e3, e4, c, ty, fr, hb, hc, hf, ih _ K K' hK hk⟩
  | new o k ih => exact fun h K K' hK hk r hr => ih r _ K K' hK (hk r hr)
  | shape r k ih => exact fun h K K' hK ⟨mu, c, ty, fr, hb, hk⟩ => ⟨mu, c, ty, fr, hb, ih _ h K K' hK hk⟩
  | freeze a n k ih => exact fun h K K' hK hk => hk.elim (fun ⟨e, hk⟩ => .inl ⟨e, ih h K K' hK hk⟩) (fun ⟨e, c, ty, fr, hb, hk⟩ => .inr ⟨e, c, ty, fr, hb, ih _ K K' hK hk⟩)
  | frozen a k ih => exact fun h K K' hK ⟨mu, c, ty, fr, hb, hk⟩ => ⟨mu, c, ty, fr, hb, ih _ h K K' hK hk⟩
  | getObj r k ih => exact fun h K K' hK ⟨mu, o, hb, hn, hc, hk⟩ => ⟨mu, o, hb, hn, hc, ih o h K K' hK hk⟩
  | setObj r o k ih => exact fun h K K' hK ⟨o', hb, hn, hc, hk⟩ => ⟨o', hb, hn, hc, ih _ K K' hK hk⟩
  | choose q k ih => exact fun h K K' hK hk n hn => ih n h K K' hK (hk n hn)
  | sys c k ih => exact fun h K K' hK hk => hk.elim
  | program k ih => exact fun h K K' hK hk => ih P h K K' hK hk
  | mark m k ih => exact fun h K K' hK hk => ⟨hk.1, ih h K K' hK hk.2⟩
  | halt x => intro h K K' hK hk; cases x <;> first | exact hk.elim | exact hE _ _ hk

theorem semS_gh {P : Program} {α : Type} {E : Value → Know → Prop} (s : Sem α) : ∀ (h : Know) (K : α → Know → Prop), semS P E s h K → semS P E s h (fun x h' => K x h' ∧ h'.gh = h.gh) := by
  induction s with
  | pure a => exact fun h K k => ⟨k, rfl⟩
  | load m a k ih => exact fun h K ⟨e1, e2, mu, c, ty, fr, v, hb, hc, hk⟩ => ⟨e1, e2, mu, c, ty, fr, v, hb, hc, ih v h K hk⟩
  | store m a v k ih => exact fun h K ⟨e1, e2, e3, e4, c, ty, fr, hb, hc, hf, hk⟩ => ⟨e1, e2, e3, e4, c, ty, fr, hb, hc, hf, ih _ K hk⟩
  | new o k ih => exact fun h K hk r hr => ih r _ K (hk r hr)
  | shape r k ih => exact fun h K ⟨mu, c, ty, fr, hb, hk⟩ => ⟨mu, c, ty, fr, hb, ih _ h K hk⟩
  | freeze a n k ih => exact fun h K hk => hk.elim (fun ⟨e, hk⟩ => .inl ⟨e, ih h K hk⟩) (fun ⟨e, c, ty, fr, hb, hk⟩ => .inr ⟨e, c, ty, fr, hb, ih _ K hk⟩)
  | frozen a k ih => exact fun h K ⟨mu, c, ty, fr, hb, hk⟩ => ⟨mu, c, ty, fr, hb, ih _ h K hk⟩
  | getObj r k ih => exact fun h K ⟨mu, o, hb, hn, hc, hk⟩ => ⟨mu, o, hb, hn, hc, ih o h K hk⟩
  | setObj r o k ih => exact fun h K ⟨o', hb, hn, hc, hk⟩ => ⟨o', hb, hn, hc, ih _ K hk⟩
  | choose q k ih => exact fun h K hk n hn => ih n h K (hk n hn)
  | sys c k ih => exact fun h K hk => hk.elim
  | program k ih => exact fun h K hk => ih P h K hk
  | mark m k ih => exact fun h K hk => ⟨hk.1, ih h K hk.2⟩
  | halt x => intro h K hk; cases x <;> first | exact hk.elim | exact hk

theorem semS_bind {P : Program} {α β : Type} {E : Value → Know → Prop} (s : Sem α) (f : α → Sem β) : ∀ (h : Know) (K : β → Know → Prop), semS P E (s >>= f) h K = semS P E s h fun x h' => semS P E (f x) h' K := by
  show ∀ (h : Know) (K : β → Know → Prop), semS P E (s.bind f) h K = _
  induction s with
  | pure a => exact fun h K => rfl
  | load m a k ih => intro h K; simp only [Sem.bind, semS, ih]
  | store m a v k ih => intro h K; simp only [Sem.bind, semS, ih]
  | new o k ih => intro h K; simp only [Sem.bind, semS, ih]
  | shape r k ih => intro h K; simp only [Sem.bind, semS, ih]
  | freeze a n k ih => intro h K; simp only [Sem.bind, semS, ih]
  | frozen a k ih => intro h K; simp only [Sem.bind, semS, ih]
  | getObj r k ih => intro h K; simp only [Sem.bind, semS, ih]
  | setObj r o k ih => intro h K; simp only [Sem.bind, semS, ih]
  | choose q k ih => intro h K; simp only [Sem.bind, semS, ih]
  | sys c k ih => intro h K; rfl
  | program k ih => intro h K; simp only [Sem.bind, semS, ih]
  | mark m k ih => intro h K; simp only [Sem.bind, semS, ih]
  | halt x => intro h K; cases x <;> rfl

end KL
end Go.Proofs.YtlmecmapkijcnaaDoor

set_option linter.unusedVariables false
namespace Go.Proofs.YtlmecmapkijcnaaDoor
namespace KL
open Go.Conc (G listed)

/-- What a goroutine may do: steps over what it owns ('priv'), and acts on what is shared. -/
structure Acts where
  priv : Gh → Prop
  act : Program → Bool → Frame → List Frame → Know → (Frame → List Frame → Know → Prop) → Prop
class Priv (A : Acts) : Prop where
  ok : ∀ g, A.priv g
/-- How a walk may go on, by the worlds that it meets, and by what its acts lead to. -/
inductive Tr where
  | stop
  | step (k : World → Tr)
  | move (t : Tr)
  | act (k : Frame → List Frame → Know → Tr)

/-- The goroutine is on its way to a stop, in whatever world holds what it knows. -/
def GoesT (A : Acts) (P : Program) (main : Bool) (Stop : Frame → List Frame → Know → Prop) : Tr → Frame → List Frame → Know → Prop
  | .stop, fr, cs, h => ∃ h', h'.le h ∧ Stop fr cs h'
  | .step k, fr, cs, h => A.priv h.gh ∧ ∀ w, h.holds w → ∃ fr' cs' w' es h', stepG P main (G fr cs) w = .go (G fr' cs') w' es ∧ KStep h w h' w' es ∧ GoesT A P main Stop (k w) fr' cs' h'
  | .move t, fr, cs, h => ∃ fr' cs', (∀ w, stepG P main (G fr cs) w = .go (G fr' cs') w) ∧ GoesT A P main Stop t fr' cs' h
  | .act k, fr, cs, h => ∃ h₀ Out, h₀.le h ∧ A.act P main fr cs h₀ Out ∧ ∀ fr' cs' h', Out fr' cs' h' → GoesT A P main Stop (k fr' cs' h') fr' cs' h'

def GoesS (A : Acts) (P : Program) (main : Bool) (Stop : Frame → List Frame → Know → Prop) (fr : Frame) (cs : List Frame) (h : Know) : Prop := ∃ t, GoesT A P main Stop t fr cs h

section
variable {P : Program} {A : Acts} {main : Bool} {Stop : Frame → List Frame → Know → Prop}

theorem GoesS.stop {fr : Frame} {cs : List Frame} {h : Know} (hs : Stop fr cs h) : GoesS A P main Stop fr cs h := ⟨.stop, h, Know.le_refl h, hs⟩

theorem GoesS.stepP {fr : Frame} {cs : List Frame} {h : Know} (hp : A.priv h.gh)
    (hs : ∀ w, h.holds w → ∃ fr' cs' w' es h', stepG P main (G fr cs) w = .go (G fr' cs') w' es ∧ KStep h w h' w' es ∧ GoesS A P main Stop fr' cs' h') : GoesS A P main Stop fr cs h := by
  classical
  have hs' : ∀ w, ∃ t, h.holds w → ∃ fr' cs' w' es h', stepG P main (G fr cs) w = .go (G fr' cs') w' es ∧ KStep h w h' w' es ∧ GoesT A P main Stop t fr' cs' h' := by
    intro w
    by_cases hw : h.holds w
    · obtain ⟨fr', cs', w', es, h', e1, e2, t, e3⟩ := hs w hw
      exact ⟨t, fun _ => ⟨fr', cs', w', es, h', e1, e2, e3⟩⟩
    · exact ⟨.stop, fun x => absurd x hw⟩
  exact ⟨.step fun w => (hs' w).choose, hp, fun w hw => (hs' w).choose_spec hw⟩
theorem GoesS.step [Priv A] {fr : Frame} {cs : List Frame} {h : Know}
    (hs : ∀ w, h.holds w → ∃ fr' cs' w' es h', stepG P main (G fr cs) w = .go (G fr' cs') w' es ∧ KStep h w h' w' es ∧ GoesS A P main Stop fr' cs' h') : GoesS A P main Stop fr cs h := GoesS.stepP (Priv.ok _) hs

theorem GoesS.act {fr : Frame} {cs : List Frame} {h : Know} {Out : Frame → List Frame → Know → Prop} (ha : A.act P main fr cs h Out) (hs : ∀ fr' cs' h', Out fr' cs' h' → GoesS A P main Stop fr' cs' h') : GoesS A P main Stop fr cs h := by
  classical
  have hs' : ∀ fr' cs' h', ∃ t, Out fr' cs' h' → GoesT A P main Stop t fr' cs' h' := by
    intro fr' cs' h'
    by_cases ho : Out fr' cs' h'
    · obtain ⟨t, g⟩ := hs fr' cs' h' ho; exact ⟨t, fun _ => g⟩
    · exact ⟨.stop, fun x => absurd x ho⟩
  exact ⟨.act fun fr' cs' h' => (hs' fr' cs' h').choose, h, Out, Know.le_refl h, ha, fun fr' cs' h' ho => (hs' fr' cs' h').choose_spec ho⟩

theorem KStep.weaken {h h₂ h' : Know} {w w' : World} {es : Array Event} (hl : h.le h₂) (k : KStep h w h' w' es) : KStep h₂ w h' w' es := by
  refine ⟨k.holds, k.size, fun b hb hn => k.keep b hb fun ⟨o, e⟩ => hn ⟨o, hl b _ e⟩, fun b ho hb => ?_, fun b o e => hl b _ (k.share b o e), fun e he => ?_, k.os, k.output, k.tape, k.gh.trans hl.gh, k.low⟩
  · obtain ⟨o, e⟩ := k.own b ho hb; exact ⟨o, hl b _ e⟩
  · have h2 := k.evs e he
    unfold EvCov at h2 ⊢
    cases hloc : e.loc with
    | cell a => rw [hloc] at h2; exact ⟨h2.1, h2.2.imp (fun ⟨m, o, x, y⟩ => ⟨m, o, hl _ _ x, y⟩) id⟩
    | obj r => rw [hloc] at h2; exact ⟨h2.1, h2.2.imp (fun ⟨m, o, x, y⟩ => ⟨m, o, hl _ _ x, y⟩) id⟩
    | output => rw [hloc] at h2; exact h2.elim
    | goroutines => rw [hloc] at h2; exact h2.elim
    | mark m => rw [hloc] at h2; exact h2

/-- Less may be known than is. -/
theorem GoesT.weaken : ∀ {t : Tr} {fr : Frame} {cs : List Frame} {h h₂ : Know}, h.le h₂ → GoesT A P main Stop t fr cs h → GoesT A P main Stop t fr cs h₂ := by
  intro t
  induction t with
  | stop => intro fr cs h h₂ hl g; obtain ⟨h', hle, hs⟩ := g; exact ⟨h', Know.le_trans hle hl, hs⟩
  | step k ih => intro fr cs h h₂ hl g; exact ⟨hl.gh ▸ g.1, fun w hw => let ⟨fr', cs', w', es, h', e1, e2, e3⟩ := g.2 w (Know.holds_le hl hw); ⟨fr', cs', w', es, h', e1, e2.weaken hl, e3⟩⟩
  | move t ih => intro fr cs h h₂ hl g; obtain ⟨fr', cs', e, g⟩ := g; exact ⟨fr', cs', e, ih hl g⟩
  | act k ih => intro fr cs h h₂ hl g; obtain ⟨h₀, Out, e, ha, g⟩ := g; exact ⟨h₀, Out, Know.le_trans e hl, ha, g⟩
theorem GoesS.weaken {fr : Frame} {cs : List Frame} {h h₂ : Know} (hl : h.le h₂) (g : GoesS A P main Stop fr cs h) : GoesS A P main Stop fr cs h₂ := let ⟨t, g⟩ := g; ⟨t, g.weaken hl⟩

/-- A step that looks at no memory. -/
theorem GoesS.move {fr fr' : Frame} {cs cs' : List Frame} {h : Know} (hs : ∀ w, stepG P main (G fr cs) w = .go (G fr' cs') w) (g : GoesS A P main Stop fr' cs' h) : GoesS A P main Stop fr cs h :=
  let ⟨t, g⟩ := g; ⟨.move t, fr', cs', hs, g⟩

/-- To a stop, and on from every such stop. -/
theorem GoesT.on {Stop' : Frame → List Frame → Know → Prop} (k : ∀ fr cs h, Stop fr cs h → GoesS A P main Stop' fr cs h) : ∀ {t : Tr} {fr : Frame} {cs : List Frame} {h : Know}, GoesT A P main Stop t fr cs h →
    GoesS A P main Stop' fr cs h := by
  intro t
  induction t with
  | stop => exact fun ⟨h', hl, hs⟩ => (k _ _ _ hs).weaken hl
  | step f ih =>
    intro fr cs h g
    exact GoesS.stepP g.1 fun w hw => let ⟨fr', cs', w', es, h', e1, e2, e3⟩ := g.2 w hw; ⟨fr', cs', w', es, h', e1, e2, ih w e3⟩
  | move t ih => exact fun ⟨fr', cs', e, g⟩ => GoesS.move e (ih g)
  | act f ih => exact fun ⟨h₀, Out, e, ha, g⟩ => (GoesS.act ha fun fr' cs' h' ho => ih fr' cs' h' (g fr' cs' h' ho)).weaken e
end

/-- Where the walk goes on behind a piece of code that is left by this way out. -/
def After (A : Acts) (P : Program) (main : Bool) (Stop : Frame → List Frame → Know → Prop) (b : Frame) (k : List Item) (cs : List Frame) : Exit → Act → Know → Prop
  | .normal, a, h => GoesS A P main Stop (b.at a k) cs h
  | .exit id, a, h => ∃ k', exitTo id k = some k' ∧ GoesS A P main Stop (b.at a k') cs h
  | .ret, a, h => ∀ todo, GoesS A P main Stop { b.at a todo with mode := .returning } cs h
  | .panic ch, a, h => ∀ todo, GoesS A P main Stop { b.at a todo with mode := .panicking ch } cs h
  | _, _, _ => False

theorem After.push {P : Program} {A : Acts} {main : Bool} {Stop : Frame → List Frame → Know → Prop} {b : Frame} {x : Item} {k : List Item} {cs : List Frame} {e : Exit} {a : Act} {h : Know} (hx : x.plain = true) (he : e ≠ .normal)
    (ha : After A P main Stop b k cs e a h) : After A P main Stop b (x :: k) cs e a h := by
  cases e with
  | normal => exact absurd rfl he
  | exit id => obtain ⟨k', hk, hg⟩ := ha; exact ⟨k', by cases x <;> simp_all [exitTo, Item.plain], hg⟩
  | ret => exact ha
  | goto l => exact ha
  | panic ch => exact ha
  | outgrown => exact ha

theorem After.weaken {P : Program} {A : Acts} {main : Bool} {Stop : Frame → List Frame → Know → Prop} {b : Frame} {k : List Item} {cs : List Frame} {e : Exit} {a : Act} {h h' : Know} (hl : h.le h') (ha : After A P main Stop b k cs e a h) : After A P main Stop b k cs e a h' := by
  cases e with
  | normal => exact GoesS.weaken hl ha
  | exit id => obtain ⟨k', hk, hg⟩ := ha; exact ⟨k', hk, hg.weaken hl⟩
  | ret => exact fun todo => (ha todo).weaken hl
  | goto l => exact ha
  | panic ch => exact fun todo => (ha todo).weaken hl
  | outgrown => exact ha

/-! ### What is known of the frame -/

abbrev Env := List (Nat × Value)
def Env.look : Env → Nat → Option Value
  | [], _ => none
  | (s, v) :: E, t => bif Nat.beq s t then some v else Env.look E t
def Env.put (E : Env) : Option Tmp → Value → Env
  | some d, v => (d, v) :: E
  | none, _ => E
def Env.ev (E : Env) : Operand → Value
  | .tmp t => (E.look t).getD undef
  | .const v => v
  | .global g => .pointer (some ⟨g, 0, none⟩)
  | .func f => .func (.func f) #[] #[]
def Env.has (E : Env) : Operand → Bool
  | .tmp t => (E.look t).isSome
  | _ => true

structure Fit (a : Act) (n : Nat) (ds : List Deferred) (E : Env) : Prop where
  size : a.tmps.size = n
  look : ∀ t v, E.look t = some v → a.tmps[t]? = some v
  defers : a.defers = ds

theorem Env.look_cons (s : Nat) (v : Value) (E : Env) (t : Nat) : Env.look ((s, v) :: E) t = if s = t then some v else E.look t := by
  show cond (Nat.beq s t) _ _ = _
  by_cases h : s = t
  · subst h; simp
  · rw [if_neg h]; have : Nat.beq s t = false := by
      cases e : Nat.beq s t with
      | false => rfl
      | true => exact absurd (Nat.eq_of_beq_eq_true e) h
    rw [this]; rfl

theorem Fit.put {a : Act} {n : Nat} {ds : List Deferred} {E : Env} (f : Fit a n ds E) (d : Option Tmp) (v : Value) (hd : ∀ t, d = some t → t < n) : Fit (a.put d v) n ds (E.put d v) := by
  cases d with
  | none => exact f
  | some d =>
    have hlt := hd d rfl
    refine ⟨by simp [Act.put, f.size], fun t u e => ?_, f.defers⟩
    rw [Env.put, Env.look_cons] at e
    show (a.tmps.setIfInBounds d v)[t]? = some u
    by_cases h : d = t
    · subst h; rw [if_pos rfl] at e; cases e; rw [Array.getElem?_setIfInBounds_self_of_lt (by rw [f.size]; exact hlt)]
    · rw [if_neg h] at e; rw [Array.getElem?_setIfInBounds_ne h]; exact f.look t u e

theorem Fit.eval {a : Act} {n : Nat} {ds : List Deferred} {E : Env} (f : Fit a n ds E) {x : Operand} (hx : E.has x = true) : a.eval x = E.ev x := by
  cases x with
  | tmp t =>
    simp only [Env.has, Option.isSome_iff_exists] at hx
    obtain ⟨v, hv⟩ := hx
    simp [Act.eval, Env.ev, hv, Array.getD_eq_getD_getElem?, f.look t v hv]
  | const v => rfl
  | global g => rfl
  | func g => rfl

/-- Less may be known of the frame than is. -/
def Env.le (E E' : Env) : Prop := ∀ t v, E.look t = some v → E'.look t = some v
theorem Fit.weaken {a : Act} {n : Nat} {ds : List Deferred} {E E' : Env} (f : Fit a n ds E') (hl : E.le E') : Fit a n ds E := ⟨f.size, fun t v e => f.look t v (hl t v e), f.defers⟩

/-- What is asked of each way out of a piece of code. -/
abbrev Post := Exit → List Deferred → Env → Know → Prop

/-- The judgement of a piece of code: 'n' slots. -/
def wpE (A : Acts) (P : Program) (main : Bool) (n : Nat) (c : Code) (Q : Post) (ds : List Deferred) (E : Env) (h : Know) : Prop :=
  ∀ (a : Act) (b : Frame) (k : List Item) (cs : List Frame) (Stop : Frame → List Frame → Know → Prop), Fit a n ds E → b.kind ≠ .early →
    (∀ e ds' E' h' a', Q e ds' E' h' → Fit a' n ds' E' → After A P main Stop b k cs e a' h') → GoesS A P main Stop (b.at a (.code c :: k)) cs h

/-- .. of the operations of a region that are still to come, in the text's order. -/
def OpsE (A : Acts) (P : Program) (main : Bool) (n : Nat) (ops : Array Oper) (l : List Oper) (Q : Post) (ds : List Deferred) (E : Env) (h : Know) : Prop :=
  ∀ (a : Act) (b : Frame) (k : List Item) (cs : List Frame) (Stop : Frame → List Frame → Know → Prop) (i : Nat), Fit a n ds E → b.kind ≠ .early → (∀ j, l[j]? = ops[i + j]?) →
    (∀ e ds' E' h' a', Q e ds' E' h' → Fit a' n ds' E' → After A P main Stop b k cs e a' h') → GoesS A P main Stop (b.at a (.inRegion ops (List.range' i l.length) :: k)) cs h

def thenQ (next : List Deferred → Env → Know → Prop) (Q : Post) : Post
  | .normal, ds, E, h => next ds E h
  | e, ds, E, h => Q e ds E h
def blockQ (id : Nat) (Q : Post) : Post
  | .exit id', ds, E, h => if id' = id then Q .normal ds E h else Q (.exit id') ds E h
  | e, ds, E, h => Q e ds E h

section rules
variable {P : Program} {A : Acts} {main : Bool} {n : Nat} {Q : Post} {ds : List Deferred} {E : Env} {h : Know}

theorem wpE_mono {c : Code} {Q' : Post} (hw : wpE A P main n c Q ds E h) (hq : ∀ e ds E h, Q e ds E h → Q' e ds E h) : wpE A P main n c Q' ds E h :=
  fun a b k cs Stop hf hk hc => hw a b k cs Stop hf hk fun e ds' E' h' a' q => hc e ds' E' h' a' (hq _ _ _ _ q)
theorem wpE_weaken {c : Code} {E' : Env} {h' : Know} (hw : wpE A P main n c Q ds E h) (hE : E.le E') (hh : h.le h') : wpE A P main n c Q ds E' h' :=
  fun a b k cs Stop hf hk hc => (hw a b k cs Stop (hf.weaken hE) hk hc).weaken hh
theorem wpE_skip (hq : Q .normal ds E h) : wpE A P main n .skip Q ds E h := fun a b k cs Stop hf hk hc => GoesS.move (fun w => Conc.stepG_skip) (hc _ _ _ _ _ hq hf)
theorem wpE_ret (hq : Q .ret ds E h) : wpE A P main n .ret Q ds E h := fun a b k cs Stop hf hk hc => GoesS.move (fun w => Conc.stepG_ret') (hc _ _ _ _ _ hq hf _)
theorem wpE_exit {id : Nat} (hq : Q (.exit id) ds E h) : wpE A P main n (.exit id) Q ds E h := fun a b k cs Stop hf hk hc => by
  obtain ⟨k', e, g⟩ := hc _ _ _ _ _ hq hf
  exact GoesS.move (fun w => Conc.stepG_exit e) g
theorem wpE_seq {x y : Code} (hx : wpE A P main n x (thenQ (wpE A P main n y Q) Q) ds E h) : wpE A P main n (.seq x y) Q ds E h := by
  intro a b k cs Stop hf hk hc
  refine GoesS.move (fun w => Conc.stepG_seq) (hx a b (.code y :: k) cs Stop hf hk fun e ds' E' h' a' q hf' => ?_)
  cases e with
  | normal => exact q a' b k cs Stop hf' hk hc
  | exit id => exact (hc _ _ _ _ _ q hf').push rfl (by simp)
  | ret => exact (hc _ _ _ _ _ q hf').push (x := .code y) rfl (by simp)
  | goto l => exact hc _ _ _ _ _ q hf'
  | panic ch => exact (hc _ _ _ _ _ q hf').push (x := .code y) rfl (by simp)
  | outgrown => exact hc _ _ _ _ _ q hf'
theorem wpE_cond {c : Operand} {x y : Code} {t : Bool} (hh : E.has c = true) (hc : E.ev c = .bool t) (hx : wpE A P main n (if t then x else y) Q ds E h) : wpE A P main n (.cond c x y) Q ds E h :=
  fun a b k cs Stop hf hk hq => GoesS.move (fun w => Conc.stepG_cond (by rw [hf.eval hh, hc])) (hx a b k cs Stop hf hk hq)
theorem wpE_block {id : Nat} {c : Code} (hx : wpE A P main n c (blockQ id Q) ds E h) : wpE A P main n (.block id c) Q ds E h := by
  intro a b k cs Stop hf hk hc
  refine GoesS.move (fun w => Conc.stepG_block) (hx a b (.inBlock id :: k) cs Stop hf hk fun e ds' E' h' a' q hf' => ?_)
  cases e with
  | normal => exact GoesS.move (fun w => Conc.stepG_inBlock) (hc _ _ _ _ _ q hf')
  | exit id' =>
    by_cases hid : id' = id
    · simp only [blockQ, hid, if_true] at q
      exact ⟨k, by simp [exitTo, hid], hc _ _ _ _ _ q hf'⟩
    · simp only [blockQ, hid, if_false] at q
      obtain ⟨k', hk', hg⟩ := hc _ _ _ _ _ q hf'
      have : (id == id') = false := by simp; exact fun h => hid h.symm
      exact ⟨k', by simp [exitTo, this, hk'], hg⟩
  | ret => exact fun todo => hc _ _ _ _ _ q hf' todo
  | goto l => exact hc _ _ _ _ _ q hf'
  | panic ch => exact fun todo => hc _ _ _ _ _ q hf' todo
  | outgrown => exact hc _ _ _ _ _ q hf'
/-- A loop: 'I m': what holds at a round's head, m its measure. -/
theorem wpE_loop {c : Code} (I : Nat → List Deferred → Env → Know → Prop) {m : Nat} (h₀ : I m ds E h)
    (round : ∀ m ds E h, I m ds E h → wpE A P main n c (thenQ (fun ds' E' h' => ∃ m', m' < m ∧ I m' ds' E' h') Q) ds E h) : wpE A P main n (.loop c) Q ds E h := by
  intro a b k cs Stop hf hk hc
  have key : ∀ m ds E h a, Fit a n ds E → I m ds E h → GoesS A P main Stop (b.at a (.code c :: .inLoop c :: k)) cs h := by
    intro m
    induction m using Nat.strongRecOn with
    | _ m ih =>
      intro ds E h a hf hI
      refine round m ds E h hI a b (.inLoop c :: k) cs Stop hf hk fun e ds' E' h' a' q hf' => ?_
      cases e with
      | normal => obtain ⟨m', hm, hI'⟩ := q; exact GoesS.move (fun w => Conc.stepG_inLoop) (ih m' hm _ _ _ _ hf' hI')
      | exit id => exact (hc _ _ _ _ _ q hf').push rfl (by simp)
      | ret => exact (hc _ _ _ _ _ q hf').push (x := .inLoop c) rfl (by simp)
      | goto l => exact hc _ _ _ _ _ q hf'
      | panic ch => exact (hc _ _ _ _ _ q hf').push (x := .inLoop c) rfl (by simp)
      | outgrown => exact hc _ _ _ _ _ q hf'
  exact GoesS.move (fun w => Conc.stepG_loop) (key m ds E h a hf h₀)

theorem wpE_region {id : Nat} {l : List Oper} (hx : OpsE A P main n l.toArray l Q ds E h) : wpE A P main n (.region id l.toArray false) Q ds E h := by
  intro a b k cs Stop hf hk hc
  refine GoesS.move (fun w => Conc.stepG_region) ?_
  have := hx a b k cs Stop 0 hf hk (fun j => by simp) hc
  rw [List.range_eq_range']
  simpa using this
theorem opsE_weaken {ops : Array Oper} {l : List Oper} {E' : Env} {h' : Know} (hw : OpsE A P main n ops l Q ds E h) (hE : E.le E') (hh : h.le h') : OpsE A P main n ops l Q ds E' h' :=
  fun a b k cs Stop i hf hk hl hc => (hw a b k cs Stop i (hf.weaken hE) hk hl hc).weaken hh
theorem opsE_nil {ops : Array Oper} (hq : Q .normal ds E h) : OpsE A P main n ops [] Q ds E h := fun a b k cs Stop i hf hk hl hc =>
  GoesS.move (fun w => Conc.stepG_region_end) (hc _ _ _ _ _ hq hf)

/-! ### Calls -/

/-- A contract: from the entry to the return, or to a panic that is handed on. -/
def CallS (A : Acts) (P : Program) (main : Bool) (f : FuncId) (args : Array Value) (h : Know) (R : Ending → Know → Prop) : Prop :=
  ∀ (c : Frame) (cs : List Frame) (Stop : Frame → List Frame → Know → Prop),
    (∀ v h', R (.returned v) h' → GoesS A P main Stop (c.finish v) cs h') → (∀ ch h', R (.panicked ch) h' → GoesS A P main Stop (c.raise ch) cs h') →
    GoesS A P main Stop (Frame.enter P f args .normal) (c :: cs) h
theorem CallS.mono {f : FuncId} {args : Array Value} {R R' : Ending → Know → Prop} (hc : CallS A P main f args h R) (hr : ∀ e h, R e h → R' e h) : CallS A P main f args h R' :=
  fun c cs Stop h1 h2 => hc c cs Stop (fun v h' r => h1 v h' (hr _ _ r)) (fun ch h' r => h2 ch h' (hr _ _ r))
theorem CallS.weaken {f : FuncId} {args : Array Value} {R : Ending → Know → Prop} {h' : Know} (hc : CallS A P main f args h R) (hl : h.le h') : CallS A P main f args h' R :=
  fun c cs Stop h1 h2 => (hc c cs Stop h1 h2).weaken hl

/-- What is asked of a call that ends so. -/
def callR (K : Value → Know → Prop) (Pn : List PanicEntry → Know → Prop) : Ending → Know → Prop
  | .returned v, h => K v h
  | .panicked ch, h => Pn ch h
  | .outgrown, _ => False
/-- What is asked of an operation that yields this. -/
def nextE (A : Acts) (P : Program) (main : Bool) (K : Value → Know → Prop) (Pn : List PanicEntry → Know → Prop) : Next → Know → Prop
  | .value v, h => K v h
  | .skip, h => K undef h
  | .enter f args, h => CallS A P main f args h (callR K Pn)
  | _, _ => False

/-- One operation, of whatever kind. -/
theorem goes_op [Priv A] {a : Act} {b : Frame} {k : List Item} {cs : List Frame} {Stop : Frame → List Frame → Know → Prop} {ops : Array Oper} {i : Nat} {rest : List Nat} {o : Oper}
    (ho : ops[i]? = some o) (hw : Region.wanted o (yielded ops a.tmps) = true) (hk : b.kind ≠ .early)
    (hs : semS P (fun v h' => ∀ todo, GoesS A P main Stop { b.at a todo with mode := .panicking [{ v, recovered := false }] } cs h') (execOp a.eval o) h
      (nextE A P main (fun v h' => GoesS A P main Stop (b.at (a.put o.dst v) (.inRegion ops rest :: k)) cs h') (fun ch h' => ∀ todo, GoesS A P main Stop { b.at a todo with mode := .panicking ch } cs h'))) :
    GoesS A P main Stop (b.at a (.inRegion ops (i :: rest) :: k)) cs h := by
  refine GoesS.step fun w hw' => ?_
  obtain ⟨w', es', h', e1, e2, e3⟩ := semS_sound _ h w #[] _ hs hw'
  have hk' : (b.kind == CallKind.early) = false := by simpa using hk
  have hfin : ∀ v, (b.at a (.inRegion ops (i :: rest) :: k)).finish v = b.at (a.put o.dst v) (.inRegion ops rest :: k) := fun v => by rw [Frame.finish_at, ho]; rfl
  simp only [Sem.runT_eq, Array.empty_append] at e1 e3
  have hsub : KStep h w h' w' (listed P b.fn a o w) := e2.sub fun e he => by rw [← e1]; exact Conc.mem_seen he
  rcases e3 with ⟨x, hx, hk2⟩ | ⟨v, hx, hk2⟩
  · cases x with
    | value v => exact ⟨_, cs, w', _, h', Conc.stepG_value ho hw hk hx, hsub, hk2⟩
    | skip => exact ⟨_, cs, w', _, h', Conc.stepG_none ho hw hk hx, hsub, hk2⟩
    | enter f args =>
      refine ⟨Frame.enter P f args .normal, b.at a (.inRegion ops (i :: rest) :: k) :: cs, w', _, h', Conc.stepG_enter ho hw hk hx, hsub, ?_⟩
      refine hk2 _ _ _ (fun v h₂ r => ?_) (fun ch h₂ r => ?_)
      · rw [hfin]; exact r
      · rw [Frame.raise_at]; exact r _
    | _ => exact hk2.elim
  · refine ⟨_, cs, w', _, h', ?_, hsub, hk2 (.inRegion ops (i :: rest) :: k)⟩
    rw [Conc.stepG_oper ho hw]
    simp [stepG.apply, hx, G, Frame.at, hk', GStep.after, listed, Frame.raise]

theorem evalOk {a : Act} {o : Oper} (hf : Fit a n ds E) (hs : ∀ cs b, o.op ≠ .select cs b) (hh : o.op.operands.all E.has = true) : execOp a.eval o = execOp E.ev o :=
  execOp_congr o hs fun x hx => hf.eval (by rw [Array.all_eq_true'] at hh; exact hh x hx)

/-- Is the operation none that selects? -/
def notSelect : Op → Bool
  | .select .. => false
  | _ => true
theorem notSelect_spec {o : Oper} (hs : notSelect o.op = true) : ∀ cs b, o.op ≠ .select cs b := by
  intro cs b e; rw [e] at hs; cases hs

/-- One operation in the text's order; 'hd': it is wanted. -/
theorem opsE_cons [Priv A] {ops : Array Oper} {rest : List Oper} {o : Oper} (hg : o.guard = none) (hdst : ∀ t, o.dst = some t → t < n) (hs : notSelect o.op = true) (hh : o.op.operands.all E.has = true)
    (hx : semS P (fun v h' => Q (.panic [{ v, recovered := false }]) ds E h') (execOp E.ev o) h
      (nextE A P main (fun v h' => OpsE A P main n ops rest Q ds (E.put o.dst v) h') (fun ch h' => Q (.panic ch) ds E h'))) : OpsE A P main n ops (o :: rest) Q ds E h := by
  intro a b k cs Stop i hf hk hl hc
  have ho : ops[i]? = some o := by simpa using (hl 0).symm
  rw [List.length_cons, List.range'_succ]
  refine goes_op ho (by simp [Region.wanted, hg]) hk ?_
  rw [evalOk hf (notSelect_spec hs) hh]
  have hl' : ∀ j, rest[j]? = ops[i + 1 + j]? := fun j => by have := hl (j + 1); simpa [Nat.add_assoc, Nat.add_comm 1 j] using this
  refine semS_mono (fun v h' q todo => (hc _ _ _ _ _ q hf : ∀ todo, _) todo) _ _ _ _ (fun x h' q => ?_) hx
  cases x with
  | value v => exact q _ b k cs Stop (i + 1) (hf.put _ _ hdst) hk hl' hc
  | skip => exact q _ b k cs Stop (i + 1) (hf.put _ _ hdst) hk hl' hc
  | enter f args =>
    refine CallS.mono (show CallS A P main f args h' (callR _ _) from q) fun e h₂ r => ?_
    cases e with
    | returned v => exact r _ b k cs Stop (i + 1) (hf.put _ _ hdst) hk hl' hc
    | panicked ch => exact fun todo => (hc _ _ _ _ _ r hf : ∀ todo, _) todo
    | outgrown => exact r
  | _ => exact q.elim

end rules
end KL
end Go.Proofs.YtlmecmapkijcnaaDoor

set_option linter.unusedVariables false
namespace Go.Proofs.YtlmecmapkijcnaaDoor
namespace KL
open Go.Conc (G listed)

/-- The first slots hold the arguments. -/
def argsE : Nat → List Value → Env
  | _, [] => []
  | i, v :: l => (i, v) :: argsE (i + 1) l
theorem look_argsE : ∀ (l : List Value) (i t : Nat) (v : Value), (argsE i l).look t = some v → i ≤ t ∧ l[t - i]? = some v := by
  intro l
  induction l with
  | nil => intro i t v h; cases h
  | cons a l ih =>
    intro i t v h
    rw [argsE, Env.look_cons] at h
    by_cases e : i = t
    · subst e; rw [if_pos rfl] at h; cases h; simp
    · rw [if_neg e] at h
      obtain ⟨h1, h2⟩ := ih _ _ _ h
      have e2 : t - i = (t - (i + 1)) + 1 := by omega
      exact ⟨by omega, by rw [e2, List.getElem?_cons_succ]; exact h2⟩

/-- What the body of a callee must achieve. -/
def bodyQ (P : Program) (fn : Func) (R : Ending → Know → Prop) : Post := fun e ds E h =>
  match e with
  | .normal | .ret => ds = [] ∧ ∀ a, Fit a fn.ntmps ds E → semS P (fun _ _ => False) (results fn a.tmps) h (fun v h' => R (.returned v) h')
  | .panic ch => ds = [] ∧ R (.panicked ch) h
  | _ => False

section
variable {P : Program} {A : Acts} [Priv A] {main : Bool} {h : Know}

theorem bodyQ_none {fn : Func} {R : Ending → Know → Prop} {E : Env} (hr : fn.results = #[]) (hR : R (.returned (.tuple #[])) h) : bodyQ P fn R .ret [] E h :=
  ⟨rfl, fun a _ => by
    have e : results fn a.tmps = pure (.tuple #[]) := by simp [results, hr]
    rw [e]; exact hR⟩
theorem bodyQ_end {fn : Func} {R : Ending → Know → Prop} {E : Env} (hr : fn.results = #[]) (hR : R (.returned (.tuple #[])) h) : bodyQ P fn R .normal [] E h :=
  ⟨rfl, fun a _ => by
    have e : results fn a.tmps = pure (.tuple #[]) := by simp [results, hr]
    rw [e]; exact hR⟩
theorem bodyQ_one {fn : Func} {R : Ending → Know → Prop} {E : Env} {t : Tmp} {v : Value} (hr : fn.results = #[.tmp t]) (hl : E.look t = some v) (hR : R (.returned v) h) : bodyQ P fn R .ret [] E h :=
  ⟨rfl, fun a hf => by
    have e : results fn a.tmps = pure v := by simp [results, hr, hf.look t v hl]
    rw [e]; exact hR⟩
theorem bodyQ_two {fn : Func} {R : Ending → Know → Prop} {E : Env} {t u : Tmp} {v x : Value} (hr : fn.results = #[.tmp t, .tmp u]) (hl : E.look t = some v) (hu : E.look u = some x) (hR : R (.returned (.tuple #[v, x])) h) : bodyQ P fn R .ret [] E h :=
  ⟨rfl, fun a hf => by
    have e : results fn a.tmps = pure (.tuple #[v, x]) := by simp [results, hr, hf.look t v hl, hf.look u x hu]
    rw [e]; exact hR⟩

/-- The results are read; the frame has no deferred call left. -/
theorem stepG_leaveS {b : Frame} {a : Act} {cs : List Frame} {w w' : World} {fn : Func} {todo : List Item} {c : Frame} {v : Value} (hn : b.kind = .normal) (hd : a.defers = []) (hf : P.funcs[b.fn]? = some fn)
    (hr : (results fn a.tmps).run P w = .ok v w') :
    stepG P main (G { b.at a todo with mode := .returning } (c :: cs)) w = .go (G (c.finish v) cs) w' (seen P b.fn ((results fn a.tmps).events P w #[])) := by
  simp [G, stepG, unwind, doReturn, Frame.at, hn, hd, hf, hr, GStep.after]
theorem stepG_raiseS {b : Frame} {a : Act} {cs : List Frame} {w : World} {fn : Func} {todo : List Item} {c : Frame} {ch : List PanicEntry} (hd : a.defers = []) (hf : P.funcs[b.fn]? = some fn) :
    stepG P main (G { b.at a todo with mode := .panicking ch } (c :: cs)) w = .go (G (c.raise ch) cs) w := by
  simp [G, stepG, unwind, Frame.at, hd, hf, Frame.catches]

theorem argsFit {args : List Value} {m : Nat} (hs : args.length ≤ m) : Fit { tmps := args.toArray ++ Array.replicate (m - args.toArray.size) undef, defers := [] } m [] (argsE 0 args) := by
  refine ⟨by simp; omega, fun t v e => ?_, rfl⟩
  obtain ⟨_, e2⟩ := look_argsE _ _ _ _ e
  rw [Nat.sub_zero] at e2
  have : t < args.length := by
    rcases Nat.lt_or_ge t args.length with g | g
    · exact g
    · rw [List.getElem?_eq_none g] at e2; cases e2
  show (args.toArray ++ _)[t]? = some v
  rw [Array.getElem?_append_left (by simpa using this)]
  simpa using e2

/-- A contract out of a walk. -/
theorem callS_of_wpE {f : FuncId} {fn : Func} {c : Code} {args : List Value} {R : Ending → Know → Prop} (hf : P.funcs[f]? = some fn) (hb : fn.body = some c) (hs : args.length ≤ fn.ntmps)
    (hw : wpE A P main fn.ntmps c (bodyQ P fn R) [] (argsE 0 args) h) : CallS A P main f args.toArray h R := by
  intro cal cs Stop h1 h2
  rw [Conc.enter_at _ hf hb]
  have leave : ∀ (a : Act) (E : Env) (h' : Know) (todo : List Item), Fit a fn.ntmps [] E → semS P (fun _ _ => False) (results fn a.tmps) h' (fun v h'' => R (.returned v) h'') →
      GoesS A P main Stop { (Conc.base f).at a todo with mode := .returning } (cal :: cs) h' := by
    intro a E h' todo hfit hsem
    refine GoesS.step fun w hw' => ?_
    obtain ⟨w', es', h'', e1, e2, e3⟩ := semS_sound _ h' w #[] _ hsem hw'
    simp only [Sem.runT_eq, Array.empty_append] at e1 e3
    rcases e3 with ⟨v, hx, hk⟩ | ⟨v, _, hk⟩
    · exact ⟨_, cs, w', _, h'', stepG_leaveS (b := Conc.base f) rfl hfit.defers hf hx, e2.sub fun e he => by rw [← e1]; exact Conc.mem_seen he, h1 v h'' hk⟩
    · exact hk.elim
  refine hw _ (Conc.base f) [] (cal :: cs) Stop (argsFit hs) (by simp [Conc.base]) fun e ds' E' h' a' q hfit => ?_
  cases e with
  | normal =>
    obtain ⟨rfl, q⟩ := q
    exact GoesS.move (fun w => Conc.stepG_end) (leave a' E' h' [] hfit (q a' hfit))
  | ret => obtain ⟨rfl, q⟩ := q; exact fun todo => leave a' E' h' todo hfit (q a' hfit)
  | panic ch =>
    obtain ⟨rfl, q⟩ := q
    exact fun todo => GoesS.move (fun w => stepG_raiseS (b := Conc.base f) hfit.defers hf) (h2 ch h' q)
  | exit id => exact q.elim
  | goto l => exact q.elim
  | outgrown => exact q.elim

/-! ### The lone machine -/

/-- Actions that only read leave the world as it is. -/
def Calm {α : Type} (s : Sem α) : Prop := ∀ (P : Program) (w w' : World) (x : α), s.run P w = .ok x w' → w' = w
theorem calm_pure {α : Type} (x : α) : Calm (pure x : Sem α) := fun P w w' y e => by cases e; rfl
theorem calm_bind {α β : Type} {s : Sem α} {f : α → Sem β} (hs : Calm s) (hf : ∀ x, Calm (f x)) : Calm (s >>= f) := by
  intro P w w' x e
  rw [Sem.run_bind] at e
  cases hr : s.run P w with
  | ok y w₁ =>
    rw [hr] at e
    have := hs P w w₁ y hr
    subst this
    exact hf y P _ w' x e
  | halt o w₁ => rw [hr] at e; cases e
theorem calm_load (a : Addr) (m : Mode) : Calm (load a m) := by
  intro P w w' x e
  simp only [load, Sem.run] at e
  split at e
  · cases e; rfl
  · split at e
    · cases e; rfl
    · cases e
theorem calm_halt {α : Type} (o : Halt) : Calm (.halt o : Sem α) := fun P w w' y e => by cases e
theorem calm_program : Calm program := fun P w w' y e => by cases e; rfl
theorem calm_typeInfo (t : TypeId) : Calm (typeInfo t) := calm_bind calm_program fun p => by split <;> first | exact calm_pure _ | exact calm_halt _
theorem calm_underlying (t : TypeId) : Calm (underlying t) := calm_bind calm_program fun p => by split <;> first | exact calm_pure _ | exact calm_halt _
theorem calm_loadCellsFrom (a : Addr) : ∀ (n i : Nat) (acc : Array Value), Calm (loadCellsFrom a i n acc) := by
  intro n
  induction n with
  | zero => exact fun i acc => calm_pure _
  | succ n ih => exact fun i acc => calm_bind (calm_load _ _) fun v => ih _ _
theorem calm_loadVar (t : TypeId) (a : Addr) : Calm (loadVar t a) := by
  refine calm_bind (calm_bind (calm_underlying _) fun d => by split <;> exact calm_pure _) fun x => ?_
  split
  · exact calm_bind (calm_bind (calm_typeInfo _) fun i => calm_pure _) fun n => calm_bind (calm_loadCellsFrom a n 0 #[]) fun cs => calm_pure _
  · exact calm_load _ _
theorem calm_mapM {α β : Type} {f : α → Sem β} (hf : ∀ x, Calm (f x)) (l : List α) : Calm (l.mapM f) := by
  induction l with
  | nil => exact calm_pure _
  | cons a l ih => rw [List.mapM_cons]; exact calm_bind (hf a) fun y => calm_bind ih fun ys => calm_pure _
theorem calm_results (fn : Func) (tmps : Array Value) : Calm (results fn tmps) := by
  unfold results
  rw [Array.mapM_eq_mapM_toList]
  refine calm_bind ?_ fun vs => calm_pure _
  have : ∀ x : ResultVar, Calm (match x with
      | .tmp t => (pure (tmps.getD t undef) : Sem Value)
      | .cell a t => do loadVar t (← asAddr (tmps.getD a undef))) := by
    intro x
    cases x with
    | tmp t => exact calm_pure _
    | cell a t =>
      refine calm_bind ?_ fun ad => calm_loadVar t ad
      unfold asAddr
      split
      · exact calm_pure _
      · exact calm_bind calm_program fun p => calm_halt _
      · exact calm_halt _
  intro P w w' x e
  exact (calm_bind (calm_mapM this _) fun ys => calm_pure _) P w w' x e

end
end KL
end Go.Proofs.YtlmecmapkijcnaaDoor

set_option linter.unusedVariables false
namespace Go.Proofs.YtlmecmapkijcnaaDoor
namespace KL
open Go.Conc (G listed)

/-- Operation 'o', where its operands read so, yields v, and what is known stands; whatever region it stands in. -/
def YieldS (A : Acts) (P : Program) (main : Bool) (o : Oper) (ρ : Operand → Value) (h : Know) (v : Value) : Prop :=
  ∀ (a : Act) (b : Frame) (k : List Item) (cs : List Frame) (Stop : Frame → List Frame → Know → Prop) (ops : Array Oper) (i : Nat) (rest : List Nat),
    (∀ x ∈ o.op.operands, a.eval x = ρ x) → ops[i]? = some o → Region.wanted o (yielded ops a.tmps) = true → b.kind ≠ .early →
    GoesS A P main Stop (b.at (a.put o.dst v) (.inRegion ops rest :: k)) cs h → GoesS A P main Stop (b.at a (.inRegion ops (i :: rest) :: k)) cs h

/-- The head, in the text's order. -/
def HeadE (A : Acts) (P : Program) (main : Bool) : List Oper → Env → Know → (Env → Prop) → Prop
  | [], E, _, K => K E
  | o :: l, E, h, K => o.op.operands.all E.has = true ∧ ∃ v, YieldS A P main o E.ev h v ∧ HeadE A P main l (E.put o.dst v) h K

/-- An operation over what is known that leaves it as it is. -/
theorem yieldS_sem {P : Program} {A : Acts} [Priv A] {main : Bool} {o : Oper} {ρ : Operand → Value} {h : Know} {v : Value} (hs : notSelect o.op = true)
    (hx : semS P (fun _ _ => False) (execOp ρ o) h (nextE A P main (fun u h' => u = v ∧ h.le h') (fun _ _ => False))) : YieldS A P main o ρ h v := by
  intro a b k cs Stop ops i rest hρ ho hw hk g
  refine goes_op ho hw hk ?_
  rw [execOp_congr o (notSelect_spec hs) hρ]
  refine semS_mono (fun _ _ q => q.elim) _ _ _ _ (fun x h' q => ?_) hx
  cases x with
  | value u => obtain ⟨rfl, hl⟩ := q; exact g.weaken hl
  | skip => obtain ⟨rfl, hl⟩ := q; exact g.weaken hl
  | enter f args =>
    refine CallS.mono (show CallS A P main f args h' (callR _ _) from q) fun e h₂ r => ?_
    cases e with
    | returned u => obtain ⟨rfl, hl⟩ := r; exact g.weaken hl
    | panicked ch => exact r.elim
    | outgrown => exact r
  | _ => exact q.elim

def isBound (e : Edge) : Bool := Region.binds .any e
/-- The shape of a region whose first m operations may come in any order that their data allow, and whose others come behind all of these, one behind the other. -/
def shapeB (ops : List Oper) (m : Nat) : Bool :=
  (ops.zipIdx.all fun (o, i) => o.guard.isNone && o.after.all fun e => !isBound e || decide (e.on < i)) &&
  ((ops.take m).zipIdx.all fun (o, i) => o.dst.isSome && notSelect o.op &&
    (o.op.operands.all fun
      | .tmp t => ((ops.take m).zipIdx.all fun (p, j) => p.dst != some t || (decide (j < i) && o.after.any fun e => isBound e && e.on == j))
      | _ => true) &&
    ((ops.take m).zipIdx.all fun (p, j) => i == j || p.dst != o.dst)) &&
  ((ops.zipIdx.drop m).all fun (o, t) => if t = m then (List.range t).all fun i => o.after.any fun e => isBound e && e.on == i else o.after.any fun e => isBound e && e.on == t - 1)

structure Shape (ops : List Oper) (m : Nat) : Prop where
  guard : ∀ (i : Nat) (o : Oper), ops[i]? = some o → o.guard = none
  back : ∀ (i : Nat) (o : Oper), ops[i]? = some o → ∀ e ∈ o.after, Region.binds .any e = true → e.on < i
  dst : ∀ (i : Nat) (o : Oper), i < m → ops[i]? = some o → ∃ d, o.dst = some d
  sel : ∀ (i : Nat) (o : Oper), i < m → ops[i]? = some o → notSelect o.op = true
  uses : ∀ (i : Nat) (o : Oper) (t : Tmp), i < m → ops[i]? = some o → Operand.tmp t ∈ o.op.operands → ∀ (j : Nat) (p : Oper), j < m → ops[j]? = some p → p.dst = some t → j < i ∧ ∃ e ∈ o.after, Region.binds .any e = true ∧ e.on = j
  once : ∀ (i : Nat) (o : Oper) (j : Nat) (p : Oper), i < m → j < m → ops[i]? = some o → ops[j]? = some p → i ≠ j → p.dst ≠ o.dst
  tail : ∀ (o : Oper) (i : Nat), i < m → ops[m]? = some o → ∃ e ∈ o.after, Region.binds .any e = true ∧ e.on = i
  next : ∀ (t : Nat) (o : Oper), m < t → ops[t]? = some o → ∃ e ∈ o.after, Region.binds .any e = true ∧ e.on = t - 1

theorem take_get {ops : List Oper} {m i : Nat} {o : Oper} (hi : i < m) (ho : ops[i]? = some o) : (ops.take m).zipIdx[i]? = some (o, i) := by
  rw [List.getElem?_zipIdx, List.getElem?_take, if_pos hi, ho]; simp

theorem shape_of {ops : List Oper} {m : Nat} (h : shapeB ops m = true) : Shape ops m := by
  unfold shapeB at h
  rw [Bool.and_eq_true, Bool.and_eq_true] at h
  obtain ⟨⟨h1, h2⟩, h3⟩ := h
  rw [List.all_eq_true] at h1 h2 h3
  have g1 : ∀ (i : Nat) (o : Oper), ops[i]? = some o → o.guard.isNone = true ∧ o.after.all (fun e => !isBound e || decide (e.on < i)) = true := by
    intro i o ho
    have : (o, i) ∈ ops.zipIdx := List.mem_of_getElem? (i := i) (by rw [List.getElem?_zipIdx, ho]; simp)
    have := h1 _ this
    rwa [Bool.and_eq_true] at this
  have g2 := fun (i : Nat) (o : Oper) (hi : i < m) (ho : ops[i]? = some o) => h2 (o, i) (List.mem_of_getElem? (take_get hi ho))
  refine ⟨fun i o ho => by simpa using (g1 i o ho).1, fun i o ho e he hb => ?_, fun i o hi ho => ?_, fun i o hi ho => ?_, fun i o t hi ho ht j p hj hp hd => ?_, fun i o j p hi hj ho hp hij => ?_, fun o i hit ho => ?_, fun t o hm ho => ?_⟩
  · have := (g1 i o ho).2
    rw [Array.all_eq_true'] at this
    have := this e he
    simpa [isBound, hb] using this
  · have := g2 i o hi ho
    simp only [Bool.and_eq_true] at this
    exact Option.isSome_iff_exists.1 this.1.1.1
  · have := g2 i o hi ho
    simp only [Bool.and_eq_true] at this
    exact this.1.1.2
  · have := g2 i o hi ho
    simp only [Bool.and_eq_true] at this
    have h' := this.1.2
    rw [Array.all_eq_true'] at h'
    have h'' := h' _ ht
    simp only [List.all_eq_true] at h''
    have h3 := h'' (p, j) (List.mem_of_getElem? (take_get hj hp))
    simp only [hd, bne_self_eq_false, Bool.false_or, Bool.and_eq_true, decide_eq_true_eq, Array.any_eq_true', beq_iff_eq] at h3
    obtain ⟨h3, e, he, hb, hon⟩ := h3
    exact ⟨h3, e, he, hb, hon⟩
  · have := g2 i o hi ho
    simp only [Bool.and_eq_true] at this
    have h' := this.2
    rw [List.all_eq_true] at h'
    have := h' (p, j) (List.mem_of_getElem? (take_get hj hp))
    simp only [Bool.or_eq_true, beq_iff_eq, bne_iff_ne, ne_eq] at this
    exact this.resolve_left hij
  · have hmem : (o, m) ∈ ops.zipIdx.drop m := by
      refine List.mem_of_getElem? (i := m - m) ?_
      rw [List.getElem?_drop, List.getElem?_zipIdx]
      have : m + (m - m) = m := by omega
      rw [this, ho]; simp
    have := h3 _ hmem
    simp only [if_true, List.all_eq_true, List.mem_range] at this
    have := this i hit
    simp only [Array.any_eq_true', Bool.and_eq_true, beq_iff_eq] at this
    obtain ⟨e, he, hb, hon⟩ := this
    exact ⟨e, he, hb, hon⟩
  · have hmem : (o, t) ∈ ops.zipIdx.drop m := by
      refine List.mem_of_getElem? (i := t - m) ?_
      rw [List.getElem?_drop, List.getElem?_zipIdx]
      have : m + (t - m) = t := by omega
      rw [this, ho]; simp
    have := h3 _ hmem
    have hne : ¬ t = m := by omega
    simp only [if_neg hne] at this
    simp only [Array.any_eq_true', Bool.and_eq_true, beq_iff_eq] at this
    obtain ⟨e, he, hb, hon⟩ := this
    exact ⟨e, he, hb, hon⟩

theorem getD_replicate_false (m j : Nat) : (Array.replicate m false).getD j false = false := by
  rcases Nat.lt_or_ge j m with h | h
  · simp [h]
  · simp [h]

theorem filter_lt {p p' : Nat → Bool} : ∀ (l : List Nat), (∀ j ∈ l, p' j = true → p j = true) → (∃ i ∈ l, p i = true ∧ p' i = false) → (l.filter p').length < (l.filter p).length := by
  have le : ∀ (l : List Nat), (∀ j ∈ l, p' j = true → p j = true) → (l.filter p').length ≤ (l.filter p).length := by
    intro l
    induction l with
    | nil => simp
    | cons a l ih =>
      intro h
      have := ih fun j hj => h j (List.mem_cons_of_mem _ hj)
      simp only [List.filter_cons]
      have ha := h a (List.mem_cons_self ..)
      cases hp' : p' a
      · simp only [Bool.false_eq_true, if_false]; split <;> simp <;> omega
      · rw [ha hp']; simp; omega
  intro l
  induction l with
  | nil => rintro _ ⟨i, hi, _⟩; cases hi
  | cons a l ih =>
    rintro h ⟨i, hi, h1, h2⟩
    simp only [List.filter_cons]
    have hl := le l fun j hj => h j (List.mem_cons_of_mem _ hj)
    rcases List.mem_cons.1 hi with rfl | hi
    · rw [h1, h2]; simp; omega
    · have := ih (fun j hj => h j (List.mem_cons_of_mem _ hj)) ⟨i, hi, h1, h2⟩
      have ha := h a (List.mem_cons_self ..)
      cases hp' : p' a
      · simp only [Bool.false_eq_true, if_false]; split <;> simp <;> omega
      · rw [ha hp']; simp; omega

/-- The operations that are not listed yet. -/
def unl (N : Nat) (listed : Array Bool) : Nat := ((List.range N).filter fun j => !listed.getD j true).length

theorem unl_set {N i : Nat} {listed : Array Bool} (hs : listed.size = N) (hi : listed.getD i true = false) : unl N (listed.setIfInBounds i true) < unl N listed := by
  have hiN : i < N := by
    rcases Nat.lt_or_ge i N with g | g
    · exact g
    · rw [← hs] at g; simp [Array.getElem?_eq_none g] at hi
  refine filter_lt _ (fun j hj h => ?_) ⟨i, List.mem_range.2 hiN, by simpa using hi, by simp [hs, hiN]⟩
  by_cases e : i = j
  · subst e; simp [hs, hiN] at h
  · rw [getD_set_ne true e] at h; exact h

theorem unl_zero {N : Nat} {listed : Array Bool} (hs : listed.size = N) (h : unl N listed = 0) (j : Nat) (hj : j < N) : listed.getD j false = true := by
  have h0 := List.eq_nil_of_length_eq_zero h
  rw [List.filter_eq_nil_iff] at h0
  have := h0 j (List.mem_range.2 hj)
  have hlt : j < listed.size := by omega
  simpa [hlt] using this

section
variable {P : Program} {A : Acts} [Priv A] {main : Bool} {n : Nat} {Q : Post} {ds : List Deferred} {h : Know}

theorem ready_nonempty {ops : List Oper} {m : Nat} (sh : Shape ops m) {listed : Array Bool} (hs : listed.size = ops.length) {j : Nat} (hj : j < ops.length) (hl : listed.getD j false = false) : Region.ready .any ops.toArray listed ≠ [] := by
  -- the least one that is not listed
  have : ∃ i, i < ops.length ∧ listed.getD i false = false ∧ ∀ k, k < i → listed.getD k false = true := by
    have key : ∀ N, (∃ j, j < N ∧ listed.getD j false = false) → ∃ i, i < N ∧ listed.getD i false = false ∧ ∀ k, k < i → listed.getD k false = true := by
      intro N
      induction N with
      | zero => rintro ⟨j, hj, _⟩; omega
      | succ N ih =>
        rintro ⟨j, hj, hl⟩
        by_cases hb : ∃ j, j < N ∧ listed.getD j false = false
        · obtain ⟨i, h1, h2, h3⟩ := ih hb; exact ⟨i, by omega, h2, h3⟩
        · refine ⟨j, hj, hl, fun k hk => ?_⟩
          cases e : listed.getD k false with
          | true => rfl
          | false => exact absurd ⟨k, by omega, e⟩ hb
    exact key _ ⟨j, hj, hl⟩
  obtain ⟨i, hi, h1, h2⟩ := this
  intro hnil
  have hmem : i ∈ Region.ready .any ops.toArray listed := by
    refine mem_ready.2 ⟨?_, ops[i], by simp [hi], fun e he hb => h2 _ (sh.back i _ (by simp [hi]) e he hb)⟩
    have hlt : i < listed.size := by omega
    simpa [hlt] using h1
  rw [hnil] at hmem; cases hmem

/-- The tail comes in one order. -/
theorem go_tail {ops : List Oper} {m : Nat} (sh : Shape ops m) : ∀ (fuel s t : Nat) (listed : Array Bool), listed.size = ops.length → m ≤ s → s ≤ ops.length → ops.length - s ≤ fuel → (∀ j, j < ops.length → (listed.getD j false = true ↔ j < s)) →
    Region.linearise.go .any ops.toArray fuel t listed [] = List.range' s (ops.length - s) := by
  intro fuel
  induction fuel with
  | zero => intro s t listed hs hm hsl hf hL; have : ops.length - s = 0 := by omega
            rw [this]; simp [Region.linearise.go]
  | succ fuel ih =>
    intro s t listed hs hm hsl hf hL
    simp only [Region.linearise.go]
    change (match (Region.ready .any ops.toArray listed)[t % (Region.ready .any ops.toArray listed).length]? with
      | some i => Region.linearise.go .any ops.toArray fuel (t / (Region.ready .any ops.toArray listed).length) (listed.setIfInBounds i true) [i]
      | none => [].reverse) = _
    have only : ∀ i ∈ Region.ready .any ops.toArray listed, i = s := by
      intro i hi
      obtain ⟨h0, o, ho, hall⟩ := mem_ready.1 hi
      have hlt : i < ops.length := by have := (Array.getElem?_eq_some_iff.1 ho).1; simpa using this
      have hge : ¬ i < s := by
        intro h
        have := (hL i hlt).2 h
        have hlt' : i < listed.size := by omega
        simp [hlt'] at h0 this
        rw [h0] at this; cases this
      rcases Nat.lt_or_ge s i with g | g
      · obtain ⟨e, he, hb, hon⟩ := sh.next i o (by omega) (by simpa using ho)
        have := hall e he hb
        rw [hon, hL (i - 1) (by omega)] at this
        omega
      · omega
    by_cases hsz : s < ops.length
    · have hne := ready_nonempty sh hs hsz (by cases e : listed.getD s false with
        | false => rfl
        | true => exact absurd ((hL s hsz).1 e) (Nat.lt_irrefl _))
      cases hi : (Region.ready .any ops.toArray listed)[t % (Region.ready .any ops.toArray listed).length]? with
      | none =>
        have hlt : t % (Region.ready .any ops.toArray listed).length < (Region.ready .any ops.toArray listed).length := Nat.mod_lt _ (List.length_pos_iff.2 hne)
        rw [List.getElem?_eq_getElem hlt] at hi; cases hi
      | some i =>
        have := only i (List.mem_of_getElem? hi)
        subst this
        simp only []
        rw [linearise_go_acc, List.reverse_singleton, List.singleton_append]
        have e1 : ops.length - i = (ops.length - (i + 1)) + 1 := by omega
        rw [e1, List.range'_succ]
        congr 1
        refine ih (i + 1) _ _ (by simpa using hs) (by omega) (by omega) (by omega) fun j hj => ?_
        by_cases e : i = j
        · subst e; have : i < listed.size := by omega
          simp [this]
        · rw [getD_set_ne false e, hL j hj]; omega
    · have e0 : ops.length - s = 0 := by omega
      rw [e0]
      cases hi : (Region.ready .any ops.toArray listed)[t % (Region.ready .any ops.toArray listed).length]? with
      | none => simp
      | some i =>
        have := only i (List.mem_of_getElem? hi)
        have h2 := (mem_ready.1 (List.mem_of_getElem? hi)).2
        obtain ⟨o, ho, _⟩ := h2
        have := (Array.getElem?_eq_some_iff.1 ho).1
        simp at this
        omega

/-- What the head has laid: operation j's slot holds val j. -/
structure HeadInv (ops : List Oper) (m n : Nat) (ds : List Deferred) (E : Env) (val : Nat → Value) (listed : Array Bool) (a : Act) : Prop where
  size : a.tmps.size = n
  defers : a.defers = ds
  base : ∀ t v, E.look t = some v → (∀ j p, j < m → ops[j]? = some p → p.dst ≠ some t) → a.tmps[t]? = some v
  laid : ∀ j p d, j < m → ops[j]? = some p → p.dst = some d → listed.getD j false = true → a.tmps[d]? = some (val j)

/-- The frame behind the first i operations of the head. -/
def envAt (val : Nat → Value) : List Oper → Nat → Env → Env
  | [], _, E => E
  | o :: l, i, E => envAt val l (i + 1) (E.put o.dst (val i))

omit [Priv A] in
theorem headE_vals : ∀ (l : List Oper) (i : Nat) (E : Env) (K : Env → Prop), HeadE A P main l E h K → ∃ val : Nat → Value, K (envAt val l i E) ∧
    ∀ j o, l[j]? = some o → o.op.operands.all (envAt val (l.take j) i E).has = true ∧ YieldS A P main o (envAt val (l.take j) i E).ev h (val (i + j)) := by
  intro l
  induction l with
  | nil => exact fun i E K hk => ⟨fun _ => undef, hk, fun j o h => by simp at h⟩
  | cons a l ih =>
    rintro i E K ⟨ha, v, hv, hk⟩
    obtain ⟨val, h1, h2⟩ := ih (i + 1) (E.put a.dst v) K hk
    have cong : ∀ (l : List Oper) (k : Nat) (E : Env), i < k → envAt (fun j => if j = i then v else val j) l k E = envAt val l k E := by
      intro l
      induction l with
      | nil => exact fun _ _ _ => rfl
      | cons b l ih => intro k E hk; simp only [envAt]; rw [if_neg (by omega)]; exact ih _ _ (by omega)
    refine ⟨fun j => if j = i then v else val j, ?_, fun j o ho => ?_⟩
    · simp only [envAt, if_true]; rw [cong _ _ _ (by omega)]; exact h1
    · cases j with
      | zero =>
        simp only [List.getElem?_cons_zero, Option.some.injEq] at ho
        subst ho
        simp only [List.take_zero, envAt, Nat.add_zero, if_true]
        exact ⟨ha, hv⟩
      | succ j =>
        rw [List.getElem?_cons_succ] at ho
        obtain ⟨g1, g2⟩ := h2 j o ho
        simp only [List.take_succ_cons, envAt, if_true]
        rw [cong _ _ _ (by omega), if_neg (by omega)]
        have e : i + (j + 1) = i + 1 + j := by omega
        rw [e]
        exact ⟨g1, g2⟩

theorem look_put_none {E : Env} {t : Nat} {v : Value} {d : Option Tmp} (h : d ≠ some t) : (E.put d v).look t = E.look t := by
  cases d with
  | none => rfl
  | some d => rw [Env.put, Env.look_cons, if_neg (fun e => h (by rw [e]))]

/-- What a slot holds behind the first operations. -/
theorem look_envAt {val : Nat → Value} : ∀ (l : List Oper) (i : Nat) (E : Env) (t : Nat),
    ((∀ p ∈ l, p.dst ≠ some t) → (envAt val l i E).look t = E.look t) ∧
    (∀ j p, l[j]? = some p → p.dst = some t → (∀ j' p', j' ≠ j → l[j']? = some p' → p'.dst ≠ some t) → (envAt val l i E).look t = some (val (i + j))) := by
  intro l
  induction l with
  | nil => exact fun i E t => ⟨fun _ => rfl, fun j p h => by simp at h⟩
  | cons a l ih =>
    intro i E t
    refine ⟨fun hn => ?_, fun j p hp hd hu => ?_⟩
    · simp only [envAt]
      rw [(ih (i + 1) _ t).1 fun p hp => hn p (List.mem_cons_of_mem _ hp), look_put_none (hn a (List.mem_cons_self ..))]
    · cases j with
      | zero =>
        simp only [List.getElem?_cons_zero, Option.some.injEq] at hp
        subst hp
        simp only [envAt]
        rw [(ih (i + 1) _ t).1 fun p' hp' => by
          obtain ⟨j', hj'⟩ := List.getElem?_of_mem hp'
          exact hu (j' + 1) p' (by omega) (by rw [List.getElem?_cons_succ]; exact hj')]
        rw [hd, Env.put, Env.look_cons, if_pos rfl, Nat.add_zero]
      | succ j =>
        rw [List.getElem?_cons_succ] at hp
        simp only [envAt]
        rw [(ih (i + 1) _ t).2 j p hp hd fun j' p' hj' hp' => hu (j' + 1) p' (by omega) (by rw [List.getElem?_cons_succ]; exact hp')]
        congr 2; omega

theorem wpE_draw {id : Nat} {l : List Oper} {E : Env} (m : Nat) (hm : P.follows .mixedOrders = true) (hsh : shapeB l m = true) (hml : m ≤ l.length) (hdst : ∀ o ∈ l, ∀ t, o.dst = some t → t < n)
    (hx : HeadE A P main (l.take m) E h (fun E₁ => OpsE A P main n l.toArray (l.drop m) Q ds E₁ h)) : wpE A P main n (.region id l.toArray true) Q ds E h := by
  have sh := shape_of hsh
  intro a b k cs Stop hf hk hc
  obtain ⟨val, hK, hval⟩ := headE_vals (l.take m) 0 E _ hx
  -- the schedule is drawn
  refine GoesS.step fun w hw => ⟨b.at a (.inRegion l.toArray (Region.linearise .any l.toArray (w.tape w.drawn (.order b.fn id))) :: k), cs, { w with drawn := w.drawn + 1 }, #[], h, ?_, KStep.draw hw rfl rfl rfl rfl, ?_⟩
  · simp [G, stepG, stepG.exec, Frame.at, choose, Sem.run, Question.forced, Question.cut, Region.schedule, hm]
  generalize w.tape w.drawn (.order b.fn id) = t
  unfold Region.linearise
  -- whatever order is picked
  have key : ∀ (fuel t : Nat) (listed : Array Bool) (a : Act), listed.size = l.length → unl l.length listed ≤ fuel → HeadInv l m n ds E val listed a →
      (∀ j, m ≤ j → listed.getD j false = false) → GoesS A P main Stop (b.at a (.inRegion l.toArray (Region.linearise.go .any l.toArray fuel t listed []) :: k)) cs h := by
    intro fuel
    induction fuel with
    | zero =>
      intro t listed a hs hu inv hT
      -- all are listed
      have all := unl_zero hs (Nat.le_zero.1 hu)
      have hm0 : m = l.length := by
        rcases Nat.lt_or_ge m l.length with g | g
        · have := all m g; rw [hT m (Nat.le_refl _)] at this; cases this
        · omega
      have hfit : Fit a n ds (envAt val (l.take m) 0 E) := by
        refine ⟨inv.size, fun t v e => ?_, inv.defers⟩
        by_cases hx : ∃ j p, j < m ∧ l[j]? = some p ∧ p.dst = some t
        · obtain ⟨j, p, hj, hp, hd⟩ := hx
          have := (look_envAt (val := val) (l.take m) 0 E t).2 j p (by rw [List.getElem?_take, if_pos hj]; exact hp) hd (fun j' p' hne hp' => by
            rw [List.getElem?_take] at hp'
            split at hp'
            · rename_i hj'
              rw [← hd]; exact sh.once j p j' p' hj hj' hp hp' (Ne.symm hne)
            · cases hp')
          rw [this, Nat.zero_add] at e; cases e
          exact inv.laid j p t hj hp hd (all j (by omega))
        · have hn : ∀ p ∈ l.take m, p.dst ≠ some t := by
            intro p hp hd
            obtain ⟨j, hj⟩ := List.getElem?_of_mem hp
            rw [List.getElem?_take] at hj
            split at hj
            · rename_i hjm; exact hx ⟨j, p, hjm, hj, hd⟩
            · cases hj
          rw [(look_envAt (val := val) (l.take m) 0 E t).1 hn] at e
          exact inv.base t v e fun j p hj hp hd => hx ⟨j, p, hj, hp, hd⟩
      have hgo : Region.linearise.go .any l.toArray 0 t listed [] = List.range' m (l.drop m).length := by
        have : (l.drop m).length = 0 := by simp; omega
        rw [this]; simp [Region.linearise.go]
      rw [hgo]
      exact hK a b k cs Stop m hfit hk (fun j => by simp) hc
    | succ fuel ih =>
      intro t listed a hs hu inv hT
      by_cases hall : ∀ j, j < m → listed.getD j false = true
      · -- the head is done
        have hfit : Fit a n ds (envAt val (l.take m) 0 E) := by
          refine ⟨inv.size, fun t v e => ?_, inv.defers⟩
          by_cases hx : ∃ j p, j < m ∧ l[j]? = some p ∧ p.dst = some t
          · obtain ⟨j, p, hj, hp, hd⟩ := hx
            have := (look_envAt (val := val) (l.take m) 0 E t).2 j p (by rw [List.getElem?_take, if_pos hj]; exact hp) hd (fun j' p' hne hp' => by
              rw [List.getElem?_take] at hp'
              split at hp'
              · rename_i hj'
                rw [← hd]; exact sh.once j p j' p' hj hj' hp hp' (Ne.symm hne)
              · cases hp')
            rw [this, Nat.zero_add] at e; cases e
            exact inv.laid j p t hj hp hd (hall j hj)
          · have hn : ∀ p ∈ l.take m, p.dst ≠ some t := by
              intro p hp hd
              obtain ⟨j, hj⟩ := List.getElem?_of_mem hp
              rw [List.getElem?_take] at hj
              split at hj
              · rename_i hjm; exact hx ⟨j, p, hjm, hj, hd⟩
              · cases hj
            rw [(look_envAt (val := val) (l.take m) 0 E t).1 hn] at e
            exact inv.base t v e fun j p hj hp hd => hx ⟨j, p, hj, hp, hd⟩
        rw [go_tail sh (fuel + 1) m t listed hs (Nat.le_refl _) hml ?_ ?_]
        · have : l.length - m = (l.drop m).length := by simp
          rw [this]
          exact hK a b k cs Stop m hfit hk (fun j => by simp) hc
        · -- enough fuel
          have : l.length - m ≤ unl l.length listed := by
            have hsub : (List.range' m (l.length - m)).Sublist ((List.range l.length).filter fun j => !listed.getD j true) := by
              have h1 : (List.range' m (l.length - m)) = (List.range' m (l.length - m)).filter fun j => !listed.getD j true := by
                rw [List.filter_eq_self.2]
                intro j hj
                rw [List.mem_range'_1] at hj
                have hlt : j < listed.size := by omega
                have := hT j hj.1
                simp [hlt] at this ⊢
                exact this
              rw [h1]
              refine List.Sublist.filter _ ?_
              rw [List.range_eq_range']
              have e : l.length = m + (l.length - m) := by omega
              have : List.range' 0 l.length = List.range' 0 m ++ List.range' m (l.length - m) := by
                conv => lhs; rw [e]
                have h2 := List.range'_append_1 (s := 0) (m := m) (n := l.length - m)
                rw [Nat.zero_add] at h2
                exact h2.symm
              rw [this]
              exact List.sublist_append_right _ _
            have := hsub.length_le
            simpa [unl] using this
          omega
        · intro j hj
          constructor
          · intro hlst
            rcases Nat.lt_or_ge j m with g | g
            · exact g
            · rw [hT j g] at hlst; cases hlst
          · exact fun g => hall j g
      · -- one of the head comes
        have hex : ∃ j, j < m ∧ listed.getD j false = false := by
          refine Classical.byContradiction fun hn => hall fun j hj => ?_
          cases e : listed.getD j false with
          | true => rfl
          | false => exact absurd ⟨j, hj, e⟩ hn
        obtain ⟨j₀, hj₀, hl₀⟩ := hex
        simp only [Region.linearise.go]
        change GoesS A P main Stop (b.at a (.inRegion l.toArray (match (Region.ready .any l.toArray listed)[t % (Region.ready .any l.toArray listed).length]? with
          | some i => Region.linearise.go .any l.toArray fuel (t / (Region.ready .any l.toArray listed).length) (listed.setIfInBounds i true) [i]
          | none => [].reverse) :: k)) cs h
        have hne := ready_nonempty sh hs (by omega : j₀ < l.length) hl₀
        cases hi : (Region.ready .any l.toArray listed)[t % (Region.ready .any l.toArray listed).length]? with
        | none =>
          have hlt : t % (Region.ready .any l.toArray listed).length < (Region.ready .any l.toArray listed).length := Nat.mod_lt _ (List.length_pos_iff.2 hne)
          rw [List.getElem?_eq_getElem hlt] at hi; cases hi
        | some i =>
          simp only []
          rw [linearise_go_acc, List.reverse_singleton, List.singleton_append]
          obtain ⟨h0, o, ho, hrdy⟩ := mem_ready.1 (List.mem_of_getElem? hi)
          have ho' : l[i]? = some o := by simpa using ho
          have him : i < m := by
            rcases Nat.lt_or_ge i m with g | g
            · exact g
            · by_cases e : i = m
              · subst e
                obtain ⟨e, he, hb, hon⟩ := sh.tail o j₀ hj₀ ho'
                have := hrdy e he hb
                rw [hon, hl₀] at this; cases this
              · obtain ⟨e, he, hb, hon⟩ := sh.next i o (by omega) ho'
                have := hrdy e he hb
                rw [hon, hT (i - 1) (by omega)] at this; cases this
          obtain ⟨d, hd⟩ := sh.dst i o him ho'
          obtain ⟨hops, hy⟩ := hval i o (by rw [List.getElem?_take, if_pos him]; exact ho')
          rw [Nat.zero_add] at hy
          have htake : (l.take m).take i = l.take i := by rw [List.take_take, Nat.min_eq_left (by omega)]
          rw [htake] at hops hy
          refine hy a b k cs Stop l.toArray i _ (fun x hx => ?_) ho (by simp [Region.wanted, sh.guard i o ho']) hk ?_
          · -- the operands
            cases x with
            | const v => rfl
            | global g => rfl
            | func g => rfl
            | tmp t' =>
              rw [Array.all_eq_true'] at hops
              have hk' := hops _ hx
              simp only [Env.has, Option.isSome_iff_exists] at hk'
              obtain ⟨v, hv⟩ := hk'
              suffices a.tmps[t']? = some v by simp [Act.eval, Env.ev, hv, this]
              by_cases hx' : ∃ j p, j < m ∧ l[j]? = some p ∧ p.dst = some t'
              · obtain ⟨j, p, hj, hp, hpd⟩ := hx'
                obtain ⟨hji, e, he, hb, hon⟩ := sh.uses i o t' him ho' hx j p hj hp hpd
                have hlj := hrdy e he hb
                rw [hon] at hlj
                have := (look_envAt (val := val) (l.take i) 0 E t').2 j p (by rw [List.getElem?_take, if_pos hji]; exact hp) hpd (fun j' p' hne' hp' => by
                  rw [List.getElem?_take] at hp'
                  split at hp'
                  · rename_i hj'
                    rw [← hpd]; exact sh.once j p j' p' hj (by omega) hp hp' (Ne.symm hne')
                  · cases hp')
                rw [this, Nat.zero_add] at hv; cases hv
                exact inv.laid j p t' hj hp hpd hlj
              · have hn : ∀ p ∈ l.take i, p.dst ≠ some t' := by
                  intro p hp hpd
                  obtain ⟨j, hj⟩ := List.getElem?_of_mem hp
                  rw [List.getElem?_take] at hj
                  split at hj
                  · rename_i hji; exact hx' ⟨j, p, by omega, hj, hpd⟩
                  · cases hj
                rw [(look_envAt (val := val) (l.take i) 0 E t').1 hn] at hv
                exact inv.base t' v hv fun j p hj hp hpd => hx' ⟨j, p, hj, hp, hpd⟩
          · have hdn : d < n := hdst o (List.mem_of_getElem? ho') d hd
            refine ih _ _ _ (by simpa using hs) (by have := unl_set hs h0; omega) ?_ (fun j hj => by rw [getD_set_ne false (by omega)]; exact hT j hj)
            refine ⟨by simp [Act.put, hd, inv.size], by simp [Act.put, hd, inv.defers], fun t' v e hn => ?_, fun j p d' hj hp hpd hlst => ?_⟩
            · have : d ≠ t' := fun e => hn i o him ho' (by rw [hd, e])
              simp only [Act.put, hd]
              rw [Array.getElem?_setIfInBounds_ne this]
              exact inv.base t' v e hn
            · by_cases e : i = j
              · subst e
                rw [ho'] at hp; cases hp
                rw [hd] at hpd; cases hpd
                simp only [Act.put, hd]
                rw [Array.getElem?_setIfInBounds_self_of_lt (by rw [inv.size]; exact hdn)]
              · rw [getD_set_ne false e] at hlst
                have : d ≠ d' := fun e' => sh.once i o j p him hj ho' hp e (by rw [hd, hpd, e'])
                simp only [Act.put, hd]
                rw [Array.getElem?_setIfInBounds_ne this]
                exact inv.laid j p d' hj hp hpd hlst
  refine key _ t _ a (by simp) ?_ ⟨hf.size, hf.defers, fun t v e _ => hf.look t v e, fun j p d hj hp hpd hlst => ?_⟩ (fun j _ => getD_replicate_false _ _)
  · have : ∀ N (L : Array Bool), unl N L ≤ N := fun N L => by unfold unl; have := List.length_filter_le (fun j => !L.getD j true) (List.range N); simpa using this
    simpa using this l.length _
  · rw [getD_replicate_false] at hlst; cases hlst

end
end KL
end Go.Proofs.YtlmecmapkijcnaaDoor
