/- What a goroutine knows of memory, block by block, and what an operation does to that knowledge: soundness of the reading of the model's memory actions over partial knowledge. -/
import Derived.Conc.Own5
import Derived.Conc.Listed
import Derived.Orders
set_option linter.unusedVariables false
namespace Go.Proofs.YtlmecmapkijcnaaDoor
namespace KL
open Go.Conc (G listed)

/-- What is known of memory: a block's object, and whether the goroutine may write it. -/
abbrev Know := Nat → Option (Bool × Obj)
def Know.upd (h : Know) (b : Nat) (x : Bool × Obj) : Know := fun c => if c = b then some x else h c
def Know.holds (h : Know) (w : World) : Prop := ∀ b m o, h b = some (m, o) → w.heap[b]? = some o
def Know.le (h h' : Know) : Prop := ∀ b x, h b = some x → h' b = some x
def Know.owned (h : Know) (b : Nat) : Prop := ∃ o, h b = some (true, o)

theorem Know.upd_same (h : Know) (b : Nat) (x : Bool × Obj) : h.upd b x b = some x := by simp [Know.upd]
theorem Know.upd_ne (h : Know) {b c : Nat} (x : Bool × Obj) (hn : c ≠ b) : h.upd b x c = h c := by simp [Know.upd, hn]
theorem Know.le_refl (h : Know) : h.le h := fun _ _ x => x
theorem Know.le_trans {a b c : Know} (h : a.le b) (k : b.le c) : a.le c := fun i x e => k i x (h i x e)
theorem Know.holds_le {h h' : Know} {w : World} (hl : h.le h') (hw : h'.holds w) : h.holds w := fun b m o e => hw b m o (hl b _ e)
theorem Know.lt_of {h : Know} {w : World} (hw : h.holds w) {b : Nat} {x : Bool × Obj} (e : h b = some x) : b < w.heap.size := by
  obtain ⟨m, o⟩ := x
  have := hw b m o e
  rcases Nat.lt_or_ge b w.heap.size with g | g
  · exact g
  · rw [Array.getElem?_eq_none g] at this; cases this
theorem Know.fresh {h : Know} {w : World} (hw : h.holds w) : h w.heap.size = none := by
  cases e : h w.heap.size with
  | none => rfl
  | some x => exact absurd (Know.lt_of hw e) (Nat.lt_irrefl _)

/-- The event is an access to what is known (a write: to what may be written), or to a block that is new. -/
def EvCov (h : Know) (n : Nat) (e : Event) : Prop :=
  match e.loc with
    | .cell a => e.sync = false ∧ ((∃ m o, h a.block = some (m, o) ∧ (e.write = true → m = true)) ∨ n ≤ a.block)
    | .obj r => e.sync = false ∧ ((∃ m o, h r = some (m, o) ∧ (e.write = true → m = true)) ∨ n ≤ r)
    | .mark m => m = .noRoom
    | _ => False

/-- One or more actions: only what may be written has turned, and there may be new blocks. -/
structure KStep (h : Know) (w : World) (h' : Know) (w' : World) (es : Array Event) : Prop where
  holds : h'.holds w'
  size : w.heap.size ≤ w'.heap.size
  keep : ∀ b, b < w.heap.size → ¬ h.owned b → w'.heap[b]? = w.heap[b]?
  own : ∀ b, h'.owned b → b < w.heap.size → h.owned b
  share : ∀ b o, h' b = some (false, o) → h b = some (false, o)
  evs : ∀ e ∈ es, EvCov h w.heap.size e
  os : w'.os = w.os
  output : w'.output = w.output
  tape : w'.tape = w.tape

theorem KStep.refl {h : Know} {w : World} (hw : h.holds w) : KStep h w h w #[] :=
  ⟨hw, Nat.le_refl _, fun _ _ _ => rfl, fun _ x _ => x, fun _ _ x => x, fun e he => by simp at he, rfl, rfl, rfl⟩

theorem EvCov.back {h h₁ : Know} {w w₁ : World} {es : Array Event} (k : KStep h w h₁ w₁ es) {e : Event} (he : EvCov h₁ w₁.heap.size e) : EvCov h w.heap.size e := by
  have key : ∀ (b : Nat) (wr : Bool), ((∃ m o, h₁ b = some (m, o) ∧ (wr = true → m = true)) ∨ w₁.heap.size ≤ b) → ((∃ m o, h b = some (m, o) ∧ (wr = true → m = true)) ∨ w.heap.size ≤ b) := by
    intro b wr hb
    rcases Nat.lt_or_ge b w.heap.size with g | g
    · rcases hb with ⟨m, o, e1, e2⟩ | hb
      · cases m with
        | true => obtain ⟨o', e'⟩ := k.own b ⟨o, e1⟩ g; exact .inl ⟨true, o', e', fun _ => rfl⟩
        | false => exact .inl ⟨false, o, k.share b o e1, e2⟩
      · exact absurd (Nat.lt_of_lt_of_le g (Nat.le_trans k.size hb)) (Nat.lt_irrefl _)
    · exact .inr g
  unfold EvCov at he ⊢
  cases hloc : e.loc with
  | cell a => rw [hloc] at he; exact ⟨he.1, key _ _ he.2⟩
  | obj r => rw [hloc] at he; exact ⟨he.1, key _ _ he.2⟩
  | output => rw [hloc] at he; exact he.elim
  | goroutines => rw [hloc] at he; exact he.elim
  | mark m => rw [hloc] at he; exact he

theorem KStep.trans {h h₁ h₂ : Know} {w w₁ w₂ : World} {es es₂ : Array Event} (a : KStep h w h₁ w₁ es) (b : KStep h₁ w₁ h₂ w₂ es₂) : KStep h w h₂ w₂ (es ++ es₂) :=
  ⟨b.holds, Nat.le_trans a.size b.size,
   fun i hi hn => by
    rw [b.keep i (Nat.lt_of_lt_of_le hi a.size) (fun ho => hn (a.own i ho hi)), a.keep i hi hn],
   fun i ho hi => a.own i (b.own i ho (Nat.lt_of_lt_of_le hi a.size)) hi,
   fun i o e => a.share i o (b.share i o e),
   fun e he => by
    rcases Array.mem_append.1 he with he | he
    · exact a.evs e he
    · exact (b.evs e he).back a,
   b.os.trans a.os, b.output.trans a.output, b.tape.trans a.tape⟩

/-- A subset of the events. -/
theorem KStep.sub {h h' : Know} {w w' : World} {es es' : Array Event} (k : KStep h w h' w' es) (hs : ∀ e ∈ es', e ∈ es) : KStep h w h' w' es' :=
  ⟨k.holds, k.size, k.keep, k.own, k.share, fun e he => k.evs e (hs e he), k.os, k.output, k.tape⟩

/-- What is asked of an answer. -/
def Fits (q : Question) (n : Nat) : Prop := if q.forced then n = 0 else ∃ t, n = q.cut t

/-- The actions, read over what is known. 'K': behind them; 'E': they end by a panic. -/
def semS (P : Program) {α : Type} (E : Value → Know → Prop) : Sem α → Know → (α → Know → Prop) → Prop
  | .pure a, h, K => K a h
  | .load m a k, h, K => m = .plain ∧ a.spot = none ∧ ∃ mu c ty fr v, h a.block = some (mu, .cells c ty fr) ∧ c[a.off]? = some v ∧ semS P E (k v) h K
  | .store m a v k, h, K => m = .plain ∧ a.spot = none ∧ (∀ cs, v ≠ .agg cs) ∧ (∀ cs, v ≠ .tuple cs) ∧
      ∃ c ty fr, h a.block = some (true, .cells c ty fr) ∧ a.off < c.size ∧ ¬ (fr.1 ≤ a.off ∧ a.off < fr.2) ∧ semS P E k (h.upd a.block (true, .cells (c.setIfInBounds a.off v) ty fr)) K
  | .new o k, h, K => ∀ r, h r = none → semS P E (k r) (h.upd r (true, o)) K
  | .shape r k, h, K => ∃ mu c ty fr, h r = some (mu, .cells c ty fr) ∧ semS P E (k (some (ty, c.size))) h K
  | .freeze a n k, h, K => (n = 0 ∧ semS P E k h K) ∨ (n ≠ 0 ∧ ∃ c ty fr, h a.block = some (true, .cells c ty fr) ∧
      semS P E k (h.upd a.block (true, .cells c ty (if fr.1 == fr.2 then (a.off, a.off + n) else (min fr.1 a.off, max fr.2 (a.off + n))))) K)
  | .frozen a k, h, K => ∃ mu c ty fr, h a.block = some (mu, .cells c ty fr) ∧ semS P E (k (decide (fr.1 ≤ a.off) && decide (a.off < fr.2))) h K
  | .getObj r k, h, K => ∃ mu o, h r = some (mu, o) ∧ (∀ c ty fr, o ≠ .cells c ty fr) ∧ o.isChan = false ∧ semS P E (k o) h K
  | .setObj r o k, h, K => ∃ o', h r = some (true, o') ∧ (∀ c ty fr, o' ≠ .cells c ty fr) ∧ o.isChan = false ∧ semS P E k (h.upd r (true, o)) K
  | .choose q k, h, K => ∀ n, Fits q n → semS P E (k n) h K
  | .program k, h, K => semS P E (k P) h K
  | .mark m k, h, K => m = .noRoom ∧ semS P E k h K
  | .halt (.panic v), h, _ => E v h
  | _, _, _ => False

/-- What comes of it. -/
def Came {α : Type} (h : Know) (w : World) (es : Array Event) (E : Value → Know → Prop) (K : α → Know → Prop) (r : Result α × Array Event) : Prop :=
  ∃ w' es' h', r.2 = es ++ es' ∧ KStep h w h' w' es' ∧ ((∃ x, r.1 = .ok x w' ∧ K x h') ∨ ∃ v, r.1 = .halt (.panic v) w' ∧ E v h')

theorem Came.behind {α : Type} {h h₁ : Know} {w w₁ : World} {es es₁ : Array Event} {E : Value → Know → Prop} {K : α → Know → Prop} {r : Result α × Array Event} (k : KStep h w h₁ w₁ es₁)
    (c : Came h₁ w₁ (es ++ es₁) E K r) : Came h w es E K r := by
  obtain ⟨w', es', h', e1, e2, e3⟩ := c
  exact ⟨w', es₁ ++ es', h', by rw [e1, Array.append_assoc], k.trans e2, e3⟩

theorem heap_modify_same {a : Array Obj} {b : Nat} {o : Obj} (f : Obj → Obj) (h : a[b]? = some o) : (a.modify b f)[b]? = some (f o) := by
  obtain ⟨hb, he⟩ := Array.getElem?_eq_some_iff.1 h
  rw [Array.getElem?_eq_getElem (by simpa using hb), Array.getElem_modify_self, he]
theorem heap_modify_ne {a : Array Obj} {b c : Nat} (f : Obj → Obj) (h : c ≠ b) : (a.modify b f)[c]? = a[c]? := by
  rcases Nat.lt_or_ge c a.size with g | g
  · rw [Array.getElem?_eq_getElem (by simpa using g), Array.getElem?_eq_getElem g, Array.getElem_modify_of_ne (Ne.symm h)]
  · rw [Array.getElem?_eq_none (by simpa using g), Array.getElem?_eq_none g]

/-- A block that may be written is turned. -/
theorem KStep.turn {h : Know} {w w' : World} {b : Nat} {o o' : Obj} {es : Array Event} (hw : h.holds w) (hb : h b = some (true, o)) (hs : w'.heap.size = w.heap.size) (h1 : w'.heap[b]? = some o')
    (h2 : ∀ c, c ≠ b → w'.heap[c]? = w.heap[c]?) (hos : w'.os = w.os) (hout : w'.output = w.output) (htape : w'.tape = w.tape) (hev : ∀ e ∈ es, EvCov h w.heap.size e) : KStep h w (h.upd b (true, o')) w' es := by
  refine ⟨fun c m x e => ?_, by omega, fun c _ hn => h2 c fun e => hn (by subst e; exact ⟨o, hb⟩), fun c hc _ => ?_, fun c x e => ?_, hev, hos, hout, htape⟩
  · by_cases hc : c = b
    · subst hc; rw [Know.upd_same] at e; cases e; exact h1
    · rw [Know.upd_ne _ _ hc] at e; rw [h2 c hc]; exact hw c m x e
  · by_cases hcb : c = b
    · subst hcb; exact ⟨o, hb⟩
    · obtain ⟨x, e⟩ := hc; rw [Know.upd_ne _ _ hcb] at e; exact ⟨x, e⟩
  · by_cases hcb : c = b
    · subst hcb; rw [Know.upd_same] at e; cases e
    · rw [Know.upd_ne _ _ hcb] at e; exact e

/-- A new block. -/
theorem KStep.new {h : Know} {w : World} (hw : h.holds w) (o : Obj) : KStep h w (h.upd w.heap.size (true, o)) { w with heap := w.heap.push o } #[] := by
  refine ⟨fun c m x e => ?_, by simp, fun c hc _ => ?_, fun c hc hlt => ?_, fun c x e => ?_, fun e he => by simp at he, rfl, rfl, rfl⟩
  · by_cases hc : c = w.heap.size
    · subst hc; rw [Know.upd_same] at e; cases e; simp
    · rw [Know.upd_ne _ _ hc] at e
      have := hw c m x e
      have hlt := Know.lt_of hw e
      simp only [Array.getElem?_push]
      rw [if_neg (Nat.ne_of_lt hlt)]; exact this
  · simp only [Array.getElem?_push]; rw [if_neg (Nat.ne_of_lt hc)]
  · obtain ⟨x, e⟩ := hc; rw [Know.upd_ne _ _ (Nat.ne_of_lt hlt)] at e; exact ⟨x, e⟩
  · by_cases hc : c = w.heap.size
    · subst hc; rw [Know.upd_same] at e; cases e
    · rw [Know.upd_ne _ _ hc] at e; exact e

/-- No memory is touched: the count of draws moves at the most. -/
theorem KStep.draw {h : Know} {w w' : World} (hw : h.holds w) (hh : w'.heap = w.heap) (hos : w'.os = w.os) (hout : w'.output = w.output) (htape : w'.tape = w.tape) : KStep h w h w' #[] :=
  ⟨fun b m o e => by rw [hh]; exact hw b m o e, by rw [hh]; exact Nat.le_refl _, fun _ _ _ => by rw [hh], fun _ x _ => x, fun _ _ x => x, fun e he => by simp at he, hos, hout, htape⟩

/-- An access to what is known. -/
theorem KStep.read {h : Know} {w : World} (hw : h.holds w) {e : Event} (he : EvCov h w.heap.size e) : KStep h w h w #[e] :=
  ⟨hw, Nat.le_refl _, fun _ _ _ => rfl, fun _ x _ => x, fun _ _ x => x, fun x hx => by simp at hx; subst hx; exact he, rfl, rfl, rfl⟩

theorem came_here {α : Type} {h : Know} {w : World} {es : Array Event} {E : Value → Know → Prop} {K : α → Know → Prop} {x : α} (hw : h.holds w) (k : K x h) : Came h w es E K (.ok x w, es) :=
  ⟨w, #[], h, by simp, KStep.refl hw, .inl ⟨x, rfl, k⟩⟩

theorem semS_sound {P : Program} {α : Type} {E : Value → Know → Prop} (s : Sem α) : ∀ (h : Know) (w : World) (es : Array Event) (K : α → Know → Prop), semS P E s h K → h.holds w → Came h w es E K (s.runT P w es) := by
  induction s with
  | pure a => exact fun h w es K k hw => came_here hw k
  | load m a k ih =>
    rintro h w es K ⟨rfl, hsp, mu, c, ty, fr, v, hb, hc, hk⟩ hw
    have hcell : w.cell? a = some v := by simp [World.cell?, hw _ _ _ hb, hsp, hc]
    simp only [Sem.runT, hcell]
    rw [Array.push_eq_append]
    exact Came.behind (KStep.read (e := ⟨.cell a, false, false⟩) hw ⟨rfl, .inl ⟨mu, _, hb, fun x => by simp at x⟩⟩) (ih v h w _ K hk hw)
  | store m a v k ih =>
    rintro h w es K ⟨rfl, hsp, hna, hnt, c, ty, fr, hb, hoff, hfr, hk⟩ hw
    have hB := hw _ _ _ hb
    have hcell : w.cell? a = some c[a.off] := by simp [World.cell?, hB, hsp, hoff]
    have hfz : w.frozen? a = false := by
      obtain ⟨lo, hi⟩ := fr
      simp only [World.frozen?, hB]
      simpa using hfr
    have hrun : (Sem.store Mode.plain a v k).runT P w es = k.runT P (w.setCell a v) (es.push ⟨.cell a, true, false⟩) := by
      cases v <;> first | (exact absurd rfl (hna _)) | (exact absurd rfl (hnt _)) | (simp [Sem.runT, hcell, hfz]; rfl)
    rw [hrun, Array.push_eq_append]
    have hst : KStep h w (h.upd a.block (true, .cells (c.setIfInBounds a.off v) ty fr)) (w.setCell a v) #[⟨.cell a, true, false⟩] := by
      refine KStep.turn hw hb (by simp [World.setCell]) ?_ (fun b hne => heap_modify_ne _ hne) rfl rfl rfl (fun e he => by simp at he; subst he; exact ⟨rfl, .inl ⟨true, _, hb, fun _ => rfl⟩⟩)
      show (w.heap.modify a.block _)[a.block]? = _
      rw [heap_modify_same _ hB]
      simp [hsp]
    exact Came.behind hst (ih _ _ _ K hk hst.holds)
  | new o k ih =>
    intro h w es K hk hw
    simp only [Sem.runT]
    have hst := KStep.new hw o
    have := ih w.heap.size _ _ (es ++ #[]) K (hk _ (Know.fresh hw)) hst.holds
    rw [Array.append_empty] at this
    exact Came.behind hst (by rw [Array.append_empty]; exact this)
  | shape r k ih =>
    rintro h w es K ⟨mu, c, ty, fr, hb, hk⟩ hw
    have hsh : w.shape? r = some (ty, c.size) := by simp [World.shape?, hw _ _ _ hb]
    simp only [Sem.runT, hsh]
    exact ih _ h w es K hk hw
  | freeze a n k ih =>
    rintro h w es K (⟨rfl, hk⟩ | ⟨hn, c, ty, fr, hb, hk⟩) hw
    · simp only [Sem.runT, World.freeze, if_true]
      exact ih h w es K hk hw
    · simp only [Sem.runT, World.freeze, if_neg hn]
      have hB := hw _ _ _ hb
      obtain ⟨lo, hi⟩ := fr
      have hst : KStep h w (h.upd a.block (true, .cells c ty (if lo == hi then (a.off, a.off + n) else (min lo a.off, max hi (a.off + n))))) { w with heap := w.heap.modify a.block fun
          | .cells c elem (lo, hi) => .cells c elem (if lo == hi then (a.off, a.off + n) else (min lo a.off, max hi (a.off + n)))
          | o => o } #[] := by
        refine KStep.turn hw hb (by simp) ?_ (fun b hne => heap_modify_ne _ hne) rfl rfl rfl (fun e he => by simp at he)
        exact heap_modify_same _ hB
      have := ih _ _ (es ++ #[]) K hk hst.holds
      rw [Array.append_empty] at this
      exact Came.behind hst (by rw [Array.append_empty]; exact this)
  | frozen a k ih =>
    rintro h w es K ⟨mu, c, ty, fr, hb, hk⟩ hw
    have hfz : w.frozen? a = (decide (fr.1 ≤ a.off) && decide (a.off < fr.2)) := by
      obtain ⟨lo, hi⟩ := fr
      simp [World.frozen?, hw _ _ _ hb]
    simp only [Sem.runT, hfz]
    exact ih _ h w es K hk hw
  | getObj r k ih =>
    rintro h w es K ⟨mu, o, hb, hnc, hch, hk⟩ hw
    have hB := hw _ _ _ hb
    have hrun : (Sem.getObj r k).runT P w es = (k o).runT P w (es.push ⟨.obj r, false, o.isChan⟩) := by
      simp only [Sem.runT, hB]
    rw [hrun, Array.push_eq_append, hch]
    exact Came.behind (KStep.read (e := ⟨.obj r, false, false⟩) hw ⟨rfl, .inl ⟨mu, _, hb, fun x => by simp at x⟩⟩) (ih o h w _ K hk hw)
  | setObj r o k ih =>
    rintro h w es K ⟨o', hb, hnc, hch, hk⟩ hw
    have hB := hw _ _ _ hb
    have hrun : (Sem.setObj r o k).runT P w es = k.runT P { w with heap := w.heap.setIfInBounds r o } (es.push ⟨.obj r, true, o.isChan⟩) := by
      simp only [Sem.runT, hB]
    rw [hrun, Array.push_eq_append, hch]
    have hlt : r < w.heap.size := Know.lt_of hw hb
    have hst : KStep h w (h.upd r (true, o)) { w with heap := w.heap.setIfInBounds r o } #[⟨.obj r, true, false⟩] := by
      refine KStep.turn hw hb (by simp) (by simp [hlt]) (fun b hne => by simp [Array.getElem?_setIfInBounds_ne (Ne.symm hne)]) rfl rfl rfl (fun e he => by simp at he; subst he; exact ⟨rfl, .inl ⟨true, _, hb, fun _ => rfl⟩⟩)
    exact Came.behind hst (ih _ _ _ K hk hst.holds)
  | choose q k ih =>
    intro h w es K hk hw
    simp only [Sem.runT]
    split
    · rename_i hf
      exact ih 0 h w es K (hk 0 (by simp [Fits, hf])) hw
    · rename_i hf
      have hst : KStep h w h { w with drawn := w.drawn + 1 } #[] := KStep.draw hw rfl rfl rfl rfl
      have := ih _ h _ (es ++ #[]) K (hk (q.cut (w.tape w.drawn q)) (by simp only [Fits, hf]; exact ⟨_, rfl⟩)) hst.holds
      rw [Array.append_empty] at this
      exact Came.behind hst (by rw [Array.append_empty]; exact this)
  | sys c k ih => exact fun h w es K hk hw => hk.elim
  | program k ih =>
    intro h w es K hk hw
    simp only [Sem.runT]
    exact ih P h w es K hk hw
  | mark m k ih =>
    rintro h w es K ⟨rfl, hk⟩ hw
    simp only [Sem.runT]
    rw [Array.push_eq_append]
    exact Came.behind (KStep.read (e := ⟨.mark .noRoom, false, true⟩) hw rfl) (ih h w _ K hk hw)
  | halt x =>
    intro h w es K hk hw
    cases x <;> first | exact hk.elim | exact ⟨w, #[], h, by simp [Sem.runT], KStep.refl hw, .inr ⟨_, rfl, hk⟩⟩

theorem semS_mono {P : Program} {α : Type} {E E' : Value → Know → Prop} (hE : ∀ v h, E v h → E' v h) (s : Sem α) : ∀ (h : Know) (K K' : α → Know → Prop), (∀ x h, K x h → K' x h) → semS P E s h K → semS P E' s h K' := by
  induction s with
  | pure a => exact fun h K K' hK k => hK _ _ k
  | load m a k ih => exact fun h K K' hK ⟨e1, e2, mu, c, ty, fr, v, hb, hc, hk⟩ => ⟨e1, e2, mu, c, ty, fr, v, hb, hc, ih v h K K' hK hk⟩
  | store m a v k ih => exact fun h K K' hK ⟨e1, e2, e3, e4, c, ty, fr, hb, hc, hf, hk⟩ => ⟨e1, e2, e3, e4, c, ty, fr, hb, hc, hf, ih _ K K' hK hk⟩
  | new o k ih => exact fun h K K' hK hk r hr => ih r _ K K' hK (hk r hr)
  | shape r k ih => exact fun h K K' hK ⟨mu, c, ty, fr, hb, hk⟩ => ⟨mu, c, ty, fr, hb, ih _ h K K' hK hk⟩
  | freeze a n k ih => exact fun h K K' hK hk => hk.elim (fun ⟨e, hk⟩ => .inl ⟨e, ih h K K' hK hk⟩) (fun ⟨e, c, ty, fr, hb, hk⟩ => .inr ⟨e, c, ty, fr, hb, ih _ K K' hK hk⟩)
  | frozen a k ih => exact fun h K K' hK ⟨mu, c, ty, fr, hb, hk⟩ => ⟨mu, c, ty, fr, hb, ih _ h K K' hK hk⟩
  | getObj r k ih => exact fun h K K' hK ⟨mu, o, hb, hn, hc, hk⟩ => ⟨mu, o, hb, hn, hc, ih o h K K' hK hk⟩
  | setObj r o k ih => exact fun h K K' hK ⟨o', hb, hn, hc, hk⟩ => ⟨o', hb, hn, hc, ih _ K K' hK hk⟩
  | choose q k ih => exact fun h K K' hK hk n hn => ih n h K K' hK (hk n hn)
  | sys c k ih => exact fun h K K' hK hk => hk.elim
  | program k ih => exact fun h K K' hK hk => ih P h K K' hK hk
  | mark m k ih => exact fun h K K' hK hk => ⟨hk.1, ih h K K' hK hk.2⟩
  | halt x => intro h K K' hK hk; cases x <;> first | exact hk.elim | exact hE _ _ hk

theorem semS_bind {P : Program} {α β : Type} {E : Value → Know → Prop} (s : Sem α) (f : α → Sem β) : ∀ (h : Know) (K : β → Know → Prop), semS P E (s >>= f) h K = semS P E s h fun x h' => semS P E (f x) h' K := by
  show ∀ (h : Know) (K : β → Know → Prop), semS P E (s.bind f) h K = _
  induction s with
  | pure a => exact fun h K => rfl
  | load m a k ih => intro h K; simp only [Sem.bind, semS, ih]
  | store m a v k ih => intro h K; simp only [Sem.bind, semS, ih]
  | new o k ih => intro h K; simp only [Sem.bind, semS, ih]
  | shape r k ih => intro h K; simp only [Sem.bind, semS, ih]
  | freeze a n k ih => intro h K; simp only [Sem.bind, semS, ih]
  | frozen a k ih => intro h K; simp only [Sem.bind, semS, ih]
  | getObj r k ih => intro h K; simp only [Sem.bind, semS, ih]
  | setObj r o k ih => intro h K; simp only [Sem.bind, semS, ih]
  | choose q k ih => intro h K; simp only [Sem.bind, semS, ih]
  | sys c k ih => intro h K; rfl
  | program k ih => intro h K; simp only [Sem.bind, semS, ih]
  | mark m k ih => intro h K; simp only [Sem.bind, semS, ih]
  | halt x => intro h K; cases x <;> rfl

end KL
end Go.Proofs.YtlmecmapkijcnaaDoor
