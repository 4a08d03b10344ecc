/- The acts of a starter and of its workers: on a group, a counter and a row that they share. Operations that are the same step in every world: moves. Operations that are acts: the library's entries. -/
import Derived.Test.YtlmecmapkijcnaaDoorR03
import Derived.Conc.QuitsD
import Derived.Conc.AtomicLaws2
import Derived.Conc.SmallLaws
set_option linter.unusedVariables false
namespace Go.Proofs.YtlmecmapkijcnaaDoor
namespace KL
open Go.Conc (G listed QuitsD semEvents)

def KK : Int := 4294967296
def evR (a : Addr) : Event := ⟨.cell a, false, true⟩
def evW (a : Addr) : Event := ⟨.cell a, true, true⟩
def evM (m : Mark) : Event := ⟨.mark m, false, true⟩
def cel (b i : Nat) : Addr := ⟨b, i, none⟩

/-- The group's two cells; the counter; the row. -/
def Grp (p : Ph) (w : World) (st sm : Int) : Prop := w.heap[p.gb]? = some (.cells #[.int .u64 st, .int .u32 sm] p.tg (0, 0))
def Cnt (p : Ph) (w : World) (x : Int) : Prop := w.heap[p.cb]? = some (.cells #[.int .i64 x] p.tc (0, 0))
def Rw (p : Ph) (w : World) (row : Array Value) : Prop := w.heap[p.rb]? = some (.cells row p.te (0, 0)) ∧ row.size = p.m * p.n
def part (p : Ph) (i : Nat) : List Value := (List.range p.m).map fun k => p.fin (p.m * i + k)
def finRow (p : Ph) : Array Value := ((List.range (p.m * p.n)).map p.fin).toArray

/-- Place i of the row is filled. -/
structure Filled (p : Ph) (i : Nat) (row : Array Value) (w w' : World) (es : Array Event) : Prop where
  heap : w'.heap = w.heap.setIfInBounds p.rb (.cells (splice row (p.m * i) (part p i)) p.te (0, 0))
  os : w'.os = w.os
  output : w'.output = w.output
  tape : w'.tape = w.tape
  evs : ∀ e ∈ es, ∃ k, k < p.m ∧ e = ⟨.cell (cel p.rb (p.m * i + k)), true, false⟩

abbrev Outs := Frame → List Frame → Know → Prop

/-- A worker's acts. -/
inductive ActW (P : Program) (fr : Frame) (cs : List Frame) (h : Know) (Out : Outs) : Prop
  | draw (p : Ph) (c : Nat) (hg : h.gh = .wrk p (.run c)) (hs : ∀ (w : World) (x : Nat), c ≤ x → x ≤ 2 ^ 40 → Cnt p w x →
      ∃ fr', stepG P false (G fr cs) w = .go (G fr' cs) (w.setCell (cel p.cb 0) (.int .i64 (x + 1 : Nat))) #[evR (cel p.cb 0), evW (cel p.cb 0)] ∧ Out fr' cs ⟨h.blk, .wrk p (if x < p.n then .has x else .out)⟩)
  | store (p : Ph) (i : Nat) (hg : h.gh = .wrk p (.has i)) (hs : ∀ (w : World) (row : Array Value), i < p.n → Rw p w row →
      ∃ fr' w' es, stepG P false (G fr cs) w = .go (G fr' cs) w' es ∧ Filled p i row w w' es ∧ Out fr' cs ⟨h.blk, .wrk p (.run (i + 1))⟩)
  | look (p : Ph) (hg : h.gh = .wrk p .out) (fr' : Frame) (hs : ∀ (w : World) (st sm : Int), Grp p w st sm → stepG P false (G fr cs) w = .go (G fr' cs) w) (ho : Out fr' cs h)
  | rel (p : Ph) (hg : h.gh = .wrk p .out) (fr' : Frame) (hs : ∀ w, stepG P false (G fr cs) w = .go (G fr' cs) w #[evM (.releaseMerge (cel p.gb 0))]) (ho : Out fr' cs ⟨h.blk, .wrk p .rel⟩)
  | dis (p : Ph) (hg : h.gh = .wrk p .rel) (fr' : Frame) (hs : ∀ w, stepG P false (G fr cs) w = .go (G fr' cs) w #[evM .disable]) (ho : Out fr' cs ⟨h.blk, .wrk p .dea⟩)
  | down (p : Ph) (hg : h.gh = .wrk p .dea) (hs : ∀ (w : World) (v wt : Nat), wt ≤ 1 → v < 2147483647 → Grp p w ((v + 1) * KK + wt) 0 →
      ∃ fr', stepG P false (G fr cs) w = .go (G fr' cs) (w.setCell (cel p.gb 0) (.int .u64 (v * KK + wt))) #[evR (cel p.gb 0), evW (cel p.gb 0)] ∧ Out fr' cs ⟨h.blk, .wrk p (if v = 0 ∧ wt = 1 then .last1 else .gone)⟩)
  | last1 (p : Ph) (hg : h.gh = .wrk p .last1) (hs : ∀ (w : World), Grp p w 1 0 → ∃ fr', stepG P false (G fr cs) w = .go (G fr' cs) w #[evR (cel p.gb 0)] ∧ Out fr' cs ⟨h.blk, .wrk p .last2⟩)
  | last2 (p : Ph) (hg : h.gh = .wrk p .last2) (hs : ∀ (w : World), Grp p w 1 0 → ∃ fr', stepG P false (G fr cs) w = .go (G fr' cs) (w.setCell (cel p.gb 0) (.int .u64 0)) #[evW (cel p.gb 0)] ∧ Out fr' cs ⟨h.blk, .wrk p .last3⟩)
  | last3 (p : Ph) (hg : h.gh = .wrk p .last3) (hm : mayWake P (G fr cs) = true) (hs : ∀ (w : World), Grp p w 0 0 →
      ∃ fr', stepG P false (G fr cs) w = .go (G fr' cs) (w.setCell (cel p.gb 1) (.int .u32 1)) (semEvents (cel p.gb 1)) ∧ Out fr' cs ⟨h.blk, .wrk p .gone⟩)
  | en (p : Ph) (hg : h.gh = .wrk p .gone) (fr' : Frame) (hs : ∀ w, stepG P false (G fr cs) w = .go (G fr' cs) w #[evM .enable]) (ho : Out fr' cs ⟨h.blk, .wrk p .quit⟩)

/-- Whoever has released takes no steps of its own but such as are the same in every world. -/
def privW : Gh → Prop
  | .wrk _ (.run _) | .wrk _ (.has _) | .wrk _ .out => True
  | _ => False
def actsW : Acts := ⟨privW, fun P main fr cs h Out => main = false ∧ ActW P fr cs h Out⟩
/-- A worker's acts while it works; and nothing else. -/
def actsB : Acts := ⟨fun _ => True, fun P main fr cs h Out => main = false ∧ ActW P fr cs h Out ∧ ∃ p c, h.gh = .wrk p (.run c) ∨ h.gh = .wrk p (.has c)⟩
instance : Priv actsB := ⟨fun _ => trivial⟩

/-- A worker's end: it only leaves. -/
def StopW (P : Program) (fr : Frame) (cs : List Frame) (h : Know) : Prop := (∃ p, h.gh = .wrk p .quit) ∧ ∃ q, QuitsD P q 0 (G fr cs)
/-- What a worker knows when it begins. -/
def startW (p : Ph) : Know := ⟨fun b => (p.back b).map fun x => (false, x.2), .wrk p (.run 0)⟩
/-- What the starter keeps while the phase lasts; what it knows when all have come. -/
def openB (p : Ph) (f : Nat → Option (Bool × Obj)) : Nat → Option (Bool × Obj) := fun b =>
  if b = p.gb ∨ b = p.cb ∨ b = p.rb then none else match p.back b with
    | some x => some (false, x.2)
    | none => f b
def shutB (p : Ph) (f : Nat → Option (Bool × Obj)) : Nat → Option (Bool × Obj) := fun b =>
  if b = p.rb then some (true, .cells (finRow p) p.te (0, 0)) else match p.back b with
    | some x => some x
    | none => f b

/-- A phase may begin. -/
structure Opens (p : Ph) (h : Know) : Prop where
  W : 1 ≤ p.W
  W8 : p.W ≤ 1000
  n : p.n ≤ 2 ^ 30
  gb : h p.gb = some (true, .cells #[.int .u64 0, .int .u32 0] p.tg (0, 0))
  cb : h p.cb = some (true, .cells #[.int .i64 0] p.tc (0, 0))
  rb : ∃ row, h p.rb = some (true, .cells row p.te (0, 0)) ∧ row.size = p.m * p.n
  back : ∀ b x, p.back b = some x → h b = some x
  ngb : p.back p.gb = none
  ncb : p.back p.cb = none
  nrb : p.back p.rb = none
  gc : p.gb ≠ p.cb
  gr : p.gb ≠ p.rb
  cr : p.cb ≠ p.rb

/-- The starter's acts. -/
inductive ActM (P : Program) (fr : Frame) (cs : List Frame) (h : Know) (Out : Outs) : Prop
  | opn (p : Ph) (hg : h.gh = .idle) (hp : Opens p h) (fr' : Frame) (hs : ∀ w, stepG P true (G fr cs) w = .go (G fr' cs) w #[evM .disable]) (ho : Out fr' cs ⟨openB p h.blk, .main p (.add1 0)⟩)
  | dis (p : Ph) (j : Nat) (hg : h.gh = .main p (.add j)) (fr' : Frame) (hs : ∀ w, stepG P true (G fr cs) w = .go (G fr' cs) w #[evM .disable])
      (ho : Out fr' cs ⟨h.blk, .main p (if j < p.W then .add1 j else .w1 p.W)⟩)
  | up (p : Ph) (j : Nat) (hg : h.gh = .main p (.add1 j)) (hs : ∀ (w : World) (v : Nat), v < 2147483647 → Grp p w (v * KK) 0 →
      ∃ fr', stepG P true (G fr cs) w = .go (G fr' cs) (w.setCell (cel p.gb 0) (.int .u64 ((v + 1 : Nat) * KK))) #[evR (cel p.gb 0), evW (cel p.gb 0)] ∧ Out fr' cs ⟨h.blk, .main p (.add2 j)⟩)
  | rdm (p : Ph) (j : Nat) (hg : h.gh = .main p (.add2 j)) (fr' : Frame) (hs : ∀ w, stepG P true (G fr cs) w = .go (G fr' cs) w #[evM (.read (cel p.gb 1))]) (ho : Out fr' cs h)
  | look (p : Ph) (s : SS) (hg : h.gh = .main p s) (fr' : Frame) (hs : ∀ (w : World) (st sm : Int), Grp p w st sm → stepG P true (G fr cs) w = .go (G fr' cs) w) (ho : Out fr' cs h)
  | en (p : Ph) (j : Nat) (hg : h.gh = .main p (.add2 j)) (fr' : Frame) (hs : ∀ w, stepG P true (G fr cs) w = .go (G fr' cs) w #[evM .enable]) (ho : Out fr' cs ⟨h.blk, .main p (.go j)⟩)
  | go (p : Ph) (j : Nat) (hg : h.gh = .main p (.go j)) (fr' ch : Frame) (hs : ∀ w, stepG P true (G fr cs) w = .spawn (G fr' cs) (G ch []) w #[]) (hc : GoesS actsW P false (StopW P) ch [] (startW p))
      (ho : Out fr' cs ⟨h.blk, .main p (.add (j + 1))⟩)
  | load (p : Ph) (vs : Nat) (hg : h.gh = .main p (.w1 vs)) (hs : ∀ (w : World) (v : Nat), v ≤ vs → Grp p w (v * KK) 0 →
      ∃ fr', stepG P true (G fr cs) w = .go (G fr' cs) w #[evR (cel p.gb 0)] ∧ Out fr' cs ⟨h.blk, .main p (if v = 0 then .fin else .w2 v)⟩)
  | cas (p : Ph) (vs : Nat) (hg : h.gh = .main p (.w2 vs)) (hs : ∀ (w : World) (v : Nat), v ≤ vs → Grp p w (v * KK) 0 →
      (v = vs → ∃ fr', stepG P true (G fr cs) w = .go (G fr' cs) (w.setCell (cel p.gb 0) (.int .u64 (v * KK + 1))) #[evR (cel p.gb 0), evW (cel p.gb 0)] ∧ Out fr' cs ⟨h.blk, .main p .w3⟩) ∧
      (v ≠ vs → ∃ fr', stepG P true (G fr cs) w = .go (G fr' cs) w #[evR (cel p.gb 0)] ∧ Out fr' cs ⟨h.blk, .main p (.w1 v)⟩))
  | wrm (p : Ph) (hg : h.gh = .main p .w3) (fr' : Frame) (hs : ∀ w, stepG P true (G fr cs) w = .go (G fr' cs) w #[evM (.write (cel p.gb 1))]) (ho : Out fr' cs h)
  | sem (p : Ph) (hg : h.gh = .main p .w3) (hb : ∀ (w : World) (st : Int), Grp p w st 0 → stepG P true (G fr cs) w = .go { G fr cs with status := .blocked } w)
      (hs : ∀ (w : World), Grp p w 0 1 → ∃ fr', stepG P true (G fr cs) w = .go (G fr' cs) (w.setCell (cel p.gb 1) (.int .u32 0)) (semEvents (cel p.gb 1)) ∧ Out fr' cs ⟨h.blk, .main p .w4⟩)
  | load2 (p : Ph) (hg : h.gh = .main p .w4) (hs : ∀ (w : World), Grp p w 0 0 → ∃ fr', stepG P true (G fr cs) w = .go (G fr' cs) w #[evR (cel p.gb 0)] ∧ Out fr' cs ⟨h.blk, .main p .fin⟩)
  | en2 (p : Ph) (hg : h.gh = .main p .fin) (fr' : Frame) (hs : ∀ w, stepG P true (G fr cs) w = .go (G fr' cs) w #[evM .enable]) (ho : Out fr' cs ⟨h.blk, .main p .fin2⟩)
  | acq (p : Ph) (hg : h.gh = .main p .fin2) (fr' : Frame) (hs : ∀ w, stepG P true (G fr cs) w = .go (G fr' cs) w #[evM (.acquire (cel p.gb 0))]) (ho : Out fr' cs ⟨shutB p h.blk, .idle⟩)

def actsM : Acts := ⟨fun _ => True, fun P main fr cs h Out => main = true ∧ ActM P fr cs h Out⟩
instance : Priv actsM := ⟨fun _ => trivial⟩

/-- Whoever leaves is out of it. -/
theorem quits_of {P : Program} {p : Ph} : ∀ (t : Tr) (fr : Frame) (cs : List Frame) (h : Know), GoesT actsW P false (StopW P) t fr cs h → (h.gh = .wrk p .gone → ∃ q, QuitsD P q 1 (G fr cs)) ∧ (h.gh = .wrk p .quit → ∃ q, QuitsD P q 0 (G fr cs)) := by
  intro t
  induction t with
  | stop =>
    rintro fr cs h ⟨h', hl, ⟨p', hg⟩, q⟩
    refine ⟨fun e => ?_, fun _ => q⟩
    rw [← hl.gh, hg] at e; cases e
  | step k ih =>
    rintro fr cs h ⟨hp, _⟩
    refine ⟨fun e => ?_, fun e => ?_⟩
    · rw [e] at hp; exact hp.elim
    · rw [e] at hp; exact hp.elim
  | move t ih =>
    rintro fr cs h ⟨fr', cs', hs, g⟩
    obtain ⟨h1, h2⟩ := ih _ _ _ g
    exact ⟨fun e => let ⟨q, x⟩ := h1 e; ⟨q + 1, .ctl rfl hs x⟩, fun e => let ⟨q, x⟩ := h2 e; ⟨q + 1, .ctl rfl hs x⟩⟩
  | act k ih =>
    rintro fr cs h ⟨h₀, Out, hl, ⟨_, ha⟩, g⟩
    have key : ∀ s, h₀.gh = .wrk p s → h.gh = .wrk p s := fun s e => by rw [← hl.gh]; exact e
    refine ⟨fun e => ?_, fun e => ?_⟩
    · rw [← hl.gh] at e
      cases ha with
      | en p' hg fr' hs ho =>
        obtain ⟨q, x⟩ := (ih _ _ _ _ _ _ (g _ _ _ ho)).2 (by rw [e] at hg; cases hg; rfl)
        exact ⟨q + 1, .said (evM .enable) rfl rfl hs x⟩
      | draw p' c hg hs => rw [e] at hg; cases hg
      | store p' i hg hs => rw [e] at hg; cases hg
      | look p' hg fr' hs ho => rw [e] at hg; cases hg
      | rel p' hg fr' hs ho => rw [e] at hg; cases hg
      | dis p' hg fr' hs ho => rw [e] at hg; cases hg
      | down p' hg hs => rw [e] at hg; cases hg
      | last1 p' hg hs => rw [e] at hg; cases hg
      | last2 p' hg hs => rw [e] at hg; cases hg
      | last3 p' hg hm hs => rw [e] at hg; cases hg
    · rw [← hl.gh] at e
      cases ha with
      | en p' hg fr' hs ho => rw [e] at hg; cases hg
      | draw p' c hg hs => rw [e] at hg; cases hg
      | store p' i hg hs => rw [e] at hg; cases hg
      | look p' hg fr' hs ho => rw [e] at hg; cases hg
      | rel p' hg fr' hs ho => rw [e] at hg; cases hg
      | dis p' hg fr' hs ho => rw [e] at hg; cases hg
      | down p' hg hs => rw [e] at hg; cases hg
      | last1 p' hg hs => rw [e] at hg; cases hg
      | last2 p' hg hs => rw [e] at hg; cases hg
      | last3 p' hg hm hs => rw [e] at hg; cases hg

/-! ### An operation that is an act -/
section
variable {A : Acts} {P : Program} {main : Bool} {n : Nat} {Q : Post} {ds : List Deferred} {E : Env} {h : Know}

/-- Operation o is an act; behind it R. -/
def ActO (A : Acts) (P : Program) (main : Bool) (o : Oper) (ρ : Operand → Value) (h : Know) (R : Value → Know → Prop) : Prop :=
  ∀ (a : Act) (b : Frame) (k : List Item) (cs : List Frame) (ops : Array Oper) (i : Nat) (rest : List Nat), (∀ x ∈ o.op.operands, a.eval x = ρ x) → ops[i]? = some o → Region.wanted o (yielded ops a.tmps) = true → b.kind ≠ .early →
    A.act P main (b.at a (.inRegion ops (i :: rest) :: k)) cs h fun fr' cs' h' => ∃ v, R v h' ∧ fr' = b.at (a.put o.dst v) (.inRegion ops rest :: k) ∧ cs' = cs
theorem stepS_act {o : Oper} {ρ : Operand → Value} {R : Value → Know → Prop} (ha : ActO A P main o ρ h R) : StepS A P main o ρ h R := by
  intro a b k cs Stop ops i rest hρ ho hw hk g
  refine GoesS.act (ha a b k cs ops i rest hρ ho hw hk) ?_
  rintro fr' cs' h' ⟨v, hR, rfl, rfl⟩
  exact g v h' hR
theorem opsE_step {ops : Array Oper} {rest : List Oper} {o : Oper} {R : Value → Know → Prop} (hb : opB n E o = true) (hs : StepS A P main o E.ev h R) (next : ∀ v h', R v h' → OpsE A P main n ops rest Q ds (E.put o.dst v) h') :
    OpsE A P main n ops (o :: rest) Q ds E h := by
  obtain ⟨hg, hdst, hn, hh⟩ := opB_spec hb
  intro a b k cs Stop i hf hk hl hc
  have ho : ops[i]? = some o := by simpa using (hl 0).symm
  rw [List.length_cons, List.range'_succ]
  have hl' : ∀ j, rest[j]? = ops[i + 1 + j]? := fun j => by have := hl (j + 1); simpa [Nat.add_assoc, Nat.add_comm 1 j] using this
  refine hs a b k cs Stop ops i _ (fun x hx => hf.eval (by rw [Array.all_eq_true'] at hh; exact hh x hx)) ho (by simp [Region.wanted, hg]) hk fun v h' r => ?_
  exact next v h' r _ b k cs Stop (i + 1) (hf.put _ _ hdst) hk hl' hc
theorem op_act {ops : Array Oper} {rest : List Oper} {o : Oper} {R : Value → Know → Prop} (hb : opB n E o = true) (ha : ActO A P main o E.ev h R) (next : ∀ v h', R v h' → OpsE A P main n ops rest Q ds (E.put o.dst v) h') :
    OpsE A P main n ops (o :: rest) Q ds E h := opsE_step hb (stepS_act ha) next
end
end KL
end Go.Proofs.YtlmecmapkijcnaaDoor

set_option linter.unusedVariables false
namespace Go.Proofs.YtlmecmapkijcnaaDoor
namespace KL
open Go.Conc (G listed)

/-- The actions touch nothing, and yield x. -/
def sil (P : Program) {α : Type} : Sem α → α → Prop
  | .pure a, x => a = x
  | .program k, x => sil P (k P) x
  | _, _ => False
theorem sil_runT {P : Program} {α : Type} (s : Sem α) : ∀ {x : α}, sil P s x → ∀ (w : World) (es : Array Event), s.runT P w es = (.ok x w, es) := by
  induction s with
  | pure a => intro x h w es; cases h; rfl
  | program k ih => intro x h w es; simp only [Sem.runT]; exact ih P h w es
  | _ => intro x h; exact h.elim
theorem sil_run {P : Program} {α : Type} {s : Sem α} {x : α} (h : sil P s x) (w : World) : s.run P w = .ok x w ∧ s.events P w #[] = #[] := by
  have := sil_runT s h w #[]
  rw [Sem.runT_eq] at this
  exact ⟨congrArg Prod.fst this, congrArg Prod.snd this⟩
theorem sil_bind {P : Program} {α β : Type} (s : Sem α) (f : α → Sem β) : ∀ {y : α} {x : β}, sil P s y → sil P (f y) x → sil P (s >>= f) x := by
  show ∀ {y : α} {x : β}, sil P s y → sil P (f y) x → sil P (s.bind f) x
  induction s with
  | pure a => intro y x h k; cases h; exact k
  | program k ih => intro y x h k'; exact ih P h k'
  | _ => intro y x h; exact h.elim
theorem sil_pure {P : Program} {α : Type} (x : α) : sil P (pure x : Sem α) x := rfl

section
variable {A : Acts} {P : Program} {main : Bool} {n : Nat} {Q : Post} {ds : List Deferred} {E : Env} {h : Know} {T : Types}

theorem sil_program : sil P program P := rfl
theorem sil_underlying {t : TypeId} {d : TypeDesc} (e : P.underlying t = some d) : sil P (underlying t) d := by
  unfold underlying
  refine sil_bind _ _ sil_program ?_
  rw [e]; exact sil_pure _
theorem sil_map {α β : Type} {s : Sem α} {x : α} (f : α → β) (h : sil P s x) : sil P (s >>= fun y => pure (f y)) (f x) := sil_bind _ _ h (sil_pure _)

theorem sil_pureV (hT : T.ok P) {ρ : Operand → Value} {o : Oper} {v : Value} (hv : pureV T ρ o.op = some v) : sil P (execOp ρ o) (.value v) := by
  obtain ⟨dst, op, ty, pos, after, guard⟩ := o
  simp only at hv
  unfold pureV at hv
  split at hv
  · cases hv; exact sil_pure _
  · cases hv; exact sil_pure _
  · simp only [execOp]; rw [binV_run hv]; exact sil_pure _
  · simp only [execOp]; rw [unV_run hv]; exact sil_pure _
  · rename_i s d x
    unfold convV at hv
    simp only [execOp]
    split at hv
    · rename_i d0 k k0 m e1 e2 e3
      cases hv
      refine sil_map Next.value ?_
      unfold convert
      refine sil_bind _ _ (sil_underlying (hT _ _ e1)) (sil_bind _ _ (sil_underlying (hT _ _ e2)) ?_)
      rw [e3]
      cases d0 <;> exact sil_pure _
    · rename_i b e1 e2 e3
      cases hv
      refine sil_map Next.value ?_
      unfold convert
      refine sil_bind _ _ (sil_underlying (hT _ _ e1)) (sil_bind _ _ (sil_underlying (hT _ _ e2)) ?_)
      rw [e3]; exact sil_pure _
    · cases hv
  · rename_i args ats
    obtain ⟨args⟩ := args
    obtain ⟨ats⟩ := ats
    split at hv
    · rename_i x t ea et
      have ea' : args = [x] := ea
      have et' : ats = [t] := et
      subst ea'; subst et'
      simp only [execOp, resolve, invoke, builtin, List.map_toArray, List.map_cons, List.map_nil]
      refine sil_bind _ _ (sil_pure _) (sil_map Next.value ?_)
      unfold Builtin.len_
      unfold lenV at hv
      split at hv
      · rename_i s es
        split at hv
        · rename_i ed
          cases hv
          rw [es]
          show sil P (underlying t >>= _) _
          exact sil_bind _ _ (sil_underlying (hT _ _ ed)) (sil_pure _)
        · cases hv
      · rename_i p m c es
        split at hv
        · rename_i e0 ed
          cases hv
          rw [es]
          show sil P (underlying t >>= _) _
          exact sil_bind _ _ (sil_underlying (hT _ _ ed)) (sil_pure _)
        · cases hv
      · cases hv
    · cases hv
  · cases hv; exact sil_pure _
  · cases hv

theorem sil_shl {ρ : Operand → Value} {o : Oper} {t yt : TypeId} {x y : Operand} {k yk : IntKind} {a b : Int} (ho : o.op = .binOp .shl t x y yt) (hx : ρ x = .int k a) (hy : ρ y = .int yk b) (hb : 0 ≤ b) :
    sil P (execOp ρ o) (.value (.int k (k.wrap (a * 2 ^ min b.toNat k.bits)))) := by
  have hb' : ¬ b < 0 := by omega
  simp only [execOp, ho, hx, hy]
  have : (do eqGuard .shl t x y (.int k a) (.int yk b); binOp .shl t (.int k a) (.int yk b) : Sem Value) = pure (.int k (k.wrap (a * 2 ^ min b.toNat k.bits))) := by
    show binOp .shl t (.int k a) (.int yk b) = _
    simp [binOp, Op.shift, hb']
  rw [this]; exact sil_pure _
theorem sil_shr {ρ : Operand → Value} {o : Oper} {t yt : TypeId} {x y : Operand} {k yk : IntKind} {a b : Int} (ho : o.op = .binOp .shr t x y yt) (hx : ρ x = .int k a) (hy : ρ y = .int yk b) (hb : 0 ≤ b) :
    sil P (execOp ρ o) (.value (.int k (a / 2 ^ min b.toNat k.bits))) := by
  have hb' : ¬ b < 0 := by omega
  simp only [execOp, ho, hx, hy]
  have : (do eqGuard .shr t x y (.int k a) (.int yk b); binOp .shr t (.int k a) (.int yk b) : Sem Value) = pure (.int k (a / 2 ^ min b.toNat k.bits)) := by
    show binOp .shr t (.int k a) (.int yk b) = _
    have e : a.fdiv (2 ^ min b.toNat k.bits) = a / 2 ^ min b.toNat k.bits := Int.fdiv_eq_ediv_of_nonneg _ (Int.pow_nonneg (by decide))
    simp [binOp, Op.shift, hb', e]
  rw [this]; exact sil_pure _
theorem sil_pick {ρ : Operand → Value} {o : Oper} {c a b : Operand} {x : Bool} {v : Value} (ho : o.op = .pick c a b) (hc : ρ c = .bool x) (hv : (if x then ρ a else ρ b) = v) : sil P (execOp ρ o) (.value v) := by
  subst hv
  simp only [execOp, ho, hc, asBool]
  exact sil_bind _ _ (sil_pure _) (sil_pure _)
theorem sil_nilCheck {ρ : Operand → Value} {o : Oper} {x : Operand} {b off : Nat} (ho : o.op = .nilCheck x) (hx : ρ x = .pointer (some ⟨b, off, none⟩)) : sil P (execOp ρ o) (.value (.pointer (some ⟨b, off, none⟩))) := by
  simp only [execOp, ho, hx]; exact sil_pure _
theorem sil_sizeOf {t : TypeId} {z : Value} {s b : Nat} (ti : TI P t z s b) : sil P (sizeOf t) s := by
  obtain ⟨i, e1, _, e2, _⟩ := ti.get
  unfold sizeOf typeInfo
  refine sil_bind _ _ (y := i) (sil_bind _ _ sil_program ?_) ?_
  · rw [e1]; exact sil_pure _
  · rw [← e2]; exact sil_pure _
/-- A field's place: the type's row says where. -/
theorem sil_fieldAddr {ρ : Operand → Value} {o : Oper} {s : TypeId} {x : Operand} {f b off d : Nat} {fs : Array Field} {fd : Field} (ho : o.op = .fieldAddr s x f) (hu : P.underlying s = some (.struct fs)) (hf : fs[f]? = some fd) (hd : fd.offset = d) {z : Value} {sz bt : Nat} (ti : TI P fd.type z sz bt) (hsz : sz ≠ 0) (hx : ρ x = .pointer (some ⟨b, off, none⟩)) :
    sil P (execOp ρ o) (.value (.pointer (some ⟨b, off + d, none⟩))) := by
  subst hd
  simp only [execOp, ho, hx]
  refine sil_map Next.value ?_
  unfold Instr.fieldAt
  refine sil_bind _ _ (sil_underlying hu) ?_
  simp only [hf]
  refine sil_bind _ _ (y := (⟨b, off, none⟩ : Addr)) ?_ (sil_bind _ _ (y := ⟨b, off + fd.offset, none⟩) ?_ (sil_pure _))
  · unfold Instr.sureAddr; exact sil_pure _
  · unfold fieldPlace
    refine sil_bind _ _ (sil_sizeOf ti) ?_
    rw [if_neg hsz, add_mk]; exact sil_pure _

/-! ### The rules -/
theorem goes_sil {Stop : Frame → List Frame → Know → Prop} {a : Act} {b : Frame} {k : List Item} {cs : List Frame} {ops : Array Oper} {i : Nat} {rest : List Nat} {o : Oper} {v : Value} (ho : ops[i]? = some o) (hw : Region.wanted o (yielded ops a.tmps) = true) (hk : b.kind ≠ .early)
    (hs : sil P (execOp a.eval o) (.value v)) (g : GoesS A P main Stop (b.at (a.put o.dst v) (.inRegion ops rest :: k)) cs h) : GoesS A P main Stop (b.at a (.inRegion ops (i :: rest) :: k)) cs h := by
  refine GoesS.move (fun w => ?_) g
  obtain ⟨h1, h2⟩ := sil_run hs w
  rw [Conc.stepG_value ho hw hk h1]
  unfold listed
  rw [h2, Conc.seen_none]
theorem opsE_sil {ops : Array Oper} {rest : List Oper} {o : Oper} {v : Value} (hb : opB n E o = true) (hs : sil P (execOp E.ev o) (.value v)) (next : OpsE A P main n ops rest Q ds (E.put o.dst v) h) : OpsE A P main n ops (o :: rest) Q ds E h := by
  obtain ⟨hg, hdst, hn, hh⟩ := opB_spec hb
  intro a b k cs Stop i hf hk hl hc
  have ho : ops[i]? = some o := by simpa using (hl 0).symm
  rw [List.length_cons, List.range'_succ]
  have hl' : ∀ j, rest[j]? = ops[i + 1 + j]? := fun j => by have := hl (j + 1); simpa [Nat.add_assoc, Nat.add_comm 1 j] using this
  exact goes_sil ho (by simp [Region.wanted, hg]) hk (by rw [evalOk hf (notSelect_spec hn) hh]; exact hs) (next _ b k cs Stop (i + 1) (hf.put _ _ hdst) hk hl' hc)
theorem opsE_silG {ops : Array Oper} {rest : List Oper} {o : Oper} {v : Value} {j d : Nat} {b : Bool} (hg : o.guard = some (j, b)) (hj : (ops[j]?).bind (·.dst) = some d) (hlk : E.look d = some (.bool b)) (hdst : ∀ t, o.dst = some t → t < n) (hn : notSelect o.op = true) (hh : o.op.operands.all E.has = true)
    (hs : sil P (execOp E.ev o) (.value v)) (next : OpsE A P main n ops rest Q ds (E.put o.dst v) h) : OpsE A P main n ops (o :: rest) Q ds E h := by
  intro a bb k cs Stop i hf hk hl hc
  have ho : ops[i]? = some o := by simpa using (hl 0).symm
  rw [List.length_cons, List.range'_succ]
  have hl' : ∀ j, rest[j]? = ops[i + 1 + j]? := fun j => by have := hl (j + 1); simpa [Nat.add_assoc, Nat.add_comm 1 j] using this
  exact goes_sil ho (by simp [Region.wanted, hg, yielded_look hf hj hlk]) hk (by rw [evalOk hf (notSelect_spec hn) hh]; exact hs) (next _ bb k cs Stop (i + 1) (hf.put _ _ hdst) hk hl' hc)

/-- A pure operation. -/
theorem mp (hT : T.ok P) {ops : Array Oper} {rest : List Oper} {d : Nat} {op : Op} {ty : TypeId} {pos : String} {after : Array Edge} {v : Value} (hb : pureE T n E d op = some v) (next : OpsE A P main n ops rest Q ds ((d, v) :: E) h) :
    OpsE A P main n ops (⟨some d, op, ty, pos, after, none⟩ :: rest) Q ds E h := by
  unfold pureE at hb
  cases hd : Nat.blt d n with
  | false => rw [hd] at hb; cases hb
  | true =>
    rw [hd] at hb
    obtain ⟨h1, h2, h3⟩ := pureO_spec hb
    refine opsE_sil (o := ⟨some d, op, ty, pos, after, none⟩) ?_ (sil_pureV hT h1) next
    simp [opB, h2, hd]
    simpa using h3
theorem mpe (hT : T.ok P) {ops : Array Oper} {rest : List Oper} {d : Nat} {op : Op} {ty : TypeId} {pos : String} {after : Array Edge} {v v' : Value} (hb : pureE T n E d op = some v) (e : v = v') (next : OpsE A P main n ops rest Q ds ((d, v') :: E) h) :
    OpsE A P main n ops (⟨some d, op, ty, pos, after, none⟩ :: rest) Q ds E h := mp hT hb (e ▸ next)
/-- .. whose guard is met. -/
theorem mpg (hT : T.ok P) {ops : Array Oper} {rest : List Oper} {d : Nat} {op : Op} {ty : TypeId} {pos : String} {after : Array Edge} {v v' : Value} {j d' : Nat} {b : Bool} (hj : (ops[j]?).bind (·.dst) = some d') (hlk : E.look d' = some (.bool b)) (hb : pureE T n E d op = some v) (e : v = v')
    (next : OpsE A P main n ops rest Q ds ((d, v') :: E) h) : OpsE A P main n ops (⟨some d, op, ty, pos, after, some (j, b)⟩ :: rest) Q ds E h := by
  subst e
  unfold pureE at hb
  cases hd : Nat.blt d n with
  | false => rw [hd] at hb; cases hb
  | true =>
    rw [hd] at hb
    obtain ⟨h1, h2, h3⟩ := pureO_spec hb
    exact opsE_silG (o := ⟨some d, op, ty, pos, after, some (j, b)⟩) rfl hj hlk (fun t e => by cases e; simpa [Nat.blt_eq] using hd) h2 (by simpa using h3) (sil_pureV hT h1) next
/-- .. whose guard is not met. -/
theorem mps {ops : Array Oper} {rest : List Oper} {d : Nat} {op : Op} {ty : TypeId} {pos : String} {after : Array Edge} {j d' : Nat} {b b' : Bool} (hj : (ops[j]?).bind (·.dst) = some d') (hlk : E.look d' = some (.bool b')) (hne : (b' != b) = true) (hd : Nat.blt d n = true)
    (next : OpsE A P main n ops rest Q ds ((d, undef) :: E) h) : OpsE A P main n ops (⟨some d, op, ty, pos, after, some (j, b)⟩ :: rest) Q ds E h :=
  opsE_passed (o := ⟨some d, op, ty, pos, after, some (j, b)⟩) rfl hj hlk (by simpa using hne) (fun t e => by cases e; simpa [Nat.blt_eq] using hd) next
/-- An operation by a law. -/
theorem mr {ops : Array Oper} {rest : List Oper} {d : Nat} {op : Op} {ty : TypeId} {pos : String} {after : Array Edge} {v v' : Value} (hb : opB n E ⟨some d, op, ty, pos, after, none⟩ = true) (hs : sil P (execOp E.ev ⟨some d, op, ty, pos, after, none⟩) (.value v)) (e : v = v')
    (next : OpsE A P main n ops rest Q ds ((d, v') :: E) h) : OpsE A P main n ops (⟨some d, op, ty, pos, after, none⟩ :: rest) Q ds E h := opsE_sil hb hs (e ▸ next)

/-- A call of a Go function. -/
theorem sil_callFn {ρ : Operand → Value} {o : Oper} {x : Operand} {args : Array Operand} {ats : Array TypeId} {f : FuncId} {fn : Func} {first captured : Array Value} (ho : o.op = .call { callee := .value x, args, argTypes := ats }) (hx : ρ x = .func (.func f) first captured) (hf : P.funcs[f]? = some fn)
    (hname : (fn.name == "runtime.NumGoroutine") = false) (hbody : fn.body.isNone = false) : sil P (execOp ρ o) (.enter f (first ++ args.map ρ ++ captured)) := by
  have e1 : execOp ρ o = (do let d ← resolve ρ { callee := .value x, args, argTypes := ats } o.type; invoke d.target d.args) := by
    unfold execOp; simp only [ho]
  have e2 : resolve ρ { callee := .value x, args, argTypes := ats } o.type = pure { target := .fn (.func f) captured, args := first ++ args.map ρ } := by
    unfold resolve; simp only [hx]; rfl
  rw [e1, e2]
  refine sil_bind _ _ (sil_pure _) ?_
  show sil P (callFunc f (first ++ args.map ρ ++ captured)) _
  unfold callFunc
  refine sil_bind _ _ sil_program ?_
  rw [hf]
  simp only [hname, hbody, Bool.false_eq_true, if_false]
  exact sil_pure _
theorem mcall {ops : Array Oper} {rest : List Oper} {o : Oper} {f : Nat} {fn : Func} {x : Operand} {args : Array Operand} {ats : Array TypeId} {first captured : Array Value} {vs : List Value} {R : Value → Know → Prop} (ho : o.op = .call { callee := .value x, args, argTypes := ats })
    (hb : opB n E o = true) (hx : E.ev x = .func (.func f) first captured) (hf : P.funcs[f]? = some fn) (hname : (fn.name == "runtime.NumGoroutine") = false) (hbody : fn.body.isNone = false)
    (ha : first.toList ++ args.toList.map E.ev ++ captured.toList = vs) (hc : CallS A P main f vs.toArray h (fun e h' => ∃ v, e = .returned v ∧ R v h')) (next : ∀ v h', R v h' → OpsE A P main n ops rest Q ds (E.put o.dst v) h') :
    OpsE A P main n ops (o :: rest) Q ds E h := by
  obtain ⟨hg, hdst, hn, hh⟩ := opB_spec hb
  intro a b k cs Stop i hf' hk hl hcc
  have hoi : ops[i]? = some o := by simpa using (hl 0).symm
  rw [List.length_cons, List.range'_succ]
  have hl' : ∀ j, rest[j]? = ops[i + 1 + j]? := fun j => by have := hl (j + 1); simpa [Nat.add_assoc, Nat.add_comm 1 j] using this
  have hfin : ∀ v, (b.at a (.inRegion ops (i :: List.range' (i + 1) rest.length) :: k)).finish v = b.at (a.put o.dst v) (.inRegion ops (List.range' (i + 1) rest.length) :: k) := fun v => by rw [Frame.finish_at, hoi]; rfl
  have hs : sil P (execOp a.eval o) (.enter f vs.toArray) := by
    rw [evalOk hf' (notSelect_spec hn) hh]
    have e : first ++ args.map E.ev ++ captured = vs.toArray := by rw [← ha]; apply Array.ext'; simp
    rw [← e]; exact sil_callFn ho hx hf hname hbody
  refine GoesS.move (fun w => ?_) (hc (b.at a (.inRegion ops (i :: List.range' (i + 1) rest.length) :: k)) cs Stop (fun v h' ⟨v', e, r⟩ => ?_) (fun ch h' ⟨v', e, _⟩ => (by cases e)))
  · obtain ⟨h1, h2⟩ := sil_run hs w
    rw [Conc.stepG_enter hoi (by simp [Region.wanted, hg]) hk h1]
    unfold listed
    rw [h2, Conc.seen_none]
  · cases e
    rw [hfin]
    exact next v h' r _ b k cs Stop (i + 1) (hf'.put _ _ hdst) hk hl' hcc

/-- A deferred call is noted. -/
theorem mdefer {ops : Array Oper} {rest : List Oper} {o : Oper} {f : FuncId} {as : Array Operand} {ats : Array TypeId} {vs : List Value} (ho : o.op = .defer { callee := .value (.func f), args := as, argTypes := ats }) (hg : o.guard = none) (hd : o.dst = none) (hh : as.toList.all E.has = true) (ha : as.toList.map E.ev = vs)
    (next : OpsE A P main n ops rest Q (Conc.dcall f vs.toArray :: ds) E h) : OpsE A P main n ops (o :: rest) Q ds E h := by
  intro a b k cs Stop i hf hk hl hc
  have hoi : ops[i]? = some o := by simpa using (hl 0).symm
  rw [List.length_cons, List.range'_succ]
  have hl' : ∀ j, rest[j]? = ops[i + 1 + j]? := fun j => by have := hl (j + 1); simpa [Nat.add_assoc, Nat.add_comm 1 j] using this
  have e : as.map a.eval = vs.toArray := by
    rw [← ha]; apply Array.ext'
    simp only [Array.toList_map]
    refine List.map_congr_left fun x hx => ?_
    rw [List.all_eq_true] at hh
    exact hf.eval (hh x hx)
  refine GoesS.move (fun w => Conc.stepG_defer (f := f) hoi (by simp [Region.wanted, hg]) hk ho) ?_
  rw [e]
  refine next (Act.put ⟨a.tmps, Conc.dcall f vs.toArray :: a.defers⟩ o.dst undef) b k cs Stop (i + 1) ⟨?_, fun t v e => ?_, ?_⟩ hk hl' hc
  · simp [Act.put, hd, hf.size]
  · simp only [Act.put, hd]; exact hf.look t v e
  · simp [Act.put, hd, hf.defers]

/-- An entry that yields a value and lists nothing. -/
theorem mext {ops : Array Oper} {rest : List Oper} {o : Oper} {f : FuncId} {fn : Func} {as : Array Operand} {ats : Array TypeId} (v : Value) (ho : o.op = .call { callee := .value (.func f), args := as, argTypes := ats }) (hb : opB n E o = true)
    (hf : P.funcs[f]? = some fn) (hname : (fn.name == "runtime.NumGoroutine") = false) (hbd : fn.body.isNone = true) (hn : Extern.findNext fn = none) (he : Extern.find fn = some (fun _ => pure v)) (next : OpsE A P main n ops rest Q ds (E.put o.dst v) h) : OpsE A P main n ops (o :: rest) Q ds E h := by
  obtain ⟨hg, hdst, hn', hh⟩ := opB_spec hb
  intro a b k cs Stop i hf' hk hl hc
  have hoi : ops[i]? = some o := by simpa using (hl 0).symm
  rw [List.length_cons, List.range'_succ]
  have hl' : ∀ j, rest[j]? = ops[i + 1 + j]? := fun j => by have := hl (j + 1); simpa [Nat.add_assoc, Nat.add_comm 1 j] using this
  exact GoesS.move (fun w => Conc.stepG_entry_pure v hoi (by simp [Region.wanted, hg]) hk ho hf hname hbd hn he) (next _ b k cs Stop (i + 1) (hf'.put _ _ hdst) hk hl' hc)

/-! ### Contracts out of walks, where the results are moves -/
def bodyM (P : Program) (fn : Func) (R : Value → Know → Prop) : Post := fun e ds E h =>
  match e with
  | .normal | .ret => ds = [] ∧ ∀ a, Fit a fn.ntmps ds E → ∃ v, sil P (results fn a.tmps) v ∧ R v h
  | _ => False
theorem bodyM_none {fn : Func} {R : Value → Know → Prop} (hr : fn.results = #[]) (hR : R (.tuple #[]) h) : bodyM P fn R .ret [] E h :=
  ⟨rfl, fun a _ => ⟨.tuple #[], by simp [results, hr]; exact sil_pure _, hR⟩⟩
theorem bodyM_end {fn : Func} {R : Value → Know → Prop} (hr : fn.results = #[]) (hR : R (.tuple #[]) h) : bodyM P fn R .normal [] E h :=
  ⟨rfl, fun a _ => ⟨.tuple #[], by simp [results, hr]; exact sil_pure _, hR⟩⟩
theorem bodyM_one {fn : Func} {R : Value → Know → Prop} {t : Tmp} {v : Value} (hr : fn.results = #[.tmp t]) (hl : E.look t = some v) (hR : R v h) : bodyM P fn R .ret [] E h :=
  ⟨rfl, fun a hf => ⟨v, by
    have e : results fn a.tmps = pure v := by simp [results, hr, hf.look t v hl]
    rw [e]; exact sil_pure _, hR⟩⟩
theorem goes_leave {Stop : Frame → List Frame → Know → Prop} {b : Frame} {a : Act} {cs : List Frame} {fn : Func} {todo : List Item} {c : Frame} {v : Value} (hn : b.kind = .normal) (hd : a.defers = []) (hf : P.funcs[b.fn]? = some fn) (hs : sil P (results fn a.tmps) v)
    (g : GoesS A P main Stop (c.finish v) cs h) : GoesS A P main Stop { b.at a todo with mode := .returning } (c :: cs) h :=
  GoesS.move (fun w => Conc.stepG_leave hn hd hf (sil_run hs w).1 (sil_run hs w).2) g
theorem callM_of_wpE {f : FuncId} {fn : Func} {c : Code} {args : List Value} {R : Value → Know → Prop} (hf : P.funcs[f]? = some fn) (hb : fn.body = some c) (hs : args.length ≤ fn.ntmps)
    (hw : wpE A P main fn.ntmps c (bodyM P fn R) [] (argsE 0 args) h) : CallS A P main f args.toArray h (fun e h' => ∃ v, e = .returned v ∧ R v h') := by
  intro cal cs Stop h1 h2
  rw [Conc.enter_at _ hf hb]
  refine hw _ (Conc.base f) [] (cal :: cs) Stop (argsFit hs) (by simp [Conc.base]) fun e ds' E' h' a' q hfit => ?_
  cases e with
  | normal =>
    obtain ⟨rfl, q⟩ := q
    obtain ⟨v, hv, hR⟩ := q a' hfit
    exact GoesS.move (fun w => Conc.stepG_end) (goes_leave (b := Conc.base f) rfl hfit.defers hf hv (h1 v h' ⟨v, rfl, hR⟩))
  | ret =>
    obtain ⟨rfl, q⟩ := q
    obtain ⟨v, hv, hR⟩ := q a' hfit
    exact fun todo => goes_leave (b := Conc.base f) rfl hfit.defers hf hv (h1 v h' ⟨v, rfl, hR⟩)
  | panic ch => exact q.elim
  | exit id => exact q.elim
  | goto l => exact q.elim
  | outgrown => exact q.elim
end
end KL
end Go.Proofs.YtlmecmapkijcnaaDoor

set_option linter.unusedVariables false
namespace Go.Proofs.YtlmecmapkijcnaaDoor
namespace KL
open Go.Conc (G listed QuitsD semEvents)

/-- Function f is the model's entry e. -/
def Ext (P : Program) (f : FuncId) (e : Array Value → Sem Value) : Prop :=
  ∃ fn, P.funcs[f]? = some fn ∧ (fn.name == "runtime.NumGoroutine") = false ∧ fn.body.isNone = true ∧ Extern.findNext fn = none ∧ Extern.find fn = some e
def markE (m : Mark) : Array Value → Sem Value := fun _ => do mark m; pure Extern.Race.none_

section
variable {P : Program} {h : Know} {o : Oper} {ρ : Operand → Value} {f : FuncId} {as : Array Operand} {ats : Array TypeId} {p : Ph} {st sm : Int} {w : World}

theorem gcell (h : Grp p w st sm) : w.cell? (cel p.gb 0) = some (.int .u64 st) ∧ w.cell? (cel p.gb 1) = some (.int .u32 sm) ∧ ∀ i, w.frozen? (cel p.gb i) = false := by
  unfold Grp at h
  refine ⟨?_, ?_, fun i => ?_⟩ <;> simp [World.cell?, World.frozen?, cel, h]
theorem ccell {x : Int} (h : Cnt p w x) : w.cell? (cel p.cb 0) = some (.int .i64 x) ∧ w.frozen? (cel p.cb 0) = false := by
  unfold Cnt at h
  refine ⟨?_, ?_⟩ <;> simp [World.cell?, World.frozen?, cel, h]

theorem evalArgs {a : Act} (hop : o.op = .call { callee := .value (.func f), args := as, argTypes := ats }) (hρ : ∀ x ∈ o.op.operands, a.eval x = ρ x) : as.map a.eval = as.map ρ := by
  apply Array.ext'
  simp only [Array.toList_map]
  refine List.map_congr_left fun x hx => hρ x ?_
  rw [hop]
  simp only [Op.operands, Call.operands]
  exact Array.mem_append.2 (.inr (Array.mem_toList_iff.1 hx))
theorem evalOne {a : Act} {x : Operand} (hop : o.op = .call { callee := .value (.func f), args := #[x], argTypes := ats }) (hρ : ∀ x ∈ o.op.operands, a.eval x = ρ x) : a.eval x = ρ x := by
  have := evalArgs hop hρ
  simpa using this
theorem evalTwo {a : Act} {x y : Operand} (hop : o.op = .call { callee := .value (.func f), args := #[x, y], argTypes := ats }) (hρ : ∀ x ∈ o.op.operands, a.eval x = ρ x) : a.eval x = ρ x ∧ a.eval y = ρ y := by
  have := evalArgs hop hρ
  simpa using this
theorem evalThree {a : Act} {x y z : Operand} (hop : o.op = .call { callee := .value (.func f), args := #[x, y, z], argTypes := ats }) (hρ : ∀ x ∈ o.op.operands, a.eval x = ρ x) : a.eval x = ρ x ∧ a.eval y = ρ y ∧ a.eval z = ρ z := by
  have := evalArgs hop hρ
  simpa using this

section
variable {main : Bool} {b : Frame} {a : Act} {kk : List Item} {cs : List Frame} {ops : Array Oper} {i : Nat} {rest : List Nat}
theorem step_mark {m : Mark} (hx : Ext P f (markE m)) (hm : ∀ g, m ≠ .extern g) (hop : o.op = .call { callee := .value (.func f), args := as, argTypes := ats }) (ho : ops[i]? = some o) (hw : Region.wanted o (yielded ops a.tmps) = true) (hk : b.kind ≠ .early) (w : World) :
    stepG P main (G (b.at a (.inRegion ops (i :: rest) :: kk)) cs) w = .go (G (b.at (a.put o.dst (.tuple #[])) (.inRegion ops rest :: kk)) cs) w #[evM m] := by
  obtain ⟨fn, h1, h2, h3, h4, h5⟩ := hx
  exact Conc.stepG_mark0 m hm ho hw hk hop h1 h2 h3 h4 h5
theorem step_markAt {mk : Addr → Mark} {ad : Addr} {x : Operand} (hx : Ext P f (Extern.Race.marked mk)) (hm : ∀ ad g, mk ad ≠ .extern g) (hop : o.op = .call { callee := .value (.func f), args := #[x], argTypes := ats }) (hρ : ∀ x ∈ o.op.operands, a.eval x = ρ x) (hv : ρ x = .pointer (some ad)) (ho : ops[i]? = some o)
    (hw : Region.wanted o (yielded ops a.tmps) = true) (hk : b.kind ≠ .early) (w : World) :
    stepG P main (G (b.at a (.inRegion ops (i :: rest) :: kk)) cs) w = .go (G (b.at (a.put o.dst (.tuple #[])) (.inRegion ops rest :: kk)) cs) w #[evM (mk ad)] := by
  obtain ⟨fn, h1, h2, h3, h4, h5⟩ := hx
  exact Conc.stepG_markAt mk hm ho hw hk hop h1 h2 h3 h4 h5 (by simp [evalOne hop hρ, hv])
theorem step_add {k : IntKind} {ad : Addr} {x y : Operand} {v d v' : Int} (hx : Ext P f (Extern.Atomic.update (Op.intArith .add) k true)) (hop : o.op = .call { callee := .value (.func f), args := #[x, y], argTypes := ats }) (hρ : ∀ x ∈ o.op.operands, a.eval x = ρ x) (hv : ρ x = .pointer (some ad)) (hd : ρ y = .int k d) (ho : ops[i]? = some o)
    (hw : Region.wanted o (yielded ops a.tmps) = true) (hk : b.kind ≠ .early) (hc : w.cell? ad = some (.int k v)) (hz : w.frozen? ad = false) (he : k.wrap (v + d) = v') :
    stepG P main (G (b.at a (.inRegion ops (i :: rest) :: kk)) cs) w = .go (G (b.at (a.put o.dst (.int k v')) (.inRegion ops rest :: kk)) cs) (w.setCell ad (.int k v')) #[evR ad, evW ad] := by
  subst he
  obtain ⟨fn, h1, h2, h3, h4, h5⟩ := hx
  obtain ⟨e1, e2⟩ := evalTwo hop hρ
  exact Conc.stepG_add_atomic ho hw hk hop h1 h2 h3 h4 k h5 (by rw [e1, hv]) (by rw [e2, hd]) hc hz
theorem step_load {k : IntKind} {ad : Addr} {x : Operand} {v : Int} (hx : Ext P f (Extern.Atomic.loadT (.int k))) (hop : o.op = .call { callee := .value (.func f), args := #[x], argTypes := ats }) (hρ : ∀ x ∈ o.op.operands, a.eval x = ρ x) (hv : ρ x = .pointer (some ad)) (ho : ops[i]? = some o)
    (hw : Region.wanted o (yielded ops a.tmps) = true) (hk : b.kind ≠ .early) (hc : w.cell? ad = some (.int k v)) :
    stepG P main (G (b.at a (.inRegion ops (i :: rest) :: kk)) cs) w = .go (G (b.at (a.put o.dst (.int k v)) (.inRegion ops rest :: kk)) cs) w #[evR ad] := by
  obtain ⟨fn, h1, h2, h3, h4, h5⟩ := hx
  exact Conc.stepG_load_atomic ho hw hk hop h1 h2 h3 h4 k h5 (by rw [evalOne hop hρ, hv]) hc
theorem step_store {k : IntKind} {ad : Addr} {x y : Operand} {v : Int} {u : Value} (hx : Ext P f Extern.Atomic.storeT) (hop : o.op = .call { callee := .value (.func f), args := #[x, y], argTypes := ats }) (hρ : ∀ x ∈ o.op.operands, a.eval x = ρ x) (hv : ρ x = .pointer (some ad)) (hy : ρ y = .int k v) (ho : ops[i]? = some o)
    (hw : Region.wanted o (yielded ops a.tmps) = true) (hk : b.kind ≠ .early) (hc : w.cell? ad = some u) (hz : w.frozen? ad = false) :
    stepG P main (G (b.at a (.inRegion ops (i :: rest) :: kk)) cs) w = .go (G (b.at (a.put o.dst (.tuple #[])) (.inRegion ops rest :: kk)) cs) (w.setCell ad (.int k v)) #[evW ad] := by
  obtain ⟨fn, h1, h2, h3, h4, h5⟩ := hx
  obtain ⟨e1, e2⟩ := evalTwo hop hρ
  exact Conc.stepG_store_atomic ho hw hk hop h1 h2 h3 h4 h5 (by rw [e1, hv]) (by rw [e2, hy]) hc hz
end

/-! ### A worker's -/
def RDraw (p : Ph) (c : Nat) (h : Know) (v : Value) (h' : Know) : Prop := ∃ x : Nat, c ≤ x ∧ x ≤ 2 ^ 40 ∧ v = .int .i64 (x + 1 : Nat) ∧ h' = ⟨h.blk, .wrk p (if x < p.n then .has x else .out)⟩
theorem actW_draw {x y : Operand} {c : Nat} (hx : Ext P f (Extern.Atomic.update (Op.intArith .add) .i64 true)) (hop : o.op = .call { callee := .value (.func f), args := #[x, y], argTypes := ats }) (hg : h.gh = .wrk p (.run c)) (h1 : ρ x = .pointer (some (cel p.cb 0))) (h2 : ρ y = .int .i64 1) :
    ActO actsW P false o ρ h (RDraw p c h) := fun a b k cs ops i rest hρ ho hw hk => ⟨rfl, .draw p c hg fun w x hc hxx hcnt => by
  obtain ⟨e1, e2⟩ := ccell hcnt
  exact ⟨_, step_add (v' := ((x + 1 : Nat) : Int)) hx hop hρ h1 h2 ho hw hk e1 e2 (by rw [IntKind.wrap_i64]; omega), _, ⟨x, hc, hxx, rfl, rfl⟩, rfl, rfl⟩⟩
theorem actW_rel {x : Operand} (hx : Ext P f (Extern.Race.marked .releaseMerge)) (hop : o.op = .call { callee := .value (.func f), args := #[x], argTypes := ats }) (hg : h.gh = .wrk p .out) (h1 : ρ x = .pointer (some (cel p.gb 0))) :
    ActO actsW P false o ρ h (fun v h' => h' = ⟨h.blk, .wrk p .rel⟩) := fun a b k cs ops i rest hρ ho hw hk => ⟨rfl, .rel p hg _ (step_markAt hx (by simp) hop hρ h1 ho hw hk) ⟨_, rfl, rfl, rfl⟩⟩
theorem actW_dis (hx : Ext P f (markE .disable)) (hop : o.op = .call { callee := .value (.func f), args := as, argTypes := ats }) (hg : h.gh = .wrk p .rel) :
    ActO actsW P false o ρ h (fun v h' => h' = ⟨h.blk, .wrk p .dea⟩) := fun a b k cs ops i rest hρ ho hw hk => ⟨rfl, .dis p hg _ (step_mark hx (by simp) hop ho hw hk) ⟨_, rfl, rfl, rfl⟩⟩
def RDown (p : Ph) (h : Know) (v : Value) (h' : Know) : Prop := ∃ n wt : Nat, wt ≤ 1 ∧ n < 2147483647 ∧ v = .int .u64 (n * KK + wt) ∧ h' = ⟨h.blk, .wrk p (if n = 0 ∧ wt = 1 then .last1 else .gone)⟩
theorem actW_down {x y : Operand} (hx : Ext P f (Extern.Atomic.update (Op.intArith .add) .u64 true)) (hop : o.op = .call { callee := .value (.func f), args := #[x, y], argTypes := ats }) (hg : h.gh = .wrk p .dea) (h1 : ρ x = .pointer (some (cel p.gb 0))) (h2 : ρ y = .int .u64 18446744069414584320) :
    ActO actsW P false o ρ h (RDown p h) := fun a b k cs ops i rest hρ ho hw hk => ⟨rfl, .down p hg fun w v wt hwt hv hgrp => by
  obtain ⟨e1, e2, e3⟩ := gcell hgrp
  exact ⟨_, step_add (v' := v * KK + wt) hx hop hρ h1 h2 ho hw hk e1 (e3 0) (by rw [IntKind.wrap_u64]; unfold KK; omega), _, ⟨v, wt, hwt, hv, rfl, rfl⟩, rfl, rfl⟩⟩
theorem actW_last1 {x : Operand} (hx : Ext P f (Extern.Atomic.loadT (.int .u64))) (hop : o.op = .call { callee := .value (.func f), args := #[x], argTypes := ats }) (hg : h.gh = .wrk p .last1) (h1 : ρ x = .pointer (some (cel p.gb 0))) :
    ActO actsW P false o ρ h (fun v h' => v = .int .u64 1 ∧ h' = ⟨h.blk, .wrk p .last2⟩) := fun a b k cs ops i rest hρ ho hw hk => ⟨rfl, .last1 p hg fun w hgrp => ⟨_, step_load hx hop hρ h1 ho hw hk (gcell hgrp).1, _, ⟨rfl, rfl⟩, rfl, rfl⟩⟩
theorem actW_last2 {x y : Operand} (hx : Ext P f Extern.Atomic.storeT) (hop : o.op = .call { callee := .value (.func f), args := #[x, y], argTypes := ats }) (hg : h.gh = .wrk p .last2) (h1 : ρ x = .pointer (some (cel p.gb 0))) (h2 : ρ y = .int .u64 0) :
    ActO actsW P false o ρ h (fun v h' => h' = ⟨h.blk, .wrk p .last3⟩) := fun a b k cs ops i rest hρ ho hw hk => ⟨rfl, .last2 p hg fun w hgrp => ⟨_, step_store hx hop hρ h1 h2 ho hw hk (gcell hgrp).1 ((gcell hgrp).2.2 0), _, rfl, rfl, rfl⟩⟩
theorem actW_last3 {x : Operand} (hx : Ext P f Extern.Sync.semrelease) (hop : o.op = .call { callee := .value (.func f), args := as, argTypes := ats }) (hg : h.gh = .wrk p .last3) (h0 : as[0]? = some x) (h1 : ρ x = .pointer (some (cel p.gb 1))) :
    ActO actsW P false o ρ h (fun v h' => h' = ⟨h.blk, .wrk p .gone⟩) := fun a b k cs ops i rest hρ ho hw hk => by
  obtain ⟨fn, f1, f2, f3, f4, f5⟩ := hx
  have hxv : (as.map a.eval)[0]? = some (.pointer (some (cel p.gb 1))) := by rw [evalArgs hop hρ, Array.getElem?_map, h0, Option.map_some, h1]
  refine ⟨rfl, .last3 p hg ?_ fun w hgrp => ⟨_, ?_, .tuple #[], rfl, rfl, rfl⟩⟩
  · have hbs : fn.body.isSome = false := by cases e : fn.body <;> simp_all
    simp [mayWake, G, Frame.at, ho, hop, Frame.eval, f1, hbs]
  · have := Conc.stepG_semrelease (P := P) (main := false) (w := w) (cs := cs) (kk := k) (rest := rest) ho hw hk hop f1 f2 f3 f4 f5 hxv (gcell hgrp).2.1 ((gcell hgrp).2.2 1)
    exact this
/-- A pointer's conversion looks at the group's block. -/
theorem step_look {main : Bool} {b : Frame} {a : Act} {kk : List Item} {cs : List Frame} {ops : Array Oper} {i : Nat} {rest : List Nat} {s d t : TypeId} {x : Operand} {c : Nat} (hop : o.op = .convert s d x) (hs : P.underlying s = some (.pointer t)) (hd : P.underlying d = some .unsafePointer)
    (hz : (P.info? t).map (fun i => decide (i.size = 0)) = some false) (hc : c = 0 ∨ c = 1) (hρ : ∀ x ∈ o.op.operands, a.eval x = ρ x) (hv : ρ x = .pointer (some (cel p.gb c))) (ho : ops[i]? = some o) (hw : Region.wanted o (yielded ops a.tmps) = true) (hk : b.kind ≠ .early) (hgrp : Grp p w st sm) :
    stepG P main (G (b.at a (.inRegion ops (i :: rest) :: kk)) cs) w = .go (G (b.at (a.put o.dst (.pointer (some (cel p.gb c)))) (.inRegion ops rest :: kk)) cs) w := by
  have hx : a.eval x = .pointer (some (cel p.gb c)) := by rw [hρ x (by rw [hop]; simp [Op.operands]), hv]
  have hcell : ∃ v, w.cell? (cel p.gb c) = some v := by
    rcases hc with rfl | rfl
    · exact ⟨_, (gcell hgrp).1⟩
    · exact ⟨_, (gcell hgrp).2.1⟩
  obtain ⟨v, hcell⟩ := hcell
  have hr : (execOp a.eval o).run P w = .ok (.value (.pointer (some (cel p.gb c)))) w := by
    simp only [execOp, hop, hx]
    rw [Sem.run_bind, run_convert_to_unsafe hs hd hz hcell]; rfl
  have he : (execOp a.eval o).events P w #[] = #[] := by
    simp only [execOp, hop, hx]
    rw [Sem.events_bind, run_convert_to_unsafe hs hd hz hcell, Conc.events_convert_to_unsafe hs hd hz hcell]; rfl
  rw [Conc.stepG_value ho hw hk hr]
  unfold listed
  rw [he, Conc.seen_none]
theorem actW_look {s d t : TypeId} {x : Operand} {c : Nat} (hop : o.op = .convert s d x) (hs : P.underlying s = some (.pointer t)) (hd : P.underlying d = some .unsafePointer)
    (hz : (P.info? t).map (fun i => decide (i.size = 0)) = some false) (hc : c = 0 ∨ c = 1) (hg : h.gh = .wrk p .out) (h1 : ρ x = .pointer (some (cel p.gb c))) : ActO actsW P false o ρ h (fun v h' => v = .pointer (some (cel p.gb c)) ∧ h' = h) := fun a b k cs ops i rest hρ ho hw hk =>
  ⟨rfl, .look p hg _ (fun w st sm hgrp => step_look hop hs hd hz hc hρ h1 ho hw hk hgrp) ⟨_, ⟨rfl, rfl⟩, rfl, rfl⟩⟩

/-! ### The starter's -/
theorem actM_opn (hx : Ext P f (markE .disable)) (hop : o.op = .call { callee := .value (.func f), args := as, argTypes := ats }) (hg : h.gh = .idle) (hp : Opens p h) :
    ActO actsM P true o ρ h (fun v h' => h' = ⟨openB p h.blk, .main p (.add1 0)⟩) := fun a b k cs ops i rest hρ ho hw hk => ⟨rfl, .opn p hg hp _ (step_mark hx (by simp) hop ho hw hk) ⟨_, rfl, rfl, rfl⟩⟩
theorem actM_dis {j : Nat} (hx : Ext P f (markE .disable)) (hop : o.op = .call { callee := .value (.func f), args := as, argTypes := ats }) (hg : h.gh = .main p (.add j)) :
    ActO actsM P true o ρ h (fun v h' => h' = ⟨h.blk, .main p (if j < p.W then .add1 j else .w1 p.W)⟩) := fun a b k cs ops i rest hρ ho hw hk => ⟨rfl, .dis p j hg _ (step_mark hx (by simp) hop ho hw hk) ⟨_, rfl, rfl, rfl⟩⟩
def RUp (p : Ph) (j : Nat) (h : Know) (v : Value) (h' : Know) : Prop := ∃ n : Nat, n < 2147483647 ∧ v = .int .u64 ((n + 1 : Nat) * KK) ∧ h' = ⟨h.blk, .main p (.add2 j)⟩
theorem actM_up {j : Nat} {x y : Operand} (hx : Ext P f (Extern.Atomic.update (Op.intArith .add) .u64 true)) (hop : o.op = .call { callee := .value (.func f), args := #[x, y], argTypes := ats }) (hg : h.gh = .main p (.add1 j)) (h1 : ρ x = .pointer (some (cel p.gb 0))) (h2 : ρ y = .int .u64 4294967296) :
    ActO actsM P true o ρ h (RUp p j h) := fun a b k cs ops i rest hρ ho hw hk => ⟨rfl, .up p j hg fun w v hv hgrp => by
  obtain ⟨e1, e2, e3⟩ := gcell hgrp
  exact ⟨_, step_add (v' := ((v + 1 : Nat) : Int) * KK) hx hop hρ h1 h2 ho hw hk e1 (e3 0) (by rw [IntKind.wrap_u64]; unfold KK; omega), _, ⟨v, hv, rfl, rfl⟩, rfl, rfl⟩⟩
theorem actM_rdm {j : Nat} {x : Operand} (hx : Ext P f (Extern.Race.marked .read)) (hop : o.op = .call { callee := .value (.func f), args := #[x], argTypes := ats }) (hg : h.gh = .main p (.add2 j)) (h1 : ρ x = .pointer (some (cel p.gb 1))) :
    ActO actsM P true o ρ h (fun v h' => h' = h) := fun a b k cs ops i rest hρ ho hw hk => ⟨rfl, .rdm p j hg _ (step_markAt hx (by simp) hop hρ h1 ho hw hk) ⟨_, rfl, rfl, rfl⟩⟩
theorem actM_wrm {x : Operand} (hx : Ext P f (Extern.Race.marked .write)) (hop : o.op = .call { callee := .value (.func f), args := #[x], argTypes := ats }) (hg : h.gh = .main p .w3) (h1 : ρ x = .pointer (some (cel p.gb 1))) :
    ActO actsM P true o ρ h (fun v h' => h' = h) := fun a b k cs ops i rest hρ ho hw hk => ⟨rfl, .wrm p hg _ (step_markAt hx (by simp) hop hρ h1 ho hw hk) ⟨_, rfl, rfl, rfl⟩⟩
theorem actM_look {s d t : TypeId} {x : Operand} {c : Nat} {z : SS} (hop : o.op = .convert s d x) (hs : P.underlying s = some (.pointer t)) (hd : P.underlying d = some .unsafePointer)
    (hz : (P.info? t).map (fun i => decide (i.size = 0)) = some false) (hc : c = 0 ∨ c = 1) (hg : h.gh = .main p z) (h1 : ρ x = .pointer (some (cel p.gb c))) : ActO actsM P true o ρ h (fun v h' => v = .pointer (some (cel p.gb c)) ∧ h' = h) := fun a b k cs ops i rest hρ ho hw hk =>
  ⟨rfl, .look p z hg _ (fun w st sm hgrp => step_look hop hs hd hz hc hρ h1 ho hw hk hgrp) ⟨_, ⟨rfl, rfl⟩, rfl, rfl⟩⟩
def RLoad (p : Ph) (vs : Nat) (h : Know) (v : Value) (h' : Know) : Prop := ∃ n : Nat, n ≤ vs ∧ v = .int .u64 (n * KK) ∧ h' = ⟨h.blk, .main p (if n = 0 then .fin else .w2 n)⟩
theorem actM_load {vs : Nat} {x : Operand} (hx : Ext P f (Extern.Atomic.loadT (.int .u64))) (hop : o.op = .call { callee := .value (.func f), args := #[x], argTypes := ats }) (hg : h.gh = .main p (.w1 vs)) (h1 : ρ x = .pointer (some (cel p.gb 0))) :
    ActO actsM P true o ρ h (RLoad p vs h) := fun a b k cs ops i rest hρ ho hw hk => ⟨rfl, .load p vs hg fun w v hv hgrp => ⟨_, step_load hx hop hρ h1 ho hw hk (gcell hgrp).1, _, ⟨v, hv, rfl, rfl⟩, rfl, rfl⟩⟩
theorem actM_load2 {x : Operand} (hx : Ext P f (Extern.Atomic.loadT (.int .u64))) (hop : o.op = .call { callee := .value (.func f), args := #[x], argTypes := ats }) (hg : h.gh = .main p .w4) (h1 : ρ x = .pointer (some (cel p.gb 0))) :
    ActO actsM P true o ρ h (fun v h' => v = .int .u64 0 ∧ h' = ⟨h.blk, .main p .fin⟩) := fun a b k cs ops i rest hρ ho hw hk => ⟨rfl, .load2 p hg fun w hgrp => ⟨_, step_load hx hop hρ h1 ho hw hk (gcell hgrp).1, _, ⟨rfl, rfl⟩, rfl, rfl⟩⟩
def RCas (p : Ph) (vs : Nat) (h : Know) (v : Value) (h' : Know) : Prop := (v = .bool true ∧ h' = ⟨h.blk, .main p .w3⟩) ∨ ∃ n : Nat, n < vs ∧ v = .bool false ∧ h' = ⟨h.blk, .main p (.w1 n)⟩
theorem actM_cas {vs : Nat} {x y z : Operand} (hx : Ext P f (Extern.Atomic.casT (.int .u64))) (hop : o.op = .call { callee := .value (.func f), args := #[x, y, z], argTypes := ats }) (hg : h.gh = .main p (.w2 vs)) (h1 : ρ x = .pointer (some (cel p.gb 0))) (h2 : ρ y = .int .u64 (vs * KK)) (h3 : ρ z = .int .u64 (vs * KK + 1)) :
    ActO actsM P true o ρ h (RCas p vs h) := fun a b k cs ops i rest hρ ho hw hk => ⟨rfl, .cas p vs hg fun w v hv hgrp => by
  obtain ⟨fn, f1, f2, f3, f4, f5⟩ := hx
  obtain ⟨e1, e2, e3⟩ := evalThree hop hρ
  obtain ⟨c1, _, c3⟩ := gcell hgrp
  refine ⟨fun e => ?_, fun hne => ?_⟩
  · subst e
    exact ⟨_, Conc.stepG_cas_hit ho hw hk hop f1 f2 f3 f4 .u64 f5 (by rw [e1, h1]) (by rw [e2, h2]) (by rw [e3, h3]) c1 (c3 0), _, .inl ⟨rfl, rfl⟩, rfl, rfl⟩
  · exact ⟨_, Conc.stepG_cas_miss ho hw hk hop f1 f2 f3 f4 .u64 f5 (by rw [e1, h1]) (by rw [e2, h2]) (by rw [e3, h3]) c1 (c3 0) (by unfold KK; omega), _, .inr ⟨v, by omega, rfl, rfl⟩, rfl, rfl⟩⟩
theorem actM_sem {x : Operand} (hx : Ext P f Extern.Sync.semacquire) (hop : o.op = .call { callee := .value (.func f), args := as, argTypes := ats }) (hg : h.gh = .main p .w3) (h0 : as[0]? = some x) (h1 : ρ x = .pointer (some (cel p.gb 1))) :
    ActO actsM P true o ρ h (fun v h' => h' = ⟨h.blk, .main p .w4⟩) := fun a b k cs ops i rest hρ ho hw hk => by
  obtain ⟨fn, f1, f2, f3, f4, f5⟩ := hx
  have hxv : (as.map a.eval)[0]? = some (.pointer (some (cel p.gb 1))) := by rw [evalArgs hop hρ, Array.getElem?_map, h0, Option.map_some, h1]
  refine ⟨rfl, .sem p hg (fun w st hgrp => ?_) fun w hgrp => ⟨_, ?_, .tuple #[], rfl, rfl, rfl⟩⟩
  · exact Conc.stepG_semacquire_wait ho hw hop f1 f2 f3 f4 f5 hxv (gcell hgrp).2.1
  · exact Conc.stepG_semacquire ho hw hk hop f1 f2 f3 f4 f5 hxv (gcell hgrp).2.1 (by decide) ((gcell hgrp).2.2 1)
theorem actM_en2 (hx : Ext P f (markE .enable)) (hop : o.op = .call { callee := .value (.func f), args := as, argTypes := ats }) (hg : h.gh = .main p .fin) :
    ActO actsM P true o ρ h (fun v h' => h' = ⟨h.blk, .main p .fin2⟩) := fun a b k cs ops i rest hρ ho hw hk => ⟨rfl, .en2 p hg _ (step_mark hx (by simp) hop ho hw hk) ⟨_, rfl, rfl, rfl⟩⟩
theorem actM_acq {x : Operand} (hx : Ext P f (Extern.Race.marked .acquire)) (hop : o.op = .call { callee := .value (.func f), args := #[x], argTypes := ats }) (hg : h.gh = .main p .fin2) (h1 : ρ x = .pointer (some (cel p.gb 0))) :
    ActO actsM P true o ρ h (fun v h' => h' = ⟨shutB p h.blk, .idle⟩) := fun a b k cs ops i rest hρ ho hw hk => ⟨rfl, .acq p hg _ (step_markAt hx (by simp) hop hρ h1 ho hw hk) ⟨_, rfl, rfl, rfl⟩⟩
end
end KL
end Go.Proofs.YtlmecmapkijcnaaDoor
