/- The walk over what is known: one goroutine's own steps, pieces of code, regions, calls. -/
import Derived.Test.YtlmecmapkijcnaaDoorKlCore
set_option linter.unusedVariables false
namespace Go.Proofs.YtlmecmapkijcnaaDoor
namespace KL
open Go.Conc (G listed)

/-- How a walk may go on, by the worlds that it meets. -/
inductive Tr where
  | stop
  | step (k : World → Tr)

/-- The goroutine is on its way to a stop, in whatever world holds what it knows. -/
def GoesT (P : Program) (main : Bool) (Stop : Frame → List Frame → Know → Prop) : Tr → Frame → List Frame → Know → Prop
  | .stop, fr, cs, h => ∃ h', h'.le h ∧ Stop fr cs h'
  | .step k, fr, cs, h => ∀ w, h.holds w → ∃ fr' cs' w' es h', stepG P main (G fr cs) w = .go (G fr' cs') w' es ∧ KStep h w h' w' es ∧ GoesT P main Stop (k w) fr' cs' h'

def GoesS (P : Program) (main : Bool) (Stop : Frame → List Frame → Know → Prop) (fr : Frame) (cs : List Frame) (h : Know) : Prop := ∃ t, GoesT P main Stop t fr cs h

section
variable {P : Program} {main : Bool} {Stop : Frame → List Frame → Know → Prop}

theorem GoesS.stop {fr : Frame} {cs : List Frame} {h : Know} (hs : Stop fr cs h) : GoesS P main Stop fr cs h := ⟨.stop, h, Know.le_refl h, hs⟩

theorem GoesS.step {fr : Frame} {cs : List Frame} {h : Know}
    (hs : ∀ w, h.holds w → ∃ fr' cs' w' es h', stepG P main (G fr cs) w = .go (G fr' cs') w' es ∧ KStep h w h' w' es ∧ GoesS P main Stop fr' cs' h') : GoesS P main Stop fr cs h := by
  classical
  have hs' : ∀ w, ∃ t, h.holds w → ∃ fr' cs' w' es h', stepG P main (G fr cs) w = .go (G fr' cs') w' es ∧ KStep h w h' w' es ∧ GoesT P main Stop t fr' cs' h' := by
    intro w
    by_cases hw : h.holds w
    · obtain ⟨fr', cs', w', es, h', e1, e2, t, e3⟩ := hs w hw
      exact ⟨t, fun _ => ⟨fr', cs', w', es, h', e1, e2, e3⟩⟩
    · exact ⟨.stop, fun x => absurd x hw⟩
  exact ⟨.step fun w => (hs' w).choose, fun w hw => (hs' w).choose_spec hw⟩

theorem KStep.weaken {h h₂ h' : Know} {w w' : World} {es : Array Event} (hl : h.le h₂) (k : KStep h w h' w' es) : KStep h₂ w h' w' es := by
  refine ⟨k.holds, k.size, fun b hb hn => k.keep b hb fun ⟨o, e⟩ => hn ⟨o, hl b _ e⟩, fun b ho hb => ?_, fun b o e => hl b _ (k.share b o e), fun e he => ?_, k.os, k.output, k.tape⟩
  · obtain ⟨o, e⟩ := k.own b ho hb; exact ⟨o, hl b _ e⟩
  · have h2 := k.evs e he
    unfold EvCov at h2 ⊢
    cases hloc : e.loc with
    | cell a => rw [hloc] at h2; exact ⟨h2.1, h2.2.imp (fun ⟨m, o, x, y⟩ => ⟨m, o, hl _ _ x, y⟩) id⟩
    | obj r => rw [hloc] at h2; exact ⟨h2.1, h2.2.imp (fun ⟨m, o, x, y⟩ => ⟨m, o, hl _ _ x, y⟩) id⟩
    | output => rw [hloc] at h2; exact h2.elim
    | goroutines => rw [hloc] at h2; exact h2.elim
    | mark m => rw [hloc] at h2; exact h2

/-- Less may be known than is. -/
theorem GoesT.weaken {t : Tr} {fr : Frame} {cs : List Frame} {h h₂ : Know} (hl : h.le h₂) (g : GoesT P main Stop t fr cs h) : GoesT P main Stop t fr cs h₂ := by
  cases t with
  | stop => obtain ⟨h', hle, hs⟩ := g; exact ⟨h', Know.le_trans hle hl, hs⟩
  | step k => exact fun w hw => let ⟨fr', cs', w', es, h', e1, e2, e3⟩ := g w (Know.holds_le hl hw); ⟨fr', cs', w', es, h', e1, e2.weaken hl, e3⟩
theorem GoesS.weaken {fr : Frame} {cs : List Frame} {h h₂ : Know} (hl : h.le h₂) (g : GoesS P main Stop fr cs h) : GoesS P main Stop fr cs h₂ := let ⟨t, g⟩ := g; ⟨t, g.weaken hl⟩

/-- A step that looks at no memory. -/
theorem GoesS.move {fr fr' : Frame} {cs cs' : List Frame} {h : Know} (hs : ∀ w, stepG P main (G fr cs) w = .go (G fr' cs') w) (g : GoesS P main Stop fr' cs' h) : GoesS P main Stop fr cs h :=
  GoesS.step fun w hw => ⟨fr', cs', w, #[], h, hs w, KStep.refl hw, g⟩

/-- To a stop, and on from every such stop. -/
theorem GoesT.on {Stop' : Frame → List Frame → Know → Prop} : ∀ {t : Tr} {fr : Frame} {cs : List Frame} {h : Know}, GoesT P main Stop t fr cs h →
    (∀ fr cs h, Stop fr cs h → GoesS P main Stop' fr cs h) → GoesS P main Stop' fr cs h := by
  intro t
  induction t with
  | stop => exact fun ⟨h', hl, hs⟩ k => (k _ _ _ hs).weaken hl
  | step f ih => exact fun g k => GoesS.step fun w hw => let ⟨fr', cs', w', es, h', e1, e2, e3⟩ := g w hw; ⟨fr', cs', w', es, h', e1, e2, ih w e3 k⟩
end

/-- Where the walk goes on behind a piece of code that is left by this way out. -/
def After (P : Program) (main : Bool) (Stop : Frame → List Frame → Know → Prop) (b : Frame) (k : List Item) (cs : List Frame) : Exit → Act → Know → Prop
  | .normal, a, h => GoesS P main Stop (b.at a k) cs h
  | .exit id, a, h => ∃ k', exitTo id k = some k' ∧ GoesS P main Stop (b.at a k') cs h
  | .ret, a, h => ∀ todo, GoesS P main Stop { b.at a todo with mode := .returning } cs h
  | .panic ch, a, h => ∀ todo, GoesS P main Stop { b.at a todo with mode := .panicking ch } cs h
  | _, _, _ => False

theorem After.push {P : Program} {main : Bool} {Stop : Frame → List Frame → Know → Prop} {b : Frame} {x : Item} {k : List Item} {cs : List Frame} {e : Exit} {a : Act} {h : Know} (hx : x.plain = true) (he : e ≠ .normal)
    (ha : After P main Stop b k cs e a h) : After P main Stop b (x :: k) cs e a h := by
  cases e with
  | normal => exact absurd rfl he
  | exit id => obtain ⟨k', hk, hg⟩ := ha; exact ⟨k', by cases x <;> simp_all [exitTo, Item.plain], hg⟩
  | ret => exact ha
  | goto l => exact ha
  | panic ch => exact ha
  | outgrown => exact ha

theorem After.weaken {P : Program} {main : Bool} {Stop : Frame → List Frame → Know → Prop} {b : Frame} {k : List Item} {cs : List Frame} {e : Exit} {a : Act} {h h' : Know} (hl : h.le h') (ha : After P main Stop b k cs e a h) : After P main Stop b k cs e a h' := by
  cases e with
  | normal => exact GoesS.weaken hl ha
  | exit id => obtain ⟨k', hk, hg⟩ := ha; exact ⟨k', hk, hg.weaken hl⟩
  | ret => exact fun todo => (ha todo).weaken hl
  | goto l => exact ha
  | panic ch => exact fun todo => (ha todo).weaken hl
  | outgrown => exact ha

/-! ### What is known of the frame -/

abbrev Env := List (Nat × Value)
def Env.look : Env → Nat → Option Value
  | [], _ => none
  | (s, v) :: E, t => bif Nat.beq s t then some v else Env.look E t
def Env.put (E : Env) : Option Tmp → Value → Env
  | some d, v => (d, v) :: E
  | none, _ => E
def Env.ev (E : Env) : Operand → Value
  | .tmp t => (E.look t).getD undef
  | .const v => v
  | .global g => .pointer (some ⟨g, 0, none⟩)
  | .func f => .func (.func f) #[] #[]
def Env.has (E : Env) : Operand → Bool
  | .tmp t => (E.look t).isSome
  | _ => true

structure Fit (a : Act) (n : Nat) (ds : List Deferred) (E : Env) : Prop where
  size : a.tmps.size = n
  look : ∀ t v, E.look t = some v → a.tmps[t]? = some v
  defers : a.defers = ds

theorem Env.look_cons (s : Nat) (v : Value) (E : Env) (t : Nat) : Env.look ((s, v) :: E) t = if s = t then some v else E.look t := by
  show cond (Nat.beq s t) _ _ = _
  by_cases h : s = t
  · subst h; simp
  · rw [if_neg h]; have : Nat.beq s t = false := by
      cases e : Nat.beq s t with
      | false => rfl
      | true => exact absurd (Nat.eq_of_beq_eq_true e) h
    rw [this]; rfl

theorem Fit.put {a : Act} {n : Nat} {ds : List Deferred} {E : Env} (f : Fit a n ds E) (d : Option Tmp) (v : Value) (hd : ∀ t, d = some t → t < n) : Fit (a.put d v) n ds (E.put d v) := by
  cases d with
  | none => exact f
  | some d =>
    have hlt := hd d rfl
    refine ⟨by simp [Act.put, f.size], fun t u e => ?_, f.defers⟩
    rw [Env.put, Env.look_cons] at e
    show (a.tmps.setIfInBounds d v)[t]? = some u
    by_cases h : d = t
    · subst h; rw [if_pos rfl] at e; cases e; rw [Array.getElem?_setIfInBounds_self_of_lt (by rw [f.size]; exact hlt)]
    · rw [if_neg h] at e; rw [Array.getElem?_setIfInBounds_ne h]; exact f.look t u e

theorem Fit.eval {a : Act} {n : Nat} {ds : List Deferred} {E : Env} (f : Fit a n ds E) {x : Operand} (hx : E.has x = true) : a.eval x = E.ev x := by
  cases x with
  | tmp t =>
    simp only [Env.has, Option.isSome_iff_exists] at hx
    obtain ⟨v, hv⟩ := hx
    simp [Act.eval, Env.ev, hv, Array.getD_eq_getD_getElem?, f.look t v hv]
  | const v => rfl
  | global g => rfl
  | func g => rfl

/-- Less may be known of the frame than is. -/
def Env.le (E E' : Env) : Prop := ∀ t v, E.look t = some v → E'.look t = some v
theorem Fit.weaken {a : Act} {n : Nat} {ds : List Deferred} {E E' : Env} (f : Fit a n ds E') (hl : E.le E') : Fit a n ds E := ⟨f.size, fun t v e => f.look t v (hl t v e), f.defers⟩

/-- What is asked of each way out of a piece of code. -/
abbrev Post := Exit → List Deferred → Env → Know → Prop

/-- The judgement of a piece of code: 'n' slots. -/
def wpE (P : Program) (main : Bool) (n : Nat) (c : Code) (Q : Post) (ds : List Deferred) (E : Env) (h : Know) : Prop :=
  ∀ (a : Act) (b : Frame) (k : List Item) (cs : List Frame) (Stop : Frame → List Frame → Know → Prop), Fit a n ds E → b.kind ≠ .early →
    (∀ e ds' E' h' a', Q e ds' E' h' → Fit a' n ds' E' → After P main Stop b k cs e a' h') → GoesS P main Stop (b.at a (.code c :: k)) cs h

/-- .. of the operations of a region that are still to come, in the text's order. -/
def OpsE (P : Program) (main : Bool) (n : Nat) (ops : Array Oper) (l : List Oper) (Q : Post) (ds : List Deferred) (E : Env) (h : Know) : Prop :=
  ∀ (a : Act) (b : Frame) (k : List Item) (cs : List Frame) (Stop : Frame → List Frame → Know → Prop) (i : Nat), Fit a n ds E → b.kind ≠ .early → (∀ j, l[j]? = ops[i + j]?) →
    (∀ e ds' E' h' a', Q e ds' E' h' → Fit a' n ds' E' → After P main Stop b k cs e a' h') → GoesS P main Stop (b.at a (.inRegion ops (List.range' i l.length) :: k)) cs h

def thenQ (next : List Deferred → Env → Know → Prop) (Q : Post) : Post
  | .normal, ds, E, h => next ds E h
  | e, ds, E, h => Q e ds E h
def blockQ (id : Nat) (Q : Post) : Post
  | .exit id', ds, E, h => if id' = id then Q .normal ds E h else Q (.exit id') ds E h
  | e, ds, E, h => Q e ds E h

section rules
variable {P : Program} {main : Bool} {n : Nat} {Q : Post} {ds : List Deferred} {E : Env} {h : Know}

theorem wpE_mono {c : Code} {Q' : Post} (hw : wpE P main n c Q ds E h) (hq : ∀ e ds E h, Q e ds E h → Q' e ds E h) : wpE P main n c Q' ds E h :=
  fun a b k cs Stop hf hk hc => hw a b k cs Stop hf hk fun e ds' E' h' a' q => hc e ds' E' h' a' (hq _ _ _ _ q)
theorem wpE_weaken {c : Code} {E' : Env} {h' : Know} (hw : wpE P main n c Q ds E h) (hE : E.le E') (hh : h.le h') : wpE P main n c Q ds E' h' :=
  fun a b k cs Stop hf hk hc => (hw a b k cs Stop (hf.weaken hE) hk hc).weaken hh
theorem wpE_skip (hq : Q .normal ds E h) : wpE P main n .skip Q ds E h := fun a b k cs Stop hf hk hc => GoesS.move (fun w => Conc.stepG_skip) (hc _ _ _ _ _ hq hf)
theorem wpE_ret (hq : Q .ret ds E h) : wpE P main n .ret Q ds E h := fun a b k cs Stop hf hk hc => GoesS.move (fun w => Conc.stepG_ret') (hc _ _ _ _ _ hq hf _)
theorem wpE_exit {id : Nat} (hq : Q (.exit id) ds E h) : wpE P main n (.exit id) Q ds E h := fun a b k cs Stop hf hk hc => by
  obtain ⟨k', e, g⟩ := hc _ _ _ _ _ hq hf
  exact GoesS.move (fun w => Conc.stepG_exit e) g
theorem wpE_seq {x y : Code} (hx : wpE P main n x (thenQ (wpE P main n y Q) Q) ds E h) : wpE P main n (.seq x y) Q ds E h := by
  intro a b k cs Stop hf hk hc
  refine GoesS.move (fun w => Conc.stepG_seq) (hx a b (.code y :: k) cs Stop hf hk fun e ds' E' h' a' q hf' => ?_)
  cases e with
  | normal => exact q a' b k cs Stop hf' hk hc
  | exit id => exact (hc _ _ _ _ _ q hf').push rfl (by simp)
  | ret => exact (hc _ _ _ _ _ q hf').push (x := .code y) rfl (by simp)
  | goto l => exact hc _ _ _ _ _ q hf'
  | panic ch => exact (hc _ _ _ _ _ q hf').push (x := .code y) rfl (by simp)
  | outgrown => exact hc _ _ _ _ _ q hf'
theorem wpE_cond {c : Operand} {x y : Code} {t : Bool} (hh : E.has c = true) (hc : E.ev c = .bool t) (hx : wpE P main n (if t then x else y) Q ds E h) : wpE P main n (.cond c x y) Q ds E h :=
  fun a b k cs Stop hf hk hq => GoesS.move (fun w => Conc.stepG_cond (by rw [hf.eval hh, hc])) (hx a b k cs Stop hf hk hq)
theorem wpE_block {id : Nat} {c : Code} (hx : wpE P main n c (blockQ id Q) ds E h) : wpE P main n (.block id c) Q ds E h := by
  intro a b k cs Stop hf hk hc
  refine GoesS.move (fun w => Conc.stepG_block) (hx a b (.inBlock id :: k) cs Stop hf hk fun e ds' E' h' a' q hf' => ?_)
  cases e with
  | normal => exact GoesS.move (fun w => Conc.stepG_inBlock) (hc _ _ _ _ _ q hf')
  | exit id' =>
    by_cases hid : id' = id
    · simp only [blockQ, hid, if_true] at q
      exact ⟨k, by simp [exitTo, hid], hc _ _ _ _ _ q hf'⟩
    · simp only [blockQ, hid, if_false] at q
      obtain ⟨k', hk', hg⟩ := hc _ _ _ _ _ q hf'
      have : (id == id') = false := by simp; exact fun h => hid h.symm
      exact ⟨k', by simp [exitTo, this, hk'], hg⟩
  | ret => exact fun todo => hc _ _ _ _ _ q hf' todo
  | goto l => exact hc _ _ _ _ _ q hf'
  | panic ch => exact fun todo => hc _ _ _ _ _ q hf' todo
  | outgrown => exact hc _ _ _ _ _ q hf'
/-- A loop: 'I m': what holds at a round's head, m its measure. -/
theorem wpE_loop {c : Code} (I : Nat → List Deferred → Env → Know → Prop) {m : Nat} (h₀ : I m ds E h)
    (round : ∀ m ds E h, I m ds E h → wpE P main n c (thenQ (fun ds' E' h' => ∃ m', m' < m ∧ I m' ds' E' h') Q) ds E h) : wpE P main n (.loop c) Q ds E h := by
  intro a b k cs Stop hf hk hc
  have key : ∀ m ds E h a, Fit a n ds E → I m ds E h → GoesS P main Stop (b.at a (.code c :: .inLoop c :: k)) cs h := by
    intro m
    induction m using Nat.strongRecOn with
    | _ m ih =>
      intro ds E h a hf hI
      refine round m ds E h hI a b (.inLoop c :: k) cs Stop hf hk fun e ds' E' h' a' q hf' => ?_
      cases e with
      | normal => obtain ⟨m', hm, hI'⟩ := q; exact GoesS.move (fun w => Conc.stepG_inLoop) (ih m' hm _ _ _ _ hf' hI')
      | exit id => exact (hc _ _ _ _ _ q hf').push rfl (by simp)
      | ret => exact (hc _ _ _ _ _ q hf').push (x := .inLoop c) rfl (by simp)
      | goto l => exact hc _ _ _ _ _ q hf'
      | panic ch => exact (hc _ _ _ _ _ q hf').push (x := .inLoop c) rfl (by simp)
      | outgrown => exact hc _ _ _ _ _ q hf'
  exact GoesS.move (fun w => Conc.stepG_loop) (key m ds E h a hf h₀)

theorem wpE_region {id : Nat} {l : List Oper} (hx : OpsE P main n l.toArray l Q ds E h) : wpE P main n (.region id l.toArray false) Q ds E h := by
  intro a b k cs Stop hf hk hc
  refine GoesS.move (fun w => Conc.stepG_region) ?_
  have := hx a b k cs Stop 0 hf hk (fun j => by simp) hc
  rw [List.range_eq_range']
  simpa using this
theorem opsE_weaken {ops : Array Oper} {l : List Oper} {E' : Env} {h' : Know} (hw : OpsE P main n ops l Q ds E h) (hE : E.le E') (hh : h.le h') : OpsE P main n ops l Q ds E' h' :=
  fun a b k cs Stop i hf hk hl hc => (hw a b k cs Stop i (hf.weaken hE) hk hl hc).weaken hh
theorem opsE_nil {ops : Array Oper} (hq : Q .normal ds E h) : OpsE P main n ops [] Q ds E h := fun a b k cs Stop i hf hk hl hc =>
  GoesS.move (fun w => Conc.stepG_region_end) (hc _ _ _ _ _ hq hf)

/-! ### Calls -/

/-- A contract: from the entry to the return, or to a panic that is handed on. -/
def CallS (P : Program) (main : Bool) (f : FuncId) (args : Array Value) (h : Know) (R : Ending → Know → Prop) : Prop :=
  ∀ (c : Frame) (cs : List Frame) (Stop : Frame → List Frame → Know → Prop),
    (∀ v h', R (.returned v) h' → GoesS P main Stop (c.finish v) cs h') → (∀ ch h', R (.panicked ch) h' → GoesS P main Stop (c.raise ch) cs h') →
    GoesS P main Stop (Frame.enter P f args .normal) (c :: cs) h
theorem CallS.mono {f : FuncId} {args : Array Value} {R R' : Ending → Know → Prop} (hc : CallS P main f args h R) (hr : ∀ e h, R e h → R' e h) : CallS P main f args h R' :=
  fun c cs Stop h1 h2 => hc c cs Stop (fun v h' r => h1 v h' (hr _ _ r)) (fun ch h' r => h2 ch h' (hr _ _ r))
theorem CallS.weaken {f : FuncId} {args : Array Value} {R : Ending → Know → Prop} {h' : Know} (hc : CallS P main f args h R) (hl : h.le h') : CallS P main f args h' R :=
  fun c cs Stop h1 h2 => (hc c cs Stop h1 h2).weaken hl

/-- What is asked of a call that ends so. -/
def callR (K : Value → Know → Prop) (Pn : List PanicEntry → Know → Prop) : Ending → Know → Prop
  | .returned v, h => K v h
  | .panicked ch, h => Pn ch h
  | .outgrown, _ => False
/-- What is asked of an operation that yields this. -/
def nextE (P : Program) (main : Bool) (K : Value → Know → Prop) (Pn : List PanicEntry → Know → Prop) : Next → Know → Prop
  | .value v, h => K v h
  | .skip, h => K undef h
  | .enter f args, h => CallS P main f args h (callR K Pn)
  | _, _ => False

/-- One operation, of whatever kind. -/
theorem goes_op {a : Act} {b : Frame} {k : List Item} {cs : List Frame} {Stop : Frame → List Frame → Know → Prop} {ops : Array Oper} {i : Nat} {rest : List Nat} {o : Oper}
    (ho : ops[i]? = some o) (hw : Region.wanted o (yielded ops a.tmps) = true) (hk : b.kind ≠ .early)
    (hs : semS P (fun v h' => ∀ todo, GoesS P main Stop { b.at a todo with mode := .panicking [{ v, recovered := false }] } cs h') (execOp a.eval o) h
      (nextE P main (fun v h' => GoesS P main Stop (b.at (a.put o.dst v) (.inRegion ops rest :: k)) cs h') (fun ch h' => ∀ todo, GoesS P main Stop { b.at a todo with mode := .panicking ch } cs h'))) :
    GoesS P main Stop (b.at a (.inRegion ops (i :: rest) :: k)) cs h := by
  refine GoesS.step fun w hw' => ?_
  obtain ⟨w', es', h', e1, e2, e3⟩ := semS_sound _ h w #[] _ hs hw'
  have hk' : (b.kind == CallKind.early) = false := by simpa using hk
  have hfin : ∀ v, (b.at a (.inRegion ops (i :: rest) :: k)).finish v = b.at (a.put o.dst v) (.inRegion ops rest :: k) := fun v => by rw [Frame.finish_at, ho]; rfl
  simp only [Sem.runT_eq, Array.empty_append] at e1 e3
  have hsub : KStep h w h' w' (listed P b.fn a o w) := e2.sub fun e he => by rw [← e1]; exact Conc.mem_seen he
  rcases e3 with ⟨x, hx, hk2⟩ | ⟨v, hx, hk2⟩
  · cases x with
    | value v => exact ⟨_, cs, w', _, h', Conc.stepG_value ho hw hk hx, hsub, hk2⟩
    | skip => exact ⟨_, cs, w', _, h', Conc.stepG_none ho hw hk hx, hsub, hk2⟩
    | enter f args =>
      refine ⟨Frame.enter P f args .normal, b.at a (.inRegion ops (i :: rest) :: k) :: cs, w', _, h', Conc.stepG_enter ho hw hk hx, hsub, ?_⟩
      refine hk2 _ _ _ (fun v h₂ r => ?_) (fun ch h₂ r => ?_)
      · rw [hfin]; exact r
      · rw [Frame.raise_at]; exact r _
    | _ => exact hk2.elim
  · refine ⟨_, cs, w', _, h', ?_, hsub, hk2 (.inRegion ops (i :: rest) :: k)⟩
    rw [Conc.stepG_oper ho hw]
    simp [stepG.apply, hx, G, Frame.at, hk', GStep.after, listed, Frame.raise]

theorem evalOk {a : Act} {o : Oper} (hf : Fit a n ds E) (hs : ∀ cs b, o.op ≠ .select cs b) (hh : o.op.operands.all E.has = true) : execOp a.eval o = execOp E.ev o :=
  execOp_congr o hs fun x hx => hf.eval (by rw [Array.all_eq_true'] at hh; exact hh x hx)

/-- Is the operation none that selects? -/
def notSelect : Op → Bool
  | .select .. => false
  | _ => true
theorem notSelect_spec {o : Oper} (hs : notSelect o.op = true) : ∀ cs b, o.op ≠ .select cs b := by
  intro cs b e; rw [e] at hs; cases hs

/-- One operation in the text's order; 'hd': it is wanted. -/
theorem opsE_cons {ops : Array Oper} {rest : List Oper} {o : Oper} (hg : o.guard = none) (hdst : ∀ t, o.dst = some t → t < n) (hs : notSelect o.op = true) (hh : o.op.operands.all E.has = true)
    (hx : semS P (fun v h' => Q (.panic [{ v, recovered := false }]) ds E h') (execOp E.ev o) h
      (nextE P main (fun v h' => OpsE P main n ops rest Q ds (E.put o.dst v) h') (fun ch h' => Q (.panic ch) ds E h'))) : OpsE P main n ops (o :: rest) Q ds E h := by
  intro a b k cs Stop i hf hk hl hc
  have ho : ops[i]? = some o := by simpa using (hl 0).symm
  rw [List.length_cons, List.range'_succ]
  refine goes_op ho (by simp [Region.wanted, hg]) hk ?_
  rw [evalOk hf (notSelect_spec hs) hh]
  have hl' : ∀ j, rest[j]? = ops[i + 1 + j]? := fun j => by have := hl (j + 1); simpa [Nat.add_assoc, Nat.add_comm 1 j] using this
  refine semS_mono (fun v h' q todo => (hc _ _ _ _ _ q hf : ∀ todo, _) todo) _ _ _ _ (fun x h' q => ?_) hx
  cases x with
  | value v => exact q _ b k cs Stop (i + 1) (hf.put _ _ hdst) hk hl' hc
  | skip => exact q _ b k cs Stop (i + 1) (hf.put _ _ hdst) hk hl' hc
  | enter f args =>
    refine CallS.mono (show CallS P main f args h' (callR _ _) from q) fun e h₂ r => ?_
    cases e with
    | returned v => exact r _ b k cs Stop (i + 1) (hf.put _ _ hdst) hk hl' hc
    | panicked ch => exact fun todo => (hc _ _ _ _ _ r hf : ∀ todo, _) todo
    | outgrown => exact r
  | _ => exact q.elim

end rules
end KL
end Go.Proofs.YtlmecmapkijcnaaDoor
