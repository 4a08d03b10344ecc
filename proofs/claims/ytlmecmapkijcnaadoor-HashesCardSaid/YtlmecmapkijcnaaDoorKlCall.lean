/- Contracts out of walks; a walk as a contract of the lone machine. -/
import Derived.Test.YtlmecmapkijcnaaDoorKlCode
set_option linter.unusedVariables false
namespace Go.Proofs.YtlmecmapkijcnaaDoor
namespace KL
open Go.Conc (G listed)

/-- The first slots hold the arguments. -/
def argsE : Nat → List Value → Env
  | _, [] => []
  | i, v :: l => (i, v) :: argsE (i + 1) l
theorem look_argsE : ∀ (l : List Value) (i t : Nat) (v : Value), (argsE i l).look t = some v → i ≤ t ∧ l[t - i]? = some v := by
  intro l
  induction l with
  | nil => intro i t v h; cases h
  | cons a l ih =>
    intro i t v h
    rw [argsE, Env.look_cons] at h
    by_cases e : i = t
    · subst e; rw [if_pos rfl] at h; cases h; simp
    · rw [if_neg e] at h
      obtain ⟨h1, h2⟩ := ih _ _ _ h
      have e2 : t - i = (t - (i + 1)) + 1 := by omega
      exact ⟨by omega, by rw [e2, List.getElem?_cons_succ]; exact h2⟩

/-- What the body of a callee must achieve. -/
def bodyQ (P : Program) (fn : Func) (R : Ending → Know → Prop) : Post := fun e ds E h =>
  match e with
  | .normal | .ret => ds = [] ∧ ∀ a, Fit a fn.ntmps ds E → semS P (fun _ _ => False) (results fn a.tmps) h (fun v h' => R (.returned v) h')
  | .panic ch => ds = [] ∧ R (.panicked ch) h
  | _ => False

section
variable {P : Program} {main : Bool} {h : Know}

theorem bodyQ_none {fn : Func} {R : Ending → Know → Prop} {E : Env} (hr : fn.results = #[]) (hR : R (.returned (.tuple #[])) h) : bodyQ P fn R .ret [] E h :=
  ⟨rfl, fun a _ => by
    have e : results fn a.tmps = pure (.tuple #[]) := by simp [results, hr]
    rw [e]; exact hR⟩
theorem bodyQ_end {fn : Func} {R : Ending → Know → Prop} {E : Env} (hr : fn.results = #[]) (hR : R (.returned (.tuple #[])) h) : bodyQ P fn R .normal [] E h :=
  ⟨rfl, fun a _ => by
    have e : results fn a.tmps = pure (.tuple #[]) := by simp [results, hr]
    rw [e]; exact hR⟩
theorem bodyQ_one {fn : Func} {R : Ending → Know → Prop} {E : Env} {t : Tmp} {v : Value} (hr : fn.results = #[.tmp t]) (hl : E.look t = some v) (hR : R (.returned v) h) : bodyQ P fn R .ret [] E h :=
  ⟨rfl, fun a hf => by
    have e : results fn a.tmps = pure v := by simp [results, hr, hf.look t v hl]
    rw [e]; exact hR⟩
theorem bodyQ_two {fn : Func} {R : Ending → Know → Prop} {E : Env} {t u : Tmp} {v x : Value} (hr : fn.results = #[.tmp t, .tmp u]) (hl : E.look t = some v) (hu : E.look u = some x) (hR : R (.returned (.tuple #[v, x])) h) : bodyQ P fn R .ret [] E h :=
  ⟨rfl, fun a hf => by
    have e : results fn a.tmps = pure (.tuple #[v, x]) := by simp [results, hr, hf.look t v hl, hf.look u x hu]
    rw [e]; exact hR⟩

/-- The results are read; the frame has no deferred call left. -/
theorem stepG_leaveS {b : Frame} {a : Act} {cs : List Frame} {w w' : World} {fn : Func} {todo : List Item} {c : Frame} {v : Value} (hn : b.kind = .normal) (hd : a.defers = []) (hf : P.funcs[b.fn]? = some fn)
    (hr : (results fn a.tmps).run P w = .ok v w') :
    stepG P main (G { b.at a todo with mode := .returning } (c :: cs)) w = .go (G (c.finish v) cs) w' (seen P b.fn ((results fn a.tmps).events P w #[])) := by
  simp [G, stepG, unwind, doReturn, Frame.at, hn, hd, hf, hr, GStep.after]
theorem stepG_raiseS {b : Frame} {a : Act} {cs : List Frame} {w : World} {fn : Func} {todo : List Item} {c : Frame} {ch : List PanicEntry} (hd : a.defers = []) (hf : P.funcs[b.fn]? = some fn) :
    stepG P main (G { b.at a todo with mode := .panicking ch } (c :: cs)) w = .go (G (c.raise ch) cs) w := by
  simp [G, stepG, unwind, Frame.at, hd, hf, Frame.catches]

theorem argsFit {args : List Value} {m : Nat} (hs : args.length ≤ m) : Fit { tmps := args.toArray ++ Array.replicate (m - args.toArray.size) undef, defers := [] } m [] (argsE 0 args) := by
  refine ⟨by simp; omega, fun t v e => ?_, rfl⟩
  obtain ⟨_, e2⟩ := look_argsE _ _ _ _ e
  rw [Nat.sub_zero] at e2
  have : t < args.length := by
    rcases Nat.lt_or_ge t args.length with g | g
    · exact g
    · rw [List.getElem?_eq_none g] at e2; cases e2
  show (args.toArray ++ _)[t]? = some v
  rw [Array.getElem?_append_left (by simpa using this)]
  simpa using e2

/-- A contract out of a walk. -/
theorem callS_of_wpE {f : FuncId} {fn : Func} {c : Code} {args : List Value} {R : Ending → Know → Prop} (hf : P.funcs[f]? = some fn) (hb : fn.body = some c) (hs : args.length ≤ fn.ntmps)
    (hw : wpE P main fn.ntmps c (bodyQ P fn R) [] (argsE 0 args) h) : CallS P main f args.toArray h R := by
  intro cal cs Stop h1 h2
  rw [Conc.enter_at _ hf hb]
  have leave : ∀ (a : Act) (E : Env) (h' : Know) (todo : List Item), Fit a fn.ntmps [] E → semS P (fun _ _ => False) (results fn a.tmps) h' (fun v h'' => R (.returned v) h'') →
      GoesS P main Stop { (Conc.base f).at a todo with mode := .returning } (cal :: cs) h' := by
    intro a E h' todo hfit hsem
    refine GoesS.step fun w hw' => ?_
    obtain ⟨w', es', h'', e1, e2, e3⟩ := semS_sound _ h' w #[] _ hsem hw'
    simp only [Sem.runT_eq, Array.empty_append] at e1 e3
    rcases e3 with ⟨v, hx, hk⟩ | ⟨v, _, hk⟩
    · exact ⟨_, cs, w', _, h'', stepG_leaveS (b := Conc.base f) rfl hfit.defers hf hx, e2.sub fun e he => by rw [← e1]; exact Conc.mem_seen he, h1 v h'' hk⟩
    · exact hk.elim
  refine hw _ (Conc.base f) [] (cal :: cs) Stop (argsFit hs) (by simp [Conc.base]) fun e ds' E' h' a' q hfit => ?_
  cases e with
  | normal =>
    obtain ⟨rfl, q⟩ := q
    exact GoesS.move (fun w => Conc.stepG_end) (leave a' E' h' [] hfit (q a' hfit))
  | ret => obtain ⟨rfl, q⟩ := q; exact fun todo => leave a' E' h' todo hfit (q a' hfit)
  | panic ch =>
    obtain ⟨rfl, q⟩ := q
    exact fun todo => GoesS.move (fun w => stepG_raiseS (b := Conc.base f) hfit.defers hf) (h2 ch h' q)
  | exit id => exact q.elim
  | goto l => exact q.elim
  | outgrown => exact q.elim

/-! ### The lone machine -/

theorem lone_goes {Stop : Frame → List Frame → Know → Prop} : ∀ (t : Tr) (fr : Frame) (cs : List Frame) (h : Know) (w : World), GoesT P true Stop t fr cs h → h.holds w →
    ∃ fr' cs' w' h' es, Stop fr' cs' h' ∧ KStep h w h' w' es ∧ Steps P (lone fr cs w) (lone fr' cs' w') := by
  intro t
  induction t with
  | stop => exact fun fr cs h w ⟨h', hl, hs⟩ hw => ⟨fr, cs, w, h', _, hs, (KStep.refl (Know.holds_le hl hw)).weaken hl, Steps.refl _ _⟩
  | step k ih =>
    intro fr cs h w g hw
    obtain ⟨fr₁, cs₁, w₁, es₁, h₁, e1, e2, e3⟩ := g w hw
    obtain ⟨fr', cs', w', h', es, s1, s2, s3⟩ := ih w fr₁ cs₁ h₁ w₁ e3 e2.holds
    refine ⟨fr', cs', w', h', _, s1, e2.trans s2, Steps.head (step_lone_go ?_) s3⟩
    show (stepG P true (G fr cs) w).bare = _
    rw [e1]; rfl

/-- Actions that only read leave the world as it is. -/
def Calm {α : Type} (s : Sem α) : Prop := ∀ (P : Program) (w w' : World) (x : α), s.run P w = .ok x w' → w' = w
theorem calm_pure {α : Type} (x : α) : Calm (pure x : Sem α) := fun P w w' y e => by cases e; rfl
theorem calm_bind {α β : Type} {s : Sem α} {f : α → Sem β} (hs : Calm s) (hf : ∀ x, Calm (f x)) : Calm (s >>= f) := by
  intro P w w' x e
  rw [Sem.run_bind] at e
  cases hr : s.run P w with
  | ok y w₁ =>
    rw [hr] at e
    have := hs P w w₁ y hr
    subst this
    exact hf y P _ w' x e
  | halt o w₁ => rw [hr] at e; cases e
theorem calm_load (a : Addr) (m : Mode) : Calm (load a m) := by
  intro P w w' x e
  simp only [load, Sem.run] at e
  split at e
  · cases e; rfl
  · split at e
    · cases e; rfl
    · cases e
theorem calm_halt {α : Type} (o : Halt) : Calm (.halt o : Sem α) := fun P w w' y e => by cases e
theorem calm_program : Calm program := fun P w w' y e => by cases e; rfl
theorem calm_typeInfo (t : TypeId) : Calm (typeInfo t) := calm_bind calm_program fun p => by split <;> first | exact calm_pure _ | exact calm_halt _
theorem calm_underlying (t : TypeId) : Calm (underlying t) := calm_bind calm_program fun p => by split <;> first | exact calm_pure _ | exact calm_halt _
theorem calm_loadCellsFrom (a : Addr) : ∀ (n i : Nat) (acc : Array Value), Calm (loadCellsFrom a i n acc) := by
  intro n
  induction n with
  | zero => exact fun i acc => calm_pure _
  | succ n ih => exact fun i acc => calm_bind (calm_load _ _) fun v => ih _ _
theorem calm_loadVar (t : TypeId) (a : Addr) : Calm (loadVar t a) := by
  refine calm_bind (calm_bind (calm_underlying _) fun d => by split <;> exact calm_pure _) fun x => ?_
  split
  · exact calm_bind (calm_bind (calm_typeInfo _) fun i => calm_pure _) fun n => calm_bind (calm_loadCellsFrom a n 0 #[]) fun cs => calm_pure _
  · exact calm_load _ _
theorem calm_mapM {α β : Type} {f : α → Sem β} (hf : ∀ x, Calm (f x)) (l : List α) : Calm (l.mapM f) := by
  induction l with
  | nil => exact calm_pure _
  | cons a l ih => rw [List.mapM_cons]; exact calm_bind (hf a) fun y => calm_bind ih fun ys => calm_pure _
theorem calm_results (fn : Func) (tmps : Array Value) : Calm (results fn tmps) := by
  unfold results
  rw [Array.mapM_eq_mapM_toList]
  refine calm_bind ?_ fun vs => calm_pure _
  have : ∀ x : ResultVar, Calm (match x with
      | .tmp t => (pure (tmps.getD t undef) : Sem Value)
      | .cell a t => do loadVar t (← asAddr (tmps.getD a undef))) := by
    intro x
    cases x with
    | tmp t => exact calm_pure _
    | cell a t =>
      refine calm_bind ?_ fun ad => calm_loadVar t ad
      unfold asAddr
      split
      · exact calm_pure _
      · exact calm_bind calm_program fun p => calm_halt _
      · exact calm_halt _
  intro P w w' x e
  exact (calm_bind (calm_mapM this _) fun ys => calm_pure _) P w w' x e

/-- The contract of the lone machine. -/
theorem calls_of_wpE {f : FuncId} {fn : Func} {c : Code} {args : List Value} {R : Ending → Know → Prop} {w : World} (hf : P.funcs[f]? = some fn) (hb : fn.body = some c) (hs : args.length ≤ fn.ntmps) (hh : h.holds w)
    (hw : wpE P true fn.ntmps c (bodyQ P fn R) [] (argsE 0 args) h) : Calls P f args.toArray w (fun e w' => ∃ h' es, R e h' ∧ KStep h w h' w' es) := by
  intro cs
  let Stop : Frame → List Frame → Know → Prop := fun fr cs' h' => cs' = cs ∧ fr.fn = f ∧ fr.defers = [] ∧ fr.kind = .normal ∧
    ((fr.mode = .returning ∧ semS P (fun _ _ => False) (results fn fr.tmps) h' (fun v h'' => R (.returned v) h'')) ∨ ∃ ch, fr.mode = .panicking ch ∧ R (.panicked ch) h')
  have g : GoesS P true Stop ((Conc.base f).at { tmps := args.toArray ++ Array.replicate (fn.ntmps - args.toArray.size) undef, defers := [] } [.code c]) cs h := by
    refine hw _ (Conc.base f) [] cs Stop (argsFit hs) (by simp [Conc.base]) fun e ds' E' h' a' q hfit => ?_
    cases e with
    | normal =>
      obtain ⟨rfl, q⟩ := q
      exact GoesS.move (fun w => Conc.stepG_end) (GoesS.stop ⟨rfl, rfl, hfit.defers, rfl, .inl ⟨rfl, q a' hfit⟩⟩)
    | ret => obtain ⟨rfl, q⟩ := q; exact fun todo => GoesS.stop ⟨rfl, rfl, hfit.defers, rfl, .inl ⟨rfl, q a' hfit⟩⟩
    | panic ch => obtain ⟨rfl, q⟩ := q; exact fun todo => GoesS.stop ⟨rfl, rfl, hfit.defers, rfl, .inr ⟨ch, rfl, q⟩⟩
    | exit id => exact q.elim
    | goto l => exact q.elim
    | outgrown => exact q.elim
  rw [← Conc.enter_at _ hf hb] at g
  obtain ⟨t, g⟩ := g
  obtain ⟨fr', cs', w', h', es, ⟨rfl, s1, s2, s3, s4⟩, k, st⟩ := lone_goes t _ _ h w g hh
  rcases s4 with ⟨hm, hsem⟩ | ⟨ch, hm, hR⟩
  · obtain ⟨w₂, es₂, h₂, e1, e2, e3⟩ := semS_sound _ h' w' #[] _ hsem k.holds
    simp only [Sem.runT_eq, Array.empty_append] at e1 e3
    rcases e3 with ⟨v, hx, hR⟩ | ⟨v, _, hk⟩
    · have := calm_results fn fr'.tmps P w' w₂ v hx
      subst this
      exact ⟨.returned v, w₂, fr', ⟨h₂, _, hR, k.trans e2⟩, st, s1, hm, s2, s3, fn, by rw [s1]; exact hf, hx⟩
    · exact hk.elim
  · exact ⟨.panicked ch, w', fr', ⟨h', _, hR, k⟩, st, s1, hm, s2, fn, by rw [s1]; exact hf⟩

end
end KL
end Go.Proofs.YtlmecmapkijcnaaDoor
