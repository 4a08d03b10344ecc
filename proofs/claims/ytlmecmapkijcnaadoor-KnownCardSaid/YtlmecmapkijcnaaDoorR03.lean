/- A region that draws its order, whose tail changes what is known while some of its head may still be to come. Operations under a guard: run where the guarding operation yielded what is wanted, passed by else. Slices made. -/
import Derived.Test.YtlmecmapkijcnaaDoorR02
set_option linter.unusedVariables false
namespace Go.Proofs.YtlmecmapkijcnaaDoor
namespace KL
open Go.Conc (G listed)

/-- Operation 'o', where its operands read so, goes on with what R says; whatever region it stands in. -/
def StepS (A : Acts) (P : Program) (main : Bool) (o : Oper) (ρ : Operand → Value) (h : Know) (R : Value → Know → Prop) : Prop :=
  ∀ (a : Act) (b : Frame) (k : List Item) (cs : List Frame) (Stop : Frame → List Frame → Know → Prop) (ops : Array Oper) (i : Nat) (rest : List Nat),
    (∀ x ∈ o.op.operands, a.eval x = ρ x) → ops[i]? = some o → Region.wanted o (yielded ops a.tmps) = true → b.kind ≠ .early →
    (∀ v h', R v h' → GoesS A P main Stop (b.at (a.put o.dst v) (.inRegion ops rest :: k)) cs h') → GoesS A P main Stop (b.at a (.inRegion ops (i :: rest) :: k)) cs h
theorem stepS_sem {P : Program} {A : Acts} [Priv A] {main : Bool} {o : Oper} {ρ : Operand → Value} {h : Know} {R : Value → Know → Prop} (hs : notSelect o.op = true)
    (hx : semS P (fun _ _ => False) (execOp ρ o) h (nextE A P main R (fun _ _ => False))) : StepS A P main o ρ h R := by
  intro a b k cs Stop ops i rest hρ ho hw hk g
  refine goes_op ho hw hk ?_
  rw [execOp_congr o (notSelect_spec hs) hρ]
  refine semS_mono (fun _ _ q => q.elim) _ _ _ _ (fun x h' q => ?_) hx
  cases x with
  | value u => exact g _ _ q
  | skip => exact g _ _ q
  | enter f args =>
    refine CallS.mono (show CallS A P main f args h' (callR _ _) from q) fun e h₂ r => ?_
    cases e with
    | returned u => exact g _ _ r
    | panicked ch => exact r.elim
    | outgrown => exact r
  | _ => exact q.elim

/-- The tail, in the text's order. -/
def TailE (A : Acts) (P : Program) (main : Bool) : List Oper → Env → Know → (Env → Know → Prop) → Prop
  | [], E, h, K => K E h
  | o :: l, E, h, K => o.op.operands.all E.has = true ∧ ∃ R, StepS A P main o E.ev h R ∧ ∀ v h', R v h' → TailE A P main l (E.put o.dst v) h' K
def isFree : Op → Bool
  | .move _ => true
  | .binOp .. => true
  | _ => false
/-- The head, in the text's order: what is free yields so whatever is known. -/
def HeadF (A : Acts) (P : Program) (main : Bool) : List Oper → Env → Know → (Env → Prop) → Prop
  | [], E, _, K => K E
  | o :: l, E, h, K => o.op.operands.all E.has = true ∧ ∃ v, YieldS A P main o E.ev h v ∧ (isFree o.op = true → ∀ h', YieldS A P main o E.ev h' v) ∧ HeadF A P main l (E.put o.dst v) h K

def edgeB (o : Oper) (i : Nat) : Bool := o.after.any fun e => isBound e && e.on == i
def depsB (o : Oper) : List Nat := (o.after.toList.filter isBound).map (·.on)
/-- What the operations in S wait for, one behind the other. -/
def closure (ops : List Oper) : Nat → List Nat → List Nat
  | 0, S => S
  | i + 1, S => if S.elem i then closure ops i ((match ops[i]? with | some o => depsB o | none => []) ++ S) else closure ops i S
def tmpIn (d : Option Tmp) (o : Oper) : Bool := match d with | some t => o.op.operands.any (fun | .tmp u => u == t | _ => false) | none => false
def shapeT (ops : List Oper) (m : Nat) : Bool :=
  (ops.zipIdx.all fun (o, i) => o.guard.isNone && o.after.all fun e => !isBound e || decide (e.on < i)) &&
  ((ops.take m).zipIdx.all fun (o, i) => o.dst.isSome && notSelect o.op &&
    ((ops.take m).zipIdx.all fun (p, j) => !tmpIn p.dst o || (decide (j < i) && edgeB o j)) &&
    ((ops.take m).zipIdx.all fun (p, j) => i == j || p.dst != o.dst)) &&
  (match ops[m]? with
  | some o => let S := closure ops m (depsB o); (ops.take m).zipIdx.all fun (p, j) => isFree p.op || S.elem j
  | none => true) &&
  ((ops.zipIdx.drop m).all fun (o, t) => (t == m || edgeB o (t - 1)) && (ops.take m).zipIdx.all fun (p, j) => edgeB o j || (!tmpIn p.dst o && p.dst != o.dst && !tmpIn o.dst p))

theorem edgeB_iff {o : Oper} {i : Nat} : edgeB o i = true ↔ ∃ e ∈ o.after, Region.binds .any e = true ∧ e.on = i := by
  simp only [edgeB, isBound, Array.any_eq_true', Bool.and_eq_true, beq_iff_eq]
theorem tmpIn_iff {t : Tmp} {o : Oper} : tmpIn (some t) o = true ↔ Operand.tmp t ∈ o.op.operands := by
  simp only [tmpIn, Array.any_eq_true']
  constructor
  · rintro ⟨x, hx, e⟩
    cases x with
    | tmp u => simp only [beq_iff_eq] at e; subst e; exact hx
    | _ => cases e
  · exact fun hx => ⟨_, hx, by simp⟩

structure ShapeT (ops : List Oper) (m : Nat) : Prop where
  guard : ∀ (i : Nat) (o : Oper), ops[i]? = some o → o.guard = none
  back : ∀ (i : Nat) (o : Oper), ops[i]? = some o → ∀ e ∈ o.after, Region.binds .any e = true → e.on < i
  dst : ∀ (i : Nat) (o : Oper), i < m → ops[i]? = some o → ∃ d, o.dst = some d
  sel : ∀ (i : Nat) (o : Oper), i < m → ops[i]? = some o → notSelect o.op = true
  uses : ∀ (i : Nat) (o : Oper) (t : Tmp), i < m → ops[i]? = some o → Operand.tmp t ∈ o.op.operands → ∀ (j : Nat) (p : Oper), j < m → ops[j]? = some p → p.dst = some t → j < i ∧ edgeB o j = true
  once : ∀ (i : Nat) (o : Oper) (j : Nat) (p : Oper), i < m → j < m → ops[i]? = some o → ops[j]? = some p → i ≠ j → p.dst ≠ o.dst
  first : ∀ (o : Oper), ops[m]? = some o → ∀ (j : Nat) (p : Oper), j < m → ops[j]? = some p → isFree p.op = true ∨ j ∈ closure ops m (depsB o)
  next : ∀ (t : Nat) (o : Oper), m < t → ops[t]? = some o → edgeB o (t - 1) = true
  apart : ∀ (t : Nat) (o : Oper), m ≤ t → ops[t]? = some o → ∀ (j : Nat) (p : Oper), j < m → ops[j]? = some p → edgeB o j = true ∨ (tmpIn p.dst o = false ∧ p.dst ≠ o.dst ∧ tmpIn o.dst p = false)

theorem shapeT_of {ops : List Oper} {m : Nat} (h : shapeT ops m = true) : ShapeT ops m := by
  unfold shapeT at h
  rw [Bool.and_eq_true, Bool.and_eq_true, Bool.and_eq_true] at h
  obtain ⟨⟨⟨h1, h2⟩, h3⟩, h4⟩ := h
  rw [List.all_eq_true] at h1 h2 h4
  have g1 : ∀ (i : Nat) (o : Oper), ops[i]? = some o → o.guard.isNone = true ∧ o.after.all (fun e => !isBound e || decide (e.on < i)) = true := by
    intro i o ho
    have : (o, i) ∈ ops.zipIdx := List.mem_of_getElem? (i := i) (by rw [List.getElem?_zipIdx, ho]; simp)
    have := h1 _ this
    rwa [Bool.and_eq_true] at this
  have g2 : ∀ (i : Nat) (o : Oper), i < m → ops[i]? = some o → ((o.dst.isSome = true ∧ notSelect o.op = true) ∧ ((ops.take m).zipIdx.all fun (p, j) => !tmpIn p.dst o || (decide (j < i) && edgeB o j)) = true) ∧ ((ops.take m).zipIdx.all fun (p, j) => i == j || p.dst != o.dst) = true := by
    intro i o hi ho
    have := h2 (o, i) (List.mem_of_getElem? (take_get hi ho))
    simpa only [Bool.and_eq_true] using this
  have g4 : ∀ (t : Nat) (o : Oper), m ≤ t → ops[t]? = some o → (t == m || edgeB o (t - 1)) = true ∧ ((ops.take m).zipIdx.all fun (p, j) => edgeB o j || (!tmpIn p.dst o && p.dst != o.dst && !tmpIn o.dst p)) = true := by
    intro t o hm ho
    have hmem : (o, t) ∈ ops.zipIdx.drop m := by
      refine List.mem_of_getElem? (i := t - m) ?_
      rw [List.getElem?_drop, List.getElem?_zipIdx]
      have : m + (t - m) = t := by omega
      rw [this, ho]; simp
    have := h4 _ hmem
    simpa only [Bool.and_eq_true] using this
  refine ⟨fun i o ho => by simpa using (g1 i o ho).1, fun i o ho e he hb => ?_, fun i o hi ho => Option.isSome_iff_exists.1 (g2 i o hi ho).1.1.1, fun i o hi ho => (g2 i o hi ho).1.1.2,
    fun i o t hi ho ht j p hj hp hd => ?_, fun i o j p hi hj ho hp hij => ?_, fun o ho j p hj hp => ?_, fun t o hm ho => ?_, fun t o hm ho j p hj hp => ?_⟩
  · have := (g1 i o ho).2
    rw [Array.all_eq_true'] at this
    have := this e he
    simpa [isBound, hb] using this
  · have := (g2 i o hi ho).1.2
    rw [List.all_eq_true] at this
    have := this (p, j) (List.mem_of_getElem? (take_get hj hp))
    simp only [hd, tmpIn_iff.2 ht, Bool.not_true, Bool.false_or, Bool.and_eq_true, decide_eq_true_eq] at this
    exact this
  · have := (g2 i o hi ho).2
    rw [List.all_eq_true] at this
    have := this (p, j) (List.mem_of_getElem? (take_get hj hp))
    simp only [Bool.or_eq_true, beq_iff_eq, bne_iff_ne, ne_eq] at this
    exact this.resolve_left hij
  · simp only [ho, List.all_eq_true] at h3
    have := h3 (p, j) (List.mem_of_getElem? (take_get hj hp))
    simpa only [Bool.or_eq_true, List.elem_eq_mem, decide_eq_true_eq] using this
  · have := (g4 t o (by omega) ho).1
    simp only [Bool.or_eq_true, beq_iff_eq] at this
    exact this.resolve_left (by omega)
  · have := (g4 t o hm ho).2
    rw [List.all_eq_true] at this
    have := this (p, j) (List.mem_of_getElem? (take_get hj hp))
    simp only [Bool.or_eq_true, Bool.and_eq_true, Bool.not_eq_true', bne_iff_ne, ne_eq] at this
    rcases this with e | ⟨⟨e1, e2⟩, e3⟩
    · exact .inl e
    · exact .inr ⟨e1, e2, e3⟩

/-- What is listed is closed: what a listed one waits for is listed. -/
def Closed (ops : List Oper) (listed : Array Bool) : Prop := ∀ (i : Nat) (o : Oper), ops[i]? = some o → listed.getD i false = true → ∀ e ∈ o.after, Region.binds .any e = true → listed.getD e.on false = true
theorem depsB_mem {o : Oper} {i : Nat} : i ∈ depsB o ↔ ∃ e ∈ o.after, Region.binds .any e = true ∧ e.on = i := by
  simp only [depsB, isBound, List.mem_map, List.mem_filter, Array.mem_toList_iff]
  exact ⟨fun ⟨e, ⟨h1, h2⟩, h3⟩ => ⟨e, h1, h2, h3⟩, fun ⟨e, h1, h2, h3⟩ => ⟨e, ⟨h1, h2⟩, h3⟩⟩
theorem closure_listed {ops : List Oper} {listed : Array Bool} (hc : Closed ops listed) : ∀ (n : Nat) (S : List Nat), (∀ i ∈ S, listed.getD i false = true) → ∀ i ∈ closure ops n S, listed.getD i false = true := by
  intro n
  induction n with
  | zero => exact fun S h => h
  | succ n ih =>
    intro S hS
    simp only [closure]
    split
    · rename_i hn
      rw [List.elem_eq_mem, decide_eq_true_eq] at hn
      refine ih _ fun i hi => ?_
      rcases List.mem_append.1 hi with g | g
      · cases ho : ops[n]? with
        | none => rw [ho] at g; cases g
        | some o =>
          rw [ho] at g
          obtain ⟨e, he, hb, rfl⟩ := depsB_mem.1 g
          exact hc n o ho (hS n hn) e he hb
      · exact hS i g
    · exact ih S hS

section
variable {P : Program} {A : Acts} [Priv A] {main : Bool} {n : Nat} {Q : Post} {ds : List Deferred} {h : Know}

omit [Priv A] in
theorem headF_vals : ∀ (l : List Oper) (i : Nat) (E : Env) (K : Env → Prop), HeadF A P main l E h K → ∃ val : Nat → Value, K (envAt val l i E) ∧
    ∀ j o, l[j]? = some o → o.op.operands.all (envAt val (l.take j) i E).has = true ∧ YieldS A P main o (envAt val (l.take j) i E).ev h (val (i + j)) ∧ (isFree o.op = true → ∀ h', YieldS A P main o (envAt val (l.take j) i E).ev h' (val (i + j))) := by
  intro l
  induction l with
  | nil => exact fun i E K hk => ⟨fun _ => undef, hk, fun j o h => by simp at h⟩
  | cons a l ih =>
    rintro i E K ⟨ha, v, hv, hv', hk⟩
    obtain ⟨val, h1, h2⟩ := ih (i + 1) (E.put a.dst v) K hk
    have cong : ∀ (l : List Oper) (k : Nat) (E : Env), i < k → envAt (fun j => if j = i then v else val j) l k E = envAt val l k E := by
      intro l
      induction l with
      | nil => exact fun _ _ _ => rfl
      | cons b l ih => intro k E hk; simp only [envAt]; rw [if_neg (by omega)]; exact ih _ _ (by omega)
    refine ⟨fun j => if j = i then v else val j, ?_, fun j o ho => ?_⟩
    · simp only [envAt, if_true]; rw [cong _ _ _ (by omega)]; exact h1
    · cases j with
      | zero =>
        simp only [List.getElem?_cons_zero, Option.some.injEq] at ho
        subst ho
        simp only [List.take_zero, envAt, Nat.add_zero, if_true]
        exact ⟨ha, hv, hv'⟩
      | succ j =>
        rw [List.getElem?_cons_succ] at ho
        obtain ⟨g1, g2, g3⟩ := h2 j o ho
        simp only [List.take_succ_cons, envAt, if_true]
        rw [cong _ _ _ (by omega), if_neg (by omega)]
        have e : i + (j + 1) = i + 1 + j := by omega
        rw [e]
        exact ⟨g1, g2, g3⟩

/-- What the frame holds: every slot that the environment knows, but those that a part of the head is still to fill; and what such a part is to read. -/
structure DrawInv (ops : List Oper) (m n : Nat) (ds : List Deferred) (E Et : Env) (val : Nat → Value) (listed : Array Bool) (a : Act) : Prop where
  size : a.tmps.size = n
  defers : a.defers = ds
  have_ : ∀ t v, Et.look t = some v → (∀ j p, j < m → ops[j]? = some p → p.dst = some t → listed.getD j false = true) → a.tmps[t]? = some v
  pend : ∀ j p, j < m → ops[j]? = some p → listed.getD j false = false → ∀ t v, Operand.tmp t ∈ p.op.operands → (envAt val (ops.take j) 0 E).look t = some v →
    (∀ j' p', j' < m → ops[j']? = some p' → p'.dst = some t → listed.getD j' false = true) → a.tmps[t]? = some v
  fill : ∀ j p d, j < m → ops[j]? = some p → listed.getD j false = false → p.dst = some d → Et.look d = some (val j)

theorem ready_ne {ops : List Oper} (back : ∀ (i : Nat) (o : Oper), ops[i]? = some o → ∀ e ∈ o.after, Region.binds .any e = true → e.on < i) {listed : Array Bool} (hs : listed.size = ops.length) {j : Nat} (hj : j < ops.length) (hl : listed.getD j false = false) : Region.ready .any ops.toArray listed ≠ [] := by
  have key : ∀ N, (∃ j, j < N ∧ listed.getD j false = false) → ∃ i, i < N ∧ listed.getD i false = false ∧ ∀ k, k < i → listed.getD k false = true := by
    intro N
    induction N with
    | zero => rintro ⟨j, hj, _⟩; omega
    | succ N ih =>
      rintro ⟨j, hj, hl⟩
      by_cases hb : ∃ j, j < N ∧ listed.getD j false = false
      · obtain ⟨i, h1, h2, h3⟩ := ih hb; exact ⟨i, by omega, h2, h3⟩
      · refine ⟨j, hj, hl, fun k hk => ?_⟩
        cases e : listed.getD k false with
        | true => rfl
        | false => exact absurd ⟨k, by omega, e⟩ hb
  obtain ⟨i, hi, h1, h2⟩ := key _ ⟨j, hj, hl⟩
  intro hnil
  have hmem : i ∈ Region.ready .any ops.toArray listed := by
    refine mem_ready.2 ⟨?_, ops[i], by simp [hi], fun e he hb => h2 _ (back i _ (by simp [hi]) e he hb)⟩
    have hlt : i < listed.size := by omega
    simpa [hlt] using h1
  rw [hnil] at hmem; cases hmem

theorem wpE_drawT {id : Nat} {l : List Oper} {E : Env} (m : Nat) (hm : P.follows .mixedOrders = true) (hsh : shapeT l m = true) (hml : m ≤ l.length) (hdst : ∀ o ∈ l, ∀ t, o.dst = some t → t < n)
    (hx : HeadF A P main (l.take m) E h (fun E₁ => TailE A P main (l.drop m) E₁ h (fun E₂ h₂ => Q .normal ds E₂ h₂))) : wpE A P main n (.region id l.toArray true) Q ds E h := by
  have sh := shapeT_of hsh
  intro a b k cs Stop hf hk hc
  obtain ⟨val, hK, hval⟩ := headF_vals (l.take m) 0 E _ hx
  refine GoesS.step fun w hw => ⟨b.at a (.inRegion l.toArray (Region.linearise .any l.toArray (w.tape w.drawn (.order b.fn id))) :: k), cs, { w with drawn := w.drawn + 1 }, #[], h, ?_, KStep.draw hw rfl rfl rfl rfl, ?_⟩
  · simp [G, stepG, stepG.exec, Frame.at, choose, Sem.run, Question.forced, Question.cut, Region.schedule, hm]
  generalize w.tape w.drawn (.order b.fn id) = t
  unfold Region.linearise
  have takeget : ∀ j p, j < m → l[j]? = some p → (l.take m)[j]? = some p := fun j p hj hp => by rw [List.getElem?_take, if_pos hj]; exact hp
  have ofTake : ∀ j p, (l.take m)[j]? = some p → j < m ∧ l[j]? = some p := fun j p hp => by
    rw [List.getElem?_take] at hp
    split at hp
    · rename_i g; exact ⟨g, hp⟩
    · cases hp
  -- all are listed
  have done : ∀ (listed : Array Bool) (a : Act) (s : Nat) (Et : Env) (ht : Know), (∀ j, j < l.length → listed.getD j false = true) → s ≤ l.length → (∀ j, m ≤ j → j < l.length → (listed.getD j false = true ↔ j < s)) → m ≤ s →
      DrawInv l m n ds E Et val listed a → TailE A P main (l.drop s) Et ht (fun E₂ h₂ => Q .normal ds E₂ h₂) → GoesS A P main Stop (b.at a (.inRegion l.toArray [] :: k)) cs ht := by
    intro listed a s Et ht hall hsl hT hms inv htail
    have : s = l.length := by
      rcases Nat.lt_or_ge s l.length with g | g
      · exact absurd ((hT s hms g).1 (hall s g)) (Nat.lt_irrefl _)
      · omega
    subst this
    rw [List.drop_length] at htail
    have hfit : Fit a n ds Et := ⟨inv.size, fun t v e => inv.have_ t v e fun j p hj hp _ => hall j (by have := (List.getElem?_eq_some_iff.1 hp).1; exact this), inv.defers⟩
    exact opsE_nil (n := n) (ops := l.toArray) (Q := Q) (ds := ds) htail a b k cs Stop l.length hfit hk (fun j => by simp) hc
  have key : ∀ (fuel t : Nat) (listed : Array Bool) (a : Act) (s : Nat) (Et : Env) (ht : Know), listed.size = l.length → unl l.length listed ≤ fuel → m ≤ s → s ≤ l.length →
      (∀ j, m ≤ j → j < l.length → (listed.getD j false = true ↔ j < s)) → Closed l listed → (s = m → ht = h) → DrawInv l m n ds E Et val listed a → TailE A P main (l.drop s) Et ht (fun E₂ h₂ => Q .normal ds E₂ h₂) →
      GoesS A P main Stop (b.at a (.inRegion l.toArray (Region.linearise.go .any l.toArray fuel t listed []) :: k)) cs ht := by
    intro fuel
    induction fuel with
    | zero =>
      intro t listed a s Et ht hs hu hms hsl hT hcl hK inv htail
      have : Region.linearise.go .any l.toArray 0 t listed [] = [] := by simp [Region.linearise.go]
      rw [this]
      exact done listed a s Et ht (unl_zero hs (Nat.le_zero.1 hu)) hsl hT hms inv htail
    | succ fuel ih =>
      intro t listed a s Et ht hs hu hms hsl hT hcl hKn inv htail
      simp only [Region.linearise.go]
      change GoesS A P main Stop (b.at a (.inRegion l.toArray (match (Region.ready .any l.toArray listed)[t % (Region.ready .any l.toArray listed).length]? with
        | some i => Region.linearise.go .any l.toArray fuel (t / (Region.ready .any l.toArray listed).length) (listed.setIfInBounds i true) [i]
        | none => [].reverse) :: k)) cs ht
      cases hi : (Region.ready .any l.toArray listed)[t % (Region.ready .any l.toArray listed).length]? with
      | none =>
        refine done listed a s Et ht (fun j hj => ?_) hsl hT hms inv htail
        cases e : listed.getD j false with
        | true => rfl
        | false =>
          have hne := ready_ne sh.back hs hj e
          have hlt : t % (Region.ready .any l.toArray listed).length < (Region.ready .any l.toArray listed).length := Nat.mod_lt _ (List.length_pos_iff.2 hne)
          rw [List.getElem?_eq_getElem hlt] at hi; cases hi
      | some i =>
        simp only []
        rw [linearise_go_acc, List.reverse_singleton, List.singleton_append]
        obtain ⟨h0, o, ho, hrdy⟩ := mem_ready.1 (List.mem_of_getElem? hi)
        have ho' : l[i]? = some o := by simpa using ho
        have hiN : i < l.length := (List.getElem?_eq_some_iff.1 ho').1
        have hed : ∀ j, edgeB o j = true → listed.getD j false = true := fun j ej => by
          obtain ⟨e, he, hb, rfl⟩ := edgeB_iff.1 ej
          exact hrdy e he hb
        have h0' : listed.getD i false = false := by
          have hlt : i < listed.size := by omega
          simpa [hlt] using h0
        have set_of : ∀ j, listed.getD j false = true → (listed.setIfInBounds i true).getD j false = true := fun j e => by
          by_cases g : i = j
          · subst g; rw [h0'] at e; cases e
          · rw [getD_set_ne false g]; exact e
        have hcl' : Closed l (listed.setIfInBounds i true) := by
          intro j p hp hl e he hb
          by_cases g : i = j
          · subst g
            rw [ho'] at hp; cases hp
            exact set_of _ (hrdy e he hb)
          · rw [getD_set_ne false g] at hl
            exact set_of _ (hcl j p hp hl e he hb)
        have hd_lt : ∀ d, o.dst = some d → d < n := fun d hd => hdst o (List.mem_of_getElem? ho') d hd
        have hwant : Region.wanted o (yielded l.toArray a.tmps) = true := by simp [Region.wanted, sh.guard i o ho']
        rcases Nat.lt_or_ge i m with him | him
        · -- one of the head
          obtain ⟨d, hd⟩ := sh.dst i o him ho'
          obtain ⟨hops, hy, hyf⟩ := hval i o (takeget i o him ho')
          rw [Nat.zero_add] at hy hyf
          have htake : (l.take m).take i = l.take i := by rw [List.take_take, Nat.min_eq_left (by omega)]
          rw [htake] at hops hy hyf
          have hyt : YieldS A P main o (envAt val (l.take i) 0 E).ev ht (val i) := by
            by_cases e : s = m
            · rw [hKn e]; exact hy
            · have hmN : m < l.length := by omega
              rcases sh.first l[m] (by simp [hmN]) i o him ho' with g | g
              · exact hyf g ht
              · have hlm : listed.getD m false = true := (hT m (Nat.le_refl _) hmN).2 (by omega)
                have := closure_listed hcl m (depsB l[m]) (fun j hj => by
                  obtain ⟨e, he, hb, rfl⟩ := depsB_mem.1 hj
                  exact hcl m l[m] (by simp [hmN]) hlm e he hb) i g
                rw [h0'] at this; cases this
          refine hyt a b k cs Stop l.toArray i _ (fun x hx => ?_) ho hwant hk ?_
          · cases x with
            | const v => rfl
            | global g => rfl
            | func g => rfl
            | tmp t' =>
              rw [Array.all_eq_true'] at hops
              have hk' := hops _ hx
              simp only [Env.has, Option.isSome_iff_exists] at hk'
              obtain ⟨v, hv⟩ := hk'
              have := inv.pend i o him ho' h0' t' v hx hv fun j p hj hp hpd => hed j (sh.uses i o t' him ho' hx j p hj hp hpd).2
              simp [Act.eval, Env.ev, hv, this]
          · refine ih _ _ _ s Et ht (by simpa using hs) (by have := unl_set hs h0; omega) hms hsl (fun j hj hjN => ?_) hcl' hKn ?_ htail
            · rw [getD_set_ne false (by omega)]; exact hT j hj hjN
            · have hlisted : ∀ t', t' ≠ d → (∀ j p, j < m → l[j]? = some p → p.dst = some t' → (listed.setIfInBounds i true).getD j false = true) → ∀ j p, j < m → l[j]? = some p → p.dst = some t' → listed.getD j false = true := by
                intro t' hne hp j p hj hpj hpd
                have := hp j p hj hpj hpd
                by_cases g : i = j
                · subst g; rw [ho'] at hpj; cases hpj; rw [hd] at hpd; cases hpd; exact absurd rfl hne
                · rwa [getD_set_ne false g] at this
              have hpendof : ∀ j, (listed.setIfInBounds i true).getD j false = false → i ≠ j ∧ listed.getD j false = false := by
                intro j e
                by_cases g : i = j
                · subst g
                  have : i < listed.size := by omega
                  simp [this] at e
                · exact ⟨g, by rwa [getD_set_ne false g] at e⟩
              refine ⟨by simp [Act.put, hd, inv.size], by simp [Act.put, hd, inv.defers], fun t' v e hp => ?_, fun j p hj hpj hl t' v hx he hp => ?_, fun j p d' hj hpj hl hpd => ?_⟩
              · by_cases g : t' = d
                · subst g
                  rw [inv.fill i o t' him ho' h0' hd] at e; cases e
                  simp only [Act.put, hd]
                  rw [Array.getElem?_setIfInBounds_self_of_lt (by rw [inv.size]; exact hd_lt t' hd)]
                · simp only [Act.put, hd]
                  rw [Array.getElem?_setIfInBounds_ne (Ne.symm g)]
                  exact inv.have_ t' v e (hlisted t' g hp)
              · obtain ⟨hij, hl'⟩ := hpendof j hl
                by_cases g : t' = d
                · subst g
                  have hlt := (sh.uses j p t' hj hpj hx i o him ho' hd).1
                  have := (look_envAt (val := val) (l.take j) 0 E t').2 i o (by rw [List.getElem?_take, if_pos hlt]; exact ho') hd (fun j' p' hne' hp' => by
                    rw [List.getElem?_take] at hp'
                    split at hp'
                    · rename_i hj'
                      rw [← hd]; exact sh.once i o j' p' him (by omega) ho' hp' (Ne.symm hne')
                    · cases hp')
                  rw [this, Nat.zero_add] at he; cases he
                  simp only [Act.put, hd]
                  rw [Array.getElem?_setIfInBounds_self_of_lt (by rw [inv.size]; exact hd_lt t' hd)]
                · simp only [Act.put, hd]
                  rw [Array.getElem?_setIfInBounds_ne (Ne.symm g)]
                  exact inv.pend j p hj hpj hl' t' v hx he (hlisted t' g hp)
              · obtain ⟨hij, hl'⟩ := hpendof j hl
                exact inv.fill j p d' hj hpj hl' hpd
        · -- the tail's next
          have his : i = s := by
            rcases Nat.lt_trichotomy i s with g | g | g
            · have := (hT i him hiN).2 g
              rw [h0'] at this; cases this
            · exact g
            · have := hed _ (sh.next i o (by omega) ho')
              have := (hT (i - 1) (by omega) (by omega)).1 this
              omega
          subst his
          have hdrop : l.drop i = o :: l.drop (i + 1) := by
            rw [List.drop_eq_getElem_cons hiN]
            congr 1
            rw [List.getElem?_eq_getElem hiN] at ho'; exact Option.some.inj ho'
          rw [hdrop] at htail
          obtain ⟨hops, R, hstep, hnext⟩ := htail
          refine hstep a b k cs Stop l.toArray i _ (fun x hx => ?_) ho hwant hk fun v h' hR => ?_
          · cases x with
            | const v => rfl
            | global g => rfl
            | func g => rfl
            | tmp t' =>
              rw [Array.all_eq_true'] at hops
              have hk' := hops _ hx
              simp only [Env.has, Option.isSome_iff_exists] at hk'
              obtain ⟨v, hv⟩ := hk'
              have := inv.have_ t' v hv fun j p hj hp hpd => by
                rcases sh.apart i o him ho' j p hj hp with g | ⟨g, _⟩
                · exact hed j g
                · rw [hpd, tmpIn_iff.2 hx] at g; cases g
              simp [Act.eval, Env.ev, hv, this]
          · refine ih _ _ _ (i + 1) (Et.put o.dst v) h' (by simpa using hs) (by have := unl_set hs h0; omega) (by omega) (by omega) (fun j hj hjN => ?_) hcl' (fun e => by omega) ?_ (hnext v h' hR)
            · by_cases g : i = j
              · subst g
                have : i < listed.size := by omega
                simp [this]
              · rw [getD_set_ne false g, hT j hj hjN]; omega
            · have hne_of : ∀ j, j < m → i ≠ j := fun j hj => by omega
              refine ⟨by cases hd : o.dst <;> simp [Act.put, inv.size], by cases hd : o.dst <;> simp [Act.put, inv.defers], fun t' v' e hp => ?_, fun j p hj hpj hl t' v' hx he hp => ?_, fun j p d' hj hpj hl hpd => ?_⟩
              · by_cases g : o.dst = some t'
                · rw [g, Env.put, Env.look_cons, if_pos rfl] at e; cases e
                  simp only [Act.put, g]
                  rw [Array.getElem?_setIfInBounds_self_of_lt (by rw [inv.size]; exact hd_lt t' g)]
                · rw [look_put_none g] at e
                  have := inv.have_ t' v' e fun j p hj hpj hpd => by
                    have := hp j p hj hpj hpd
                    rwa [getD_set_ne false (hne_of j hj)] at this
                  cases hd : o.dst with
                  | none => simpa [Act.put, hd] using this
                  | some d =>
                    simp only [Act.put]
                    rw [Array.getElem?_setIfInBounds_ne (fun e => g (by rw [hd, e]))]
                    exact this
              · rw [getD_set_ne false (hne_of j hj)] at hl
                rcases sh.apart i o him ho' j p hj hpj with g | ⟨_, _, g⟩
                · rw [hed j g] at hl; cases hl
                · have := inv.pend j p hj hpj hl t' v' hx he fun j' p' hj' hp' hpd' => by
                    have := hp j' p' hj' hp' hpd'
                    rwa [getD_set_ne false (hne_of j' hj')] at this
                  cases hd : o.dst with
                  | none => simpa [Act.put, hd] using this
                  | some d =>
                    simp only [Act.put]
                    rw [Array.getElem?_setIfInBounds_ne (fun e => by rw [hd, e, tmpIn_iff.2 hx] at g; cases g)]
                    exact this
              · rw [getD_set_ne false (hne_of j hj)] at hl
                rcases sh.apart i o him ho' j p hj hpj with g | ⟨_, g, _⟩
                · rw [hed j g] at hl; cases hl
                · rw [look_put_none (fun e => g (by rw [hpd, e]))]
                  exact inv.fill j p d' hj hpj hl hpd
  refine key _ t _ a m (envAt val (l.take m) 0 E) h (by simp) ?_ (Nat.le_refl _) hml (fun j hj hjN => ?_) (fun i o _ hl => ?_) (fun _ => rfl) ⟨hf.size, hf.defers, fun t v e hp' => ?_, fun j p hj hpj hl t v hx he hp => ?_, fun j p d hj hpj hl hpd => ?_⟩ hK
  · have : ∀ N (L : Array Bool), unl N L ≤ N := fun N L => by unfold unl; have := List.length_filter_le (fun j => !L.getD j true) (List.range N); simpa using this
    simpa using this l.length _
  · rw [getD_replicate_false]; constructor
    · intro e; cases e
    · intro e; omega
  · rw [getD_replicate_false] at hl; cases hl
  · refine hf.look t v ?_
    rw [(look_envAt (val := val) (l.take m) 0 E t).1 fun p hp hpd => ?_] at e
    · exact e
    · obtain ⟨j, hj⟩ := List.getElem?_of_mem hp
      obtain ⟨g1, g2⟩ := ofTake j p hj
      have := hp' j p g1 g2 hpd
      rw [getD_replicate_false] at this; cases this
  · refine hf.look t v ?_
    rw [(look_envAt (val := val) (l.take j) 0 E t).1 fun p' hp' hpd => ?_] at he
    · exact he
    · obtain ⟨j', hj'⟩ := List.getElem?_of_mem hp'
      rw [List.getElem?_take] at hj'
      split at hj'
      · rename_i g
        have := hp j' p' (by omega) hj' hpd
        rw [getD_replicate_false] at this; cases this
      · cases hj'
  · have := (look_envAt (val := val) (l.take m) 0 E d).2 j p (takeget j p hj hpj) hpd (fun j' p' hne' hp' => by
      obtain ⟨g1, g2⟩ := ofTake j' p' hp'
      rw [← hpd]; exact sh.once j p j' p' hj g1 hpj g2 (Ne.symm hne'))
    rwa [Nat.zero_add] at this

/-! ### Rules for the head and for the tail -/
variable {E : Env} {T : Types} {h' : Know}
theorem wpE_drawTB {id : Nat} {l : List Oper} (m : Nat) (hm : P.follows .mixedOrders = true) (hsh : shapeT l m = true) (hml : Nat.ble m l.length = true) (hd : dstB l n = true)
    (hx : HeadF A P main (l.take m) E h (fun E₁ => TailE A P main (l.drop m) E₁ h (fun E₂ h₂ => Q .normal ds E₂ h₂))) : wpE A P main n (.region id l.toArray true) Q ds E h :=
  wpE_drawT m hm hsh (Nat.le_of_ble_eq_true hml) (fun o ho t ht => by
    unfold dstB at hd
    rw [List.all_eq_true] at hd
    have := hd o ho
    rw [ht] at this
    simpa [Nat.blt_eq] using this) hx

theorem yieldS_run {o : Oper} {ρ : Operand → Value} {v : Value} (hs : notSelect o.op = true) (hr : RunV P ρ o h v h) : YieldS A P main o ρ h v :=
  yieldS_sem hs (hr _ _ (fun e => ⟨e.symm, Know.le_refl _⟩) ⟨rfl, Know.le_refl _⟩)
omit [Priv A] in
theorem hd_nil {K : Env → Prop} (hk : K E) : HeadF A P main [] E h K := hk
theorem hd_p (hT : T.ok P) {l : List Oper} {d : Nat} {op : Op} {ty : TypeId} {pos : String} {after : Array Edge} {v : Value} {K : Env → Prop} (hb : pureO T E op = some v) (next : HeadF A P main l ((d, v) :: E) h K) : HeadF A P main (⟨some d, op, ty, pos, after, none⟩ :: l) E h K := by
  obtain ⟨h1, h2, h3⟩ := pureO_spec hb
  exact ⟨by simpa using h3, v, yieldS_run h2 (runV_pure hT h1), fun _ h' => yieldS_run h2 (runV_pure hT h1), next⟩
theorem hd_pe (hT : T.ok P) {l : List Oper} {d : Nat} {op : Op} {ty : TypeId} {pos : String} {after : Array Edge} {v v' : Value} {K : Env → Prop} (hb : pureO T E op = some v) (e : v = v') (next : HeadF A P main l ((d, v') :: E) h K) : HeadF A P main (⟨some d, op, ty, pos, after, none⟩ :: l) E h K :=
  hd_p hT hb (e ▸ next)
theorem hd_r {l : List Oper} {d : Nat} {op : Op} {ty : TypeId} {pos : String} {after : Array Edge} {v : Value} {K : Env → Prop} (hf : isFree op = false) (hb : headB E ⟨some d, op, ty, pos, after, none⟩ = true) (hr : RunV P E.ev ⟨some d, op, ty, pos, after, none⟩ h v h) (next : HeadF A P main l ((d, v) :: E) h K) :
    HeadF A P main (⟨some d, op, ty, pos, after, none⟩ :: l) E h K := by
  unfold headB at hb
  rw [Bool.and_eq_true] at hb
  exact ⟨by simpa using hb.2, v, yieldS_run hb.1 hr, fun e => (by rw [show isFree op = true from e] at hf; cases hf), next⟩
theorem hd_re {l : List Oper} {d : Nat} {op : Op} {ty : TypeId} {pos : String} {after : Array Edge} {v v' : Value} {K : Env → Prop} (hf : isFree op = false) (hb : headB E ⟨some d, op, ty, pos, after, none⟩ = true) (hr : RunV P E.ev ⟨some d, op, ty, pos, after, none⟩ h v h) (e : v = v') (next : HeadF A P main l ((d, v') :: E) h K) :
    HeadF A P main (⟨some d, op, ty, pos, after, none⟩ :: l) E h K := hd_r hf hb hr (e ▸ next)
/-- .. where the value comes so whatever is known (shifts, remainders). -/
theorem hd_fe {l : List Oper} {d : Nat} {op : Op} {ty : TypeId} {pos : String} {after : Array Edge} {v v' : Value} {K : Env → Prop} (hb : headB E ⟨some d, op, ty, pos, after, none⟩ = true) (hr : ∀ h, RunV P E.ev ⟨some d, op, ty, pos, after, none⟩ h v h) (e : v = v') (next : HeadF A P main l ((d, v') :: E) h K) :
    HeadF A P main (⟨some d, op, ty, pos, after, none⟩ :: l) E h K := by
  subst e
  unfold headB at hb
  rw [Bool.and_eq_true] at hb
  exact ⟨by simpa using hb.2, v, yieldS_run hb.1 (hr h), fun _ h' => yieldS_run hb.1 (hr h'), next⟩
theorem hd_callLe {l : List Oper} {d f : Nat} {fn : Func} {x : Operand} {args : Array Operand} {ats : Array TypeId} {ty : TypeId} {pos : String} {after : Array Edge} {first captured : Array Value} {vs : List Value} {v : Value} {K : Env → Prop}
    (hb : headB E ⟨some d, .call { callee := .value x, args, argTypes := ats }, ty, pos, after, none⟩ = true) (hx : E.ev x = .func (.func f) first captured) (hf : P.funcs[f]? = some fn) (hname : (fn.name == "runtime.NumGoroutine") = false) (hbody : fn.body.isNone = false)
    (ha : first.toList ++ args.toList.map E.ev ++ captured.toList = vs) (hc : CallS A P main f vs.toArray h (RetLe v h)) (next : HeadF A P main l ((d, v) :: E) h K) :
    HeadF A P main (⟨some d, .call { callee := .value x, args, argTypes := ats }, ty, pos, after, none⟩ :: l) E h K := by
  unfold headB at hb
  rw [Bool.and_eq_true] at hb
  refine ⟨by simpa using hb.2, v, yieldS_sem hb.1 (semS_callFn rfl hx hf hname hbody ?_), fun e => (by cases e), next⟩
  have e : first ++ args.map E.ev ++ captured = vs.toArray := by rw [← ha]; apply Array.ext'; simp
  rw [e]
  refine CallS.mono hc fun e h' r => ?_
  obtain ⟨rfl, hl⟩ := r
  exact ⟨rfl, hl⟩

omit [Priv A] in
theorem tl_nil {K : Env → Know → Prop} (hk : K E h) : TailE A P main [] E h K := hk
theorem tailE_run {l : List Oper} {o : Oper} {v : Value} {K : Env → Know → Prop} (hb : headB E o = true) (hr : RunV P E.ev o h v h') (next : TailE A P main l (E.put o.dst v) h' K) : TailE A P main (o :: l) E h K := by
  unfold headB at hb
  rw [Bool.and_eq_true] at hb
  refine ⟨by simpa using hb.2, fun u g => u = v ∧ g = h', stepS_sem hb.1 (hr _ _ (fun e => ⟨e.symm, rfl⟩) ⟨rfl, rfl⟩), ?_⟩
  rintro _ _ ⟨rfl, rfl⟩
  exact next
theorem tl_p (hT : T.ok P) {l : List Oper} {d : Nat} {op : Op} {ty : TypeId} {pos : String} {after : Array Edge} {v : Value} {K : Env → Know → Prop} (hb : pureO T E op = some v) (next : TailE A P main l ((d, v) :: E) h K) : TailE A P main (⟨some d, op, ty, pos, after, none⟩ :: l) E h K := by
  obtain ⟨h1, h2, h3⟩ := pureO_spec hb
  exact tailE_run (o := ⟨some d, op, ty, pos, after, none⟩) (by simp only [headB, h2, Bool.true_and]; exact h3) (runV_pure hT h1) next
theorem tl_pe (hT : T.ok P) {l : List Oper} {d : Nat} {op : Op} {ty : TypeId} {pos : String} {after : Array Edge} {v v' : Value} {K : Env → Know → Prop} (hb : pureO T E op = some v) (e : v = v') (next : TailE A P main l ((d, v') :: E) h K) : TailE A P main (⟨some d, op, ty, pos, after, none⟩ :: l) E h K :=
  tl_p hT hb (e ▸ next)
theorem tl_r {l : List Oper} {d : Nat} {op : Op} {ty : TypeId} {pos : String} {after : Array Edge} {v : Value} {K : Env → Know → Prop} (hb : headB E ⟨some d, op, ty, pos, after, none⟩ = true) (hr : RunV P E.ev ⟨some d, op, ty, pos, after, none⟩ h v h') (next : TailE A P main l ((d, v) :: E) h' K) :
    TailE A P main (⟨some d, op, ty, pos, after, none⟩ :: l) E h K := tailE_run hb hr next
theorem tl_re {l : List Oper} {d : Nat} {op : Op} {ty : TypeId} {pos : String} {after : Array Edge} {v v' : Value} {K : Env → Know → Prop} (hb : headB E ⟨some d, op, ty, pos, after, none⟩ = true) (hr : RunV P E.ev ⟨some d, op, ty, pos, after, none⟩ h v h') (e : v = v') (next : TailE A P main l ((d, v') :: E) h' K) :
    TailE A P main (⟨some d, op, ty, pos, after, none⟩ :: l) E h K := tl_r hb hr (e ▸ next)
theorem tl_s {l : List Oper} {op : Op} {ty : TypeId} {pos : String} {after : Array Edge} {v : Value} {K : Env → Know → Prop} (hb : headB E ⟨none, op, ty, pos, after, none⟩ = true) (hr : RunV P E.ev ⟨none, op, ty, pos, after, none⟩ h v h') (next : TailE A P main l E h' K) :
    TailE A P main (⟨none, op, ty, pos, after, none⟩ :: l) E h K := tailE_run hb hr next
theorem tl_n {l : List Oper} {d : Nat} {op : Op} {ty : TypeId} {pos : String} {after : Array Edge} {F : Nat → Value} {M : Nat → Know} {K : Env → Know → Prop} (hb : headB E ⟨some d, op, ty, pos, after, none⟩ = true) (hr : RunN P E.ev ⟨some d, op, ty, pos, after, none⟩ h F M)
    (next : ∀ r, h r = none → TailE A P main l ((d, F r) :: E) (M r) K) : TailE A P main (⟨some d, op, ty, pos, after, none⟩ :: l) E h K := by
  unfold headB at hb
  rw [Bool.and_eq_true] at hb
  refine ⟨by simpa using hb.2, fun u g => ∃ r, h r = none ∧ u = F r ∧ g = M r, stepS_sem hb.1 (hr _ _ fun r e => ⟨r, e, rfl, rfl⟩), ?_⟩
  rintro _ _ ⟨r, e, rfl, rfl⟩
  exact next r e
theorem tl_x {l : List Oper} {d : Nat} {op : Op} {ty : TypeId} {pos : String} {after : Array Edge} {R : Value → Know → Prop} {K : Env → Know → Prop} (hb : headB E ⟨some d, op, ty, pos, after, none⟩ = true) (hr : RunX P E.ev ⟨some d, op, ty, pos, after, none⟩ h R)
    (next : ∀ v h', R v h' → TailE A P main l ((d, v) :: E) h' K) : TailE A P main (⟨some d, op, ty, pos, after, none⟩ :: l) E h K := by
  unfold headB at hb
  rw [Bool.and_eq_true] at hb
  exact ⟨by simpa using hb.2, R, stepS_sem hb.1 (hr _ _ fun v h' r => r), next⟩
theorem tl_call {l : List Oper} {d f : Nat} {fn : Func} {x : Operand} {args : Array Operand} {ats : Array TypeId} {ty : TypeId} {pos : String} {after : Array Edge} {first captured : Array Value} {vs : List Value} {R : Value → Know → Prop} {K : Env → Know → Prop}
    (hb : headB E ⟨some d, .call { callee := .value x, args, argTypes := ats }, ty, pos, after, none⟩ = true) (hx : E.ev x = .func (.func f) first captured) (hf : P.funcs[f]? = some fn) (hname : (fn.name == "runtime.NumGoroutine") = false) (hbody : fn.body.isNone = false)
    (ha : first.toList ++ args.toList.map E.ev ++ captured.toList = vs) (hc : CallS A P main f vs.toArray h (fun e h' => ∃ v, e = .returned v ∧ R v h')) (next : ∀ v h', R v h' → TailE A P main l ((d, v) :: E) h' K) :
    TailE A P main (⟨some d, .call { callee := .value x, args, argTypes := ats }, ty, pos, after, none⟩ :: l) E h K := by
  unfold headB at hb
  rw [Bool.and_eq_true] at hb
  refine ⟨by simpa using hb.2, R, stepS_sem hb.1 (semS_callFn rfl hx hf hname hbody ?_), next⟩
  have e : first ++ args.map E.ev ++ captured = vs.toArray := by rw [← ha]; apply Array.ext'; simp
  rw [e]
  refine CallS.mono hc fun e h' r => ?_
  obtain ⟨v, rfl, hr⟩ := r
  exact hr
theorem tl_store {l : List Oper} {t : TypeId} {x y : Operand} {ty' : TypeId} {pos : String} {after : Array Edge} {b off : Nat} {c : Array Value} {ty : TypeId} {fr : Nat × Nat} {z v : Value} {bt : Nat} {K : Env → Know → Prop} (hx : E.val x = some (.pointer (some ⟨b, off, none⟩))) (hy : E.val y = some v) (hv : Value.flat v = true)
    (ti : TI P t z 1 bt) (hb : h b = some (true, .cells c ty fr)) (hs : off < c.size) (hf : ¬ (fr.1 ≤ off ∧ off < fr.2)) (e : h.upd b (true, .cells (c.setIfInBounds off v) ty fr) = h') (next : TailE A P main l E h' K) :
    TailE A P main (⟨none, .store t x y, ty', pos, after, none⟩ :: l) E h K := by
  obtain ⟨h1, h2⟩ := Env.val_ev hx
  obtain ⟨h3, h4⟩ := Env.val_ev hy
  subst e
  exact tl_s (by simp [headB, notSelect, Op.operands, h2, h4]) (runV_store rfl h1 h3 hv ti hb hs hf) next

end
end KL
end Go.Proofs.YtlmecmapkijcnaaDoor

set_option linter.unusedVariables false
namespace Go.Proofs.YtlmecmapkijcnaaDoor
namespace KL
open Go.Conc (G listed)
section
variable {P : Program} {A : Acts} [Priv A] {main : Bool} {n : Nat} {Q : Post} {ds : List Deferred} {E : Env} {h : Know}

/-- What operation j of the region yielded, by the frame's slots. -/
theorem yielded_look {ops : Array Oper} {a : Act} {j d : Nat} {b : Bool} (hf : Fit a n ds E) (hd : (ops[j]?).bind (·.dst) = some d) (hl : E.look d = some (.bool b)) : yielded ops a.tmps j = some b := by
  unfold yielded
  rw [hd, Option.bind_some, hf.look d _ hl]

/-- The guard is met: the operation runs. -/
theorem opsE_guarded {ops : Array Oper} {rest : List Oper} {o : Oper} {j d : Nat} {b : Bool} (hg : o.guard = some (j, b)) (hj : (ops[j]?).bind (·.dst) = some d) (hl : E.look d = some (.bool b)) (hdst : ∀ t, o.dst = some t → t < n) (hs : notSelect o.op = true) (hh : o.op.operands.all E.has = true)
    (hx : semS P (fun v h' => Q (.panic [{ v, recovered := false }]) ds E h') (execOp E.ev o) h
      (nextE A P main (fun v h' => OpsE A P main n ops rest Q ds (E.put o.dst v) h') (fun ch h' => Q (.panic ch) ds E h'))) : OpsE A P main n ops (o :: rest) Q ds E h := by
  intro a bb k cs Stop i hf hk hl2 hc
  have ho : ops[i]? = some o := by simpa using (hl2 0).symm
  rw [List.length_cons, List.range'_succ]
  refine goes_op ho (by simp [Region.wanted, hg, yielded_look hf hj hl]) hk ?_
  rw [evalOk hf (notSelect_spec hs) hh]
  have hl' : ∀ j, rest[j]? = ops[i + 1 + j]? := fun j => by have := hl2 (j + 1); simpa [Nat.add_assoc, Nat.add_comm 1 j] using this
  refine semS_mono (fun v h' q todo => (hc _ _ _ _ _ q hf : ∀ todo, _) todo) _ _ _ _ (fun x h' q => ?_) hx
  cases x with
  | value v => exact q _ bb k cs Stop (i + 1) (hf.put _ _ hdst) hk hl' hc
  | skip => exact q _ bb k cs Stop (i + 1) (hf.put _ _ hdst) hk hl' hc
  | enter f args =>
    refine CallS.mono (show CallS A P main f args h' (callR _ _) from q) fun e h₂ r => ?_
    cases e with
    | returned v => exact r _ bb k cs Stop (i + 1) (hf.put _ _ hdst) hk hl' hc
    | panicked ch => exact fun todo => (hc _ _ _ _ _ r hf : ∀ todo, _) todo
    | outgrown => exact r
  | _ => exact q.elim

omit [Priv A] in
/-- The guard is not met: nothing is done. -/
theorem opsE_passed {ops : Array Oper} {rest : List Oper} {o : Oper} {j d : Nat} {b b' : Bool} (hg : o.guard = some (j, b)) (hj : (ops[j]?).bind (·.dst) = some d) (hl : E.look d = some (.bool b')) (hne : b' ≠ b) (hdst : ∀ t, o.dst = some t → t < n)
    (next : OpsE A P main n ops rest Q ds (E.put o.dst undef) h) : OpsE A P main n ops (o :: rest) Q ds E h := by
  intro a bb k cs Stop i hf hk hl2 hc
  have ho : ops[i]? = some o := by simpa using (hl2 0).symm
  rw [List.length_cons, List.range'_succ]
  have hl' : ∀ j, rest[j]? = ops[i + 1 + j]? := fun j => by have := hl2 (j + 1); simpa [Nat.add_assoc, Nat.add_comm 1 j] using this
  have hw : Region.wanted o (yielded ops a.tmps) = false := by
    simp only [Region.wanted, hg, yielded_look hf hj hl]
    cases b <;> cases b' <;> simp_all
  refine GoesS.move (fun w => ?_) (next _ bb k cs Stop (i + 1) (hf.put _ _ hdst) hk hl' hc)
  have hfin : ∀ v, (bb.at a (.inRegion ops (i :: List.range' (i + 1) rest.length) :: k)).finish v = bb.at (a.put o.dst v) (.inRegion ops (List.range' (i + 1) rest.length) :: k) := fun v => by rw [Frame.finish_at, ho]; rfl
  rw [← hfin]
  simp [G, stepG, stepG.exec, Frame.at, ho, hw]
theorem runV_pick {ρ : Operand → Value} {o : Oper} {c a b : Operand} {x : Bool} (ho : o.op = .pick c a b) (hc : ρ c = .bool x) : RunV P ρ o h (if x then ρ a else ρ b) h := by
  intro Pn K _ hK
  simp only [execOp, ho, hc, asBool, semS_bind, semS_pure]
  exact hK
end
end KL
end Go.Proofs.YtlmecmapkijcnaaDoor

set_option linter.unusedVariables false
namespace Go.Proofs.YtlmecmapkijcnaaDoor
namespace KL
section
variable {P : Program} {h : Know} {ρ : Operand → Value} {o : Oper}
theorem runN_makeSlice {t e : TypeId} {lx cx : Operand} {m : Nat} {kl kc : IntKind} {z : Value} {bt : Nat} (ho : o.op = .makeSlice t lx cx) (hl : ρ lx = .int kl m) (hc : ρ cx = .int kc m) (hu : P.underlying t = some (.slice e)) (ti : TI P e z 1 bt) (h0 : 0 < m) (hm : m ≤ 2 ^ 40) (hb : bt * m ≤ 2 ^ 48) :
    RunN P ρ o h (fun r => .slice (some ⟨r, 0, none⟩) m m) (fun r => h.upd r (true, .cells ((Array.range (m * 1)).map (z.cells[· % z.cells.size]!)) e (0, 0))) := by
  intro Pn K hK
  obtain ⟨i, e1, _, _, e4⟩ := ti.get
  have hw : IntKind.i64.wrap (m : Int) = (m : Int) := by rw [IntKind.wrap_i64]; omega
  simp only [execOp, ho, Instr.makeSlice, semS_bind, semS_underlying hu, hl, hc, asInt, asIntOf, semS_pure, semS_typeInfo e1, e4, hw]
  have h1 : ¬ ((bt : Int) * (m : Int) > 2 ^ 48) := by
    have : ((bt : Int) * (m : Int)) = ((bt * m : Nat) : Int) := by simp
    rw [this]; omega
  have h2 : ¬ ((m : Int) < 0) := by omega
  simp only [h1, h2, decide_false, Bool.or_self, Bool.false_eq_true, Int.lt_irrefl, gt_iff_lt, if_false, semS_bind]
  refine semS_askRoom _ _ ?_
  simp only [semS_sizeOf ti]
  have h3 : ((m : Int)).toNat = m := by omega
  have h4 : ¬ m * 1 = 0 := by omega
  simp only [h3, h4, if_false, semS_bind, semS_zeroValue ti, semS_pure]
  exact semS_newRow _ _ _ hK
end
end KL
end Go.Proofs.YtlmecmapkijcnaaDoor
