/- A region that draws its order: its head's operations leave what is known as it is; its tail is in one order. -/
import Derived.Test.YtlmecmapkijcnaaDoorKlCall
set_option linter.unusedVariables false
namespace Go.Proofs.YtlmecmapkijcnaaDoor
namespace KL
open Go.Conc (G listed)

/-- Operation 'o', where its operands read so, yields v, and what is known stands; whatever region it stands in. -/
def YieldS (P : Program) (main : Bool) (o : Oper) (ρ : Operand → Value) (h : Know) (v : Value) : Prop :=
  ∀ (a : Act) (b : Frame) (k : List Item) (cs : List Frame) (Stop : Frame → List Frame → Know → Prop) (ops : Array Oper) (i : Nat) (rest : List Nat),
    (∀ x ∈ o.op.operands, a.eval x = ρ x) → ops[i]? = some o → Region.wanted o (yielded ops a.tmps) = true → b.kind ≠ .early →
    GoesS P main Stop (b.at (a.put o.dst v) (.inRegion ops rest :: k)) cs h → GoesS P main Stop (b.at a (.inRegion ops (i :: rest) :: k)) cs h

/-- The head, in the text's order. -/
def HeadE (P : Program) (main : Bool) : List Oper → Env → Know → (Env → Prop) → Prop
  | [], E, _, K => K E
  | o :: l, E, h, K => o.op.operands.all E.has = true ∧ ∃ v, YieldS P main o E.ev h v ∧ HeadE P main l (E.put o.dst v) h K

/-- An operation over what is known that leaves it as it is. -/
theorem yieldS_sem {P : Program} {main : Bool} {o : Oper} {ρ : Operand → Value} {h : Know} {v : Value} (hs : notSelect o.op = true)
    (hx : semS P (fun _ _ => False) (execOp ρ o) h (nextE P main (fun u h' => u = v ∧ h.le h') (fun _ _ => False))) : YieldS P main o ρ h v := by
  intro a b k cs Stop ops i rest hρ ho hw hk g
  refine goes_op ho hw hk ?_
  rw [execOp_congr o (notSelect_spec hs) hρ]
  refine semS_mono (fun _ _ q => q.elim) _ _ _ _ (fun x h' q => ?_) hx
  cases x with
  | value u => obtain ⟨rfl, hl⟩ := q; exact g.weaken hl
  | skip => obtain ⟨rfl, hl⟩ := q; exact g.weaken hl
  | enter f args =>
    refine CallS.mono (show CallS P main f args h' (callR _ _) from q) fun e h₂ r => ?_
    cases e with
    | returned u => obtain ⟨rfl, hl⟩ := r; exact g.weaken hl
    | panicked ch => exact r.elim
    | outgrown => exact r
  | _ => exact q.elim

def isBound (e : Edge) : Bool := Region.binds .any e
/-- The shape of a region whose first m operations may come in any order that their data allow, and whose others come behind all of these, one behind the other. -/
def shapeB (ops : List Oper) (m : Nat) : Bool :=
  (ops.zipIdx.all fun (o, i) => o.guard.isNone && o.after.all fun e => !isBound e || decide (e.on < i)) &&
  ((ops.take m).zipIdx.all fun (o, i) => o.dst.isSome && notSelect o.op &&
    (o.op.operands.all fun
      | .tmp t => ((ops.take m).zipIdx.all fun (p, j) => p.dst != some t || (decide (j < i) && o.after.any fun e => isBound e && e.on == j))
      | _ => true) &&
    ((ops.take m).zipIdx.all fun (p, j) => i == j || p.dst != o.dst)) &&
  ((ops.zipIdx.drop m).all fun (o, t) => if t = m then (List.range t).all fun i => o.after.any fun e => isBound e && e.on == i else o.after.any fun e => isBound e && e.on == t - 1)

structure Shape (ops : List Oper) (m : Nat) : Prop where
  guard : ∀ (i : Nat) (o : Oper), ops[i]? = some o → o.guard = none
  back : ∀ (i : Nat) (o : Oper), ops[i]? = some o → ∀ e ∈ o.after, Region.binds .any e = true → e.on < i
  dst : ∀ (i : Nat) (o : Oper), i < m → ops[i]? = some o → ∃ d, o.dst = some d
  sel : ∀ (i : Nat) (o : Oper), i < m → ops[i]? = some o → notSelect o.op = true
  uses : ∀ (i : Nat) (o : Oper) (t : Tmp), i < m → ops[i]? = some o → Operand.tmp t ∈ o.op.operands → ∀ (j : Nat) (p : Oper), j < m → ops[j]? = some p → p.dst = some t → j < i ∧ ∃ e ∈ o.after, Region.binds .any e = true ∧ e.on = j
  once : ∀ (i : Nat) (o : Oper) (j : Nat) (p : Oper), i < m → j < m → ops[i]? = some o → ops[j]? = some p → i ≠ j → p.dst ≠ o.dst
  tail : ∀ (o : Oper) (i : Nat), i < m → ops[m]? = some o → ∃ e ∈ o.after, Region.binds .any e = true ∧ e.on = i
  next : ∀ (t : Nat) (o : Oper), m < t → ops[t]? = some o → ∃ e ∈ o.after, Region.binds .any e = true ∧ e.on = t - 1

theorem take_get {ops : List Oper} {m i : Nat} {o : Oper} (hi : i < m) (ho : ops[i]? = some o) : (ops.take m).zipIdx[i]? = some (o, i) := by
  rw [List.getElem?_zipIdx, List.getElem?_take, if_pos hi, ho]; simp

theorem shape_of {ops : List Oper} {m : Nat} (h : shapeB ops m = true) : Shape ops m := by
  unfold shapeB at h
  rw [Bool.and_eq_true, Bool.and_eq_true] at h
  obtain ⟨⟨h1, h2⟩, h3⟩ := h
  rw [List.all_eq_true] at h1 h2 h3
  have g1 : ∀ (i : Nat) (o : Oper), ops[i]? = some o → o.guard.isNone = true ∧ o.after.all (fun e => !isBound e || decide (e.on < i)) = true := by
    intro i o ho
    have : (o, i) ∈ ops.zipIdx := List.mem_of_getElem? (i := i) (by rw [List.getElem?_zipIdx, ho]; simp)
    have := h1 _ this
    rwa [Bool.and_eq_true] at this
  have g2 := fun (i : Nat) (o : Oper) (hi : i < m) (ho : ops[i]? = some o) => h2 (o, i) (List.mem_of_getElem? (take_get hi ho))
  refine ⟨fun i o ho => by simpa using (g1 i o ho).1, fun i o ho e he hb => ?_, fun i o hi ho => ?_, fun i o hi ho => ?_, fun i o t hi ho ht j p hj hp hd => ?_, fun i o j p hi hj ho hp hij => ?_, fun o i hit ho => ?_, fun t o hm ho => ?_⟩
  · have := (g1 i o ho).2
    rw [Array.all_eq_true'] at this
    have := this e he
    simpa [isBound, hb] using this
  · have := g2 i o hi ho
    simp only [Bool.and_eq_true] at this
    exact Option.isSome_iff_exists.1 this.1.1.1
  · have := g2 i o hi ho
    simp only [Bool.and_eq_true] at this
    exact this.1.1.2
  · have := g2 i o hi ho
    simp only [Bool.and_eq_true] at this
    have h' := this.1.2
    rw [Array.all_eq_true'] at h'
    have h'' := h' _ ht
    simp only [List.all_eq_true] at h''
    have h3 := h'' (p, j) (List.mem_of_getElem? (take_get hj hp))
    simp only [hd, bne_self_eq_false, Bool.false_or, Bool.and_eq_true, decide_eq_true_eq, Array.any_eq_true', beq_iff_eq] at h3
    obtain ⟨h3, e, he, hb, hon⟩ := h3
    exact ⟨h3, e, he, hb, hon⟩
  · have := g2 i o hi ho
    simp only [Bool.and_eq_true] at this
    have h' := this.2
    rw [List.all_eq_true] at h'
    have := h' (p, j) (List.mem_of_getElem? (take_get hj hp))
    simp only [Bool.or_eq_true, beq_iff_eq, bne_iff_ne, ne_eq] at this
    exact this.resolve_left hij
  · have hmem : (o, m) ∈ ops.zipIdx.drop m := by
      refine List.mem_of_getElem? (i := m - m) ?_
      rw [List.getElem?_drop, List.getElem?_zipIdx]
      have : m + (m - m) = m := by omega
      rw [this, ho]; simp
    have := h3 _ hmem
    simp only [if_true, List.all_eq_true, List.mem_range] at this
    have := this i hit
    simp only [Array.any_eq_true', Bool.and_eq_true, beq_iff_eq] at this
    obtain ⟨e, he, hb, hon⟩ := this
    exact ⟨e, he, hb, hon⟩
  · have hmem : (o, t) ∈ ops.zipIdx.drop m := by
      refine List.mem_of_getElem? (i := t - m) ?_
      rw [List.getElem?_drop, List.getElem?_zipIdx]
      have : m + (t - m) = t := by omega
      rw [this, ho]; simp
    have := h3 _ hmem
    have hne : ¬ t = m := by omega
    simp only [if_neg hne] at this
    simp only [Array.any_eq_true', Bool.and_eq_true, beq_iff_eq] at this
    obtain ⟨e, he, hb, hon⟩ := this
    exact ⟨e, he, hb, hon⟩

theorem getD_replicate_false (m j : Nat) : (Array.replicate m false).getD j false = false := by
  rcases Nat.lt_or_ge j m with h | h
  · simp [h]
  · simp [h]

theorem filter_lt {p p' : Nat → Bool} : ∀ (l : List Nat), (∀ j ∈ l, p' j = true → p j = true) → (∃ i ∈ l, p i = true ∧ p' i = false) → (l.filter p').length < (l.filter p).length := by
  have le : ∀ (l : List Nat), (∀ j ∈ l, p' j = true → p j = true) → (l.filter p').length ≤ (l.filter p).length := by
    intro l
    induction l with
    | nil => simp
    | cons a l ih =>
      intro h
      have := ih fun j hj => h j (List.mem_cons_of_mem _ hj)
      simp only [List.filter_cons]
      have ha := h a (List.mem_cons_self ..)
      cases hp' : p' a
      · simp only [Bool.false_eq_true, if_false]; split <;> simp <;> omega
      · rw [ha hp']; simp; omega
  intro l
  induction l with
  | nil => rintro _ ⟨i, hi, _⟩; cases hi
  | cons a l ih =>
    rintro h ⟨i, hi, h1, h2⟩
    simp only [List.filter_cons]
    have hl := le l fun j hj => h j (List.mem_cons_of_mem _ hj)
    rcases List.mem_cons.1 hi with rfl | hi
    · rw [h1, h2]; simp; omega
    · have := ih (fun j hj => h j (List.mem_cons_of_mem _ hj)) ⟨i, hi, h1, h2⟩
      have ha := h a (List.mem_cons_self ..)
      cases hp' : p' a
      · simp only [Bool.false_eq_true, if_false]; split <;> simp <;> omega
      · rw [ha hp']; simp; omega

/-- The operations that are not listed yet. -/
def unl (N : Nat) (listed : Array Bool) : Nat := ((List.range N).filter fun j => !listed.getD j true).length

theorem unl_set {N i : Nat} {listed : Array Bool} (hs : listed.size = N) (hi : listed.getD i true = false) : unl N (listed.setIfInBounds i true) < unl N listed := by
  have hiN : i < N := by
    rcases Nat.lt_or_ge i N with g | g
    · exact g
    · rw [← hs] at g; simp [Array.getElem?_eq_none g] at hi
  refine filter_lt _ (fun j hj h => ?_) ⟨i, List.mem_range.2 hiN, by simpa using hi, by simp [hs, hiN]⟩
  by_cases e : i = j
  · subst e; simp [hs, hiN] at h
  · rw [getD_set_ne true e] at h; exact h

theorem unl_zero {N : Nat} {listed : Array Bool} (hs : listed.size = N) (h : unl N listed = 0) (j : Nat) (hj : j < N) : listed.getD j false = true := by
  have h0 := List.eq_nil_of_length_eq_zero h
  rw [List.filter_eq_nil_iff] at h0
  have := h0 j (List.mem_range.2 hj)
  have hlt : j < listed.size := by omega
  simpa [hlt] using this

section
variable {P : Program} {main : Bool} {n : Nat} {Q : Post} {ds : List Deferred} {h : Know}

theorem ready_nonempty {ops : List Oper} {m : Nat} (sh : Shape ops m) {listed : Array Bool} (hs : listed.size = ops.length) {j : Nat} (hj : j < ops.length) (hl : listed.getD j false = false) : Region.ready .any ops.toArray listed ≠ [] := by
  -- the least one that is not listed
  have : ∃ i, i < ops.length ∧ listed.getD i false = false ∧ ∀ k, k < i → listed.getD k false = true := by
    have key : ∀ N, (∃ j, j < N ∧ listed.getD j false = false) → ∃ i, i < N ∧ listed.getD i false = false ∧ ∀ k, k < i → listed.getD k false = true := by
      intro N
      induction N with
      | zero => rintro ⟨j, hj, _⟩; omega
      | succ N ih =>
        rintro ⟨j, hj, hl⟩
        by_cases hb : ∃ j, j < N ∧ listed.getD j false = false
        · obtain ⟨i, h1, h2, h3⟩ := ih hb; exact ⟨i, by omega, h2, h3⟩
        · refine ⟨j, hj, hl, fun k hk => ?_⟩
          cases e : listed.getD k false with
          | true => rfl
          | false => exact absurd ⟨k, by omega, e⟩ hb
    exact key _ ⟨j, hj, hl⟩
  obtain ⟨i, hi, h1, h2⟩ := this
  intro hnil
  have hmem : i ∈ Region.ready .any ops.toArray listed := by
    refine mem_ready.2 ⟨?_, ops[i], by simp [hi], fun e he hb => h2 _ (sh.back i _ (by simp [hi]) e he hb)⟩
    have hlt : i < listed.size := by omega
    simpa [hlt] using h1
  rw [hnil] at hmem; cases hmem

/-- The tail comes in one order. -/
theorem go_tail {ops : List Oper} {m : Nat} (sh : Shape ops m) : ∀ (fuel s t : Nat) (listed : Array Bool), listed.size = ops.length → m ≤ s → s ≤ ops.length → ops.length - s ≤ fuel → (∀ j, j < ops.length → (listed.getD j false = true ↔ j < s)) →
    Region.linearise.go .any ops.toArray fuel t listed [] = List.range' s (ops.length - s) := by
  intro fuel
  induction fuel with
  | zero => intro s t listed hs hm hsl hf hL; have : ops.length - s = 0 := by omega
            rw [this]; simp [Region.linearise.go]
  | succ fuel ih =>
    intro s t listed hs hm hsl hf hL
    simp only [Region.linearise.go]
    change (match (Region.ready .any ops.toArray listed)[t % (Region.ready .any ops.toArray listed).length]? with
      | some i => Region.linearise.go .any ops.toArray fuel (t / (Region.ready .any ops.toArray listed).length) (listed.setIfInBounds i true) [i]
      | none => [].reverse) = _
    have only : ∀ i ∈ Region.ready .any ops.toArray listed, i = s := by
      intro i hi
      obtain ⟨h0, o, ho, hall⟩ := mem_ready.1 hi
      have hlt : i < ops.length := by have := (Array.getElem?_eq_some_iff.1 ho).1; simpa using this
      have hge : ¬ i < s := by
        intro h
        have := (hL i hlt).2 h
        have hlt' : i < listed.size := by omega
        simp [hlt'] at h0 this
        rw [h0] at this; cases this
      rcases Nat.lt_or_ge s i with g | g
      · obtain ⟨e, he, hb, hon⟩ := sh.next i o (by omega) (by simpa using ho)
        have := hall e he hb
        rw [hon, hL (i - 1) (by omega)] at this
        omega
      · omega
    by_cases hsz : s < ops.length
    · have hne := ready_nonempty sh hs hsz (by cases e : listed.getD s false with
        | false => rfl
        | true => exact absurd ((hL s hsz).1 e) (Nat.lt_irrefl _))
      cases hi : (Region.ready .any ops.toArray listed)[t % (Region.ready .any ops.toArray listed).length]? with
      | none =>
        have hlt : t % (Region.ready .any ops.toArray listed).length < (Region.ready .any ops.toArray listed).length := Nat.mod_lt _ (List.length_pos_iff.2 hne)
        rw [List.getElem?_eq_getElem hlt] at hi; cases hi
      | some i =>
        have := only i (List.mem_of_getElem? hi)
        subst this
        simp only []
        rw [linearise_go_acc, List.reverse_singleton, List.singleton_append]
        have e1 : ops.length - i = (ops.length - (i + 1)) + 1 := by omega
        rw [e1, List.range'_succ]
        congr 1
        refine ih (i + 1) _ _ (by simpa using hs) (by omega) (by omega) (by omega) fun j hj => ?_
        by_cases e : i = j
        · subst e; have : i < listed.size := by omega
          simp [this]
        · rw [getD_set_ne false e, hL j hj]; omega
    · have e0 : ops.length - s = 0 := by omega
      rw [e0]
      cases hi : (Region.ready .any ops.toArray listed)[t % (Region.ready .any ops.toArray listed).length]? with
      | none => simp
      | some i =>
        have := only i (List.mem_of_getElem? hi)
        have h2 := (mem_ready.1 (List.mem_of_getElem? hi)).2
        obtain ⟨o, ho, _⟩ := h2
        have := (Array.getElem?_eq_some_iff.1 ho).1
        simp at this
        omega

/-- What the head has laid: operation j's slot holds val j. -/
structure HeadInv (ops : List Oper) (m n : Nat) (ds : List Deferred) (E : Env) (val : Nat → Value) (listed : Array Bool) (a : Act) : Prop where
  size : a.tmps.size = n
  defers : a.defers = ds
  base : ∀ t v, E.look t = some v → (∀ j p, j < m → ops[j]? = some p → p.dst ≠ some t) → a.tmps[t]? = some v
  laid : ∀ j p d, j < m → ops[j]? = some p → p.dst = some d → listed.getD j false = true → a.tmps[d]? = some (val j)

/-- The frame behind the first i operations of the head. -/
def envAt (val : Nat → Value) : List Oper → Nat → Env → Env
  | [], _, E => E
  | o :: l, i, E => envAt val l (i + 1) (E.put o.dst (val i))

theorem headE_vals : ∀ (l : List Oper) (i : Nat) (E : Env) (K : Env → Prop), HeadE P main l E h K → ∃ val : Nat → Value, K (envAt val l i E) ∧
    ∀ j o, l[j]? = some o → o.op.operands.all (envAt val (l.take j) i E).has = true ∧ YieldS P main o (envAt val (l.take j) i E).ev h (val (i + j)) := by
  intro l
  induction l with
  | nil => exact fun i E K hk => ⟨fun _ => undef, hk, fun j o h => by simp at h⟩
  | cons a l ih =>
    rintro i E K ⟨ha, v, hv, hk⟩
    obtain ⟨val, h1, h2⟩ := ih (i + 1) (E.put a.dst v) K hk
    have cong : ∀ (l : List Oper) (k : Nat) (E : Env), i < k → envAt (fun j => if j = i then v else val j) l k E = envAt val l k E := by
      intro l
      induction l with
      | nil => exact fun _ _ _ => rfl
      | cons b l ih => intro k E hk; simp only [envAt]; rw [if_neg (by omega)]; exact ih _ _ (by omega)
    refine ⟨fun j => if j = i then v else val j, ?_, fun j o ho => ?_⟩
    · simp only [envAt, if_true]; rw [cong _ _ _ (by omega)]; exact h1
    · cases j with
      | zero =>
        simp only [List.getElem?_cons_zero, Option.some.injEq] at ho
        subst ho
        simp only [List.take_zero, envAt, Nat.add_zero, if_true]
        exact ⟨ha, hv⟩
      | succ j =>
        rw [List.getElem?_cons_succ] at ho
        obtain ⟨g1, g2⟩ := h2 j o ho
        simp only [List.take_succ_cons, envAt, if_true]
        rw [cong _ _ _ (by omega), if_neg (by omega)]
        have e : i + (j + 1) = i + 1 + j := by omega
        rw [e]
        exact ⟨g1, g2⟩

theorem look_put_none {E : Env} {t : Nat} {v : Value} {d : Option Tmp} (h : d ≠ some t) : (E.put d v).look t = E.look t := by
  cases d with
  | none => rfl
  | some d => rw [Env.put, Env.look_cons, if_neg (fun e => h (by rw [e]))]

/-- What a slot holds behind the first operations. -/
theorem look_envAt {val : Nat → Value} : ∀ (l : List Oper) (i : Nat) (E : Env) (t : Nat),
    ((∀ p ∈ l, p.dst ≠ some t) → (envAt val l i E).look t = E.look t) ∧
    (∀ j p, l[j]? = some p → p.dst = some t → (∀ j' p', j' ≠ j → l[j']? = some p' → p'.dst ≠ some t) → (envAt val l i E).look t = some (val (i + j))) := by
  intro l
  induction l with
  | nil => exact fun i E t => ⟨fun _ => rfl, fun j p h => by simp at h⟩
  | cons a l ih =>
    intro i E t
    refine ⟨fun hn => ?_, fun j p hp hd hu => ?_⟩
    · simp only [envAt]
      rw [(ih (i + 1) _ t).1 fun p hp => hn p (List.mem_cons_of_mem _ hp), look_put_none (hn a (List.mem_cons_self ..))]
    · cases j with
      | zero =>
        simp only [List.getElem?_cons_zero, Option.some.injEq] at hp
        subst hp
        simp only [envAt]
        rw [(ih (i + 1) _ t).1 fun p' hp' => by
          obtain ⟨j', hj'⟩ := List.getElem?_of_mem hp'
          exact hu (j' + 1) p' (by omega) (by rw [List.getElem?_cons_succ]; exact hj')]
        rw [hd, Env.put, Env.look_cons, if_pos rfl, Nat.add_zero]
      | succ j =>
        rw [List.getElem?_cons_succ] at hp
        simp only [envAt]
        rw [(ih (i + 1) _ t).2 j p hp hd fun j' p' hj' hp' => hu (j' + 1) p' (by omega) (by rw [List.getElem?_cons_succ]; exact hp')]
        congr 2; omega

theorem wpE_draw {id : Nat} {l : List Oper} {E : Env} (m : Nat) (hm : P.follows .mixedOrders = true) (hsh : shapeB l m = true) (hml : m ≤ l.length) (hdst : ∀ o ∈ l, ∀ t, o.dst = some t → t < n)
    (hx : HeadE P main (l.take m) E h (fun E₁ => OpsE P main n l.toArray (l.drop m) Q ds E₁ h)) : wpE P main n (.region id l.toArray true) Q ds E h := by
  have sh := shape_of hsh
  intro a b k cs Stop hf hk hc
  obtain ⟨val, hK, hval⟩ := headE_vals (l.take m) 0 E _ hx
  -- the schedule is drawn
  refine GoesS.step fun w hw => ⟨b.at a (.inRegion l.toArray (Region.linearise .any l.toArray (w.tape w.drawn (.order b.fn id))) :: k), cs, { w with drawn := w.drawn + 1 }, #[], h, ?_, KStep.draw hw rfl rfl rfl rfl, ?_⟩
  · simp [G, stepG, stepG.exec, Frame.at, choose, Sem.run, Question.forced, Question.cut, Region.schedule, hm]
  generalize w.tape w.drawn (.order b.fn id) = t
  unfold Region.linearise
  -- whatever order is picked
  have key : ∀ (fuel t : Nat) (listed : Array Bool) (a : Act), listed.size = l.length → unl l.length listed ≤ fuel → HeadInv l m n ds E val listed a →
      (∀ j, m ≤ j → listed.getD j false = false) → GoesS P main Stop (b.at a (.inRegion l.toArray (Region.linearise.go .any l.toArray fuel t listed []) :: k)) cs h := by
    intro fuel
    induction fuel with
    | zero =>
      intro t listed a hs hu inv hT
      -- all are listed
      have all := unl_zero hs (Nat.le_zero.1 hu)
      have hm0 : m = l.length := by
        rcases Nat.lt_or_ge m l.length with g | g
        · have := all m g; rw [hT m (Nat.le_refl _)] at this; cases this
        · omega
      have hfit : Fit a n ds (envAt val (l.take m) 0 E) := by
        refine ⟨inv.size, fun t v e => ?_, inv.defers⟩
        by_cases hx : ∃ j p, j < m ∧ l[j]? = some p ∧ p.dst = some t
        · obtain ⟨j, p, hj, hp, hd⟩ := hx
          have := (look_envAt (val := val) (l.take m) 0 E t).2 j p (by rw [List.getElem?_take, if_pos hj]; exact hp) hd (fun j' p' hne hp' => by
            rw [List.getElem?_take] at hp'
            split at hp'
            · rename_i hj'
              rw [← hd]; exact sh.once j p j' p' hj hj' hp hp' (Ne.symm hne)
            · cases hp')
          rw [this, Nat.zero_add] at e; cases e
          exact inv.laid j p t hj hp hd (all j (by omega))
        · have hn : ∀ p ∈ l.take m, p.dst ≠ some t := by
            intro p hp hd
            obtain ⟨j, hj⟩ := List.getElem?_of_mem hp
            rw [List.getElem?_take] at hj
            split at hj
            · rename_i hjm; exact hx ⟨j, p, hjm, hj, hd⟩
            · cases hj
          rw [(look_envAt (val := val) (l.take m) 0 E t).1 hn] at e
          exact inv.base t v e fun j p hj hp hd => hx ⟨j, p, hj, hp, hd⟩
      have hgo : Region.linearise.go .any l.toArray 0 t listed [] = List.range' m (l.drop m).length := by
        have : (l.drop m).length = 0 := by simp; omega
        rw [this]; simp [Region.linearise.go]
      rw [hgo]
      exact hK a b k cs Stop m hfit hk (fun j => by simp) hc
    | succ fuel ih =>
      intro t listed a hs hu inv hT
      by_cases hall : ∀ j, j < m → listed.getD j false = true
      · -- the head is done
        have hfit : Fit a n ds (envAt val (l.take m) 0 E) := by
          refine ⟨inv.size, fun t v e => ?_, inv.defers⟩
          by_cases hx : ∃ j p, j < m ∧ l[j]? = some p ∧ p.dst = some t
          · obtain ⟨j, p, hj, hp, hd⟩ := hx
            have := (look_envAt (val := val) (l.take m) 0 E t).2 j p (by rw [List.getElem?_take, if_pos hj]; exact hp) hd (fun j' p' hne hp' => by
              rw [List.getElem?_take] at hp'
              split at hp'
              · rename_i hj'
                rw [← hd]; exact sh.once j p j' p' hj hj' hp hp' (Ne.symm hne)
              · cases hp')
            rw [this, Nat.zero_add] at e; cases e
            exact inv.laid j p t hj hp hd (hall j hj)
          · have hn : ∀ p ∈ l.take m, p.dst ≠ some t := by
              intro p hp hd
              obtain ⟨j, hj⟩ := List.getElem?_of_mem hp
              rw [List.getElem?_take] at hj
              split at hj
              · rename_i hjm; exact hx ⟨j, p, hjm, hj, hd⟩
              · cases hj
            rw [(look_envAt (val := val) (l.take m) 0 E t).1 hn] at e
            exact inv.base t v e fun j p hj hp hd => hx ⟨j, p, hj, hp, hd⟩
        rw [go_tail sh (fuel + 1) m t listed hs (Nat.le_refl _) hml ?_ ?_]
        · have : l.length - m = (l.drop m).length := by simp
          rw [this]
          exact hK a b k cs Stop m hfit hk (fun j => by simp) hc
        · -- enough fuel
          have : l.length - m ≤ unl l.length listed := by
            have hsub : (List.range' m (l.length - m)).Sublist ((List.range l.length).filter fun j => !listed.getD j true) := by
              have h1 : (List.range' m (l.length - m)) = (List.range' m (l.length - m)).filter fun j => !listed.getD j true := by
                rw [List.filter_eq_self.2]
                intro j hj
                rw [List.mem_range'_1] at hj
                have hlt : j < listed.size := by omega
                have := hT j hj.1
                simp [hlt] at this ⊢
                exact this
              rw [h1]
              refine List.Sublist.filter _ ?_
              rw [List.range_eq_range']
              have e : l.length = m + (l.length - m) := by omega
              have : List.range' 0 l.length = List.range' 0 m ++ List.range' m (l.length - m) := by
                conv => lhs; rw [e]
                have h2 := List.range'_append_1 (s := 0) (m := m) (n := l.length - m)
                rw [Nat.zero_add] at h2
                exact h2.symm
              rw [this]
              exact List.sublist_append_right _ _
            have := hsub.length_le
            simpa [unl] using this
          omega
        · intro j hj
          constructor
          · intro hlst
            rcases Nat.lt_or_ge j m with g | g
            · exact g
            · rw [hT j g] at hlst; cases hlst
          · exact fun g => hall j g
      · -- one of the head comes
        have hex : ∃ j, j < m ∧ listed.getD j false = false := by
          refine Classical.byContradiction fun hn => hall fun j hj => ?_
          cases e : listed.getD j false with
          | true => rfl
          | false => exact absurd ⟨j, hj, e⟩ hn
        obtain ⟨j₀, hj₀, hl₀⟩ := hex
        simp only [Region.linearise.go]
        change GoesS P main Stop (b.at a (.inRegion l.toArray (match (Region.ready .any l.toArray listed)[t % (Region.ready .any l.toArray listed).length]? with
          | some i => Region.linearise.go .any l.toArray fuel (t / (Region.ready .any l.toArray listed).length) (listed.setIfInBounds i true) [i]
          | none => [].reverse) :: k)) cs h
        have hne := ready_nonempty sh hs (by omega : j₀ < l.length) hl₀
        cases hi : (Region.ready .any l.toArray listed)[t % (Region.ready .any l.toArray listed).length]? with
        | none =>
          have hlt : t % (Region.ready .any l.toArray listed).length < (Region.ready .any l.toArray listed).length := Nat.mod_lt _ (List.length_pos_iff.2 hne)
          rw [List.getElem?_eq_getElem hlt] at hi; cases hi
        | some i =>
          simp only []
          rw [linearise_go_acc, List.reverse_singleton, List.singleton_append]
          obtain ⟨h0, o, ho, hrdy⟩ := mem_ready.1 (List.mem_of_getElem? hi)
          have ho' : l[i]? = some o := by simpa using ho
          have him : i < m := by
            rcases Nat.lt_or_ge i m with g | g
            · exact g
            · by_cases e : i = m
              · subst e
                obtain ⟨e, he, hb, hon⟩ := sh.tail o j₀ hj₀ ho'
                have := hrdy e he hb
                rw [hon, hl₀] at this; cases this
              · obtain ⟨e, he, hb, hon⟩ := sh.next i o (by omega) ho'
                have := hrdy e he hb
                rw [hon, hT (i - 1) (by omega)] at this; cases this
          obtain ⟨d, hd⟩ := sh.dst i o him ho'
          obtain ⟨hops, hy⟩ := hval i o (by rw [List.getElem?_take, if_pos him]; exact ho')
          rw [Nat.zero_add] at hy
          have htake : (l.take m).take i = l.take i := by rw [List.take_take, Nat.min_eq_left (by omega)]
          rw [htake] at hops hy
          refine hy a b k cs Stop l.toArray i _ (fun x hx => ?_) ho (by simp [Region.wanted, sh.guard i o ho']) hk ?_
          · -- the operands
            cases x with
            | const v => rfl
            | global g => rfl
            | func g => rfl
            | tmp t' =>
              rw [Array.all_eq_true'] at hops
              have hk' := hops _ hx
              simp only [Env.has, Option.isSome_iff_exists] at hk'
              obtain ⟨v, hv⟩ := hk'
              suffices a.tmps[t']? = some v by simp [Act.eval, Env.ev, hv, this]
              by_cases hx' : ∃ j p, j < m ∧ l[j]? = some p ∧ p.dst = some t'
              · obtain ⟨j, p, hj, hp, hpd⟩ := hx'
                obtain ⟨hji, e, he, hb, hon⟩ := sh.uses i o t' him ho' hx j p hj hp hpd
                have hlj := hrdy e he hb
                rw [hon] at hlj
                have := (look_envAt (val := val) (l.take i) 0 E t').2 j p (by rw [List.getElem?_take, if_pos hji]; exact hp) hpd (fun j' p' hne' hp' => by
                  rw [List.getElem?_take] at hp'
                  split at hp'
                  · rename_i hj'
                    rw [← hpd]; exact sh.once j p j' p' hj (by omega) hp hp' (Ne.symm hne')
                  · cases hp')
                rw [this, Nat.zero_add] at hv; cases hv
                exact inv.laid j p t' hj hp hpd hlj
              · have hn : ∀ p ∈ l.take i, p.dst ≠ some t' := by
                  intro p hp hpd
                  obtain ⟨j, hj⟩ := List.getElem?_of_mem hp
                  rw [List.getElem?_take] at hj
                  split at hj
                  · rename_i hji; exact hx' ⟨j, p, by omega, hj, hpd⟩
                  · cases hj
                rw [(look_envAt (val := val) (l.take i) 0 E t').1 hn] at hv
                exact inv.base t' v hv fun j p hj hp hpd => hx' ⟨j, p, hj, hp, hpd⟩
          · have hdn : d < n := hdst o (List.mem_of_getElem? ho') d hd
            refine ih _ _ _ (by simpa using hs) (by have := unl_set hs h0; omega) ?_ (fun j hj => by rw [getD_set_ne false (by omega)]; exact hT j hj)
            refine ⟨by simp [Act.put, hd, inv.size], by simp [Act.put, hd, inv.defers], fun t' v e hn => ?_, fun j p d' hj hp hpd hlst => ?_⟩
            · have : d ≠ t' := fun e => hn i o him ho' (by rw [hd, e])
              simp only [Act.put, hd]
              rw [Array.getElem?_setIfInBounds_ne this]
              exact inv.base t' v e hn
            · by_cases e : i = j
              · subst e
                rw [ho'] at hp; cases hp
                rw [hd] at hpd; cases hpd
                simp only [Act.put, hd]
                rw [Array.getElem?_setIfInBounds_self_of_lt (by rw [inv.size]; exact hdn)]
              · rw [getD_set_ne false e] at hlst
                have : d ≠ d' := fun e' => sh.once i o j p him hj ho' hp e (by rw [hd, hpd, e'])
                simp only [Act.put, hd]
                rw [Array.getElem?_setIfInBounds_ne this]
                exact inv.laid j p d' hj hp hpd hlst
  refine key _ t _ a (by simp) ?_ ⟨hf.size, hf.defers, fun t v e _ => hf.look t v e, fun j p d hj hp hpd hlst => ?_⟩ (fun j _ => getD_replicate_false _ _)
  · have : ∀ N (L : Array Bool), unl N L ≤ N := fun N L => by unfold unl; have := List.length_filter_le (fun j => !L.getD j true) (List.range N); simpa using this
    simpa using this l.length _
  · rw [getD_replicate_false] at hlst; cases hlst

end
end KL
end Go.Proofs.YtlmecmapkijcnaaDoor
