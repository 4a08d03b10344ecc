/- What the operations do to what is known: the pure ones by reckoning, the others by a law each. The operations that look at memory, turn it or make it: a law each, over what is known. Slices that the goroutine made: append, copy, texts to bytes and back. -/
import Derived.Test.YtlmecmapkijcnaaDoorR01
import Derived.Laws.Entries
import Derived.WalkKit
import Derived.Laws.Append
set_option linter.unusedVariables false
namespace Go.Proofs.YtlmecmapkijcnaaDoor
namespace KL
open Go.Conc (G listed)

/-- The types that a walk looks at. -/
abbrev Types := List (Nat × TypeDesc)
def Types.look : Types → Nat → Option TypeDesc
  | [], _ => none
  | (s, d) :: T, t => bif Nat.beq s t then some d else Types.look T t
def Types.ok (P : Program) (T : Types) : Prop := ∀ t d, T.look t = some d → P.underlying t = some d
theorem Types.ok_nil (P : Program) : Types.ok P [] := fun t d h => by cases h
theorem Types.ok_cons {P : Program} {T : Types} {s : Nat} {d : TypeDesc} (h : P.underlying s = some d) (hT : Types.ok P T) : Types.ok P ((s, d) :: T) := by
  intro t e he
  simp only [Types.look] at he
  cases hb : Nat.beq s t with
  | true => rw [hb] at he; cases he; rw [← Nat.eq_of_beq_eq_true hb]; exact h
  | false => rw [hb] at he; exact hT t e he

def arithOp (op : BinOp) (k : IntKind) (a b : Int) : Option Value :=
  match op with
  | .add => some (.int k (k.wrap (a + b)))
  | .sub => some (.int k (k.wrap (a - b)))
  | .mul => some (.int k (k.wrap (a * b)))
  | .and => some (.int k (bits .and k a b))
  | .or => some (.int k (bits .or k a b))
  | .xor => some (.int k (bits .xor k a b))
  | .andNot => some (.int k (bits .andNot k a b))
  | .eql => some (.bool (a == b))
  | .neq => some (.bool (a != b))
  | .lss => some (.bool (decide (a < b)))
  | .leq => some (.bool (decide (a ≤ b)))
  | .gtr => some (.bool (decide (a > b)))
  | .geq => some (.bool (decide (a ≥ b)))
  | _ => none
def binV (op : BinOp) : Value → Value → Option Value
  | .int k a, .int k' b => if k = k' then arithOp op k a b else none
  | .string a, .string b => match op with
    | .eql => some (.bool (a.toList == b.toList))
    | .neq => some (.bool !(a.toList == b.toList))
    | .lss => some (.bool (Op.bytesLess a.toList b.toList))
    | .gtr => some (.bool !(Op.bytesLess a.toList b.toList || a.toList == b.toList))
    | .leq => some (.bool (Op.bytesLess a.toList b.toList || a.toList == b.toList))
    | .geq => some (.bool !(Op.bytesLess a.toList b.toList))
    | _ => none
  | _, _ => none
def unV : UnOp → Value → Option Value
  | .neg, .int k n => some (.int k (k.wrap (0 - n)))
  | .xor, .int k n => some (.int k (bits .xor k (if k.signed then -1 else k.max) n))
  | .not, .bool b => some (.bool !b)
  | _, _ => none
def lenV (d : Option TypeDesc) : Value → Option Value
  | .string s => match d with | some .string => some (.int .i64 s.size) | _ => none
  | .slice _ n _ => match d with | some (.slice _) => some (.int .i64 n) | _ => none
  | _ => none
def convV (T : Types) (s d : TypeId) (x : Value) : Option Value :=
  match T.look s, T.look d, x with
  | some _, some (.int k), .int _ n => some (.int k (k.wrap n))
  | some .string, some .string, .string b => some (.string b)
  | _, _, _ => none
/-- The value of an operation that touches no memory and cannot panic. -/
def pureV (T : Types) (ρ : Operand → Value) : Op → Option Value
  | .move x | .assign x => some (ρ x)
  | .binOp op _ x y _ => binV op (ρ x) (ρ y)
  | .unOp op _ x => unV op (ρ x)
  | .convert s d x => convV T s d (ρ x)
  | .call { callee := .builtin .len, args, argTypes, .. } => match args.toList, argTypes.toList with
    | [x], [t] => lenV (T.look t) (ρ x)
    | _, _ => none
  | .makeFunc fn first captured => some (.func fn (first.map ρ) (captured.map ρ))
  | _ => none

/-- Operation o yields v; behind it h' is known. -/
def RunV (P : Program) (ρ : Operand → Value) (o : Oper) (h : Know) (v : Value) (h' : Know) : Prop :=
  ∀ (Pn : Value → Know → Prop) (K : Next → Know → Prop), (v = undef → K .skip h') → K (.value v) h' → semS P Pn (execOp ρ o) h K

section
variable {P : Program} {A : Acts} [Priv A] {main : Bool} {n : Nat} {Q : Post} {ds : List Deferred} {E : Env} {h h' : Know} {T : Types}

theorem semS_pure {α : Type} {Pn : Value → Know → Prop} (x : α) (h : Know) (K : α → Know → Prop) : semS P Pn (pure x) h K = K x h := rfl
theorem semS_program {Pn : Value → Know → Prop} (h : Know) (K : Program → Know → Prop) : semS P Pn program h K = K P h := rfl
theorem semS_underlying {Pn : Value → Know → Prop} {t : TypeId} {d : TypeDesc} (e : P.underlying t = some d) (h : Know) (K : TypeDesc → Know → Prop) : semS P Pn (underlying t) h K = K d h := by
  unfold underlying
  rw [semS_bind, semS_program, e]; rfl
theorem semS_typeInfo {Pn : Value → Know → Prop} {t : TypeId} {i : TypeInfo} (e : P.info? t = some i) (h : Know) (K : TypeInfo → Know → Prop) : semS P Pn (typeInfo t) h K = K i h := by
  unfold typeInfo
  rw [semS_bind, semS_program, e]; rfl

theorem pure_bits (op : BinOp) (k : IntKind) (a b : Int) {v : Value} (hv : arithOp op k a b = some v) (hop : op = .and ∨ op = .or ∨ op = .xor ∨ op = .andNot) : Op.intBits op k a b = pure v := by
  rcases hop with rfl | rfl | rfl | rfl <;> (simp only [arithOp, Option.some.injEq] at hv; subst hv; rfl)

theorem binV_run {op : BinOp} {t : TypeId} {x y : Operand} {a b : Value} {v : Value} (hv : binV op a b = some v) : (do eqGuard op t x y a b; binOp op t a b : Sem Value) = pure v := by
  have hguard : eqGuard op t x y a b = pure () := by
    unfold binV at hv
    unfold eqGuard
    split at hv <;> first | cases hv | (cases op <;> rfl)
  rw [hguard]
  show binOp op t a b = pure v
  unfold binV at hv
  split at hv
  · rename_i k a k' b
    split at hv
    · rename_i hk
      subst hk
      cases op <;> first | (simp only [arithOp] at hv; cases hv; done) | (simp only [arithOp, Option.some.injEq] at hv; subst hv; first | rfl | (simp [binOp]; rfl))
    · cases hv
  · cases op <;> first | (cases hv; done) | (simp only [Option.some.injEq] at hv; subst hv; first | rfl | simp [binOp, Op.stringOp])
  · cases hv

theorem unV_run {op : UnOp} {a v : Value} (hv : unV op a = some v) : Op.unary op a = pure v := by
  unfold unV at hv
  split at hv <;> first | (cases hv; done) | (simp only [Option.some.injEq] at hv; subst hv; rfl)

theorem runV_pure (hT : T.ok P) {ρ : Operand → Value} {o : Oper} {v : Value} (hv : pureV T ρ o.op = some v) : RunV P ρ o h v h := by
  intro Pn K _ hK
  obtain ⟨dst, op, ty, pos, after, guard⟩ := o
  simp only at hv
  unfold pureV at hv
  split at hv
  · cases hv; exact hK
  · cases hv; exact hK
  · simp only [execOp]; rw [binV_run hv]; exact hK
  · simp only [execOp]; rw [unV_run hv]; exact hK
  · rename_i s d x
    unfold convV at hv
    simp only [execOp]
    split at hv
    · rename_i d0 k k0 m e1 e2 e3
      cases hv
      rw [semS_bind]; unfold convert
      rw [semS_bind, semS_underlying (hT _ _ e1), semS_bind, semS_underlying (hT _ _ e2), e3]
      cases d0 <;> exact hK
    · rename_i b e1 e2 e3
      cases hv
      rw [semS_bind]; unfold convert
      rw [semS_bind, semS_underlying (hT _ _ e1), semS_bind, semS_underlying (hT _ _ e2), e3]
      exact hK
    · cases hv
  · rename_i args ats
    obtain ⟨args⟩ := args
    obtain ⟨ats⟩ := ats
    split at hv
    · rename_i x t ea et
      have ea' : args = [x] := ea
      have et' : ats = [t] := et
      subst ea'; subst et'
      simp only [execOp, resolve, semS_bind, semS_pure, invoke, builtin, List.map_toArray, List.map_cons, List.map_nil]
      unfold Builtin.len_
      unfold lenV at hv
      split at hv
      · rename_i s es
        split at hv
        · rename_i ed
          cases hv
          rw [es]
          show semS P Pn (underlying t >>= _) h _
          rw [semS_bind, semS_underlying (hT _ _ ed)]
          exact hK
        · cases hv
      · rename_i p m c es
        split at hv
        · rename_i e0 ed
          cases hv
          rw [es]
          show semS P Pn (underlying t >>= _) h _
          rw [semS_bind, semS_underlying (hT _ _ ed)]
          exact hK
        · cases hv
      · cases hv
    · cases hv
  · cases hv; exact hK
  · cases hv

/-- The closed conditions of an operation in the text's order. -/
def opB (n : Nat) (E : Env) (o : Oper) : Bool :=
  o.guard.isNone && (match o.dst with | some t => Nat.blt t n | none => true) && notSelect o.op && o.op.operands.toList.all E.has

theorem opB_spec {o : Oper} (hb : opB n E o = true) : o.guard = none ∧ (∀ t, o.dst = some t → t < n) ∧ notSelect o.op = true ∧ o.op.operands.all E.has = true := by
  unfold opB at hb
  simp only [Bool.and_eq_true] at hb
  obtain ⟨⟨⟨h1, h2⟩, h3⟩, h4⟩ := hb
  refine ⟨by simpa using h1, fun t ht => ?_, h3, by simpa using h4⟩
  rw [ht] at h2
  simpa [Nat.blt_eq] using h2

theorem opsE_run {ops : Array Oper} {rest : List Oper} {o : Oper} {v : Value} (hb : opB n E o = true) (hr : RunV P E.ev o h v h') (next : OpsE A P main n ops rest Q ds (E.put o.dst v) h') : OpsE A P main n ops (o :: rest) Q ds E h := by
  obtain ⟨h1, h2, h3, h4⟩ := opB_spec hb
  exact opsE_cons h1 h2 h3 h4 (hr _ _ (fun e => by subst e; exact next) next)

/-- A pure operation: 'v' is the value as it is to be spelled. -/
def pureB (T : Types) (n : Nat) (E : Env) (o : Oper) : Option Value := bif opB n E o then pureV T E.ev o.op else none
theorem opsE_pure (hT : T.ok P) {ops : Array Oper} {rest : List Oper} {o : Oper} {v : Value} (hb : pureB T n E o = some v) (next : OpsE A P main n ops rest Q ds (E.put o.dst v) h) : OpsE A P main n ops (o :: rest) Q ds E h := by
  unfold pureB at hb
  cases e : opB n E o with
  | true => rw [e] at hb; exact opsE_run e (runV_pure hT hb) next
  | false => rw [e] at hb; cases hb
theorem opsE_pureE (hT : T.ok P) {ops : Array Oper} {rest : List Oper} {o : Oper} {v v' : Value} (hb : pureB T n E o = some v) (e : v = v') (next : OpsE A P main n ops rest Q ds (E.put o.dst v') h) : OpsE A P main n ops (o :: rest) Q ds E h :=
  opsE_pure hT hb (e ▸ next)

/-- The same in the head of a region that draws. -/
def headB (E : Env) (o : Oper) : Bool := notSelect o.op && o.op.operands.toList.all E.has
theorem headE_run {l : List Oper} {o : Oper} {v : Value} {K : Env → Prop} (hb : headB E o = true) (hr : RunV P E.ev o h v h') (hl : h.le h') (next : HeadE A P main l (E.put o.dst v) h K) : HeadE A P main (o :: l) E h K := by
  unfold headB at hb
  rw [Bool.and_eq_true] at hb
  refine ⟨by simpa using hb.2, v, yieldS_sem hb.1 (hr _ _ (fun e => ⟨e.symm, hl⟩) ⟨rfl, hl⟩), next⟩
def pureHB (T : Types) (E : Env) (o : Oper) : Option Value := bif headB E o then pureV T E.ev o.op else none
theorem headE_pure (hT : T.ok P) {l : List Oper} {o : Oper} {v : Value} {K : Env → Prop} (hb : pureHB T E o = some v) (next : HeadE A P main l (E.put o.dst v) h K) : HeadE A P main (o :: l) E h K := by
  unfold pureHB at hb
  cases e : headB E o with
  | true => rw [e] at hb; exact headE_run e (runV_pure hT hb) (Know.le_refl h) next
  | false => rw [e] at hb; cases hb
theorem headE_pureE (hT : T.ok P) {l : List Oper} {o : Oper} {v v' : Value} {K : Env → Prop} (hb : pureHB T E o = some v) (e : v = v') (next : HeadE A P main l (E.put o.dst v') h K) : HeadE A P main (o :: l) E h K :=
  headE_pure hT hb (e ▸ next)
omit [Priv A] in
theorem headE_nil {K : Env → Prop} (hk : K E) : HeadE A P main [] E h K := hk

/-! ### Shifts -/
theorem runV_shl {ρ : Operand → Value} {o : Oper} {t yt : TypeId} {x y : Operand} {k yk : IntKind} {a b : Int} (ho : o.op = .binOp .shl t x y yt) (hx : ρ x = .int k a) (hy : ρ y = .int yk b) (hb : 0 ≤ b) :
    RunV P ρ o h (.int k (k.wrap (a * 2 ^ min b.toNat k.bits))) h := by
  intro Pn K _ hK
  have hb' : ¬ b < 0 := by omega
  simp only [execOp, ho, hx, hy]
  have : (do eqGuard .shl t x y (.int k a) (.int yk b); binOp .shl t (.int k a) (.int yk b) : Sem Value) = pure (.int k (k.wrap (a * 2 ^ min b.toNat k.bits))) := by
    show binOp .shl t (.int k a) (.int yk b) = _
    simp [binOp, Op.shift, hb']
  rw [this]; exact hK
theorem runV_shr {ρ : Operand → Value} {o : Oper} {t yt : TypeId} {x y : Operand} {k yk : IntKind} {a b : Int} (ho : o.op = .binOp .shr t x y yt) (hx : ρ x = .int k a) (hy : ρ y = .int yk b) (hb : 0 ≤ b) :
    RunV P ρ o h (.int k (a / 2 ^ min b.toNat k.bits)) h := by
  intro Pn K _ hK
  have hb' : ¬ b < 0 := by omega
  simp only [execOp, ho, hx, hy]
  have : (do eqGuard .shr t x y (.int k a) (.int yk b); binOp .shr t (.int k a) (.int yk b) : Sem Value) = pure (.int k (a / 2 ^ min b.toNat k.bits)) := by
    show binOp .shr t (.int k a) (.int yk b) = _
    have e : a.fdiv (2 ^ min b.toNat k.bits) = a / 2 ^ min b.toNat k.bits := Int.fdiv_eq_ediv_of_nonneg _ (Int.pow_nonneg (by decide))
    simp [binOp, Op.shift, hb', e]
  rw [this]; exact hK
theorem runV_rem {ρ : Operand → Value} {o : Oper} {t yt : TypeId} {x y : Operand} {k : IntKind} {a b : Int} (ho : o.op = .binOp .rem t x y yt) (hx : ρ x = .int k a) (hy : ρ y = .int k b) (hb : b ≠ 0) :
    RunV P ρ o h (.int k (a.tmod b)) h := by
  intro Pn K _ hK
  simp only [execOp, ho, hx, hy]
  have : (do eqGuard .rem t x y (.int k a) (.int k b); binOp .rem t (.int k a) (.int k b) : Sem Value) = pure (.int k (a.tmod b)) := by
    show binOp .rem t (.int k a) (.int k b) = _
    simp [binOp, Op.intDiv, hb]
  rw [this]; exact hK

end
end KL
end Go.Proofs.YtlmecmapkijcnaaDoor

set_option linter.unusedVariables false
namespace Go.Proofs.YtlmecmapkijcnaaDoor
namespace KL
open Go.Conc (G listed)

/-- A type's row: its zero value, how many cells it has, how many bytes. -/
def TI (P : Program) (t : TypeId) (z : Value) (s b : Nat) : Prop := (P.info? t).map (fun i => (i.zero, i.size, i.bytes)) = some (some z, s, b)

/-- Operation o makes a block: in its number r it yields F r, and G r is known. -/
def RunN (P : Program) (ρ : Operand → Value) (o : Oper) (h : Know) (F : Nat → Value) (M : Nat → Know) : Prop :=
  ∀ (Pn : Value → Know → Prop) (K : Next → Know → Prop), (∀ r, h r = none → K (.value (F r)) (M r)) → semS P Pn (execOp ρ o) h K

section
variable {P : Program} {A : Acts} [Priv A] {main : Bool} {n : Nat} {Q : Post} {ds : List Deferred} {E : Env} {h h' : Know} {T : Types} {ρ : Operand → Value} {o : Oper}

theorem TI.get {t : TypeId} {z : Value} {s b : Nat} (ti : TI P t z s b) : ∃ i, P.info? t = some i ∧ i.zero = some z ∧ i.size = s ∧ i.bytes = b := by
  unfold TI at ti
  cases hi : P.info? t with
  | none => rw [hi] at ti; cases ti
  | some i =>
    rw [hi] at ti
    simp only [Option.map_some, Option.some.injEq, Prod.mk.injEq] at ti
    exact ⟨i, rfl, ti.1, ti.2.1, ti.2.2⟩

theorem semS_sizeOf {Pn : Value → Know → Prop} {t : TypeId} {z : Value} {s b : Nat} (ti : TI P t z s b) (h : Know) (K : Nat → Know → Prop) : semS P Pn (sizeOf t) h K = K s h := by
  obtain ⟨i, e1, _, e2, _⟩ := ti.get
  unfold sizeOf
  rw [semS_bind, semS_typeInfo e1, ← e2]; rfl
theorem semS_zeroValue {Pn : Value → Know → Prop} {t : TypeId} {z : Value} {s b : Nat} (ti : TI P t z s b) (h : Know) (K : Value → Know → Prop) : semS P Pn (zeroValue t) h K = K z h := by
  obtain ⟨i, e1, e2, _, _⟩ := ti.get
  unfold zeroValue
  rw [semS_bind, semS_typeInfo e1, e2]; rfl
def isAggD : TypeDesc → Bool
  | .struct _ | .array _ _ => true
  | _ => false
theorem semS_isAgg {Pn : Value → Know → Prop} {t : TypeId} {d : TypeDesc} (e : P.underlying t = some d) (h : Know) (K : Bool → Know → Prop) : semS P Pn (isAgg t) h K = K (isAggD d) h := by
  unfold isAgg
  rw [semS_bind, semS_underlying e]
  cases d <;> rfl

theorem add_mk (b off i : Nat) : (⟨b, off, none⟩ : Addr).add i = ⟨b, off + i, none⟩ := by
  unfold Addr.add; split <;> simp_all

theorem semS_load {Pn : Value → Know → Prop} {b off : Nat} {mu : Bool} {c : Array Value} {ty : TypeId} {fr : Nat × Nat} {v : Value} (hb : h b = some (mu, .cells c ty fr)) (hc : c[off]? = some v) (K : Value → Know → Prop) (hk : K v h) :
    semS P Pn (load ⟨b, off, none⟩) h K := ⟨rfl, rfl, mu, c, ty, fr, v, hb, hc, hk⟩

theorem semS_loadCellsFrom {Pn : Value → Know → Prop} {b off : Nat} {mu : Bool} {c : Array Value} {ty : TypeId} {fr : Nat × Nat} (hb : h b = some (mu, .cells c ty fr)) : ∀ (m i : Nat) (acc : Array Value) (K : Array Value → Know → Prop),
    off + i + m ≤ c.size → K (acc ++ c.extract (off + i) (off + i + m)) h → semS P Pn (loadCellsFrom ⟨b, off, none⟩ i m acc) h K := by
  intro m
  induction m with
  | zero =>
    intro i acc K hs hk
    have e : c.extract (off + i) (off + i + 0) = #[] := by apply Array.ext'; simp [List.extract_eq_take_drop]
    rw [e, Array.append_empty] at hk
    exact hk
  | succ m ih =>
    intro i acc K hs hk
    unfold loadCellsFrom
    rw [semS_bind]
    have hlt : off + i < c.size := by omega
    rw [add_mk]
    refine semS_load hb (v := c[off + i]) (by simp [hlt]) _ (ih (i + 1) _ K (by omega) ?_)
    have e : acc.push c[off + i] ++ c.extract (off + (i + 1)) (off + (i + 1) + m) = acc ++ c.extract (off + i) (off + i + (m + 1)) := by
      apply Array.ext'
      simp only [Array.toList_append, Array.toList_push, Array.toList_extract, List.append_assoc, List.extract_eq_take_drop]
      have h1 : off + (i + 1) + m - (off + (i + 1)) = m := by omega
      have h2 : off + i + (m + 1) - (off + i) = m + 1 := by omega
      rw [h1, h2]
      congr 1
      have hl : off + i < c.toList.length := by simpa using hlt
      rw [List.drop_eq_getElem_cons hl]
      simp [Nat.add_assoc]
    rw [e]; exact hk
theorem semS_loadCells {Pn : Value → Know → Prop} {b off : Nat} {mu : Bool} {c : Array Value} {ty : TypeId} {fr : Nat × Nat} (hb : h b = some (mu, .cells c ty fr)) (m : Nat) (K : Array Value → Know → Prop)
    (hs : off + m ≤ c.size) (hk : K (c.extract off (off + m)) h) : semS P Pn (loadCells ⟨b, off, none⟩ m) h K :=
  semS_loadCellsFrom hb m 0 #[] K (by simpa using hs) (by simpa using hk)

/-- One cell is loaded. -/
theorem runV_load {t : TypeId} {x : Operand} {b off : Nat} {d : TypeDesc} {mu : Bool} {c : Array Value} {ty : TypeId} {fr : Nat × Nat} {v : Value} (ho : o.op = .load t x) (hx : ρ x = .pointer (some ⟨b, off, none⟩)) (hu : P.underlying t = some d) (hd : isAggD d = false)
    (hb : h b = some (mu, .cells c ty fr)) (hc : c[off]? = some v) : RunV P ρ o h v h := by
  intro Pn K _ hK
  simp only [execOp, ho, hx, Instr.loadAt, Instr.sureAddr, semS_bind, semS_pure]
  unfold loadVar
  rw [semS_bind, semS_isAgg hu, hd]
  exact semS_load hb hc _ hK
/-- A whole row is loaded. -/
theorem runV_load_row {t : TypeId} {x : Operand} {b : Nat} {d : TypeDesc} {mu : Bool} {c : Array Value} {ty : TypeId} {fr : Nat × Nat} {z : Value} {bt : Nat} (ho : o.op = .load t x) (hx : ρ x = .pointer (some ⟨b, 0, none⟩)) (hu : P.underlying t = some d) (hd : isAggD d = true)
    (ti : TI P t z c.size bt) (hb : h b = some (mu, .cells c ty fr)) : RunV P ρ o h (.agg c) h := by
  intro Pn K _ hK
  simp only [execOp, ho, hx, Instr.loadAt, Instr.sureAddr, semS_bind, semS_pure]
  unfold loadVar
  rw [semS_bind, semS_isAgg hu, hd]
  show semS P Pn (do let n ← sizeOf t; let cs ← loadCells ⟨b, 0, none⟩ n; pure (.agg cs) : Sem Value) h _
  rw [semS_bind, semS_sizeOf ti, semS_bind]
  refine semS_loadCells hb _ _ (by simp) ?_
  show K (.value (.agg (c.extract 0 (0 + c.size)))) h
  simpa using hK
/-- A part of a row is loaded: an element of several cells. -/
theorem runV_load_part {t : TypeId} {x : Operand} {b off s : Nat} {d : TypeDesc} {mu : Bool} {c : Array Value} {ty : TypeId} {fr : Nat × Nat} {z : Value} {bt : Nat} (ho : o.op = .load t x) (hx : ρ x = .pointer (some ⟨b, off, none⟩)) (hu : P.underlying t = some d) (hd : isAggD d = true)
    (ti : TI P t z s bt) (hb : h b = some (mu, .cells c ty fr)) (hs : off + s ≤ c.size) : RunV P ρ o h (.agg (c.extract off (off + s))) h := by
  intro Pn K _ hK
  simp only [execOp, ho, hx, Instr.loadAt, Instr.sureAddr, semS_bind, semS_pure]
  unfold loadVar
  rw [semS_bind, semS_isAgg hu, hd]
  show semS P Pn (do let n ← sizeOf t; let cs ← loadCells ⟨b, off, none⟩ n; pure (.agg cs) : Sem Value) h _
  rw [semS_bind, semS_sizeOf ti, semS_bind]
  exact semS_loadCells hb _ _ hs hK

/-! ### Stores -/
def Value.flat : Value → Bool
  | .agg _ | .tuple _ => false
  | _ => true
theorem cells_flat {v : Value} (hv : Value.flat v = true) : v.cells = #[v] := by cases v <;> first | rfl | cases hv

/-- Cells written from a place on. -/
def splice (c : Array Value) (off : Nat) : List Value → Array Value
  | [] => c
  | v :: l => splice (c.setIfInBounds off v) (off + 1) l
theorem size_splice : ∀ (l : List Value) (c : Array Value) (off : Nat), (splice c off l).size = c.size := by
  intro l
  induction l with
  | nil => exact fun c off => rfl
  | cons v l ih => intro c off; rw [splice, ih]; simp

theorem semS_store {Pn : Value → Know → Prop} {b off : Nat} {c : Array Value} {ty : TypeId} {fr : Nat × Nat} {v : Value} (hb : h b = some (true, .cells c ty fr)) (hv : Value.flat v = true) (ho : off < c.size) (hf : ¬ (fr.1 ≤ off ∧ off < fr.2)) (K : Unit → Know → Prop)
    (hk : K () (h.upd b (true, .cells (c.setIfInBounds off v) ty fr))) : semS P Pn (store ⟨b, off, none⟩ v) h K :=
  ⟨rfl, rfl, (fun cs e => by subst e; cases hv), (fun cs e => by subst e; cases hv), c, ty, fr, hb, ho, hf, hk⟩
theorem upd_upd (h : Know) (b : Nat) (x y : Bool × Obj) : (h.upd b x).upd b y = h.upd b y := by simp only [Know.upd]; congr 1; funext c; split <;> rfl
theorem upd_self {h : Know} {b : Nat} {x : Bool × Obj} (e : h b = some x) : h.upd b x = h := by
  obtain ⟨k, g⟩ := h
  simp only [Know.upd]; congr 1; funext c; split
  · rename_i hc; subst hc; exact e.symm
  · rfl

theorem semS_storeCells {Pn : Value → Know → Prop} {b off : Nat} {ty : TypeId} {fr : Nat × Nat} : ∀ (l : List Value) (i : Nat) (h : Know) (c : Array Value) (K : Unit → Know → Prop), h b = some (true, .cells c ty fr) → l.all Value.flat = true → off + i + l.length ≤ c.size →
    (∀ j, off + i ≤ j → j < off + i + l.length → ¬ (fr.1 ≤ j ∧ j < fr.2)) → K () (h.upd b (true, .cells (splice c (off + i) l) ty fr)) → semS P Pn (storeCells ⟨b, off, none⟩ l i) h K := by
  intro l
  induction l with
  | nil => intro i h c K hb _ _ _ hk; unfold storeCells; rw [semS_pure]; rw [splice, upd_self hb] at hk; exact hk
  | cons v l ih =>
    intro i h c K hb hv hs hf hk
    simp only [List.all_cons, Bool.and_eq_true] at hv
    simp only [List.length_cons] at hs hf
    unfold storeCells
    rw [semS_bind, add_mk]
    refine semS_store hb hv.1 (by omega) (hf _ (by omega) (by omega)) _ ?_
    refine ih (i + 1) _ _ K (Know.upd_same _ _ _) hv.2 (by simp; omega) (fun j h1 h2 => hf j (by omega) (by omega)) ?_
    rw [upd_upd]
    exact hk

theorem runV_storeVar {t : TypeId} {x y : Operand} {b off : Nat} {c : Array Value} {ty : TypeId} {fr : Nat × Nat} {z v : Value} {bt : Nat} (ho : o.op = .store t x y) (hx : ρ x = .pointer (some ⟨b, off, none⟩)) (hy : ρ y = v)
    (ti : TI P t z v.cells.size bt) (hb : h b = some (true, .cells c ty fr)) (hv : v.cells.toList.all Value.flat = true) (hs : off + v.cells.size ≤ c.size) (hf : ∀ j, off ≤ j → j < off + v.cells.size → ¬ (fr.1 ≤ j ∧ j < fr.2)) :
    RunV P ρ o h undef (h.upd b (true, .cells (splice c off v.cells.toList) ty fr)) := by
  intro Pn K hK _
  simp only [execOp, ho, hx, hy, Instr.storeAt, Instr.sureAddr, semS_bind, semS_pure]
  unfold storeVar
  rw [semS_bind, semS_sizeOf ti, if_neg (by simp)]
  exact semS_storeCells _ 0 h c _ hb hv (by simpa using hs) (by simpa using hf) (hK rfl)
/-- One cell is stored. -/
theorem runV_store {t : TypeId} {x y : Operand} {b off : Nat} {c : Array Value} {ty : TypeId} {fr : Nat × Nat} {z v : Value} {bt : Nat} (ho : o.op = .store t x y) (hx : ρ x = .pointer (some ⟨b, off, none⟩)) (hy : ρ y = v) (hv : Value.flat v = true)
    (ti : TI P t z 1 bt) (hb : h b = some (true, .cells c ty fr)) (hs : off < c.size) (hf : ¬ (fr.1 ≤ off ∧ off < fr.2)) :
    RunV P ρ o h undef (h.upd b (true, .cells (c.setIfInBounds off v) ty fr)) := by
  have hc := cells_flat hv
  have := runV_storeVar (ρ := ρ) (o := o) ho hx hy (z := z) (bt := bt) (by rw [hc]; exact ti) hb (by rw [hc]; simpa using hv) (by rw [hc]; simp; omega) (fun j h1 h2 => by
    rw [hc] at h2; simp at h2
    have : j = off := by omega
    rw [this]; exact hf)
  rw [hc] at this
  exact this
theorem splice_all : ∀ (l : List Value) (c : Array Value) (off : Nat), off + l.length = c.size → splice c off l = (c.toList.take off ++ l).toArray := by
  intro l
  induction l with
  | nil => intro c off hl; simp only [splice, List.append_nil]; apply Array.ext'; simp; rw [List.take_of_length_le (by simp at hl ⊢; omega)]
  | cons v l ih =>
    intro c off hl
    simp only [List.length_cons] at hl
    rw [splice, ih _ _ (by simp; omega)]
    congr 1
    simp only [Array.toList_setIfInBounds]
    rw [List.take_succ_eq_append_getElem (by simp; omega)]
    simp [List.take_set_of_le]
/-- A whole row is stored. -/
theorem runV_store_row {t : TypeId} {x y : Operand} {b : Nat} {c cs : Array Value} {ty : TypeId} {fr : Nat × Nat} {z : Value} {bt : Nat} (ho : o.op = .store t x y) (hx : ρ x = .pointer (some ⟨b, 0, none⟩)) (hy : ρ y = .agg cs)
    (ti : TI P t z cs.size bt) (hb : h b = some (true, .cells c ty fr)) (hv : cs.toList.all Value.flat = true) (hs : cs.size = c.size) (hf : fr.2 = 0) :
    RunV P ρ o h undef (h.upd b (true, .cells cs ty fr)) := by
  have := runV_storeVar (ρ := ρ) (o := o) ho hx hy (z := z) (bt := bt) ti hb hv (by show 0 + cs.size ≤ _; omega) (fun j _ _ => by omega)
  have e : splice c 0 (Value.agg cs).cells.toList = cs := by
    show splice c 0 cs.toList = cs
    rw [splice_all _ _ _ (by simpa using hs)]; simp
  rw [e] at this
  exact this

/-! ### New blocks -/
theorem opsE_new {ops : Array Oper} {rest : List Oper} {F : Nat → Value} {M : Nat → Know} (hb : opB n E o = true) (hr : RunN P E.ev o h F M) (next : ∀ r, h r = none → OpsE A P main n ops rest Q ds (E.put o.dst (F r)) (M r)) : OpsE A P main n ops (o :: rest) Q ds E h := by
  obtain ⟨h1, h2, h3, h4⟩ := opB_spec hb
  exact opsE_cons h1 h2 h3 h4 (hr _ _ fun r e => next r e)

theorem semS_newRow {Pn : Value → Know → Prop} (t : TypeId) (cs : Array Value) (K : Addr → Know → Prop) (hk : ∀ r, h r = none → K ⟨r, 0, none⟩ (h.upd r (true, .cells cs t (0, 0)))) : semS P Pn (newRow t cs) h K := by
  unfold newRow
  rw [semS_bind]
  exact fun r hr => hk r hr
theorem runN_alloc {t : TypeId} {z : Value} {s bt : Nat} (ho : o.op = .alloc t) (ti : TI P t z s bt) : RunN P ρ o h (fun r => .pointer (some ⟨r, 0, none⟩)) (fun r => h.upd r (true, .cells z.cells t (0, 0))) := by
  intro Pn K hK
  simp only [execOp, ho, Instr.alloc, semS_bind, semS_zeroValue ti]
  unfold newVar
  exact semS_newRow _ _ _ hK
theorem runN_box {t : TypeId} {x : Operand} {v : Value} (ho : o.op = .box t x) (hx : ρ x = v) : RunN P ρ o h (fun r => .pointer (some ⟨r, 0, none⟩)) (fun r => h.upd r (true, .cells v.cells t (0, 0))) := by
  intro Pn K hK
  simp only [execOp, ho, hx, Instr.box, semS_bind]
  unfold newVar
  exact semS_newRow _ _ _ hK
theorem runN_buildSlice {t e : TypeId} {m : Nat} {parts : Array (Nat × Operand)} {z : Value} {bt : Nat} {cs : Array Value} (ho : o.op = .buildSlice t m parts) (hu : P.underlying t = some (.slice e)) (ti : TI P e z 1 bt) (hm : m * 1 ≤ 2 ^ 24) (hm0 : ¬ m * 1 = 0)
    (hf : Instr.fill (fun i => some (i * 1, 1)) ((Array.range (m * 1)).map (z.cells[· % z.cells.size]!)) (parts.map fun (i, x) => (i, ρ x)).toList = some cs) :
    RunN P ρ o h (fun r => .slice (some ⟨r, 0, none⟩) m m) (fun r => h.upd r (true, .cells cs e (0, 0))) := by
  intro Pn K hK
  simp only [execOp, ho, Instr.buildSlice, semS_bind, semS_underlying hu, semS_sizeOf ti]
  rw [if_neg (by omega), if_neg hm0, semS_bind, semS_zeroValue ti, semS_bind, semS_pure]
  simp only [hf]
  rw [semS_bind]
  exact semS_newRow _ _ _ hK
theorem runV_build {t : TypeId} {len e : Nat} {parts : Array (Nat × Operand)} {z ze : Value} {s bt be : Nat} {cs : Array Value} (ho : o.op = .build t parts) (hu : P.underlying t = some (.array len e)) (ti : TI P t z s bt) (te : TI P e ze 1 be)
    (hf : Instr.fill (fun i => some (i * 1, 1)) z.cells (parts.map fun (i, x) => (i, ρ x)).toList = some cs) : RunV P ρ o h (.agg cs) h := by
  intro Pn K _ hK
  simp only [execOp, ho, Instr.build, semS_bind, semS_zeroValue ti, semS_underlying hu, semS_sizeOf te, hf]
  exact hK

/-! ### Places -/
theorem runV_indexAddr_array {t e : TypeId} {len : Nat} {x ix : Operand} {k : IntKind} {i : Int} {b off : Nat} {z : Value} {s bt : Nat} (ho : o.op = .indexAddr t x ix) (hu : P.underlying t = some (.array len e)) (te : TI P e z s bt) (hx : ρ x = .pointer (some ⟨b, off, none⟩)) (hi : ρ ix = .int k i)
    (h0 : 0 ≤ i) (h1 : i < len) : RunV P ρ o h (.pointer (some ⟨b, off + i.toNat * s, none⟩)) h := by
  intro Pn K _ hK
  simp only [execOp, ho, hx, hi, Instr.indexAt, asIntOf, Instr.sureAddr, semS_bind, semS_pure, semS_underlying hu]
  rw [if_pos ⟨h0, h1⟩, semS_bind, semS_sizeOf te, semS_pure, add_mk]
  exact hK
theorem runV_indexAddr_slice {t e : TypeId} {x ix : Operand} {k : IntKind} {i : Int} {b off len cap : Nat} {z : Value} {s bt : Nat} (ho : o.op = .indexAddr t x ix) (hu : P.underlying t = some (.slice e)) (te : TI P e z s bt) (hx : ρ x = .slice (some ⟨b, off, none⟩) len cap) (hi : ρ ix = .int k i)
    (h0 : 0 ≤ i) (h1 : i < len) : RunV P ρ o h (.pointer (some ⟨b, off + i.toNat * s, none⟩)) h := by
  intro Pn K _ hK
  simp only [execOp, ho, hx, hi, Instr.indexAt, asIntOf, semS_bind, semS_pure, semS_underlying hu]
  rw [if_pos ⟨h0, h1⟩, semS_bind, semS_sizeOf te, semS_pure, add_mk]
  exact hK
/-- An element of one cell, of an array in a slot. -/
theorem runV_index {t e : TypeId} {len : Nat} {x ix : Operand} {k : IntKind} {i : Int} {cs : Array Value} {z : Value} {bt : Nat} {d : TypeDesc} {v : Value} (ho : o.op = .index t x ix) (hu : P.underlying t = some (.array len e)) (te : TI P e z 1 bt) (hd : P.underlying e = some d) (hag : isAggD d = false)
    (hx : ρ x = .agg cs) (hi : ρ ix = .int k i) (h0 : 0 ≤ i) (h1 : i < len) (hv : cs[i.toNat]? = some v) : RunV P ρ o h v h := by
  intro Pn K _ hK
  simp only [execOp, ho, hx, hi, Instr.index, asIntOf, semS_bind, semS_pure, semS_underlying hu]
  rw [if_pos ⟨h0, h1⟩, semS_bind, semS_sizeOf te]
  unfold part
  rw [semS_bind, semS_isAgg hd, hag, Nat.mul_one]
  simp only [Bool.false_eq_true, if_false]
  rw [hv]; exact hK
theorem runV_nilCheck {x : Operand} {b off : Nat} (ho : o.op = .nilCheck x) (hx : ρ x = .pointer (some ⟨b, off, none⟩)) : RunV P ρ o h (.pointer (some ⟨b, off, none⟩)) h := by
  intro Pn K _ hK
  simp only [execOp, ho, hx]
  exact hK

/-! ### Slices of slices, of arrays, of texts -/
def boundOk (v : Option Value) (d y : Nat) (l : Nat) : Prop :=
  match v with
  | none => l = d
  | some v => ∃ k i, v = .int k i ∧ 0 ≤ i ∧ i ≤ y ∧ l = i.toNat
theorem semS_bound {Pn : Value → Know → Prop} {v : Value} {y l d : Nat} {code : BoundsCode} (hb : boundOk (some v) d y l) (K : Nat → Know → Prop) (hk : K l h) : semS P Pn (Instr.sliceBound v y code) h K := by
  obtain ⟨k, i, rfl, h0, h1, rfl⟩ := hb
  unfold Instr.sliceBound
  simp only [asIntOf, semS_bind, semS_pure]
  rw [if_pos ⟨h0, h1⟩]; exact hk
theorem semS_bounds {Pn : Value → Know → Prop} {isSlice : Bool} {len cap l hh : Nat} {lo hi : Option Value} (h1 : boundOk hi len cap hh) (h2 : boundOk lo 0 hh l) (K : Nat × Nat × Nat → Know → Prop) (hk : K (l, hh, cap) h) :
    semS P Pn (Instr.sliceBounds isSlice len cap lo hi none) h K := by
  unfold Instr.sliceBounds
  cases hi with
  | none =>
    obtain rfl := h1
    cases lo with
    | none => obtain rfl := h2; simp only [semS_bind, semS_pure]; exact hk
    | some v => simp only [semS_bind, semS_pure]; exact semS_bound h2 _ hk
  | some u =>
    cases lo with
    | none => obtain rfl := h2; simp only [semS_bind, semS_pure]; exact semS_bound h1 _ hk
    | some v => simp only [semS_bind, semS_pure]; exact semS_bound h1 _ (semS_bound h2 _ hk)
theorem runV_slice_array {t e : TypeId} {len : Nat} {x : Operand} {lo hi : Option Operand} {b off l hh : Nat} {z : Value} {bt : Nat} (ho : o.op = .slice t x lo hi none) (hu : P.underlying t = some (.array len e)) (te : TI P e z 1 bt) (hx : ρ x = .pointer (some ⟨b, off, none⟩))
    (h1 : boundOk (hi.map ρ) len len hh) (h2 : boundOk (lo.map ρ) 0 hh l) (h3 : l < len) : RunV P ρ o h (.slice (some ⟨b, off + l, none⟩) (hh - l) (len - l)) h := by
  intro Pn K _ hK
  simp only [execOp, ho, hx, Option.map_none, Instr.sliceAt, semS_bind, semS_underlying hu, Instr.sureAddr, semS_pure]
  refine semS_bounds h1 h2 _ ?_
  simp only [semS_sizeOf te]
  rw [if_neg (by omega), add_mk, Nat.mul_one]
  exact hK
theorem runV_slice_slice {t e : TypeId} {x : Operand} {lo hi : Option Operand} {b off len cap l hh : Nat} {z : Value} {s bt : Nat} (ho : o.op = .slice t x lo hi none) (hu : P.underlying t = some (.slice e)) (te : TI P e z s bt) (hx : ρ x = .slice (some ⟨b, off, none⟩) len cap)
    (h1 : boundOk (hi.map ρ) len cap hh) (h2 : boundOk (lo.map ρ) 0 hh l) : RunV P ρ o h (.slice (some (if cap = l then ⟨b, off, none⟩ else ⟨b, off + l * s, none⟩)) (hh - l) (cap - l)) h := by
  intro Pn K _ hK
  simp only [execOp, ho, hx, Option.map_none, Instr.sliceAt, semS_bind, semS_underlying hu, Instr.slice]
  refine semS_bounds h1 h2 _ ?_
  simp only [semS_sizeOf te, semS_pure]
  split
  · rename_i hc; rw [if_pos hc] at hK; exact hK
  · rename_i hc; rw [if_neg hc] at hK; rw [Option.map_some, add_mk]; exact hK
theorem runV_slice_string {t : TypeId} {x : Operand} {lo hi : Option Operand} {s : ByteArray} {l hh : Nat} (ho : o.op = .slice t x lo hi none) (hu : P.underlying t = some .string) (hx : ρ x = .string s)
    (h1 : boundOk (hi.map ρ) s.size s.size hh) (h2 : boundOk (lo.map ρ) 0 hh l) : RunV P ρ o h (.string (s.extract l hh)) h := by
  intro Pn K _ hK
  simp only [execOp, ho, hx, Option.map_none, Instr.sliceAt, semS_bind, semS_underlying hu, Instr.slice]
  rw [if_neg (by simp)]
  simp only [semS_bind]
  exact semS_bounds h1 h2 _ hK

end
end KL
end Go.Proofs.YtlmecmapkijcnaaDoor

set_option linter.unusedVariables false
namespace Go.Proofs.YtlmecmapkijcnaaDoor
namespace KL
open Go.Conc (G listed)

/-- The slice v owns its row from its head on; its elements (a cell each) are xs. -/
def SlB (h : Know) (b cap : Nat) (et : TypeId) (xs : List Value) : Prop :=
  ∃ c fr, h b = some (true, .cells c et fr) ∧ c.size = cap ∧ c.toList.take xs.length = xs ∧ xs.length ≤ cap ∧ ∀ j, j < c.size → ¬ (fr.1 ≤ j ∧ j < fr.2)
def SlV (h : Know) (v : Value) (et : TypeId) (xs : List Value) : Prop :=
  (v = .slice none 0 0 ∧ xs = []) ∨ ∃ b cap, v = .slice (some ⟨b, 0, none⟩) xs.length cap ∧ SlB h b cap et xs
def blk : Value → Option Nat
  | .slice (some a) _ _ => some a.block
  | _ => none
/-- What is handed to append or copy: elements ys. -/
def SrcV (h : Know) (x : Value) (ys : List Value) : Prop :=
  (x = .slice none 0 0 ∧ ys = []) ∨ (∃ s : ByteArray, x = .string s ∧ ys = s.data.toList.map fun b => .int .u8 b.toNat) ∨
  ∃ r off cap mu c ty fr, x = .slice (some ⟨r, off, none⟩) ys.length cap ∧ h r = some (mu, .cells c ty fr) ∧ off + ys.length ≤ c.size ∧ c.extract off (off + ys.length) = ys.toArray

section
variable {P : Program} {A : Acts} [Priv A] {main : Bool} {n : Nat} {Q : Post} {ds : List Deferred} {E : Env} {h h' : Know} {T : Types} {ρ : Operand → Value} {o : Oper}

theorem SlV.nil (h : Know) (et : TypeId) : SlV h (.slice none 0 0) et [] := .inl ⟨rfl, rfl⟩
theorem SlB.mk' {b cap : Nat} {et : TypeId} {xs : List Value} {c : Array Value} (hb : h b = some (true, .cells c et (0, 0))) (hc : c.size = cap) (hx : c.toList.take xs.length = xs) (hl : xs.length ≤ cap) : SlB h b cap et xs :=
  ⟨c, (0, 0), hb, hc, hx, hl, fun j _ ⟨_, h2⟩ => by simp at h2⟩
theorem SlB.keep {b cap : Nat} {et : TypeId} {xs : List Value} (s : SlB h b cap et xs) (e : h' b = h b) : SlB h' b cap et xs := by
  obtain ⟨c, fr, hb, r⟩ := s; exact ⟨c, fr, e.trans hb, r⟩
theorem SlV.keep {v : Value} {et : TypeId} {xs : List Value} (s : SlV h v et xs) (e : ∀ b, blk v = some b → h' b = h b) : SlV h' v et xs := by
  rcases s with s | ⟨b, cap, rfl, s⟩
  · exact .inl s
  · exact .inr ⟨b, cap, rfl, s.keep (e b rfl)⟩
theorem extract_take {c : Array Value} {xs : List Value} (hx : c.toList.take xs.length = xs) : c.extract 0 xs.length = xs.toArray := by
  apply Array.ext'
  rw [Array.toList_extract, List.extract_eq_take_drop]; simpa using hx
theorem SlB.src {b cap : Nat} {et : TypeId} {xs : List Value} (s : SlB h b cap et xs) : SrcV h (.slice (some ⟨b, 0, none⟩) xs.length cap) xs := by
  obtain ⟨c, fr, hb, hc, hx, hl, _⟩ := s
  refine .inr (.inr ⟨b, 0, cap, true, c, et, fr, rfl, hb, by omega, ?_⟩)
  rw [Nat.zero_add]; exact extract_take hx
theorem SrcV.len {x : Value} {ys : List Value} (s : SrcV h x ys) {Pn : Value → Know → Prop} (K : Nat → Know → Prop) (hk : K ys.length h) : semS P Pn (Builtin.lenOf x) h K := by
  rcases s with ⟨rfl, rfl⟩ | ⟨s, rfl, rfl⟩ | ⟨r, off, cap, mu, c, ty, fr, rfl, _⟩
  · exact hk
  · have : (s.data.toList.map fun b => Value.int .u8 b.toNat).length = s.size := by simp
    rw [this] at hk; exact hk
  · exact hk
theorem SrcV.first {x : Value} {ys : List Value} (s : SrcV h x ys) {Pn : Value → Know → Prop} (K : Array Value → Know → Prop) (hk : K ys.toArray h) : semS P Pn (Builtin.firstCells 1 ys.length x) h K := by
  rcases s with ⟨rfl, rfl⟩ | ⟨s, rfl, rfl⟩ | ⟨r, off, cap, mu, c, ty, fr, rfl, hr, hs, he⟩
  · exact hk
  · unfold Builtin.firstCells
    have e1 : (s.data.toList.map fun b => Value.int .u8 b.toNat).length = s.size := by simp
    have e2 : s.extract 0 s.size = s := by simp
    have : (s.extract 0 (s.data.toList.map fun b => Value.int .u8 b.toNat).length).data.map (fun b => Value.int .u8 b.toNat) = (s.data.toList.map fun b => Value.int .u8 b.toNat).toArray := by
      rw [e1, e2]; apply Array.ext'; simp
    show K _ h
    rw [this]; exact hk
  · unfold Builtin.firstCells
    rw [Nat.mul_one]
    refine semS_loadCells hr _ _ hs ?_
    rw [he]; exact hk

theorem splice_append {c : Array Value} {xs ys : List Value} (hx : c.toList.take xs.length = xs) (hl : xs.length + ys.length ≤ c.size) : (splice c xs.length ys).toList.take (xs.length + ys.length) = xs ++ ys := by
  induction ys generalizing c xs with
  | nil => simpa [splice] using hx
  | cons y ys ih =>
    simp only [List.length_cons] at hl
    have hlt : xs.length < c.size := by omega
    have := ih (c := c.setIfInBounds xs.length y) (xs := xs ++ [y]) (by
      simp only [List.length_append, List.length_cons, List.length_nil, Array.toList_setIfInBounds]
      rw [List.take_succ_eq_append_getElem (by simpa using hlt)]
      simp [List.take_set_of_le, hx]) (by simp; omega)
    simp only [List.length_append, List.length_cons, List.length_nil, Nat.zero_add] at this
    rw [splice]
    have e : xs.length + (y :: ys).length = xs.length + 1 + ys.length := by simp; omega
    rw [e, this]; simp

theorem semS_askRoom {Pn : Value → Know → Prop} (m : Nat) (K : Unit → Know → Prop) (hk : K () h) : semS P Pn (askRoom m) h K := by
  unfold askRoom
  split
  · exact ⟨rfl, hk⟩
  · exact hk

/-- append, whatever the room: behind it the elements are those of both. -/
theorem semS_append {Pn : Value → Know → Prop} {t xt e ty : TypeId} {z : Value} {bt : Nat} {s x : Value} {xs ys : List Value} (hu : P.underlying t = some (.slice e)) {dx : TypeDesc} (hux : P.underlying xt = some dx) (hdx : (∃ e', dx = .slice e') ∨ dx = .string)
    (te : TI P e z 1 bt) (hbt : 0 < bt) (hs : SlV h s e xs) (hx : SrcV h x ys) (hys : ys.all Value.flat = true) (hzs : z.cells.size = 1) (hroom : 2 * (xs.length + ys.length) * bt ≤ 2 ^ 48) (K : Value → Know → Prop)
    (hk : ∀ v h', SlV h' v e (xs ++ ys) → (∀ c y, blk s ≠ some c → h c = some y → h' c = some y) → (∀ c, blk v = some c → blk s = some c ∨ h c = none) → K v h') : semS P Pn (Builtin.append_ #[t, xt] ty #[s, x]) h K := by
  have hval : ∃ base m cap, s = .slice base m cap ∧ m = xs.length := by
    rcases hs with ⟨rfl, rfl⟩ | ⟨b, cap, rfl, _⟩
    · exact ⟨none, 0, 0, rfl, rfl⟩
    · exact ⟨_, _, _, rfl, rfl⟩
  obtain ⟨base, m, cap, rfl, rfl⟩ := hval
  unfold Builtin.append_
  rw [show ((#[t, xt] : Array TypeId)[0]?, (#[Value.slice base xs.length cap, x] : Array Value)[0]?, (#[Value.slice base xs.length cap, x] : Array Value)[1]?) = (some t, some (Value.slice base xs.length cap), some x) from rfl]
  dsimp only
  rw [semS_bind, semS_underlying hu]
  dsimp only
  rw [semS_bind, semS_sizeOf te]
  rw [show ((#[t, xt] : Array TypeId)[1]?) = some xt from rfl]
  dsimp only
  rw [semS_bind, semS_underlying hux]
  rcases hdx with ⟨e', rfl⟩ | rfl
  all_goals
    dsimp only
    rw [semS_bind, semS_pure]
    simp only [Bool.false_eq_true, if_false, Bool.not_false, if_true]
    rw [semS_bind]
    refine SrcV.len hx _ ?_
    split
    · -- there is room
      rename_i hroom'
      rw [semS_bind]
      refine SrcV.first hx _ ?_
      rcases hs with ⟨e1, e2⟩ | ⟨b, cap', e1, hs⟩
      · subst e2
        simp only [Value.slice.injEq, List.length_nil] at e1
        obtain ⟨rfl, _, rfl⟩ := e1
        have : ys = [] := List.eq_nil_of_length_eq_zero (by simpa using hroom')
        subst this
        exact hk _ h (.inl ⟨rfl, rfl⟩) (fun c y _ x => x) (fun c e => by cases e)
      · simp only [Value.slice.injEq, true_and] at e1
        obtain ⟨rfl, rfl⟩ := e1
        obtain ⟨c, fr, hb, hc, hxx, hl, hfr⟩ := hs
        simp only [semS_bind, Nat.mul_one, add_mk, Nat.zero_add]
        refine semS_storeCells _ 0 h c _ hb hys (by simp; omega) (fun j h1 h2 => hfr j (by simp at h2; omega)) ?_
        simp only [semS_pure, Nat.add_zero]
        refine hk _ _ (.inr ⟨b, cap, by simp, splice c xs.length ys, fr, Know.upd_same _ _ _, by rw [size_splice]; exact hc, ?_, by simpa using hroom', by rw [size_splice]; exact hfr⟩) (fun c' y hne x => ?_) (fun c' e => .inl e)
        · simp only [List.length_append]; exact splice_append hxx (by omega)
        · rw [Know.upd_ne _ _ (fun e => hne (by rw [e]; rfl))]; exact x
    · -- a new row
      rename_i hroom'
      have hgt : cap < xs.length + ys.length := by omega
      obtain ⟨i, e1, e2, e3, e4⟩ := te.get
      have hn := nextslicecap_le hgt
      have hng : ¬ Builtin.nextslicecap (xs.length + ys.length) cap * bt > 2 ^ 48 := by
        have := Nat.mul_le_mul_right bt hn
        omega
      have hbt0 : bt ≠ 0 := by omega
      simp only [semS_bind, semS_typeInfo e1, e4, hbt0, false_or, and_false, if_false, hng]
      intro nc hnc
      have hge : xs.length + ys.length ≤ nc := by
        simp only [Fits, Question.forced, Question.cut, Bool.false_eq_true, if_false] at hnc
        obtain ⟨q, rfl⟩ := hnc
        omega
      refine semS_askRoom _ _ ?_
      have hold : SrcV h (.slice base xs.length cap) xs := by
        rcases hs with ⟨e1, e2⟩ | ⟨b, cap', e1, hs⟩
        · exact .inl ⟨by rw [e1], e2⟩
        · simp only [Value.slice.injEq, true_and] at e1
          obtain ⟨rfl, rfl⟩ := e1
          exact hs.src
      refine hold.first _ (hx.first _ ?_)
      rw [semS_zeroValue te]
      refine semS_newRow _ _ _ fun r hr => ?_
      rw [semS_pure]
      refine hk _ _ (.inr ⟨r, nc, by simp, ?_⟩) (fun c y _ x => ?_) (fun c e => ?_)
      · refine SlB.mk' (Know.upd_same _ _ _) ?_ ?_ (by simpa using hge)
        · have hz : z.cells.size = 1 := hzs
          simp [Builtin.zeroCells, hz]; omega
        · simp
          rw [← List.append_assoc, ← List.length_append, List.take_left]
      · rw [Know.upd_ne _ _ (fun e => by subst e; rw [hr] at x; cases x)]; exact x
      · cases e; exact .inr hr

/-- Operation o yields some v, and some h' is known, so that R. -/
def RunX (P : Program) (ρ : Operand → Value) (o : Oper) (h : Know) (R : Value → Know → Prop) : Prop :=
  ∀ (Pn : Value → Know → Prop) (K : Next → Know → Prop), (∀ v h', R v h' → K (.value v) h') → semS P Pn (execOp ρ o) h K
theorem opsE_x {ops : Array Oper} {rest : List Oper} {R : Value → Know → Prop} (hb : opB n E o = true) (hr : RunX P E.ev o h R) (next : ∀ v h', R v h' → OpsE A P main n ops rest Q ds (E.put o.dst v) h') : OpsE A P main n ops (o :: rest) Q ds E h := by
  obtain ⟨h1, h2, h3, h4⟩ := opB_spec hb
  exact opsE_cons h1 h2 h3 h4 (hr _ _ fun v h' r => next v h' r)

/-- What append leaves. -/
def Appended (h : Know) (s : Value) (e : TypeId) (zs : List Value) (v : Value) (h' : Know) : Prop :=
  SlV h' v e zs ∧ (∀ c y, blk s ≠ some c → h c = some y → h' c = some y) ∧ (∀ c, blk v = some c → blk s = some c ∨ h c = none) ∧ h'.gh = h.gh
theorem RunX.gh {R : Value → Know → Prop} (hr : RunX P ρ o h R) : RunX P ρ o h (fun v h' => R v h' ∧ h'.gh = h.gh) := by
  intro Pn K hK
  have := semS_gh _ _ _ (hr Pn (fun x h' => ∃ v, x = .value v ∧ R v h') fun v h' r => ⟨v, rfl, r⟩)
  refine semS_mono (fun _ _ e => e) _ _ _ _ ?_ this
  rintro x h' ⟨⟨v, rfl, r⟩, g⟩
  exact hK _ _ ⟨r, g⟩
theorem runX_append {t xt e : TypeId} {sx xx : Operand} {z : Value} {bt : Nat} {s x : Value} {xs ys : List Value} (ho : o.op = .call { callee := .builtin .append, args := #[sx, xx], argTypes := #[t, xt] }) (hs' : ρ sx = s) (hx' : ρ xx = x)
    (hu : P.underlying t = some (.slice e)) {dx : TypeDesc} (hux : P.underlying xt = some dx) (hdx : (∃ e', dx = .slice e') ∨ dx = .string) (te : TI P e z 1 bt) (hbt : 0 < bt) (hzs : z.cells.size = 1) (hs : SlV h s e xs) (hx : SrcV h x ys) (hys : ys.all Value.flat = true)
    (hroom : 2 * (xs.length + ys.length) * bt ≤ 2 ^ 48) : RunX P ρ o h (Appended h s e (xs ++ ys)) := by
  have key : RunX P ρ o h (fun v h' => SlV h' v e (xs ++ ys) ∧ (∀ c y, blk s ≠ some c → h c = some y → h' c = some y) ∧ (∀ c, blk v = some c → blk s = some c ∨ h c = none)) := ?_
  · intro Pn K hK
    exact key.gh Pn K fun v h' ⟨⟨h1, h2, h3⟩, h4⟩ => hK v h' ⟨h1, h2, h3, h4⟩
  intro Pn K hK
  simp only [execOp, ho, resolve, semS_bind, semS_pure, invoke, builtin, List.map_toArray, List.map_cons, List.map_nil, hs', hx']
  exact semS_append hu hux hdx te hbt hs hx hys hzs hroom _ fun v h' h1 h2 h3 => hK v h' ⟨h1, h2, h3⟩

/-- copy of all of the source, into a row that may be written. -/
theorem runV_copy {t xt e ty : TypeId} {dx xx : Operand} {z : Value} {bt b off dl cap : Nat} {x : Value} {ys : List Value} {c : Array Value} {fr : Nat × Nat} (ho : o.op = .call { callee := .builtin .copy, args := #[dx, xx], argTypes := #[t, xt] }) (hd : ρ dx = .slice (some ⟨b, off, none⟩) dl cap) (hx' : ρ xx = x)
    (hu : P.underlying t = some (.slice e)) (te : TI P e z 1 bt) (hx : SrcV h x ys) (hys : ys.all Value.flat = true) (hl : ys.length ≤ dl) (hb : h b = some (true, .cells c ty fr)) (hs : off + ys.length ≤ c.size) (hf : ∀ j, off ≤ j → j < off + ys.length → ¬ (fr.1 ≤ j ∧ j < fr.2)) :
    RunV P ρ o h (.int .i64 ys.length) (h.upd b (true, .cells (splice c off ys) ty fr)) := by
  intro Pn K _ hK
  simp only [execOp, ho, resolve, semS_bind, semS_pure, invoke, builtin, List.map_toArray, List.map_cons, List.map_nil, hd, hx']
  unfold Builtin.copy_
  rw [show ((#[t, xt] : Array TypeId)[0]?, (#[Value.slice (some ⟨b, off, none⟩) dl cap, x] : Array Value)[0]?, (#[Value.slice (some ⟨b, off, none⟩) dl cap, x] : Array Value)[1]?) = (some t, some (Value.slice (some ⟨b, off, none⟩) dl cap), some x) from rfl]
  dsimp only
  rw [semS_bind, semS_underlying hu]
  dsimp only
  rw [semS_bind]
  refine hx.len _ ?_
  rw [semS_bind, semS_sizeOf te, semS_bind, show Nat.min ys.length dl = ys.length from Nat.min_eq_left hl]
  refine hx.first _ ?_
  rw [semS_bind]
  refine semS_storeCells _ 0 h c _ hb hys (by simpa using hs) (by simpa using hf) ?_
  simp only [semS_pure, Nat.add_zero]
  exact hK

/-- A text's bytes, in a new row. -/
theorem runX_bytes {st dt e : TypeId} {x : Operand} {s : ByteArray} {ds : TypeDesc} (ho : o.op = .convert st dt x) (hx : ρ x = .string s) (hus : P.underlying st = some ds) (hut : P.underlying dt = some (.slice e)) (hue : P.underlying e = some (.int .u8)) :
    RunX P ρ o h (fun v h' => SlV h' v e (s.data.toList.map fun b => .int .u8 b.toNat) ∧ h.le h' ∧ ∀ c, blk v = some c → h c = none) := by
  intro Pn K hK
  simp only [execOp, ho, hx, semS_bind]
  unfold convert
  simp only [semS_bind, semS_underlying hus, semS_underlying hut]
  have step : semS P Pn (Conv.stringToBytes e s) h (fun v h' => K (.value v) h') := by
    unfold Conv.stringToBytes
    rw [semS_bind]
    intro nc hnc
    have hge : s.size ≤ nc := by
      simp only [Fits, Question.forced, Question.cut, Bool.false_eq_true, if_false] at hnc
      obtain ⟨q, rfl⟩ := hnc
      omega
    change semS P Pn (newRow e _ >>= _) h _
    rw [semS_bind]
    refine semS_newRow _ _ _ fun r hr => ?_
    rw [semS_bind]
    unfold markStringish
    rw [semS_bind]
    refine ⟨true, _, e, (0, 0), Know.upd_same _ _ _, ?_⟩
    refine .inr ⟨by decide, _, e, (0, 0), Know.upd_same _ _ _, ?_⟩
    refine hK _ _ ⟨.inr ⟨r, nc, ?_, _, _, Know.upd_same _ _ _, ?_, ?_, ?_, fun j hj => ?_⟩, ⟨rfl, fun c y x => ?_⟩, fun c hc => ?_⟩
    · have : (s.data.toList.map fun b => Value.int .u8 b.toNat).length = s.size := by simp
      rw [this]
    · simp only [Array.size_append, Array.size_map, Array.size_replicate]
      have : s.data.size = s.size := rfl
      omega
    · simp
    · simpa using hge
    · simp only [beq_self_eq_true, if_true]
      intro ⟨h1, h2⟩
      simp at h1 hj
      omega
    · have hne : c ≠ r := fun e => by subst e; rw [hr] at x; cases x
      rw [Know.upd_ne _ _ hne, Know.upd_ne _ _ hne]; exact x
    · cases hc; exact hr
  cases ds <;> (simp only [semS_underlying hue]; exact step)

theorem semS_bytesLoop {Pn : Value → Know → Prop} : ∀ (bs : List Int) (acc : ByteArray) (K : ByteArray → Know → Prop), K ⟨acc.data ++ (bs.map fun i => UInt8.ofNat i.toNat).toArray⟩ h →
    semS P Pn (forIn (bs.map (Value.int .u8)) acc (fun c (s : ByteArray) => (do
      let .int .u8 n := c | stuck "bytesToString: byte expected"
      pure (ForInStep.yield (s.push (UInt8.ofNat n.toNat))) : Sem (ForInStep ByteArray)))) h K := by
  intro bs
  induction bs with
  | nil =>
    intro acc K hk
    have e : (⟨acc.data ++ (([] : List Int).map fun i => UInt8.ofNat i.toNat).toArray⟩ : ByteArray) = acc := by simp
    rw [e] at hk
    exact hk
  | cons b bs ih =>
    intro acc K hk
    rw [List.map_cons, List.forIn_cons, semS_bind]
    simp only [semS_pure]
    refine ih _ K ?_
    have : (acc.push (UInt8.ofNat b.toNat)).data ++ (bs.map fun i => UInt8.ofNat i.toNat).toArray = acc.data ++ ((b :: bs).map fun i => UInt8.ofNat i.toNat).toArray := by
      apply Array.ext'; simp [ByteArray.push]
    rw [this]; exact hk

/-- Bytes as a text. -/
theorem runV_text {st dt e : TypeId} {x : Operand} {dd : TypeDesc} {b off len cap : Nat} {mu : Bool} {c : Array Value} {ty : TypeId} {fr : Nat × Nat} {bs : List Int} (ho : o.op = .convert st dt x) (hx : ρ x = .slice (some ⟨b, off, none⟩) len cap) (hus : P.underlying st = some (.slice e)) (hut : P.underlying dt = some .string) (hue : P.underlying e = some (.int .u8))
    (hb : h b = some (mu, .cells c ty fr)) (hs : off + len ≤ c.size) (hc : c.extract off (off + len) = (bs.map (Value.int .u8)).toArray) : RunV P ρ o h (.string ⟨(bs.map fun i => UInt8.ofNat i.toNat).toArray⟩) h := by
  intro Pn K _ hK
  simp only [execOp, ho, hx, semS_bind]
  unfold convert
  simp only [semS_bind, semS_underlying hus, semS_underlying hut, semS_underlying hue]
  unfold Conv.bytesToString
  simp only [semS_bind]
  refine semS_loadCells hb _ _ hs ?_
  rw [hc]
  simp only [List.forIn_toArray]
  refine semS_bytesLoop bs ByteArray.empty _ ?_
  have e : (⟨ByteArray.empty.data ++ (bs.map fun i => UInt8.ofNat i.toNat).toArray⟩ : ByteArray) = ⟨(bs.map fun i => UInt8.ofNat i.toNat).toArray⟩ := by
    congr 1; apply Array.ext'; simp
  rw [e]
  exact hK

/-! ### The same rules, as the walks apply them -/
def Env.val (E : Env) : Operand → Option Value
  | .tmp t => E.look t
  | .const v => some v
  | .global g => some (.pointer (some ⟨g, 0, none⟩))
  | .func f => some (.func (.func f) #[] #[])
theorem Env.val_ev {x : Operand} {v : Value} (e : E.val x = some v) : E.ev x = v ∧ E.has x = true := by
  cases x with
  | tmp t => simp only [Env.val] at e; simp [Env.ev, Env.has, e]
  | const u => cases e; exact ⟨rfl, rfl⟩
  | global g => cases e; exact ⟨rfl, rfl⟩
  | func f => cases e; exact ⟨rfl, rfl⟩
def bind2 (x y : Option Value) (f : Value → Value → Option Value) : Option Value :=
  match x with
  | some a => match y with
    | some b => f a b
    | none => none
  | none => none
def bind1 (x : Option Value) (f : Value → Option Value) : Option Value :=
  match x with
  | some a => f a
  | none => none
def pureO (T : Types) (E : Env) : Op → Option Value
  | .move x | .assign x => E.val x
  | .binOp op _ x y _ => bind2 (E.val x) (E.val y) (binV op)
  | .unOp op _ x => bind1 (E.val x) (unV op)
  | .convert s d x => bind1 (E.val x) (convV T s d)
  | .call { callee := .builtin .len, args, argTypes, .. } => match args.toList, argTypes.toList with
    | [x], [t] => bind1 (E.val x) (lenV (T.look t))
    | _, _ => none
  | _ => none
def pureE (T : Types) (n : Nat) (E : Env) (d : Nat) (op : Op) : Option Value := bif Nat.blt d n then pureO T E op else none

theorem bind1_some {x : Option Value} {f : Value → Option Value} {v : Value} (e : bind1 x f = some v) : ∃ a, x = some a ∧ f a = some v := by
  cases x with
  | none => cases e
  | some a => exact ⟨a, rfl, e⟩
theorem bind2_some {x y : Option Value} {f : Value → Value → Option Value} {v : Value} (e : bind2 x y f = some v) : ∃ a b, x = some a ∧ y = some b ∧ f a b = some v := by
  cases x with
  | none => cases e
  | some a => cases y with
    | none => cases e
    | some b => exact ⟨a, b, rfl, rfl, e⟩
theorem pureO_spec {op : Op} {v : Value} (e : pureO T E op = some v) : pureV T E.ev op = some v ∧ notSelect op = true ∧ op.operands.toList.all E.has = true := by
  unfold pureO at e
  split at e
  · obtain ⟨h1, h2⟩ := Env.val_ev e; exact ⟨by simp [pureV, h1], rfl, by simp [Op.operands, h2]⟩
  · obtain ⟨h1, h2⟩ := Env.val_ev e; exact ⟨by simp [pureV, h1], rfl, by simp [Op.operands, h2]⟩
  · obtain ⟨a, b, ha, hb, e⟩ := bind2_some e
    obtain ⟨h1, h2⟩ := Env.val_ev ha
    obtain ⟨h3, h4⟩ := Env.val_ev hb
    exact ⟨by simp only [pureV, h1, h3, e], rfl, by simp [Op.operands, h2, h4]⟩
  · obtain ⟨a, ha, e⟩ := bind1_some e
    obtain ⟨h1, h2⟩ := Env.val_ev ha
    exact ⟨by simp only [pureV, h1, e], rfl, by simp [Op.operands, h2]⟩
  · obtain ⟨a, ha, e⟩ := bind1_some e
    obtain ⟨h1, h2⟩ := Env.val_ev ha
    exact ⟨by simp only [pureV, h1, e], rfl, by simp [Op.operands, h2]⟩
  · rename_i args ats
    split at e
    · rename_i x t ea et
      obtain ⟨a, ha, e⟩ := bind1_some e
      obtain ⟨h1, h2⟩ := Env.val_ev ha
      refine ⟨by simp only [pureV, ea, et, h1, e], rfl, ?_⟩
      obtain ⟨args⟩ := args
      have ea' : args = [x] := ea
      subst ea'
      simp [Op.operands, Call.operands, h2]
    · cases e
  · cases e

/-- A pure operation. -/
theorem op_p (hT : T.ok P) {ops : Array Oper} {rest : List Oper} {d : Nat} {op : Op} {ty : TypeId} {pos : String} {after : Array Edge} {v : Value} (hb : pureE T n E d op = some v) (next : OpsE A P main n ops rest Q ds ((d, v) :: E) h) :
    OpsE A P main n ops (⟨some d, op, ty, pos, after, none⟩ :: rest) Q ds E h := by
  unfold pureE at hb
  cases hd : Nat.blt d n with
  | false => rw [hd] at hb; cases hb
  | true =>
    rw [hd] at hb
    obtain ⟨h1, h2, h3⟩ := pureO_spec hb
    refine opsE_run (o := ⟨some d, op, ty, pos, after, none⟩) ?_ (runV_pure hT h1) next
    simp [opB, h2, hd]
    simpa using h3
/-- .. its value as it is to be spelled. -/
theorem op_pe (hT : T.ok P) {ops : Array Oper} {rest : List Oper} {d : Nat} {op : Op} {ty : TypeId} {pos : String} {after : Array Edge} {v v' : Value} (hb : pureE T n E d op = some v) (e : v = v') (next : OpsE A P main n ops rest Q ds ((d, v') :: E) h) :
    OpsE A P main n ops (⟨some d, op, ty, pos, after, none⟩ :: rest) Q ds E h := op_p hT hb (e ▸ next)
/-- An operation that yields a value by a law. -/
theorem op_r {ops : Array Oper} {rest : List Oper} {d : Nat} {op : Op} {ty : TypeId} {pos : String} {after : Array Edge} {v : Value} (hb : opB n E ⟨some d, op, ty, pos, after, none⟩ = true) (hr : RunV P E.ev ⟨some d, op, ty, pos, after, none⟩ h v h') (next : OpsE A P main n ops rest Q ds ((d, v) :: E) h') :
    OpsE A P main n ops (⟨some d, op, ty, pos, after, none⟩ :: rest) Q ds E h := opsE_run hb hr next
/-- An operation that yields nothing (a store). -/
theorem op_s {ops : Array Oper} {rest : List Oper} {op : Op} {ty : TypeId} {pos : String} {after : Array Edge} {v : Value} (hb : opB n E ⟨none, op, ty, pos, after, none⟩ = true) (hr : RunV P E.ev ⟨none, op, ty, pos, after, none⟩ h v h') (next : OpsE A P main n ops rest Q ds E h') :
    OpsE A P main n ops (⟨none, op, ty, pos, after, none⟩ :: rest) Q ds E h := opsE_run hb hr next
/-- An operation that makes a block. -/
theorem op_n {ops : Array Oper} {rest : List Oper} {d : Nat} {op : Op} {ty : TypeId} {pos : String} {after : Array Edge} {F : Nat → Value} {M : Nat → Know} (hb : opB n E ⟨some d, op, ty, pos, after, none⟩ = true) (hr : RunN P E.ev ⟨some d, op, ty, pos, after, none⟩ h F M)
    (next : ∀ r, h r = none → OpsE A P main n ops rest Q ds ((d, F r) :: E) (M r)) : OpsE A P main n ops (⟨some d, op, ty, pos, after, none⟩ :: rest) Q ds E h := opsE_new hb hr next
theorem op_x {ops : Array Oper} {rest : List Oper} {d : Nat} {op : Op} {ty : TypeId} {pos : String} {after : Array Edge} {R : Value → Know → Prop} (hb : opB n E ⟨some d, op, ty, pos, after, none⟩ = true) (hr : RunX P E.ev ⟨some d, op, ty, pos, after, none⟩ h R)
    (next : ∀ v h', R v h' → OpsE A P main n ops rest Q ds ((d, v) :: E) h') : OpsE A P main n ops (⟨some d, op, ty, pos, after, none⟩ :: rest) Q ds E h := opsE_x hb hr next

/-- A call of a function value. -/
theorem semS_callFn {Pn : Value → Know → Prop} {K : Next → Know → Prop} {x : Operand} {f : FuncId} {fn : Func} {args : Array Operand} {ats : Array TypeId} {first captured : Array Value} (ho : o.op = .call { callee := .value x, args, argTypes := ats }) (hx : ρ x = .func (.func f) first captured)
    (hf : P.funcs[f]? = some fn) (hname : (fn.name == "runtime.NumGoroutine") = false) (hbody : fn.body.isNone = false) (hk : K (.enter f (first ++ args.map ρ ++ captured)) h) : semS P Pn (execOp ρ o) h K := by
  have e1 : execOp ρ o = (do let d ← resolve ρ { callee := .value x, args, argTypes := ats } o.type; invoke d.target d.args) := by
    unfold execOp; simp only [ho]
  have e2 : resolve ρ { callee := .value x, args, argTypes := ats } o.type = pure { target := .fn (.func f) captured, args := first ++ args.map ρ } := by
    unfold resolve; simp only [hx]; rfl
  rw [e1, semS_bind, e2, semS_pure]
  show semS P Pn (callFunc f (first ++ args.map ρ ++ captured)) h K
  unfold callFunc
  rw [semS_bind, semS_program, hf]
  simp only [hname, hbody, Bool.false_eq_true, if_false]
  exact hk

/-- What is asked of each ending of a call. -/
def EndsV (K : Value → Know → Prop) (Pn : List PanicEntry → Know → Prop) (R : Ending → Know → Prop) : Prop :=
  (∀ v h', R (.returned v) h' → K v h') ∧ (∀ ch h', R (.panicked ch) h' → Pn ch h') ∧ ∀ h', ¬ R .outgrown h'
theorem op_call {ops : Array Oper} {rest : List Oper} {d f : Nat} {fn : Func} {x : Operand} {args : Array Operand} {ats : Array TypeId} {ty : TypeId} {pos : String} {after : Array Edge} {first captured : Array Value} {vs : List Value} {R : Ending → Know → Prop}
    (hb : opB n E ⟨some d, .call { callee := .value x, args, argTypes := ats }, ty, pos, after, none⟩ = true) (hx : E.ev x = .func (.func f) first captured) (hf : P.funcs[f]? = some fn) (hname : (fn.name == "runtime.NumGoroutine") = false) (hbody : fn.body.isNone = false)
    (ha : first.toList ++ args.toList.map E.ev ++ captured.toList = vs) (hc : CallS A P main f vs.toArray h R) (next : EndsV (fun v h' => OpsE A P main n ops rest Q ds ((d, v) :: E) h') (fun ch h' => Q (.panic ch) ds E h') R) :
    OpsE A P main n ops (⟨some d, .call { callee := .value x, args, argTypes := ats }, ty, pos, after, none⟩ :: rest) Q ds E h := by
  obtain ⟨h1, h2, h3, h4⟩ := opB_spec hb
  refine opsE_cons h1 h2 h3 h4 (semS_callFn rfl hx hf hname hbody ?_)
  have e : first ++ args.map E.ev ++ captured = vs.toArray := by rw [← ha]; apply Array.ext'; simp
  rw [e]
  refine CallS.mono hc fun e h' r => ?_
  cases e with
  | returned v => exact next.1 v h' r
  | panicked ch => exact next.2.1 ch h' r
  | outgrown => exact absurd r (next.2.2 h')

/-- .. in the head of a region that draws: the callee leaves what is known as it is. -/
theorem head_p (hT : T.ok P) {l : List Oper} {d : Nat} {op : Op} {ty : TypeId} {pos : String} {after : Array Edge} {v : Value} {K : Env → Prop} (hb : pureO T E op = some v) (next : HeadE A P main l ((d, v) :: E) h K) : HeadE A P main (⟨some d, op, ty, pos, after, none⟩ :: l) E h K := by
  obtain ⟨h1, h2, h3⟩ := pureO_spec hb
  exact headE_run (o := ⟨some d, op, ty, pos, after, none⟩) (by simp only [headB, h2, Bool.true_and]; exact h3) (runV_pure hT h1) (Know.le_refl h) next
theorem head_pe (hT : T.ok P) {l : List Oper} {d : Nat} {op : Op} {ty : TypeId} {pos : String} {after : Array Edge} {v v' : Value} {K : Env → Prop} (hb : pureO T E op = some v) (e : v = v') (next : HeadE A P main l ((d, v') :: E) h K) : HeadE A P main (⟨some d, op, ty, pos, after, none⟩ :: l) E h K :=
  head_p hT hb (e ▸ next)
theorem head_r {l : List Oper} {d : Nat} {op : Op} {ty : TypeId} {pos : String} {after : Array Edge} {v : Value} {K : Env → Prop} (hb : headB E ⟨some d, op, ty, pos, after, none⟩ = true) (hr : RunV P E.ev ⟨some d, op, ty, pos, after, none⟩ h v h) (next : HeadE A P main l ((d, v) :: E) h K) :
    HeadE A P main (⟨some d, op, ty, pos, after, none⟩ :: l) E h K := headE_run hb hr (Know.le_refl h) next
theorem head_call {l : List Oper} {d f : Nat} {fn : Func} {x : Operand} {args : Array Operand} {ats : Array TypeId} {ty : TypeId} {pos : String} {after : Array Edge} {first captured : Array Value} {vs : List Value} {v : Value} {K : Env → Prop}
    (hb : headB E ⟨some d, .call { callee := .value x, args, argTypes := ats }, ty, pos, after, none⟩ = true) (hx : E.ev x = .func (.func f) first captured) (hf : P.funcs[f]? = some fn) (hname : (fn.name == "runtime.NumGoroutine") = false) (hbody : fn.body.isNone = false)
    (ha : first.toList ++ args.toList.map E.ev ++ captured.toList = vs) (hc : CallS A P main f vs.toArray h (fun e h' => e = .returned v ∧ h' = h)) (next : HeadE A P main l ((d, v) :: E) h K) :
    HeadE A P main (⟨some d, .call { callee := .value x, args, argTypes := ats }, ty, pos, after, none⟩ :: l) E h K := by
  unfold headB at hb
  rw [Bool.and_eq_true] at hb
  refine ⟨by simpa using hb.2, v, yieldS_sem hb.1 (semS_callFn rfl hx hf hname hbody ?_), next⟩
  have e : first ++ args.map E.ev ++ captured = vs.toArray := by rw [← ha]; apply Array.ext'; simp
  rw [e]
  refine CallS.mono hc fun e h' r => ?_
  obtain ⟨rfl, rfl⟩ := r
  exact ⟨rfl, Know.le_refl _⟩
/-- A contract of a function that leaves what is known as it is, as 'op_call' takes it. -/
theorem ends_pure {K : Value → Know → Prop} {Pn : List PanicEntry → Know → Prop} {v : Value} (next : K v h) : EndsV K Pn (fun e h' => e = .returned v ∧ h' = h) :=
  ⟨fun v' h' ⟨e1, e2⟩ => by cases e1; subst e2; exact next, fun ch h' ⟨e1, _⟩ => (by cases e1), fun h' ⟨e1, _⟩ => (by cases e1)⟩

/-! ### Contracts that leave at least so much known -/
def RetLe (v : Value) (h₁ : Know) : Ending → Know → Prop := fun e h' => e = .returned v ∧ h₁.le h'
omit [Priv A] in
theorem ends_le {v : Value} {h₁ : Know} {ops : Array Oper} {rest : List Oper} {d : Nat} {Pn : List PanicEntry → Know → Prop} (next : OpsE A P main n ops rest Q ds ((d, v) :: E) h₁) : EndsV (fun v h' => OpsE A P main n ops rest Q ds ((d, v) :: E) h') Pn (RetLe v h₁) :=
  ⟨fun v' h' ⟨e1, e2⟩ => by cases e1; exact opsE_weaken next (fun _ _ e => e) e2, fun ch h' ⟨e1, _⟩ => (by cases e1), fun h' ⟨e1, _⟩ => (by cases e1)⟩
theorem head_callLe {l : List Oper} {d f : Nat} {fn : Func} {x : Operand} {args : Array Operand} {ats : Array TypeId} {ty : TypeId} {pos : String} {after : Array Edge} {first captured : Array Value} {vs : List Value} {v : Value} {K : Env → Prop}
    (hb : headB E ⟨some d, .call { callee := .value x, args, argTypes := ats }, ty, pos, after, none⟩ = true) (hx : E.ev x = .func (.func f) first captured) (hf : P.funcs[f]? = some fn) (hname : (fn.name == "runtime.NumGoroutine") = false) (hbody : fn.body.isNone = false)
    (ha : first.toList ++ args.toList.map E.ev ++ captured.toList = vs) (hc : CallS A P main f vs.toArray h (RetLe v h)) (next : HeadE A P main l ((d, v) :: E) h K) :
    HeadE A P main (⟨some d, .call { callee := .value x, args, argTypes := ats }, ty, pos, after, none⟩ :: l) E h K := by
  unfold headB at hb
  rw [Bool.and_eq_true] at hb
  refine ⟨by simpa using hb.2, v, yieldS_sem hb.1 (semS_callFn rfl hx hf hname hbody ?_), next⟩
  have e : first ++ args.map E.ev ++ captured = vs.toArray := by rw [← ha]; apply Array.ext'; simp
  rw [e]
  refine CallS.mono hc fun e h' r => ?_
  obtain ⟨rfl, hl⟩ := r
  exact ⟨rfl, hl⟩
theorem head_re {l : List Oper} {d : Nat} {op : Op} {ty : TypeId} {pos : String} {after : Array Edge} {v v' : Value} {K : Env → Prop} (hb : headB E ⟨some d, op, ty, pos, after, none⟩ = true) (hr : RunV P E.ev ⟨some d, op, ty, pos, after, none⟩ h v h) (e : v = v') (next : HeadE A P main l ((d, v') :: E) h K) :
    HeadE A P main (⟨some d, op, ty, pos, after, none⟩ :: l) E h K := head_r hb hr (e ▸ next)
theorem op_re {ops : Array Oper} {rest : List Oper} {d : Nat} {op : Op} {ty : TypeId} {pos : String} {after : Array Edge} {v v' : Value} (hb : opB n E ⟨some d, op, ty, pos, after, none⟩ = true) (hr : RunV P E.ev ⟨some d, op, ty, pos, after, none⟩ h v h') (e : v = v') (next : OpsE A P main n ops rest Q ds ((d, v') :: E) h') :
    OpsE A P main n ops (⟨some d, op, ty, pos, after, none⟩ :: rest) Q ds E h := op_r hb hr (e ▸ next)

/-! ### Control -/
omit [Priv A] in
theorem wpE_true {c : Operand} {x y : Code} (hc : E.val c = some (.bool true)) (hx : wpE A P main n x Q ds E h) : wpE A P main n (.cond c x y) Q ds E h :=
  let ⟨h1, h2⟩ := Env.val_ev hc
  wpE_cond h2 h1 hx
omit [Priv A] in
theorem wpE_false {c : Operand} {x y : Code} (hc : E.val c = some (.bool false)) (hy : wpE A P main n y Q ds E h) : wpE A P main n (.cond c x y) Q ds E h :=
  let ⟨h1, h2⟩ := Env.val_ev hc
  wpE_cond h2 h1 hy
theorem blockQ_exit {id : Nat} (hq : Q .normal ds E h) : blockQ id Q (.exit id) ds E h := by simp only [blockQ, if_true]; exact hq
theorem Env.le_nil (E : Env) : Env.le [] E := fun t v e => by cases e
theorem Env.le_cons {E₀ : Env} {t : Nat} {v : Value} (e : E.look t = some v) (hl : Env.le E₀ E) : Env.le ((t, v) :: E₀) E := by
  intro s u hs
  rw [Env.look_cons] at hs
  by_cases hts : t = s
  · subst hts; rw [if_pos rfl] at hs; cases hs; exact e
  · rw [if_neg hts] at hs; exact hl s u hs
theorem Env.le_self (E : Env) : Env.le E E := fun _ _ e => e
omit [Priv A] in
theorem wpE_loopJ {c : Code} (J : Nat → Env → Know → Prop) {m : Nat} {E₀ : Env} {h₀ : Know} (hE : E₀.le E) (hh : h₀.le h) (hJ : J m E₀ h₀)
    (round : ∀ m E h, J m E h → wpE A P main n c (thenQ (fun ds' E' h' => ds' = ds ∧ ∃ m' E₁ h₁, m' < m ∧ E₁.le E' ∧ h₁.le h' ∧ J m' E₁ h₁) Q) ds E h) : wpE A P main n (.loop c) Q ds E h := by
  refine wpE_loop (fun m ds' E' h' => ds' = ds ∧ ∃ E₁ h₁, E₁.le E' ∧ h₁.le h' ∧ J m E₁ h₁) ⟨rfl, E₀, h₀, hE, hh, hJ⟩ ?_
  rintro m ds' E' h' ⟨rfl, E₁, h₁, h1, h2, h3⟩
  refine wpE_weaken (wpE_mono (round m E₁ h₁ h3) fun e ds E h q => ?_) h1 h2
  cases e with
  | normal => obtain ⟨rfl, m', E₂, h₂, g1, g2, g3, g4⟩ := q; exact ⟨m', g1, rfl, E₂, h₂, g2, g3, g4⟩
  | _ => exact q

def dstB (l : List Oper) (n : Nat) : Bool := l.all fun o => match o.dst with
  | some t => Nat.blt t n
  | none => true
/-- A region that draws its order: m operations of the head, then the others. -/
theorem wpE_drawB {id : Nat} {l : List Oper} (m : Nat) (hm : P.follows .mixedOrders = true) (hsh : shapeB l m = true) (hml : Nat.ble m l.length = true) (hd : dstB l n = true)
    (hx : HeadE A P main (l.take m) E h (fun E₁ => OpsE A P main n l.toArray (l.drop m) Q ds E₁ h)) : wpE A P main n (.region id l.toArray true) Q ds E h :=
  wpE_draw m hm hsh (Nat.le_of_ble_eq_true hml) (fun o ho t ht => by
    unfold dstB at hd
    rw [List.all_eq_true] at hd
    have := hd o ho
    rw [ht] at this
    simpa [Nat.blt_eq] using this) hx
/-- Parts of a body. -/
def seqL : Code → Code
  | .seq a _ => a
  | c => c
def seqR : Code → Code
  | .seq _ b => b
  | c => c
def bodyOf (f : Func) : Code := f.body.getD .skip

theorem thenQ_exit {next : List Deferred → Env → Know → Prop} {id : Nat} (hq : Q (.exit id) ds E h) : thenQ next Q (.exit id) ds E h := hq
theorem thenQ_ret {next : List Deferred → Env → Know → Prop} (hq : Q .ret ds E h) : thenQ next Q .ret ds E h := hq
theorem blockQ_ret {id : Nat} (hq : Q .ret ds E h) : blockQ id Q .ret ds E h := hq
theorem blockQ_normal {id : Nat} (hq : Q .normal ds E h) : blockQ id Q .normal ds E h := hq
theorem blockQ_other {id id' : Nat} (hne : Nat.beq id' id = false) (hq : Q (.exit id') ds E h) : blockQ id Q (.exit id') ds E h := by
  have : id' ≠ id := fun e => by subst e; simp at hne
  simp only [blockQ, if_neg this]; exact hq

/-- One cell is stored; 'e': what is known then, as it is to be spelled. -/
theorem op_store {ops : Array Oper} {rest : List Oper} {t : TypeId} {x y : Operand} {ty' : TypeId} {pos : String} {after : Array Edge} {b off : Nat} {c : Array Value} {ty : TypeId} {fr : Nat × Nat} {z v : Value} {bt : Nat} (hx : E.val x = some (.pointer (some ⟨b, off, none⟩))) (hy : E.val y = some v) (hv : Value.flat v = true)
    (ti : TI P t z 1 bt) (hb : h b = some (true, .cells c ty fr)) (hs : off < c.size) (hf : ¬ (fr.1 ≤ off ∧ off < fr.2)) (e : h.upd b (true, .cells (c.setIfInBounds off v) ty fr) = h') (next : OpsE A P main n ops rest Q ds E h') :
    OpsE A P main n ops (⟨none, .store t x y, ty', pos, after, none⟩ :: rest) Q ds E h := by
  obtain ⟨h1, h2⟩ := Env.val_ev hx
  obtain ⟨h3, h4⟩ := Env.val_ev hy
  subst e
  exact op_s (by simp [opB, notSelect, Op.operands, h2, h4]) (runV_store rfl h1 h3 hv ti hb hs hf) next
/-- A whole row is stored. -/
theorem op_store_row {ops : Array Oper} {rest : List Oper} {t : TypeId} {x y : Operand} {ty' : TypeId} {pos : String} {after : Array Edge} {b : Nat} {c cs : Array Value} {ty : TypeId} {fr : Nat × Nat} {z : Value} {bt : Nat} (hx : E.val x = some (.pointer (some ⟨b, 0, none⟩))) (hy : E.val y = some (.agg cs))
    (ti : TI P t z cs.size bt) (hb : h b = some (true, .cells c ty fr)) (hv : cs.toList.all Value.flat = true) (hs : cs.size = c.size) (hf : fr.2 = 0) (e : h.upd b (true, .cells cs ty fr) = h') (next : OpsE A P main n ops rest Q ds E h') :
    OpsE A P main n ops (⟨none, .store t x y, ty', pos, after, none⟩ :: rest) Q ds E h := by
  obtain ⟨h1, h2⟩ := Env.val_ev hx
  obtain ⟨h3, h4⟩ := Env.val_ev hy
  subst e
  exact op_s (by simp [opB, notSelect, Op.operands, h2, h4]) (runV_store_row rfl h1 h3 ti hb hv hs hf) next

/-- The code is left normally, and at least so much is known. -/
def NormalLe (ds : List Deferred) (E₀ : Env) (h₀ : Know) : Post := fun e ds' E h => e = .normal ∧ ds' = ds ∧ E₀.le E ∧ h₀.le h
omit [Priv A] in
theorem wpE_seqN {x y : Code} {E₀ : Env} {h₀ : Know} (hx : wpE A P main n x (NormalLe ds E₀ h₀) ds E h) (hy : wpE A P main n y Q ds E₀ h₀) : wpE A P main n (.seq x y) Q ds E h :=
  wpE_seq (wpE_mono hx fun e ds' E' h' q => by obtain ⟨rfl, rfl, h1, h2⟩ := q; exact wpE_weaken hy h1 h2)
theorem normalLe {E₀ : Env} {h₀ : Know} (h1 : E₀.le E) (h2 : h₀.le h) : NormalLe ds E₀ h₀ .normal ds E h := ⟨rfl, rfl, h1, h2⟩

end
end KL
end Go.Proofs.YtlmecmapkijcnaaDoor
