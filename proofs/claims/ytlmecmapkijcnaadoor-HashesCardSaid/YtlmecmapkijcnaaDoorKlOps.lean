/- What the operations do to what is known: the pure ones by reckoning, the others by a law each. -/
import Derived.Test.YtlmecmapkijcnaaDoorKlReg
import Derived.Laws.Entries
import Derived.WalkKit
set_option linter.unusedVariables false
namespace Go.Proofs.YtlmecmapkijcnaaDoor
namespace KL
open Go.Conc (G listed)

/-- The types that a walk looks at. -/
abbrev Types := List (Nat × TypeDesc)
def Types.look : Types → Nat → Option TypeDesc
  | [], _ => none
  | (s, d) :: T, t => bif Nat.beq s t then some d else Types.look T t
def Types.ok (P : Program) (T : Types) : Prop := ∀ t d, T.look t = some d → P.underlying t = some d
theorem Types.ok_nil (P : Program) : Types.ok P [] := fun t d h => by cases h
theorem Types.ok_cons {P : Program} {T : Types} {s : Nat} {d : TypeDesc} (h : P.underlying s = some d) (hT : Types.ok P T) : Types.ok P ((s, d) :: T) := by
  intro t e he
  simp only [Types.look] at he
  cases hb : Nat.beq s t with
  | true => rw [hb] at he; cases he; rw [← Nat.eq_of_beq_eq_true hb]; exact h
  | false => rw [hb] at he; exact hT t e he

def arithOp (op : BinOp) (k : IntKind) (a b : Int) : Option Value :=
  match op with
  | .add => some (.int k (k.wrap (a + b)))
  | .sub => some (.int k (k.wrap (a - b)))
  | .mul => some (.int k (k.wrap (a * b)))
  | .and => some (.int k (bits .and k a b))
  | .or => some (.int k (bits .or k a b))
  | .xor => some (.int k (bits .xor k a b))
  | .andNot => some (.int k (bits .andNot k a b))
  | .eql => some (.bool (a == b))
  | .neq => some (.bool (a != b))
  | .lss => some (.bool (decide (a < b)))
  | .leq => some (.bool (decide (a ≤ b)))
  | .gtr => some (.bool (decide (a > b)))
  | .geq => some (.bool (decide (a ≥ b)))
  | _ => none
def binV (op : BinOp) : Value → Value → Option Value
  | .int k a, .int k' b => if k = k' then arithOp op k a b else none
  | .string a, .string b => match op with
    | .eql => some (.bool (a.toList == b.toList))
    | .neq => some (.bool !(a.toList == b.toList))
    | .lss => some (.bool (Op.bytesLess a.toList b.toList))
    | .gtr => some (.bool !(Op.bytesLess a.toList b.toList || a.toList == b.toList))
    | .leq => some (.bool (Op.bytesLess a.toList b.toList || a.toList == b.toList))
    | .geq => some (.bool !(Op.bytesLess a.toList b.toList))
    | _ => none
  | _, _ => none
def unV : UnOp → Value → Option Value
  | .neg, .int k n => some (.int k (k.wrap (0 - n)))
  | .xor, .int k n => some (.int k (bits .xor k (if k.signed then -1 else k.max) n))
  | .not, .bool b => some (.bool !b)
  | _, _ => none
def lenV (d : Option TypeDesc) : Value → Option Value
  | .string s => match d with | some .string => some (.int .i64 s.size) | _ => none
  | .slice _ n _ => match d with | some (.slice _) => some (.int .i64 n) | _ => none
  | _ => none
def convV (T : Types) (s d : TypeId) (x : Value) : Option Value :=
  match T.look s, T.look d, x with
  | some _, some (.int k), .int _ n => some (.int k (k.wrap n))
  | some .string, some .string, .string b => some (.string b)
  | _, _, _ => none
/-- The value of an operation that touches no memory and cannot panic. -/
def pureV (T : Types) (ρ : Operand → Value) : Op → Option Value
  | .move x | .assign x => some (ρ x)
  | .binOp op _ x y _ => binV op (ρ x) (ρ y)
  | .unOp op _ x => unV op (ρ x)
  | .convert s d x => convV T s d (ρ x)
  | .call { callee := .builtin .len, args, argTypes, .. } => match args.toList, argTypes.toList with
    | [x], [t] => lenV (T.look t) (ρ x)
    | _, _ => none
  | .makeFunc fn first captured => some (.func fn (first.map ρ) (captured.map ρ))
  | _ => none

/-- Operation o yields v; behind it h' is known. -/
def RunV (P : Program) (ρ : Operand → Value) (o : Oper) (h : Know) (v : Value) (h' : Know) : Prop :=
  ∀ (Pn : Value → Know → Prop) (K : Next → Know → Prop), (v = undef → K .skip h') → K (.value v) h' → semS P Pn (execOp ρ o) h K

section
variable {P : Program} {main : Bool} {n : Nat} {Q : Post} {ds : List Deferred} {E : Env} {h h' : Know} {T : Types}

theorem semS_pure {α : Type} {Pn : Value → Know → Prop} (x : α) (h : Know) (K : α → Know → Prop) : semS P Pn (pure x) h K = K x h := rfl
theorem semS_program {Pn : Value → Know → Prop} (h : Know) (K : Program → Know → Prop) : semS P Pn program h K = K P h := rfl
theorem semS_underlying {Pn : Value → Know → Prop} {t : TypeId} {d : TypeDesc} (e : P.underlying t = some d) (h : Know) (K : TypeDesc → Know → Prop) : semS P Pn (underlying t) h K = K d h := by
  unfold underlying
  rw [semS_bind, semS_program, e]; rfl
theorem semS_typeInfo {Pn : Value → Know → Prop} {t : TypeId} {i : TypeInfo} (e : P.info? t = some i) (h : Know) (K : TypeInfo → Know → Prop) : semS P Pn (typeInfo t) h K = K i h := by
  unfold typeInfo
  rw [semS_bind, semS_program, e]; rfl

theorem pure_bits (op : BinOp) (k : IntKind) (a b : Int) {v : Value} (hv : arithOp op k a b = some v) (hop : op = .and ∨ op = .or ∨ op = .xor ∨ op = .andNot) : Op.intBits op k a b = pure v := by
  rcases hop with rfl | rfl | rfl | rfl <;> (simp only [arithOp, Option.some.injEq] at hv; subst hv; rfl)

theorem binV_run {op : BinOp} {t : TypeId} {x y : Operand} {a b : Value} {v : Value} (hv : binV op a b = some v) : (do eqGuard op t x y a b; binOp op t a b : Sem Value) = pure v := by
  have hguard : eqGuard op t x y a b = pure () := by
    unfold binV at hv
    unfold eqGuard
    split at hv <;> first | cases hv | (cases op <;> rfl)
  rw [hguard]
  show binOp op t a b = pure v
  unfold binV at hv
  split at hv
  · rename_i k a k' b
    split at hv
    · rename_i hk
      subst hk
      cases op <;> first | (simp only [arithOp] at hv; cases hv; done) | (simp only [arithOp, Option.some.injEq] at hv; subst hv; first | rfl | (simp [binOp]; rfl))
    · cases hv
  · cases op <;> first | (cases hv; done) | (simp only [Option.some.injEq] at hv; subst hv; first | rfl | simp [binOp, Op.stringOp])
  · cases hv

theorem unV_run {op : UnOp} {a v : Value} (hv : unV op a = some v) : Op.unary op a = pure v := by
  unfold unV at hv
  split at hv <;> first | (cases hv; done) | (simp only [Option.some.injEq] at hv; subst hv; rfl)

theorem runV_pure (hT : T.ok P) {ρ : Operand → Value} {o : Oper} {v : Value} (hv : pureV T ρ o.op = some v) : RunV P ρ o h v h := by
  intro Pn K _ hK
  obtain ⟨dst, op, ty, pos, after, guard⟩ := o
  simp only at hv
  unfold pureV at hv
  split at hv
  · cases hv; exact hK
  · cases hv; exact hK
  · simp only [execOp]; rw [binV_run hv]; exact hK
  · simp only [execOp]; rw [unV_run hv]; exact hK
  · rename_i s d x
    unfold convV at hv
    simp only [execOp]
    split at hv
    · rename_i d0 k k0 m e1 e2 e3
      cases hv
      rw [semS_bind]; unfold convert
      rw [semS_bind, semS_underlying (hT _ _ e1), semS_bind, semS_underlying (hT _ _ e2), e3]
      cases d0 <;> exact hK
    · rename_i b e1 e2 e3
      cases hv
      rw [semS_bind]; unfold convert
      rw [semS_bind, semS_underlying (hT _ _ e1), semS_bind, semS_underlying (hT _ _ e2), e3]
      exact hK
    · cases hv
  · rename_i args ats
    obtain ⟨args⟩ := args
    obtain ⟨ats⟩ := ats
    split at hv
    · rename_i x t ea et
      have ea' : args = [x] := ea
      have et' : ats = [t] := et
      subst ea'; subst et'
      simp only [execOp, resolve, semS_bind, semS_pure, invoke, builtin, List.map_toArray, List.map_cons, List.map_nil]
      unfold Builtin.len_
      unfold lenV at hv
      split at hv
      · rename_i s es
        split at hv
        · rename_i ed
          cases hv
          rw [es]
          show semS P Pn (underlying t >>= _) h _
          rw [semS_bind, semS_underlying (hT _ _ ed)]
          exact hK
        · cases hv
      · rename_i p m c es
        split at hv
        · rename_i e0 ed
          cases hv
          rw [es]
          show semS P Pn (underlying t >>= _) h _
          rw [semS_bind, semS_underlying (hT _ _ ed)]
          exact hK
        · cases hv
      · cases hv
    · cases hv
  · cases hv; exact hK
  · cases hv

/-- The closed conditions of an operation in the text's order. -/
def opB (n : Nat) (E : Env) (o : Oper) : Bool :=
  o.guard.isNone && (match o.dst with | some t => Nat.blt t n | none => true) && notSelect o.op && o.op.operands.toList.all E.has

theorem opB_spec {o : Oper} (hb : opB n E o = true) : o.guard = none ∧ (∀ t, o.dst = some t → t < n) ∧ notSelect o.op = true ∧ o.op.operands.all E.has = true := by
  unfold opB at hb
  simp only [Bool.and_eq_true] at hb
  obtain ⟨⟨⟨h1, h2⟩, h3⟩, h4⟩ := hb
  refine ⟨by simpa using h1, fun t ht => ?_, h3, by simpa using h4⟩
  rw [ht] at h2
  simpa [Nat.blt_eq] using h2

theorem opsE_run {ops : Array Oper} {rest : List Oper} {o : Oper} {v : Value} (hb : opB n E o = true) (hr : RunV P E.ev o h v h') (next : OpsE P main n ops rest Q ds (E.put o.dst v) h') : OpsE P main n ops (o :: rest) Q ds E h := by
  obtain ⟨h1, h2, h3, h4⟩ := opB_spec hb
  exact opsE_cons h1 h2 h3 h4 (hr _ _ (fun e => by subst e; exact next) next)

/-- A pure operation: 'v' is the value as it is to be spelled. -/
def pureB (T : Types) (n : Nat) (E : Env) (o : Oper) : Option Value := bif opB n E o then pureV T E.ev o.op else none
theorem opsE_pure (hT : T.ok P) {ops : Array Oper} {rest : List Oper} {o : Oper} {v : Value} (hb : pureB T n E o = some v) (next : OpsE P main n ops rest Q ds (E.put o.dst v) h) : OpsE P main n ops (o :: rest) Q ds E h := by
  unfold pureB at hb
  cases e : opB n E o with
  | true => rw [e] at hb; exact opsE_run e (runV_pure hT hb) next
  | false => rw [e] at hb; cases hb
theorem opsE_pureE (hT : T.ok P) {ops : Array Oper} {rest : List Oper} {o : Oper} {v v' : Value} (hb : pureB T n E o = some v) (e : v = v') (next : OpsE P main n ops rest Q ds (E.put o.dst v') h) : OpsE P main n ops (o :: rest) Q ds E h :=
  opsE_pure hT hb (e ▸ next)

/-- The same in the head of a region that draws. -/
def headB (E : Env) (o : Oper) : Bool := notSelect o.op && o.op.operands.toList.all E.has
theorem headE_run {l : List Oper} {o : Oper} {v : Value} {K : Env → Prop} (hb : headB E o = true) (hr : RunV P E.ev o h v h') (hl : h.le h') (next : HeadE P main l (E.put o.dst v) h K) : HeadE P main (o :: l) E h K := by
  unfold headB at hb
  rw [Bool.and_eq_true] at hb
  refine ⟨by simpa using hb.2, v, yieldS_sem hb.1 (hr _ _ (fun e => ⟨e.symm, hl⟩) ⟨rfl, hl⟩), next⟩
def pureHB (T : Types) (E : Env) (o : Oper) : Option Value := bif headB E o then pureV T E.ev o.op else none
theorem headE_pure (hT : T.ok P) {l : List Oper} {o : Oper} {v : Value} {K : Env → Prop} (hb : pureHB T E o = some v) (next : HeadE P main l (E.put o.dst v) h K) : HeadE P main (o :: l) E h K := by
  unfold pureHB at hb
  cases e : headB E o with
  | true => rw [e] at hb; exact headE_run e (runV_pure hT hb) (Know.le_refl h) next
  | false => rw [e] at hb; cases hb
theorem headE_pureE (hT : T.ok P) {l : List Oper} {o : Oper} {v v' : Value} {K : Env → Prop} (hb : pureHB T E o = some v) (e : v = v') (next : HeadE P main l (E.put o.dst v') h K) : HeadE P main (o :: l) E h K :=
  headE_pure hT hb (e ▸ next)
theorem headE_nil {K : Env → Prop} (hk : K E) : HeadE P main [] E h K := hk

/-! ### Shifts -/
theorem runV_shl {ρ : Operand → Value} {o : Oper} {t yt : TypeId} {x y : Operand} {k yk : IntKind} {a b : Int} (ho : o.op = .binOp .shl t x y yt) (hx : ρ x = .int k a) (hy : ρ y = .int yk b) (hb : 0 ≤ b) :
    RunV P ρ o h (.int k (k.wrap (a * 2 ^ min b.toNat k.bits))) h := by
  intro Pn K _ hK
  have hb' : ¬ b < 0 := by omega
  simp only [execOp, ho, hx, hy]
  have : (do eqGuard .shl t x y (.int k a) (.int yk b); binOp .shl t (.int k a) (.int yk b) : Sem Value) = pure (.int k (k.wrap (a * 2 ^ min b.toNat k.bits))) := by
    show binOp .shl t (.int k a) (.int yk b) = _
    simp [binOp, Op.shift, hb']
  rw [this]; exact hK
theorem runV_shr {ρ : Operand → Value} {o : Oper} {t yt : TypeId} {x y : Operand} {k yk : IntKind} {a b : Int} (ho : o.op = .binOp .shr t x y yt) (hx : ρ x = .int k a) (hy : ρ y = .int yk b) (hb : 0 ≤ b) :
    RunV P ρ o h (.int k (a / 2 ^ min b.toNat k.bits)) h := by
  intro Pn K _ hK
  have hb' : ¬ b < 0 := by omega
  simp only [execOp, ho, hx, hy]
  have : (do eqGuard .shr t x y (.int k a) (.int yk b); binOp .shr t (.int k a) (.int yk b) : Sem Value) = pure (.int k (a / 2 ^ min b.toNat k.bits)) := by
    show binOp .shr t (.int k a) (.int yk b) = _
    have e : a.fdiv (2 ^ min b.toNat k.bits) = a / 2 ^ min b.toNat k.bits := Int.fdiv_eq_ediv_of_nonneg _ (Int.pow_nonneg (by decide))
    simp [binOp, Op.shift, hb', e]
  rw [this]; exact hK
theorem runV_rem {ρ : Operand → Value} {o : Oper} {t yt : TypeId} {x y : Operand} {k : IntKind} {a b : Int} (ho : o.op = .binOp .rem t x y yt) (hx : ρ x = .int k a) (hy : ρ y = .int k b) (hb : b ≠ 0) :
    RunV P ρ o h (.int k (a.tmod b)) h := by
  intro Pn K _ hK
  simp only [execOp, ho, hx, hy]
  have : (do eqGuard .rem t x y (.int k a) (.int k b); binOp .rem t (.int k a) (.int k b) : Sem Value) = pure (.int k (a.tmod b)) := by
    show binOp .rem t (.int k a) (.int k b) = _
    simp [binOp, Op.intDiv, hb]
  rw [this]; exact hK

end
end KL
end Go.Proofs.YtlmecmapkijcnaaDoor
