/- The operations that look at memory, turn it or make it: a law each, over what is known. -/
import Derived.Test.YtlmecmapkijcnaaDoorKlOps
set_option linter.unusedVariables false
namespace Go.Proofs.YtlmecmapkijcnaaDoor
namespace KL
open Go.Conc (G listed)

/-- A type's row: its zero value, how many cells it has, how many bytes. -/
def TI (P : Program) (t : TypeId) (z : Value) (s b : Nat) : Prop := (P.info? t).map (fun i => (i.zero, i.size, i.bytes)) = some (some z, s, b)

/-- Operation o makes a block: in its number r it yields F r, and G r is known. -/
def RunN (P : Program) (ρ : Operand → Value) (o : Oper) (h : Know) (F : Nat → Value) (M : Nat → Know) : Prop :=
  ∀ (Pn : Value → Know → Prop) (K : Next → Know → Prop), (∀ r, h r = none → K (.value (F r)) (M r)) → semS P Pn (execOp ρ o) h K

section
variable {P : Program} {main : Bool} {n : Nat} {Q : Post} {ds : List Deferred} {E : Env} {h h' : Know} {T : Types} {ρ : Operand → Value} {o : Oper}

theorem TI.get {t : TypeId} {z : Value} {s b : Nat} (ti : TI P t z s b) : ∃ i, P.info? t = some i ∧ i.zero = some z ∧ i.size = s ∧ i.bytes = b := by
  unfold TI at ti
  cases hi : P.info? t with
  | none => rw [hi] at ti; cases ti
  | some i =>
    rw [hi] at ti
    simp only [Option.map_some, Option.some.injEq, Prod.mk.injEq] at ti
    exact ⟨i, rfl, ti.1, ti.2.1, ti.2.2⟩

theorem semS_sizeOf {Pn : Value → Know → Prop} {t : TypeId} {z : Value} {s b : Nat} (ti : TI P t z s b) (h : Know) (K : Nat → Know → Prop) : semS P Pn (sizeOf t) h K = K s h := by
  obtain ⟨i, e1, _, e2, _⟩ := ti.get
  unfold sizeOf
  rw [semS_bind, semS_typeInfo e1, ← e2]; rfl
theorem semS_zeroValue {Pn : Value → Know → Prop} {t : TypeId} {z : Value} {s b : Nat} (ti : TI P t z s b) (h : Know) (K : Value → Know → Prop) : semS P Pn (zeroValue t) h K = K z h := by
  obtain ⟨i, e1, e2, _, _⟩ := ti.get
  unfold zeroValue
  rw [semS_bind, semS_typeInfo e1, e2]; rfl
def isAggD : TypeDesc → Bool
  | .struct _ | .array _ _ => true
  | _ => false
theorem semS_isAgg {Pn : Value → Know → Prop} {t : TypeId} {d : TypeDesc} (e : P.underlying t = some d) (h : Know) (K : Bool → Know → Prop) : semS P Pn (isAgg t) h K = K (isAggD d) h := by
  unfold isAgg
  rw [semS_bind, semS_underlying e]
  cases d <;> rfl

theorem add_mk (b off i : Nat) : (⟨b, off, none⟩ : Addr).add i = ⟨b, off + i, none⟩ := by
  unfold Addr.add; split <;> simp_all

theorem semS_load {Pn : Value → Know → Prop} {b off : Nat} {mu : Bool} {c : Array Value} {ty : TypeId} {fr : Nat × Nat} {v : Value} (hb : h b = some (mu, .cells c ty fr)) (hc : c[off]? = some v) (K : Value → Know → Prop) (hk : K v h) :
    semS P Pn (load ⟨b, off, none⟩) h K := ⟨rfl, rfl, mu, c, ty, fr, v, hb, hc, hk⟩

theorem semS_loadCellsFrom {Pn : Value → Know → Prop} {b off : Nat} {mu : Bool} {c : Array Value} {ty : TypeId} {fr : Nat × Nat} (hb : h b = some (mu, .cells c ty fr)) : ∀ (m i : Nat) (acc : Array Value) (K : Array Value → Know → Prop),
    off + i + m ≤ c.size → K (acc ++ c.extract (off + i) (off + i + m)) h → semS P Pn (loadCellsFrom ⟨b, off, none⟩ i m acc) h K := by
  intro m
  induction m with
  | zero =>
    intro i acc K hs hk
    have e : c.extract (off + i) (off + i + 0) = #[] := by apply Array.ext'; simp [List.extract_eq_take_drop]
    rw [e, Array.append_empty] at hk
    exact hk
  | succ m ih =>
    intro i acc K hs hk
    unfold loadCellsFrom
    rw [semS_bind]
    have hlt : off + i < c.size := by omega
    rw [add_mk]
    refine semS_load hb (v := c[off + i]) (by simp [hlt]) _ (ih (i + 1) _ K (by omega) ?_)
    have e : acc.push c[off + i] ++ c.extract (off + (i + 1)) (off + (i + 1) + m) = acc ++ c.extract (off + i) (off + i + (m + 1)) := by
      apply Array.ext'
      simp only [Array.toList_append, Array.toList_push, Array.toList_extract, List.append_assoc, List.extract_eq_take_drop]
      have h1 : off + (i + 1) + m - (off + (i + 1)) = m := by omega
      have h2 : off + i + (m + 1) - (off + i) = m + 1 := by omega
      rw [h1, h2]
      congr 1
      have hl : off + i < c.toList.length := by simpa using hlt
      rw [List.drop_eq_getElem_cons hl]
      simp [Nat.add_assoc]
    rw [e]; exact hk
theorem semS_loadCells {Pn : Value → Know → Prop} {b off : Nat} {mu : Bool} {c : Array Value} {ty : TypeId} {fr : Nat × Nat} (hb : h b = some (mu, .cells c ty fr)) (m : Nat) (K : Array Value → Know → Prop)
    (hs : off + m ≤ c.size) (hk : K (c.extract off (off + m)) h) : semS P Pn (loadCells ⟨b, off, none⟩ m) h K :=
  semS_loadCellsFrom hb m 0 #[] K (by simpa using hs) (by simpa using hk)

/-- One cell is loaded. -/
theorem runV_load {t : TypeId} {x : Operand} {b off : Nat} {d : TypeDesc} {mu : Bool} {c : Array Value} {ty : TypeId} {fr : Nat × Nat} {v : Value} (ho : o.op = .load t x) (hx : ρ x = .pointer (some ⟨b, off, none⟩)) (hu : P.underlying t = some d) (hd : isAggD d = false)
    (hb : h b = some (mu, .cells c ty fr)) (hc : c[off]? = some v) : RunV P ρ o h v h := by
  intro Pn K _ hK
  simp only [execOp, ho, hx, Instr.loadAt, Instr.sureAddr, semS_bind, semS_pure]
  unfold loadVar
  rw [semS_bind, semS_isAgg hu, hd]
  exact semS_load hb hc _ hK
/-- A whole row is loaded. -/
theorem runV_load_row {t : TypeId} {x : Operand} {b : Nat} {d : TypeDesc} {mu : Bool} {c : Array Value} {ty : TypeId} {fr : Nat × Nat} {z : Value} {bt : Nat} (ho : o.op = .load t x) (hx : ρ x = .pointer (some ⟨b, 0, none⟩)) (hu : P.underlying t = some d) (hd : isAggD d = true)
    (ti : TI P t z c.size bt) (hb : h b = some (mu, .cells c ty fr)) : RunV P ρ o h (.agg c) h := by
  intro Pn K _ hK
  simp only [execOp, ho, hx, Instr.loadAt, Instr.sureAddr, semS_bind, semS_pure]
  unfold loadVar
  rw [semS_bind, semS_isAgg hu, hd]
  show semS P Pn (do let n ← sizeOf t; let cs ← loadCells ⟨b, 0, none⟩ n; pure (.agg cs) : Sem Value) h _
  rw [semS_bind, semS_sizeOf ti, semS_bind]
  refine semS_loadCells hb _ _ (by simp) ?_
  show K (.value (.agg (c.extract 0 (0 + c.size)))) h
  simpa using hK
/-- A part of a row is loaded: an element of several cells. -/
theorem runV_load_part {t : TypeId} {x : Operand} {b off s : Nat} {d : TypeDesc} {mu : Bool} {c : Array Value} {ty : TypeId} {fr : Nat × Nat} {z : Value} {bt : Nat} (ho : o.op = .load t x) (hx : ρ x = .pointer (some ⟨b, off, none⟩)) (hu : P.underlying t = some d) (hd : isAggD d = true)
    (ti : TI P t z s bt) (hb : h b = some (mu, .cells c ty fr)) (hs : off + s ≤ c.size) : RunV P ρ o h (.agg (c.extract off (off + s))) h := by
  intro Pn K _ hK
  simp only [execOp, ho, hx, Instr.loadAt, Instr.sureAddr, semS_bind, semS_pure]
  unfold loadVar
  rw [semS_bind, semS_isAgg hu, hd]
  show semS P Pn (do let n ← sizeOf t; let cs ← loadCells ⟨b, off, none⟩ n; pure (.agg cs) : Sem Value) h _
  rw [semS_bind, semS_sizeOf ti, semS_bind]
  exact semS_loadCells hb _ _ hs hK

/-! ### Stores -/
def Value.flat : Value → Bool
  | .agg _ | .tuple _ => false
  | _ => true
theorem cells_flat {v : Value} (hv : Value.flat v = true) : v.cells = #[v] := by cases v <;> first | rfl | cases hv

/-- Cells written from a place on. -/
def splice (c : Array Value) (off : Nat) : List Value → Array Value
  | [] => c
  | v :: l => splice (c.setIfInBounds off v) (off + 1) l
theorem size_splice : ∀ (l : List Value) (c : Array Value) (off : Nat), (splice c off l).size = c.size := by
  intro l
  induction l with
  | nil => exact fun c off => rfl
  | cons v l ih => intro c off; rw [splice, ih]; simp

theorem semS_store {Pn : Value → Know → Prop} {b off : Nat} {c : Array Value} {ty : TypeId} {fr : Nat × Nat} {v : Value} (hb : h b = some (true, .cells c ty fr)) (hv : Value.flat v = true) (ho : off < c.size) (hf : ¬ (fr.1 ≤ off ∧ off < fr.2)) (K : Unit → Know → Prop)
    (hk : K () (h.upd b (true, .cells (c.setIfInBounds off v) ty fr))) : semS P Pn (store ⟨b, off, none⟩ v) h K :=
  ⟨rfl, rfl, (fun cs e => by subst e; cases hv), (fun cs e => by subst e; cases hv), c, ty, fr, hb, ho, hf, hk⟩
theorem upd_upd (h : Know) (b : Nat) (x y : Bool × Obj) : (h.upd b x).upd b y = h.upd b y := by funext c; simp only [Know.upd]; split <;> rfl
theorem upd_self {h : Know} {b : Nat} {x : Bool × Obj} (e : h b = some x) : h.upd b x = h := by
  funext c; simp only [Know.upd]; split
  · rename_i hc; subst hc; exact e.symm
  · rfl

theorem semS_storeCells {Pn : Value → Know → Prop} {b off : Nat} {ty : TypeId} {fr : Nat × Nat} : ∀ (l : List Value) (i : Nat) (h : Know) (c : Array Value) (K : Unit → Know → Prop), h b = some (true, .cells c ty fr) → l.all Value.flat = true → off + i + l.length ≤ c.size →
    (∀ j, off + i ≤ j → j < off + i + l.length → ¬ (fr.1 ≤ j ∧ j < fr.2)) → K () (h.upd b (true, .cells (splice c (off + i) l) ty fr)) → semS P Pn (storeCells ⟨b, off, none⟩ l i) h K := by
  intro l
  induction l with
  | nil => intro i h c K hb _ _ _ hk; unfold storeCells; rw [semS_pure]; rw [splice, upd_self hb] at hk; exact hk
  | cons v l ih =>
    intro i h c K hb hv hs hf hk
    simp only [List.all_cons, Bool.and_eq_true] at hv
    simp only [List.length_cons] at hs hf
    unfold storeCells
    rw [semS_bind, add_mk]
    refine semS_store hb hv.1 (by omega) (hf _ (by omega) (by omega)) _ ?_
    refine ih (i + 1) _ _ K (Know.upd_same _ _ _) hv.2 (by simp; omega) (fun j h1 h2 => hf j (by omega) (by omega)) ?_
    rw [upd_upd]
    exact hk

theorem runV_storeVar {t : TypeId} {x y : Operand} {b off : Nat} {c : Array Value} {ty : TypeId} {fr : Nat × Nat} {z v : Value} {bt : Nat} (ho : o.op = .store t x y) (hx : ρ x = .pointer (some ⟨b, off, none⟩)) (hy : ρ y = v)
    (ti : TI P t z v.cells.size bt) (hb : h b = some (true, .cells c ty fr)) (hv : v.cells.toList.all Value.flat = true) (hs : off + v.cells.size ≤ c.size) (hf : ∀ j, off ≤ j → j < off + v.cells.size → ¬ (fr.1 ≤ j ∧ j < fr.2)) :
    RunV P ρ o h undef (h.upd b (true, .cells (splice c off v.cells.toList) ty fr)) := by
  intro Pn K hK _
  simp only [execOp, ho, hx, hy, Instr.storeAt, Instr.sureAddr, semS_bind, semS_pure]
  unfold storeVar
  rw [semS_bind, semS_sizeOf ti, if_neg (by simp)]
  exact semS_storeCells _ 0 h c _ hb hv (by simpa using hs) (by simpa using hf) (hK rfl)
/-- One cell is stored. -/
theorem runV_store {t : TypeId} {x y : Operand} {b off : Nat} {c : Array Value} {ty : TypeId} {fr : Nat × Nat} {z v : Value} {bt : Nat} (ho : o.op = .store t x y) (hx : ρ x = .pointer (some ⟨b, off, none⟩)) (hy : ρ y = v) (hv : Value.flat v = true)
    (ti : TI P t z 1 bt) (hb : h b = some (true, .cells c ty fr)) (hs : off < c.size) (hf : ¬ (fr.1 ≤ off ∧ off < fr.2)) :
    RunV P ρ o h undef (h.upd b (true, .cells (c.setIfInBounds off v) ty fr)) := by
  have hc := cells_flat hv
  have := runV_storeVar (ρ := ρ) (o := o) ho hx hy (z := z) (bt := bt) (by rw [hc]; exact ti) hb (by rw [hc]; simpa using hv) (by rw [hc]; simp; omega) (fun j h1 h2 => by
    rw [hc] at h2; simp at h2
    have : j = off := by omega
    rw [this]; exact hf)
  rw [hc] at this
  exact this
theorem splice_all : ∀ (l : List Value) (c : Array Value) (off : Nat), off + l.length = c.size → splice c off l = (c.toList.take off ++ l).toArray := by
  intro l
  induction l with
  | nil => intro c off hl; simp only [splice, List.append_nil]; apply Array.ext'; simp; rw [List.take_of_length_le (by simp at hl ⊢; omega)]
  | cons v l ih =>
    intro c off hl
    simp only [List.length_cons] at hl
    rw [splice, ih _ _ (by simp; omega)]
    congr 1
    simp only [Array.toList_setIfInBounds]
    rw [List.take_succ_eq_append_getElem (by simp; omega)]
    simp [List.take_set_of_le]
/-- A whole row is stored. -/
theorem runV_store_row {t : TypeId} {x y : Operand} {b : Nat} {c cs : Array Value} {ty : TypeId} {fr : Nat × Nat} {z : Value} {bt : Nat} (ho : o.op = .store t x y) (hx : ρ x = .pointer (some ⟨b, 0, none⟩)) (hy : ρ y = .agg cs)
    (ti : TI P t z cs.size bt) (hb : h b = some (true, .cells c ty fr)) (hv : cs.toList.all Value.flat = true) (hs : cs.size = c.size) (hf : fr.2 = 0) :
    RunV P ρ o h undef (h.upd b (true, .cells cs ty fr)) := by
  have := runV_storeVar (ρ := ρ) (o := o) ho hx hy (z := z) (bt := bt) ti hb hv (by show 0 + cs.size ≤ _; omega) (fun j _ _ => by omega)
  have e : splice c 0 (Value.agg cs).cells.toList = cs := by
    show splice c 0 cs.toList = cs
    rw [splice_all _ _ _ (by simpa using hs)]; simp
  rw [e] at this
  exact this

/-! ### New blocks -/
theorem opsE_new {ops : Array Oper} {rest : List Oper} {F : Nat → Value} {M : Nat → Know} (hb : opB n E o = true) (hr : RunN P E.ev o h F M) (next : ∀ r, h r = none → OpsE P main n ops rest Q ds (E.put o.dst (F r)) (M r)) : OpsE P main n ops (o :: rest) Q ds E h := by
  obtain ⟨h1, h2, h3, h4⟩ := opB_spec hb
  exact opsE_cons h1 h2 h3 h4 (hr _ _ fun r e => next r e)

theorem semS_newRow {Pn : Value → Know → Prop} (t : TypeId) (cs : Array Value) (K : Addr → Know → Prop) (hk : ∀ r, h r = none → K ⟨r, 0, none⟩ (h.upd r (true, .cells cs t (0, 0)))) : semS P Pn (newRow t cs) h K := by
  unfold newRow
  rw [semS_bind]
  exact fun r hr => hk r hr
theorem runN_alloc {t : TypeId} {z : Value} {s bt : Nat} (ho : o.op = .alloc t) (ti : TI P t z s bt) : RunN P ρ o h (fun r => .pointer (some ⟨r, 0, none⟩)) (fun r => h.upd r (true, .cells z.cells t (0, 0))) := by
  intro Pn K hK
  simp only [execOp, ho, Instr.alloc, semS_bind, semS_zeroValue ti]
  unfold newVar
  exact semS_newRow _ _ _ hK
theorem runN_box {t : TypeId} {x : Operand} {v : Value} (ho : o.op = .box t x) (hx : ρ x = v) : RunN P ρ o h (fun r => .pointer (some ⟨r, 0, none⟩)) (fun r => h.upd r (true, .cells v.cells t (0, 0))) := by
  intro Pn K hK
  simp only [execOp, ho, hx, Instr.box, semS_bind]
  unfold newVar
  exact semS_newRow _ _ _ hK
theorem runN_buildSlice {t e : TypeId} {m : Nat} {parts : Array (Nat × Operand)} {z : Value} {bt : Nat} {cs : Array Value} (ho : o.op = .buildSlice t m parts) (hu : P.underlying t = some (.slice e)) (ti : TI P e z 1 bt) (hm : m * 1 ≤ 2 ^ 24) (hm0 : ¬ m * 1 = 0)
    (hf : Instr.fill (fun i => some (i * 1, 1)) ((Array.range (m * 1)).map (z.cells[· % z.cells.size]!)) (parts.map fun (i, x) => (i, ρ x)).toList = some cs) :
    RunN P ρ o h (fun r => .slice (some ⟨r, 0, none⟩) m m) (fun r => h.upd r (true, .cells cs e (0, 0))) := by
  intro Pn K hK
  simp only [execOp, ho, Instr.buildSlice, semS_bind, semS_underlying hu, semS_sizeOf ti]
  rw [if_neg (by omega), if_neg hm0, semS_bind, semS_zeroValue ti, semS_bind, semS_pure]
  simp only [hf]
  rw [semS_bind]
  exact semS_newRow _ _ _ hK
theorem runV_build {t : TypeId} {len e : Nat} {parts : Array (Nat × Operand)} {z ze : Value} {s bt be : Nat} {cs : Array Value} (ho : o.op = .build t parts) (hu : P.underlying t = some (.array len e)) (ti : TI P t z s bt) (te : TI P e ze 1 be)
    (hf : Instr.fill (fun i => some (i * 1, 1)) z.cells (parts.map fun (i, x) => (i, ρ x)).toList = some cs) : RunV P ρ o h (.agg cs) h := by
  intro Pn K _ hK
  simp only [execOp, ho, Instr.build, semS_bind, semS_zeroValue ti, semS_underlying hu, semS_sizeOf te, hf]
  exact hK

/-! ### Places -/
theorem runV_indexAddr_array {t e : TypeId} {len : Nat} {x ix : Operand} {k : IntKind} {i : Int} {b off : Nat} {z : Value} {s bt : Nat} (ho : o.op = .indexAddr t x ix) (hu : P.underlying t = some (.array len e)) (te : TI P e z s bt) (hx : ρ x = .pointer (some ⟨b, off, none⟩)) (hi : ρ ix = .int k i)
    (h0 : 0 ≤ i) (h1 : i < len) : RunV P ρ o h (.pointer (some ⟨b, off + i.toNat * s, none⟩)) h := by
  intro Pn K _ hK
  simp only [execOp, ho, hx, hi, Instr.indexAt, asIntOf, Instr.sureAddr, semS_bind, semS_pure, semS_underlying hu]
  rw [if_pos ⟨h0, h1⟩, semS_bind, semS_sizeOf te, semS_pure, add_mk]
  exact hK
theorem runV_indexAddr_slice {t e : TypeId} {x ix : Operand} {k : IntKind} {i : Int} {b off len cap : Nat} {z : Value} {s bt : Nat} (ho : o.op = .indexAddr t x ix) (hu : P.underlying t = some (.slice e)) (te : TI P e z s bt) (hx : ρ x = .slice (some ⟨b, off, none⟩) len cap) (hi : ρ ix = .int k i)
    (h0 : 0 ≤ i) (h1 : i < len) : RunV P ρ o h (.pointer (some ⟨b, off + i.toNat * s, none⟩)) h := by
  intro Pn K _ hK
  simp only [execOp, ho, hx, hi, Instr.indexAt, asIntOf, semS_bind, semS_pure, semS_underlying hu]
  rw [if_pos ⟨h0, h1⟩, semS_bind, semS_sizeOf te, semS_pure, add_mk]
  exact hK
/-- An element of one cell, of an array in a slot. -/
theorem runV_index {t e : TypeId} {len : Nat} {x ix : Operand} {k : IntKind} {i : Int} {cs : Array Value} {z : Value} {bt : Nat} {d : TypeDesc} {v : Value} (ho : o.op = .index t x ix) (hu : P.underlying t = some (.array len e)) (te : TI P e z 1 bt) (hd : P.underlying e = some d) (hag : isAggD d = false)
    (hx : ρ x = .agg cs) (hi : ρ ix = .int k i) (h0 : 0 ≤ i) (h1 : i < len) (hv : cs[i.toNat]? = some v) : RunV P ρ o h v h := by
  intro Pn K _ hK
  simp only [execOp, ho, hx, hi, Instr.index, asIntOf, semS_bind, semS_pure, semS_underlying hu]
  rw [if_pos ⟨h0, h1⟩, semS_bind, semS_sizeOf te]
  unfold part
  rw [semS_bind, semS_isAgg hd, hag, Nat.mul_one]
  simp only [Bool.false_eq_true, if_false]
  rw [hv]; exact hK
theorem runV_nilCheck {x : Operand} {b off : Nat} (ho : o.op = .nilCheck x) (hx : ρ x = .pointer (some ⟨b, off, none⟩)) : RunV P ρ o h (.pointer (some ⟨b, off, none⟩)) h := by
  intro Pn K _ hK
  simp only [execOp, ho, hx]
  exact hK

/-! ### Slices of slices, of arrays, of texts -/
def boundOk (v : Option Value) (d y : Nat) (l : Nat) : Prop :=
  match v with
  | none => l = d
  | some v => ∃ k i, v = .int k i ∧ 0 ≤ i ∧ i ≤ y ∧ l = i.toNat
theorem semS_bound {Pn : Value → Know → Prop} {v : Value} {y l d : Nat} {code : BoundsCode} (hb : boundOk (some v) d y l) (K : Nat → Know → Prop) (hk : K l h) : semS P Pn (Instr.sliceBound v y code) h K := by
  obtain ⟨k, i, rfl, h0, h1, rfl⟩ := hb
  unfold Instr.sliceBound
  simp only [asIntOf, semS_bind, semS_pure]
  rw [if_pos ⟨h0, h1⟩]; exact hk
theorem semS_bounds {Pn : Value → Know → Prop} {isSlice : Bool} {len cap l hh : Nat} {lo hi : Option Value} (h1 : boundOk hi len cap hh) (h2 : boundOk lo 0 hh l) (K : Nat × Nat × Nat → Know → Prop) (hk : K (l, hh, cap) h) :
    semS P Pn (Instr.sliceBounds isSlice len cap lo hi none) h K := by
  unfold Instr.sliceBounds
  cases hi with
  | none =>
    obtain rfl := h1
    cases lo with
    | none => obtain rfl := h2; simp only [semS_bind, semS_pure]; exact hk
    | some v => simp only [semS_bind, semS_pure]; exact semS_bound h2 _ hk
  | some u =>
    cases lo with
    | none => obtain rfl := h2; simp only [semS_bind, semS_pure]; exact semS_bound h1 _ hk
    | some v => simp only [semS_bind, semS_pure]; exact semS_bound h1 _ (semS_bound h2 _ hk)
theorem runV_slice_array {t e : TypeId} {len : Nat} {x : Operand} {lo hi : Option Operand} {b off l hh : Nat} {z : Value} {bt : Nat} (ho : o.op = .slice t x lo hi none) (hu : P.underlying t = some (.array len e)) (te : TI P e z 1 bt) (hx : ρ x = .pointer (some ⟨b, off, none⟩))
    (h1 : boundOk (hi.map ρ) len len hh) (h2 : boundOk (lo.map ρ) 0 hh l) (h3 : l < len) : RunV P ρ o h (.slice (some ⟨b, off + l, none⟩) (hh - l) (len - l)) h := by
  intro Pn K _ hK
  simp only [execOp, ho, hx, Option.map_none, Instr.sliceAt, semS_bind, semS_underlying hu, Instr.sureAddr, semS_pure]
  refine semS_bounds h1 h2 _ ?_
  simp only [semS_sizeOf te]
  rw [if_neg (by omega), add_mk, Nat.mul_one]
  exact hK
theorem runV_slice_slice {t e : TypeId} {x : Operand} {lo hi : Option Operand} {b off len cap l hh : Nat} {z : Value} {s bt : Nat} (ho : o.op = .slice t x lo hi none) (hu : P.underlying t = some (.slice e)) (te : TI P e z s bt) (hx : ρ x = .slice (some ⟨b, off, none⟩) len cap)
    (h1 : boundOk (hi.map ρ) len cap hh) (h2 : boundOk (lo.map ρ) 0 hh l) : RunV P ρ o h (.slice (some (if cap = l then ⟨b, off, none⟩ else ⟨b, off + l * s, none⟩)) (hh - l) (cap - l)) h := by
  intro Pn K _ hK
  simp only [execOp, ho, hx, Option.map_none, Instr.sliceAt, semS_bind, semS_underlying hu, Instr.slice]
  refine semS_bounds h1 h2 _ ?_
  simp only [semS_sizeOf te, semS_pure]
  split
  · rename_i hc; rw [if_pos hc] at hK; exact hK
  · rename_i hc; rw [if_neg hc] at hK; rw [Option.map_some, add_mk]; exact hK
theorem runV_slice_string {t : TypeId} {x : Operand} {lo hi : Option Operand} {s : ByteArray} {l hh : Nat} (ho : o.op = .slice t x lo hi none) (hu : P.underlying t = some .string) (hx : ρ x = .string s)
    (h1 : boundOk (hi.map ρ) s.size s.size hh) (h2 : boundOk (lo.map ρ) 0 hh l) : RunV P ρ o h (.string (s.extract l hh)) h := by
  intro Pn K _ hK
  simp only [execOp, ho, hx, Option.map_none, Instr.sliceAt, semS_bind, semS_underlying hu, Instr.slice]
  rw [if_neg (by simp)]
  simp only [semS_bind]
  exact semS_bounds h1 h2 _ hK

end
end KL
end Go.Proofs.YtlmecmapkijcnaaDoor
