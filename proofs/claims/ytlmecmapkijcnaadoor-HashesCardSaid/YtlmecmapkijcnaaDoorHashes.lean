/- 'Rows.HashesSaid', and its tied card. The frame after the shell's (proof-skeleton.mjs) and the worked ToyasProofs/ToyasCard. -/
import Derived.Test.YtlmecmapkijcnaaDoorLaidInts
import Derived.Test.YtlmecmapkijcnaaDoorCards
import Derived.Test.YtlmecmapkijcnaaDoorTie
import Derived.WalkKit
import Derived.ProofKit
import Derived.OpenShut
import Derived.ShutString
import Derived.JoinedOf
import Derived.SevenTiedAt
set_option linter.unusedVariables false
namespace Go.Proofs.YtlmecmapkijcnaaDoor.hashes
open Go.ChangeShapes Go.WideShapes Go.ChangeAt Go.RowKit Go.Proofs.YtlmecmapkijcnaaDoor
open Go.ChangeMaps (open_string shut_string)
open KL

theorem own : ownKnob Tryd.prog.godebug = none := by kernel_rfl

/-- What is known ahead of the call: the two tables, which may be read alone. -/
def known (t0 t2 : TypeId) (f0 f2 : Nat × Nat) : Know := fun b => if b = 0 then some (false, .cells (U hList) t0 f0) else if b = 2 then some (false, .cells (U kList) t2 f2) else none

theorem walk (a0 : ByteArray) (w0 : a0.size ≤ maxLen) (w : World) {t0 t2 : TypeId} {f0 f2 : Nat × Nat} (h0 : w.heap[0]? = some (.cells (U hList) t0 f0)) (h2 : w.heap[2]? = some (.cells (U kList) t2 f2)) :
    Calls Tryd.prog 3 #[.string a0] w fun e w' => e = .returned (.bool true) ∧ ∀ may, w.keptBut w' may := by
  have hold : (known t0 t2 f0 f2).holds w := by
    intro b m o e
    unfold known at e
    by_cases h : b = 0
    · rw [if_pos h] at e; cases e; rw [h]; exact h0
    · rw [if_neg h] at e
      by_cases g : b = 2
      · rw [if_pos g] at e; cases e; rw [g]; exact h2
      · rw [if_neg g] at e; cases e
  have hm : maxLen = 9223372036854775807 := rfl
  refine (calls_of_wpE (args := [Value.string a0]) Tryd.func3 rfl (by show 1 ≤ 15; decide) hold (hashes_wp (known t0 t2 f0 f2) a0 false false t0 t2 f0 f2 rfl rfl (by omega))).mono ?_
  rintro e w' ⟨h', es, ⟨rfl, hle⟩, hs⟩
  refine ⟨rfl, fun may => ⟨hs.os, hs.output, fun i hi => ?_⟩⟩
  have hk := hs.keep i hi (by
    rintro ⟨o, e⟩
    unfold known at e
    by_cases h : i = 0
    · rw [if_pos h] at e; cases e
    · rw [if_neg h] at e
      by_cases g : i = 2
      · rw [if_pos g] at e; cases e
      · rw [if_neg g] at e; cases e)
  rw [hk]
  cases hh : w.heap[i]? with
  | none => simp
  | some o => cases o <;> simp

/-- A world that meets the condition: the settled one, the two tables laid. -/
noncomputable def laidWorld (os : Os) : World :=
  let w0 := World.holding Tryd.prog os ⟨#[], #[], []⟩
  { w0 with heap := (w0.heap.modify 0 fun
      | .cells _ t frozen => .cells (U hList) t frozen
      | o => o).modify 2 fun
      | .cells _ t frozen => .cells (U kList) t frozen
      | o => o }
theorem laidWorld_met (os : Os) (args : Array Value) : laidMetH Tryd.prog Rows.hashesRow.laid ((laidWorld os).forCall (fun _ _ => 0) ⟨#[], args, []⟩).memory :=
  (laidMet_of_run' 8 (by kernel_rfl) (by kernel_rfl) : laidMet Tryd.prog Rows.hashesRow.laid _)

set_option maxRecDepth 100000 in
theorem lifted (os : Os) (started : os.Started) (H : Type) (enc : TypeId × Value → H) :
    ReturnsInHanded {} Tryd.checked os 3 .any (fun w args => (Rows.hashesSpec.pre enc Tryd.prog Tryd.f3 [] false w args ∧ laidMetH Tryd.prog Rows.hashesRow.laid w) ∧ sizedMet enc Tryd.prog Tryd.f3 (OpenSpec.ofChange Rows.hashesSpec) false w args)
      (Rows.hashesSpec.post enc Tryd.prog Tryd.f3 false true false false) := by
  refine returnsInHanded_of_change_and (C := Tryd.checked) (X := fun w _ => laidMetH Tryd.prog Rows.hashesRow.laid w) (fun _ _ _ hh h => h.of_heap hh) own started (by kernel_rfl) Tryd.func3
    (ChangeSpec.witness_at (enc := enc) (C := Tryd.checked) (os := os) (X := fun w _ => laidMetH Tryd.prog Rows.hashesRow.laid w) false (laidWorld os) #[.string ByteArray.empty] 8 rfl (by kernel_rfl) (by kernel_rfl) (by kernel_rfl) (by kernel_rfl) (by kernel_rfl) (laidWorld_met os _)) ?_
  intro W base args ds gs before hval0 hW _ _ hL _
  have hval : ∀ (j : Nat) t v, Tryd.f3.params[j]? = some t → args[j]? = some v → Value.okWide Tryd.prog W .any base t v := hval0
  have hW' := hW
  obtain ⟨p, q, hA0, hV, rfl, hfz, hnd⟩ := hW
  have hA : DataW.TrodAll enc Tryd.prog W 0 (fun _ => true) true Tryd.f3.params.toList args.toList ds p := hA0
  rw [Tryd.params3] at hA hval
  obtain ⟨v0, vs0, d0, ds0, p0, q0, hargs, rfl, rfl, h0, r0⟩ := trodAll_cons hA
  obtain ⟨rfl, rfl, rfl⟩ := trodAll_nil r0
  obtain rfl : args = #[v0] := by cases args; simp_all
  obtain ⟨rfl, rfl⟩ := trodVars_none hV
  obtain ⟨a0, rfl, rfl, rfl, w0⟩ := open_string Tryd.underlying9 (hval 0 9 v0 rfl rfl) h0
  clear hA0 hval0
  simp only [List.append_nil] at hW'
  obtain ⟨⟨t0, f0, b0⟩, ⟨t2, f2, b2⟩⟩ := tables_of_laid hL
  refine (walk a0 w0 W b0 b2).mono fun e W' ⟨he, hg⟩ => ?_
  subst he
  refine ⟨_, rfl, _, _, _, [], [], [], hW', ?_, ?_, ?_, hg _, fun h => by cases h⟩
  · exact trodAll_cons_mk (shut_bool Tryd.underlying4 _) trodAll_mk0
  · exact trodAll_cons_mk (shut_string Tryd.underlying9 w0) trodAll_mk0
  · rfl

theorem said : Rows.HashesSaid :=
  OpenClaim.holds_of_wide 3 Tryd.f3 rfl rfl rfl rfl rfl rfl rfl ⟨rfl, rfl, rfl, rfl, rfl⟩ rfl rfl rfl rfl rfl (by kernel_rfl) Tryd.func3 (by kernel_rfl)
    (of_decide_eq_true (by kernel_rfl)) (by unfold Func.isWrapper; first | (rw [if_pos (by decide +kernel)]; kernel_rfl) | (rw [if_neg (by decide +kernel)]; exact ⟨rfl, rfl⟩))
    (fun os started H enc _ => lifted os started H enc)

end Go.Proofs.YtlmecmapkijcnaaDoor.hashes
