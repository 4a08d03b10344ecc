/- The tied card of 'forkslaw.Hashes'. -/
import Derived.Test.YtlmecmapkijcnaaDoorHashes
set_option linter.unusedVariables false
namespace Go.Proofs.YtlmecmapkijcnaaDoor.hashes
open Go

theorem proved : Rows.HashesCardSaid :=
  Claim7.holds_tied_plain_at .later [] [.data, .data] true (true, "bcc4b975caae74ee423f84b34cab75210835be5a417e6e34db9e5d80a6b3eaf3") true
    said (fun _ h => by cases h) (by kernel_rfl) (fun _ h => by cases h) hashes_row_tie rfl ⟨rfl, rfl⟩ (by kernel_rfl) rfl
    (fun f fn hf hfn => by
      obtain rfl : f = 3 := Option.some.inj ((show Tryd.prog.funcNamed "forks/forkslaw.Hashes" = some 3 by kernel_rfl).symm.trans hf) |>.symm
      obtain rfl : fn = Tryd.f3 := (Option.some.inj (Tryd.func3.symm.trans hfn)).symm
      exact ⟨by kernel_rfl, fun j t ht => by
        rw [Tryd.params3] at ht
        have h3 : t = 9 := by
          rcases j with _ | j
          · simpa using ht.symm
          · simp at ht
        subst h3
        exact (show Tryd.prog.wantsStandIn 9 = false by kernel_rfl)⟩)
    (by kernel_rfl)
#print axioms proved
end Go.Proofs.YtlmecmapkijcnaaDoor.hashes
