/- The tied card of hairsbreadthlaw23.RemAll holds: it answers true whatever its format and its two numbers, and they read as before. No condition beyond the given one: the listed variable reads as the program's text lays it. -/
import Derived.Test.YtkbfmpomeejadaaGreatDoorRembs
import Derived.Test.YtkbfmpomeejadaaGreatDoorCards
import Derived.Test.YtkbfmpomeejadaaGreatDoorTie
import Derived.SevenTiedAt

section
namespace Go.Proofs.YtkbfmpomeejadaaGreatDoor
open Go
theorem remAll_card : Rows.RemAllCardSaid :=
  Claim7.holds_tied_plain_at .later [] [.data] true (true, "317376ba58287407792ab1557a4485bf55b7dd5ceea78ce4eb1059b454019e53") true
    Go.Ev.remAll_said (fun _ h => by cases h) (by as_aux_lemma => kernel_rfl) (fun _ h => by cases h) remAll_row_tie rfl ⟨rfl, rfl⟩ (by as_aux_lemma => kernel_rfl) rfl
    (fun f fn hf hfn => by
      obtain rfl : f = 3 := Option.some.inj ((show Tryz.prog.funcNamed "hairsbreadth/hairsbreadthlaw23.RemAll" = some 3 by as_aux_lemma => kernel_rfl).symm.trans hf) |>.symm
      obtain rfl : fn = Tryz.f3 := (Option.some.inj (Tryz.func3.symm.trans hfn)).symm
      exact ⟨by as_aux_lemma => kernel_rfl, fun j t ht => by
        rw [Tryz.params3] at ht
        have hm : t ∈ [22, 25, 25] := by simpa using Array.mem_of_getElem? ht
        have hall : ([22, 25, 25].all fun u => !Tryz.prog.wantsStandIn u) = true := by as_aux_lemma => kernel_rfl
        exact (show Tryz.prog.wantsStandIn t = false by simpa using List.all_eq_true.1 hall t hm)⟩)
    (by as_aux_lemma => kernel_rfl)
end Go.Proofs.YtkbfmpomeejadaaGreatDoor
end
