/-
  Proved here: solventlaw36.HealthWorst returns true for every list of stripes, and the list reads afterwards as it read before. Condition: the package variable field.fields holds what the program's text lays in it (the card ties it).
-/
import Derived.SevenTiedAt
import Derived.Test.YtgdcefohfebleaaDoorM16
set_option linter.unusedVariables false
namespace Go.Proofs.YtgdcefohfebleaaDoor
open Go Go.Proofs.YtgdcefohfebleaaDoor.V
set_option maxRecDepth 100000 in
theorem healthWorst_holds : Rows.HealthWorstSaid :=
  OpenClaim.holds_of_wide 9 Tryd.f9 rfl rfl rfl rfl rfl rfl rfl ⟨rfl, rfl, rfl, rfl, rfl⟩ rfl rfl rfl rfl rfl (by kernel_rfl) Tryd.func9 (by kernel_rfl)
    (of_decide_eq_true (by kernel_rfl)) (by unfold Func.isWrapper; first | (rw [if_pos (by decide +kernel)]; kernel_rfl) | (rw [if_neg (by decide +kernel)]; exact ⟨rfl, rfl⟩))
    (fun os started H enc _ => healthWorst_lifted os started H enc)
set_option maxRecDepth 100000 in
theorem healthWorst_card_holds : Rows.HealthWorstCardSaid :=
  Claim7.holds_tied_plain_at .later [] [.data] true (true, "0fba1a5b562579ed76e6dc391de250c34f8b77cb5e9016f2a14c2981d5f9ba67") false
    healthWorst_holds (fun _ h => by cases h) (by kernel_rfl) (fun _ h => by cases h) healthWorst_row_tie rfl ⟨rfl, rfl⟩ (by kernel_rfl) rfl
    (fun f fn hf hfn => by
      obtain rfl : f = 9 := Option.some.inj ((show Tryd.prog.funcNamed "solvent/solventlaw36.HealthWorst" = some 9 by kernel_rfl).symm.trans hf) |>.symm
      obtain rfl : fn = Tryd.f9 := (Option.some.inj (Tryd.func9.symm.trans hfn)).symm
      exact ⟨by kernel_rfl, fun j t ht => by
        have ht' : ([55] : List TypeId)[j]? = some t := by
          rw [← params9]
          simpa using ht
        have h3 : t = 55 := by
          rcases j with _ | j
          · simpa using ht'.symm
          · simp at ht'
        subst h3
        exact (show Tryd.prog.wantsStandIn 55 = false by kernel_rfl)⟩)
    (by kernel_rfl)
#print axioms healthWorst_card_holds
end Go.Proofs.YtgdcefohfebleaaDoor
