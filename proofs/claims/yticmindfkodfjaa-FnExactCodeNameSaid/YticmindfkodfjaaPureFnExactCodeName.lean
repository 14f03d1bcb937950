/- What is proved: the law FnExactCodeName, as a statement over plain Lean values, comes to true. Conditions: the argument is an int64. -/
import Derived.Test.YticmindfkodfjaaPFnExactCodeNamex1
namespace Go.Proofs.Yticmindfkodfjaa.Pure
open Go.RowKit Go.Proofs.Yticmindfkodfjaa.PFnExactCodeName Go.Proofs.YticmindfkodfjaaW.PrintWords Go.Proofs.YticmindfkodfjaaW.PrintLast

theorem FnExactCodeName : laws_FnExactCodeName.Pure := by
  intro a0 _
  unfold laws_FnExactCodeName.f
  have h : ∃ r, spec_CodeName.f a0 = some r ∧ impl_CodeName.f a0 = some r := by
    unfold spec_CodeName.f impl_CodeName.f spec_l00In.f
    simp only [Option.bind_some, List.length_cons, List.length_nil]
    by_cases h1 : 0 ≤ a0
    · by_cases h2 : a0 ≤ 8
      · rw [if_pos (by omega)]
        simp only [Option.bind_some, decide_eq_true_eq]
        rw [if_pos h2, if_pos h1, if_pos (by omega), if_neg (by omega), if_neg (by omega)]
        exact ⟨_, rfl, rfl⟩
      · rw [if_pos (by omega)]
        simp only [Option.bind_some, decide_eq_true_eq]
        rw [if_neg h2, if_neg (by omega), if_pos (by omega)]
        exact ⟨_, rfl, rfl⟩
    · have h3 : a0 < 0 := by omega
      rw [if_neg (show ¬ a0 ≥ 0 by omega), if_pos h3]
      exact ⟨_, rfl, rfl⟩
  obtain ⟨r, h1, h2⟩ := h
  rw [h1, h2]
  simp

end Go.Proofs.Yticmindfkodfjaa.Pure
