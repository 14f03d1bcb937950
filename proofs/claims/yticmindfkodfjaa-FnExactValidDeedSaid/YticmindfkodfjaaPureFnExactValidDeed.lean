/- What is proved: the law FnExactValidDeed, as a statement over plain Lean values, comes to true. Conditions: none. -/
import Derived.Test.YticmindfkodfjaaPFnExactValidDeedx1
namespace Go.Proofs.Yticmindfkodfjaa.Pure
open Go.RowKit Go.Proofs.Yticmindfkodfjaa.PFnExactValidDeed Go.Proofs.YticmindfkodfjaaW.PrintWords Go.Proofs.YticmindfkodfjaaW.PrintLast

theorem FnExactValidDeed (a b : Int) : laws_FnExactValidDeed.f a b = some true := by
  have h : ∃ r, spec_ValidDeed.f a b = some r ∧ impl_ValidDeed.f a b = some r := by
    unfold spec_ValidDeed.f spec_l08Deed.f impl_ValidDeed.f impl_wordOf.f impl_in.f spec_l00In.f spec_l08Words.f
    by_cases h1 : 1 ≤ a ∧ a ≤ 8
    · obtain ⟨h1, h2⟩ := h1
      by_cases h3 : 0 ≤ b ∧ b ≤ 999
      · obtain ⟨h3, h4⟩ := h3
        have ha : a = 1 ∨ a = 2 ∨ a = 3 ∨ a = 4 ∨ a = 5 ∨ a = 6 ∨ a = 7 ∨ a = 8 := by omega
        rcases ha with rfl | rfl | rfl | rfl | rfl | rfl | rfl | rfl <;>
          simp [h3, h4, rdOf]
      · have ha : a = 1 ∨ a = 2 ∨ a = 3 ∨ a = 4 ∨ a = 5 ∨ a = 6 ∨ a = 7 ∨ a = 8 := by omega
        by_cases h4 : 0 ≤ b
        · have h5 : ¬ b ≤ 999 := by omega
          rcases ha with rfl | rfl | rfl | rfl | rfl | rfl | rfl | rfl <;> simp [h4, h5]
        · rcases ha with rfl | rfl | rfl | rfl | rfl | rfl | rfl | rfl <;> simp [h4]
    · have e1 : ¬ a = 1 := by omega
      have e2 : ¬ a = 2 := by omega
      have e3 : ¬ a = 3 := by omega
      have e4 : ¬ a = 4 := by omega
      have e5 : ¬ a = 5 := by omega
      have e6 : ¬ a = 6 := by omega
      have e7 : ¬ a = 7 := by omega
      have e8 : ¬ a = 8 := by omega
      rw [if_neg e1, if_neg e2, if_neg e3, if_neg e4, if_neg e5, if_neg e6, if_neg e7, if_neg e8]
      by_cases h2 : a ≥ 1
      · have h3 : ¬ a ≤ 8 := by omega
        simp [h2, h3]
      · simp [h2]
  obtain ⟨r, h1, h2⟩ := h
  unfold laws_FnExactValidDeed.f laws_toDeed.f
  simp [h1, h2]

end Go.Proofs.Yticmindfkodfjaa.Pure
