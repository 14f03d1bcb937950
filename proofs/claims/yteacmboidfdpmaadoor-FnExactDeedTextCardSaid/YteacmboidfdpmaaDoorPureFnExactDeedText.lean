/- What is proved: the law FnExactDeedText, as a statement over plain Lean values, comes to true. Conditions: as each theorem states. -/
import Derived.Test.YteacmboidfdpmaaDoorQFnExactDeedTextx2
import Derived.Test.YteacmboidfdpmaaDoorPureKit
import Derived.Lib.ItoaMem
namespace Go.Proofs.YteacmboidfdpmaaDoor.PureFnExactDeedText
open Go.RowKit Go.Proofs.YteacmboidfdpmaaDoor.QFnExactDeedText Go.Proofs.YteacmboidfdpmaaDoorW.PrintWords Go.Proofs.YteacmboidfdpmaaDoorW.PrintLast Go.Proofs.YteacmboidfdpmaaDoor.PureKit

theorem small_i (b : Int) (h0 : 0 ≤ b) (h1 : b ≤ 9223372036854775807) : wrap64 b = b := by unfold wrap64; omega
theorem byte_of (u : Nat) (h : u < 10) : strOfNums ([(wrap64 (48 + (u : Int))) % 256] : List Int) = ⟨[UInt8.ofNat (48 + u)].toArray⟩ := by
  have e : wrap64 (48 + (u : Int)) % 256 = ((48 + u : Nat) : Int) := by unfold wrap64; omega
  rw [e]
  unfold strOfNums
  rw [List.map_cons, List.map_nil, Int.toNat_natCast]
theorem append_lists (l m : List UInt8) : (⟨l.toArray⟩ : ByteArray) ++ (⟨m.toArray⟩ : ByteArray) = ⟨(l ++ m).toArray⟩ := by
  apply ByteArray.ext
  simp
theorem size_lists (l : List UInt8) : (⟨l.toArray⟩ : ByteArray).size = l.length := by simp [ByteArray.size]
/-- The reference's decimal numeral is the library's. -/
theorem dec_ev : ∀ (u : Nat), u ≤ 999 → Ev (fun k => spec_Decimal.f k (u : Int)) ⟨(Lib.decDigits u).toArray⟩ := by
  intro u
  induction u using Nat.strongRecOn with
  | _ u ih =>
    intro hu
    by_cases h : u < 10
    · have e1 : Lib.decDigits u = [UInt8.ofNat (48 + u)] := by rw [Lib.decDigits, dif_pos h]
      rw [e1]
      refine Ev.step (f := fun _ => some (⟨[UInt8.ofNat (48 + u)].toArray⟩ : ByteArray)) (fun k => ?_) (Ev.now _)
      simp only [spec_Decimal.f]
      have c : ¬ ((u : Int) ≥ 10) := by omega
      rw [if_neg c, byte_of u h]
    · have e1 : Lib.decDigits u = Lib.decDigits (u / 10) ++ [UInt8.ofNat (48 + u % 10)] := by rw [Lib.decDigits, dif_neg h]
      have ih := ih (u / 10) (by omega) (by omega)
      have hl : (Lib.decDigits (u / 10)).length ≤ 3 := by
        by_cases h2 : u / 10 < 10
        · rw [Lib.decDigits, dif_pos h2]; simp
        · rw [Lib.decDigits, dif_neg h2]
          have h3 : u / 10 / 10 < 10 := by omega
          rw [Lib.decDigits, dif_pos h3]
          simp
      refine Ev.step (f := fun k => (spec_Decimal.f k ((u / 10 : Nat) : Int)).bind fun t => if t.size + 1 ≤ 9223372036854775807 then some (t ++ (⟨[UInt8.ofNat (48 + u % 10)].toArray⟩ : ByteArray)) else none) (fun k => ?_) ?_
      · simp only [spec_Decimal.f]
        have c : (u : Int) ≥ 10 := by omega
        have d : wrap64 (Int.tdiv (u : Int) 10) = ((u / 10 : Nat) : Int) := by
          rw [Int.tdiv_eq_ediv_of_nonneg (by omega)]
          unfold wrap64
          omega
        have m : Int.tmod (u : Int) 10 = ((u % 10 : Nat) : Int) := by
          rw [Int.tmod_eq_emod_of_nonneg (by omega)]
          omega
        rw [if_pos c, d, m]
        simp only [Option.bind_some, strOfNums_size, List.length_singleton]
        rw [byte_of (u % 10) (by omega)]
      · refine Ev.bind ih ?_
        rw [e1, ← append_lists]
        have g : (⟨(Lib.decDigits (u / 10)).toArray⟩ : ByteArray).size + 1 ≤ 9223372036854775807 := by rw [size_lists]; omega
        simp only [if_pos g]
        exact Ev.now _
theorem dec_len (u : Nat) (h : u ≤ 999) : (Lib.decDigits u).length ≤ 3 := by
  by_cases h1 : u < 10
  · rw [Lib.decDigits, dif_pos h1]; simp
  · rw [Lib.decDigits, dif_neg h1]
    by_cases h2 : u / 10 < 10
    · rw [Lib.decDigits, dif_pos h2]; simp
    · rw [Lib.decDigits, dif_neg h2]
      have h3 : u / 10 / 10 < 10 := by omega
      rw [Lib.decDigits, dif_pos h3]
      simp

/-- The word of a kind, and whether its text mentions the number. -/
def word (a : Int) : List UInt8 × Bool :=
  if a = 1 then ([103, 105, 118, 101], true) else if a = 2 then ([119, 111, 114, 107], true) else if a = 3 then ([100, 101, 108, 105, 118, 101, 114], true) else if a = 4 then ([99, 111, 112, 121], true) else if a = 5 then ([100, 114, 111, 112], true) else if a = 6 then ([115, 121, 110, 99], false) else if a = 7 then ([99, 114, 97, 115, 104], false) else if a = 8 then ([113, 117, 105, 116], true) else ([], false)
def okDeed (a b : Int) : Bool := decide (1 ≤ a ∧ a ≤ 8) && decide (0 ≤ b ∧ b ≤ 999) && ((word a).2 || b == 0)
def text (a b : Int) : List UInt8 :=
  if okDeed a b = true then (if (word a).2 = true then (word a).1 ++ [32] ++ Lib.decDigits b.toNat else (word a).1) else []
theorem kinds (a : Int) (h : 1 ≤ a ∧ a ≤ 8) : a = 1 ∨ a = 2 ∨ a = 3 ∨ a = 4 ∨ a = 5 ∨ a = 6 ∨ a = 7 ∨ a = 8 := by omega
theorem spec_ok (a b : Int) : spec_l08Deed.f a b = some (okDeed a b) := by
  unfold spec_l08Deed.f spec_l00In.f spec_l08Words.f okDeed
  by_cases h1 : 1 ≤ a ∧ a ≤ 8
  · have ha := kinds a h1
    by_cases h3 : 0 ≤ b ∧ b ≤ 999
    · obtain ⟨h3, h4⟩ := h3
      rcases ha with rfl | rfl | rfl | rfl | rfl | rfl | rfl | rfl <;> simp [h3, h4, rdOf, word]
    · by_cases h4 : 0 ≤ b
      · have h5 : ¬ b ≤ 999 := by omega
        rcases ha with rfl | rfl | rfl | rfl | rfl | rfl | rfl | rfl <;> simp [h4, h5]
      · rcases ha with rfl | rfl | rfl | rfl | rfl | rfl | rfl | rfl <;> simp [h4]
  · by_cases h2 : a ≥ 1
    · have h3 : ¬ a ≤ 8 := by omega
      simp [h2, h3]
    · have h4 : ¬ 1 ≤ a := by omega
      simp [h2]
theorem impl_word (a : Int) : impl_wordOf.f a = some (⟨(word a).1.toArray⟩, (word a).2) := by
  unfold impl_wordOf.f word
  repeat' split
  all_goals rfl
theorem no_word (a : Int) (h : ¬ (1 ≤ a ∧ a ≤ 8)) : word a = ([], false) := by
  unfold word
  rw [if_neg (by omega), if_neg (by omega), if_neg (by omega), if_neg (by omega), if_neg (by omega), if_neg (by omega), if_neg (by omega), if_neg (by omega)]
theorem impl_ok (a b : Int) : impl_ValidDeed.f a b = some (okDeed a b) := by
  unfold impl_ValidDeed.f okDeed
  rw [impl_word]
  unfold impl_in.f
  by_cases h1 : 1 ≤ a ∧ a ≤ 8
  · have ha := kinds a h1
    by_cases h3 : 0 ≤ b ∧ b ≤ 999
    · obtain ⟨h3, h4⟩ := h3
      rcases ha with rfl | rfl | rfl | rfl | rfl | rfl | rfl | rfl <;> simp [h3, h4, word]
    · by_cases h4 : 0 ≤ b
      · have h5 : ¬ b ≤ 999 := by omega
        rcases ha with rfl | rfl | rfl | rfl | rfl | rfl | rfl | rfl <;> simp [h4, h5, word]
      · rcases ha with rfl | rfl | rfl | rfl | rfl | rfl | rfl | rfl <;> simp [h4, word]
  · rw [no_word a h1]
    simp [h1]
theorem itoa_nat (b : Int) (h : 0 ≤ b) : Lib.itoa b = Lib.decDigits b.toNat := by
  unfold Lib.itoa
  rw [if_neg (by omega)]
theorem ok_of {a b : Int} (h : okDeed a b = true) : (1 ≤ a ∧ a ≤ 8) ∧ (0 ≤ b ∧ b ≤ 999) := by
  unfold okDeed at h
  rw [Bool.and_eq_true, Bool.and_eq_true, decide_eq_true_eq, decide_eq_true_eq] at h
  exact h.1
theorem word_len (a : Int) : (word a).1.length ≤ 7 := by
  unfold word
  repeat' split
  all_goals simp
theorem impl_text (a b : Int) : impl_DeedText.f a b = some ⟨(text a b).toArray⟩ := by
  unfold impl_DeedText.f text
  rw [impl_ok, impl_word]
  cases h : okDeed a b with
  | false => rfl
  | true =>
    have o := ok_of h
    cases hw : (word a).2 with
    | false => simp
    | true =>
      have d1 : -9223372036854775808 ≤ b ∧ b ≤ 9223372036854775807 := by omega
      have wl := word_len a
      have dl := dec_len b.toNat (by omega)
      simp only [Option.bind_some, if_true, impl_decimal.f, if_pos d1, itoa_nat b o.2.1, append_lists, size_lists, List.length_append, List.length_singleton]
      rw [if_pos (by omega), if_pos (by omega)]
theorem rd_word (a : Int) (h : 1 ≤ a ∧ a ≤ 8) : ∀ l1 l2, spec_l08Words.f = some (l1, l2) → (a < (l1.length : Int) ∧ a < (l2.length : Int)) ∧ rdOf ByteArray.empty l1 a = ⟨(word a).1.toArray⟩ ∧ rdOf false l2 a = (word a).2 := by
  intro l1 l2 hl
  unfold spec_l08Words.f at hl
  obtain ⟨rfl, rfl⟩ := Prod.mk.inj (Option.some.inj hl)
  have ha := kinds a h
  rcases ha with rfl | rfl | rfl | rfl | rfl | rfl | rfl | rfl <;> exact ⟨by decide, rfl, rfl⟩
theorem spec_text (a b : Int) : Ev (fun k => spec_DeedText.f k a b) ⟨(text a b).toArray⟩ := by
  unfold spec_DeedText.f text
  simp only [spec_ok, Option.bind_some]
  cases h : okDeed a b with
  | false => exact Ev.now _
  | true =>
    have o := ok_of h
    simp only [if_true]
    obtain ⟨⟨l1, l2⟩, hl⟩ : ∃ x, spec_l08Words.f = some x := ⟨_, rfl⟩
    have R := rd_word a o.1 l1 l2 hl
    have h0 : 0 ≤ a := by omega
    simp only [hl, Option.bind_some, R.2.1, R.2.2, if_pos h0, if_pos R.1.1, if_pos R.1.2]
    cases hw : (word a).2 with
    | false => simp only [Bool.false_eq_true, if_false]; exact Ev.now _
    | true =>
      have wl := word_len a
      have dl := dec_len b.toNat (by omega)
      have g1 : (word a).1.length + 1 ≤ 9223372036854775807 := by omega
      simp only [if_true, size_lists, append_lists, if_pos g1]
      have D := dec_ev b.toNat (by omega)
      rw [Int.toNat_of_nonneg o.2.1] at D
      refine Ev.bind D ?_
      have g2 : ((word a).1 ++ [32]).length + (Lib.decDigits b.toNat).length ≤ 9223372036854775807 := by rw [List.length_append]; simp; omega
      simp only [size_lists, append_lists, if_pos g2]
      exact Ev.now _

theorem law_ev (a b : Int) : ∃ k, laws_FnExactDeedText.f k a b = some true := by
  apply Ev.rounds
  unfold laws_FnExactDeedText.f laws_toDeed.f
  simp only [Option.bind_some, impl_text]
  refine Ev.bind (spec_text a b) ?_
  simp only [if_true]
  exact Ev.now _
end Go.Proofs.YteacmboidfdpmaaDoor.PureFnExactDeedText
