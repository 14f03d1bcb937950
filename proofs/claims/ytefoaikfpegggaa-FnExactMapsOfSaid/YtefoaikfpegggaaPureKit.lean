/- What is proved: plain lemmas on functions that take a number of rounds: a loop over two lists that compares, a loop that copies, a loop that counts. Conditions: as each states. -/
import Derived.Test.YtefoaikfpegggaaWMore
namespace Go.Proofs.Ytefoaikfpegggaa.PureKit
open Go.RowKit Go.Proofs.YtefoaikfpegggaaW.PrintWords

theorem wrap_succ {i : Int} (h0 : 0 ≤ i) (h1 : i < 4611686018427387904) : wrap64 (i + 1) = i + 1 := by
  unfold wrap64
  omega

/-- A loop that goes on while all is well, and ends at the first place where it is not. -/
theorem cmp_loop (F : Nat → Int → Option Bool) (n : Nat) (p : Nat → Bool)
    (go : ∀ i : Nat, i < n → p i = true → Ev (fun k => F k ((i : Int) + 1)) true → Ev (fun k => F k i) true)
    (gof : ∀ i : Nat, i < n → p i = true → Ev (fun k => F k ((i : Int) + 1)) false → Ev (fun k => F k i) false)
    (stop : ∀ i : Nat, i < n → p i = false → Ev (fun k => F k i) false)
    (fin : Ev (fun k => F k n) true) : ∀ d i : Nat, i + d = n → Ev (fun k => F k i) ((List.range d).all fun j => p (i + j))
  | 0, i, h => by
    obtain rfl : i = n := by omega
    simpa using fin
  | d + 1, i, h => by
    have ih := cmp_loop F n p go gof stop fin d (i + 1) (by omega)
    rw [show (((i + 1 : Nat)) : Int) = (i : Int) + 1 by omega] at ih
    cases hp : p i with
    | false =>
      have : ((List.range (d + 1)).all fun j => p (i + j)) = false := by
        rw [List.all_eq_false]
        exact ⟨0, by simp, by simp [hp]⟩
      rw [this]
      exact stop i (by omega) hp
    | true =>
      have e : ((List.range (d + 1)).all fun j => p (i + j)) = ((List.range d).all fun j => p (i + 1 + j)) := by
        rw [List.range_succ_eq_map, List.all_cons, Nat.add_zero, hp, Bool.true_and, List.all_map]
        congr 1
        funext j
        simp only [Function.comp]
        congr 1
        omega
      rw [e]
      cases hb : ((List.range d).all fun j => p (i + 1 + j)) with
      | true => rw [hb] at ih; exact go i (by omega) hp ih
      | false => rw [hb] at ih; exact gof i (by omega) hp ih

theorem cmp_loop0 (F : Nat → Int → Option Bool) (n : Nat) (p : Nat → Bool)
    (go : ∀ (i : Nat) (r : Bool), i < n → p i = true → Ev (fun k => F k ((i : Int) + 1)) r → Ev (fun k => F k i) r)
    (stop : ∀ i : Nat, i < n → p i = false → Ev (fun k => F k i) false)
    (fin : Ev (fun k => F k n) true) : Ev (fun k => F k 0) ((List.range n).all p) := by
  have h := cmp_loop F n p (fun i => go i true) (fun i => go i false) stop fin n 0 (by omega)
  simpa using h

/-- The same, with something to follow where all is well. -/
theorem then_loop0 (F : Nat → Int → Option Bool) (n : Nat) (p : Nat → Bool) (q : Bool)
    (go : ∀ (i : Nat) (r : Bool), i < n → p i = true → Ev (fun k => F k ((i : Int) + 1)) r → Ev (fun k => F k i) r)
    (stop : ∀ i : Nat, i < n → p i = false → Ev (fun k => F k i) false)
    (fin : Ev (fun k => F k n) q) : Ev (fun k => F k 0) ((List.range n).all p && q) := by
  have h : ∀ d i : Nat, i + d = n → Ev (fun k => F k i) (((List.range d).all fun j => p (i + j)) && q) := by
    intro d
    induction d with
    | zero =>
      intro i h
      obtain rfl : i = n := by omega
      simpa using fin
    | succ d ih =>
      intro i h
      have ih := ih (i + 1) (by omega)
      rw [show (((i + 1 : Nat)) : Int) = (i : Int) + 1 by omega] at ih
      cases hp : p i with
      | false =>
        have : ((List.range (d + 1)).all fun j => p (i + j)) = false := by
          rw [List.all_eq_false]
          exact ⟨0, by simp, by simp [hp]⟩
        rw [this]
        exact stop i (by omega) hp
      | true =>
        have e : ((List.range (d + 1)).all fun j => p (i + j)) = ((List.range d).all fun j => p (i + 1 + j)) := by
          rw [List.range_succ_eq_map, List.all_cons, Nat.add_zero, hp, Bool.true_and, List.all_map]
          congr 1
          funext j
          simp only [Function.comp]
          congr 1
          omega
        rw [e]
        exact go i _ (by omega) hp ih
  simpa using h n 0 (by omega)

/-- A loop that counts down something: whatever it comes to. -/
theorem any_loop {σ α : Type} (F : Nat → σ → Int → Option α) (n : Nat)
    (go : ∀ (i : Nat) (s : σ), i < n → (∃ r, Ev (fun k => F k s i) r) ∨ ∃ s', ∀ r, Ev (fun k => F k s' ((i : Int) + 1)) r → Ev (fun k => F k s i) r)
    (fin : ∀ s, ∃ r, Ev (fun k => F k s n) r) : ∀ (d i : Nat) (s : σ), i + d = n → ∃ r, Ev (fun k => F k s i) r
  | 0, i, s, h => by
    obtain rfl : i = n := by omega
    exact fin s
  | d + 1, i, s, h => by
    rcases go i s (by omega) with h1 | ⟨s', h1⟩
    · exact h1
    · obtain ⟨r, hr⟩ := any_loop F n go fin d (i + 1) s' (by omega)
      rw [show (((i + 1 : Nat)) : Int) = (i : Int) + 1 by omega] at hr
      exact ⟨r, h1 r hr⟩

/-- A loop that writes f of each element to its place. -/
theorem map_loop {α : Type} (F : Nat → List α → Int → Option (List α)) (ys : List α)
    (go : ∀ (i : Nat) (out : List α) (r : List α) (hi : i < ys.length), out.length = ys.length → Ev (fun k => F k (out.set i ys[i]) ((i : Int) + 1)) r → Ev (fun k => F k out i) r)
    (fin : ∀ out : List α, Ev (fun k => F k out ys.length) out) : ∀ (d i : Nat) (out : List α), i + d = ys.length → out.length = ys.length → Ev (fun k => F k out i) (ys.take i ++ ys.drop i) ∨ out.take i ≠ ys.take i
  | 0, i, out, h, ho => by
    by_cases e : out.take i = ys.take i
    · left
      obtain rfl : i = ys.length := by omega
      rw [List.take_append_drop, ← List.take_length (l := ys), ← e, ← ho, List.take_length]
      have := fin out
      rw [ho]
      exact this
    · exact .inr e
  | d + 1, i, out, h, ho => by
    by_cases e : out.take i = ys.take i
    · left
      have hi : i < ys.length := by omega
      rcases map_loop F ys go fin d (i + 1) (out.set i ys[i]) (by omega) (by simpa using ho) with h1 | h1
      · rw [show (((i + 1 : Nat)) : Int) = (i : Int) + 1 by omega, List.take_append_drop] at h1
        rw [List.take_append_drop]
        exact go i out ys hi ho h1
      · exfalso
        apply h1
        rw [List.take_succ_eq_append_getElem (by simpa [ho] using hi), List.take_succ_eq_append_getElem hi, List.getElem_set_self, List.take_set_of_le (Nat.le_refl i), e]
    · exact .inr e

theorem map_loop0 {α : Type} (F : Nat → List α → Int → Option (List α)) (ys out : List α) (ho : out.length = ys.length)
    (go : ∀ (i : Nat) (out : List α) (r : List α) (hi : i < ys.length), out.length = ys.length → Ev (fun k => F k (out.set i ys[i]) ((i : Int) + 1)) r → Ev (fun k => F k out i) r)
    (fin : ∀ out : List α, Ev (fun k => F k out ys.length) out) : Ev (fun k => F k out 0) ys := by
  rcases map_loop F ys go fin ys.length 0 out (by omega) ho with h | h
  · simpa using h
  · simp at h

/-- A loop that goes up through states that are known ahead. -/
theorem up_loop {σ α : Type} (F : Nat → σ → Int → Option α) (st : Nat → σ) (n : Nat) (r : α)
    (go : ∀ i : Nat, i < n → Ev (fun k => F k (st (i + 1)) ((i : Int) + 1)) r → Ev (fun k => F k (st i) i) r)
    (fin : Ev (fun k => F k (st n) n) r) : Ev (fun k => F k (st 0) 0) r := by
  have h : ∀ d i : Nat, i + d = n → Ev (fun k => F k (st i) i) r := by
    intro d
    induction d with
    | zero =>
      intro i h
      obtain rfl : i = n := by omega
      exact fin
    | succ d ih =>
      intro i h
      have ih := ih (i + 1) (by omega)
      rw [show (((i + 1 : Nat)) : Int) = (i : Int) + 1 by omega] at ih
      exact go i (by omega) ih
  simpa using h n 0 (by omega)

end Go.Proofs.Ytefoaikfpegggaa.PureKit
