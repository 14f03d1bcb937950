/- What is proved: contracts of the closures of impl.ValidBounds and of slices.IndexFunc and slices.ContainsFunc over them. Conditions: the cells hold the captured number and the function. -/
import Derived.Test.YtefoaikfpegggaaProg
import Derived.Test.YtefoaikfpegggaaMine
namespace Go.Proofs.Ytefoaikfpegggaa.Closures
open Go.RowKit Go.Proofs.YtefoaikfpegggaaW.PrintWords Go.Proofs.YtefoaikfpegggaaW.PrintLast Go.Proofs.YtefoaikfpegggaaW.PrintMore Go.Proofs.Ytefoaikfpegggaa.Mine
attribute [local go_sem] max2_int min2_int max_two min_two max_three min_three max_four min_four
set_option linter.unusedVariables false
set_option linter.unusedSimpArgs false

set_option maxHeartbeats 8000000 in
set_option maxRecDepth 100000 in
theorem in_calls (a0 a1 a2 : Int) (w : World) :
    Calls Try.prog 36 #[.int .i64 a0, .int .i64 a1, .int .i64 a2] w fun e w' => e = .returned (.bool (decide (a1 ≤ a0) && decide (a0 ≤ a2))) ∧ Drawn0 w w' := by
  by_cases c4 : a1 ≤ a0
  · have c4b0 : decide (a1 ≤ a0) = true := decide_eq_true c4
    clear c4
    go_enter Try.func36, Try.ntmps36
    go_wp2
    go_ret
    exact ⟨by simp only [c4b0, Bool.true_and, Bool.false_and]; rfl, by repeat (first | exact Drawn0.refl _ | apply Drawn0.step)⟩
  · have c4b0 : decide (a1 ≤ a0) = false := decide_eq_false c4
    clear c4
    go_enter Try.func36, Try.ntmps36
    go_wp2
    go_ret
    exact ⟨by simp only [c4b0, Bool.true_and, Bool.false_and]; rfl, by repeat (first | exact Drawn0.refl _ | apply Drawn0.step)⟩

/-- the closure isState: its captured variable holds n -/
def inS (n s : Int) : Bool := decide (0 ≤ s) && decide (s ≤ n - 1)

set_option maxHeartbeats 8000000 in
set_option maxRecDepth 100000 in
theorem isState_calls (s n : Int) (a : Addr) (w : World) (hc : w.cell? a = some (.int .i64 n)) (h0 : 0 ≤ n) (h1 : n ≤ 9223372036854775807) :
    Calls Try.prog 35 #[.int .i64 s, .pointer (some a)] w fun e w' => e = .returned (.bool (inS n s)) ∧ Drawn0 w w' := by
  go_enter Try.func35, Try.ntmps35
  go_wp2_with (first | (go_at_call 36; (with_reducible refine (in_calls s 0 (n - 1) _).mono ?_); rintro e w' ⟨rfl, ⟨nd, rfl⟩⟩))
  go_ret
  exact ⟨rfl, by repeat (first | exact Drawn0.refl _ | apply Drawn0.step)⟩

set_option maxHeartbeats 8000000 in
set_option maxRecDepth 100000 in
theorem notState_calls (s n : Int) (p a : Addr) (w : World) (hp : w.cell? p = some (.func (.func 35) #[] #[.pointer (some a)])) (hc : w.cell? a = some (.int .i64 n)) (h0 : 0 ≤ n) (h1 : n ≤ 9223372036854775807) :
    Calls Try.prog 38 #[.int .i64 s, .pointer (some p)] w fun e w' => e = .returned (.bool (!inS n s)) ∧ Drawn0 w w' := by
  go_enter Try.func38, Try.ntmps38
  go_wp2_with (first | ((with_reducible refine gate_fv rfl ?_); refine goesV_ (some 6) rfl rfl #[] #[.pointer (some a)] Try.func35 (by kernel_rfl) rfl #[.int .i64 s, .pointer (some a)] rfl rfl (by simp [Act.eval]) ?_; (with_reducible refine (isState_calls s n a _ ?s1 h0 h1).mono ?_); (case s1 => exact hc); rintro e w' ⟨rfl, ⟨nd, rfl⟩⟩; refine ⟨_, rfl, ?_⟩))
  go_ret
  exact ⟨rfl, by repeat (first | exact Drawn0.refl _ | apply Drawn0.step)⟩

/-- What IndexFunc comes to: a place, or -1, and whether there is one. -/
def IdxPost (b : Bool) (w : World) (e : Ending) (w' : World) : Prop := ∃ r : Int, e = .returned (.int .i64 r) ∧ decide (0 ≤ r) = b ∧ -1 ≤ r ∧ r ≤ 9223372036854775807 ∧ Drawn0 w w'

def OkTo (n : Int) (xs : List Int) (i : Nat) : Prop := ∀ j : Nat, j < i → inS n (rd xs j) = true

theorem any_true {n : Int} {xs : List Int} {i : Nat} (hi : i < xs.length) (h : inS n (rd xs i) = false) : xs.any (fun s => !inS n s) = true := by
  rw [List.any_eq_true]
  refine ⟨xs[i], List.getElem_mem hi, ?_⟩
  have e : rd xs i = xs[i] := by simp [rd, List.getD_eq_getElem?_getD, List.getElem?_eq_getElem hi]
  rw [← e, h]
  rfl
theorem any_false {n : Int} {xs : List Int} (h : OkTo n xs xs.length) : xs.any (fun s => !inS n s) = false := by
  rw [List.any_eq_false]
  intro x hx
  obtain ⟨i, hi, rfl⟩ := List.mem_iff_getElem.1 hx
  have e : rd xs i = xs[i] := by simp [rd, List.getD_eq_getElem?_getD, List.getElem?_eq_getElem hi]
  have := h i hi
  rw [e] at this
  simp [this]

set_option maxHeartbeats 8000000 in
set_option maxRecDepth 100000 in
theorem indexF_calls (A : Option Addr) (c : Nat) (xs : List Int) (n : Int) (p a : Addr) (w : World) (hr : Kd.C (Kd.int .i64) w A xs.length xs) (hp : w.cell? p = some (.func (.func 35) #[] #[.pointer (some a)])) (hc : w.cell? a = some (.int .i64 n)) (h0 : 0 ≤ n) (h1 : n ≤ 9223372036854775807) :
    Calls Try.prog 55 #[.slice A xs.length c, .func (.func 38) #[] #[.pointer (some p)]] w (IdxPost (xs.any (fun s => !inS n s)) w) := by
  have HR := Aside0.mk hr
  have HP := Aside0.mk hp
  have HC := Aside0.mk hc
  have HL := hr.2.1
  clear hr hp hc
  go_enter Try.func55, Try.ntmps55
  go_wp2
  go_loopw [8] (fun v w' => ∃ i : Nat, i ≤ xs.length ∧ v = .int .i64 i ∧ OkTo n xs i ∧ Drawn0 w w') (fun v _ => xs.length - (intOf v).toNat)
  case atStart => exact ⟨0, Nat.zero_le _, rfl, fun j hj => absurd hj (by omega), Drawn0.refl _⟩
  case round =>
    obtain ⟨i, hi, rfl, hok, ⟨m, rfl⟩⟩ := hrel
    have HO := Aside0.mk hok
    clear hok
    by_cases hlt : i < xs.length
    · obtain ⟨ad, ead, hx⟩ := Kd.at_int HR.out (i : Int) (by omega) (by omega)
      rw [Int.toNat_natCast] at hx
      cases ead
      have hb : ∃ b, b = inS n (rd xs i) := ⟨_, rfl⟩
      obtain ⟨b, hb⟩ := hb
      have HB := Aside0.mk hb
      clear hb
      cases b with
      | true =>
        go_wp2_with (first | ((with_reducible refine gate_fv rfl ?_); refine goesV_ (some 16) rfl rfl #[] #[.pointer (some p)] Try.func38 (by kernel_rfl) rfl #[.int .i64 (rd xs i), .pointer (some p)] rfl rfl (by simp [Act.eval]) ?_; (with_reducible refine (notState_calls (rd xs i) n p a _ ?s1 ?s2 h0 h1).mono ?_); (case s1 => exact HP.out); (case s2 => exact HC.out); rw [← HB.out]; rintro e w' ⟨rfl, ⟨nd, rfl⟩⟩; refine ⟨_, rfl, ?_⟩))
        go_roundw
        case measure => simp [intOf]; omega
        case rel =>
          refine ⟨i + 1, by omega, by go_num, fun j hj => ?_, by repeat (first | exact Drawn0.refl _ | apply Drawn0.step)⟩
          rcases Nat.lt_or_ge j i with h | h
          · exact HO.out j h
          · obtain rfl : j = i := by omega
            exact HB.out.symm
      | false =>
        go_wp2_with (first | ((with_reducible refine gate_fv rfl ?_); refine goesV_ (some 16) rfl rfl #[] #[.pointer (some p)] Try.func38 (by kernel_rfl) rfl #[.int .i64 (rd xs i), .pointer (some p)] rfl rfl (by simp [Act.eval]) ?_; (with_reducible refine (notState_calls (rd xs i) n p a _ ?s1 ?s2 h0 h1).mono ?_); (case s1 => exact HP.out); (case s2 => exact HC.out); rw [← HB.out]; rintro e w' ⟨rfl, ⟨nd, rfl⟩⟩; refine ⟨_, rfl, ?_⟩))
        go_ret
        refine ⟨i, rfl, ?_, by omega, by omega, by repeat (first | exact Drawn0.refl _ | apply Drawn0.step)⟩
        rw [any_true hlt HB.out.symm]
        simp
    · go_wp2
      go_ret
      refine ⟨-1, rfl, ?_, by omega, by omega, by repeat (first | exact Drawn0.refl _ | apply Drawn0.step)⟩
      obtain rfl : i = xs.length := by omega
      rw [any_false HO.out]
      simp

set_option maxHeartbeats 8000000 in
set_option maxRecDepth 100000 in
theorem containsF_calls (A : Option Addr) (c : Nat) (xs : List Int) (n : Int) (p a : Addr) (w : World) (hr : Kd.C (Kd.int .i64) w A xs.length xs) (hp : w.cell? p = some (.func (.func 35) #[] #[.pointer (some a)])) (hc : w.cell? a = some (.int .i64 n)) (h0 : 0 ≤ n) (h1 : n ≤ 9223372036854775807) :
    Calls Try.prog 37 #[.slice A xs.length c, .func (.func 38) #[] #[.pointer (some p)]] w fun e w' => e = .returned (.bool (xs.any (fun s => !inS n s))) ∧ Drawn0 w w' := by
  have HR := Aside0.mk hr
  have HP := Aside0.mk hp
  have HC := Aside0.mk hc
  clear hr hp hc
  obtain ⟨b, hb⟩ : ∃ b, b = xs.any (fun s => !inS n s) := ⟨_, rfl⟩
  rw [← hb]
  have HB := Aside0.mk hb
  clear hb
  go_enter Try.func37, Try.ntmps37
  go_wp2_with (first | (go_at_call 55; (with_reducible refine (indexF_calls _ _ xs n p a _ ?s0 ?s1 ?s2 h0 h1).mono ?_); (case s0 => exact HR.out); (case s1 => exact HP.out); (case s2 => exact HC.out); rw [← HB.out]; rintro e w' ⟨r, rfl, hr0, hr1, hr2, ⟨nd, rfl⟩⟩; have HB2 := Aside0.mk hr0; clear hr0))
  go_ret
  exact ⟨by rw [← HB2.out]; rfl, by repeat (first | exact Drawn0.refl _ | apply Drawn0.step)⟩
end Go.Proofs.Ytefoaikfpegggaa.Closures
