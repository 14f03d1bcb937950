/- What is proved: the contract of impl.ValidBounds: it returns vb of its bounds. Conditions: the lists read as they are said to. -/
import Derived.Test.YtefoaikfpegggaaClosures
import Derived.Laws.EntriesVeiled
namespace Go.Proofs.Ytefoaikfpegggaa.ValidB
open Go.RowKit Go.Proofs.YtefoaikfpegggaaW.PrintWords Go.Proofs.YtefoaikfpegggaaW.PrintLast Go.Proofs.YtefoaikfpegggaaW.PrintMore Go.Proofs.Ytefoaikfpegggaa.Mine Go.Proofs.Ytefoaikfpegggaa.Closures
attribute [local go_sem] max2_int min2_int max_two min_two max_three min_three max_four min_four
set_option linter.unusedVariables false
set_option linter.unusedSimpArgs false

def rdL (xs : List (List Int)) (i : Int) : List Int := xs.getD i.toNat ([] : List Int)
theorem at_L {w : World} {A : Option Addr} {n : Nat} {xs : List (List Int)} (h : Kd.C (Kd.slice 2 (Kd.int .i64)) w A n xs) (i : Nat) (h1 : i < n) : ∃ ad A0 c0, A = some ad ∧ w.cell? (ad.add i) = some (.slice A0 (rdL xs i).length c0) ∧ (rdL xs i).length ≤ c0 ∧ (Kd.int .i64).C w A0 (rdL xs i).length (rdL xs i) := by
  obtain ⟨ad, c, e, _, hK, hc0⟩ := Kd.C_get h ([] : List Int) i (by omega) (by omega)
  have hc : ∀ j u, c[j]? = some u → w.cell? (ad.add ((i : Int).toNat * 1 + j)) = some u := hc0
  obtain ⟨A0, c0, rfl, l0, g0⟩ := hK
  exact ⟨ad, A0, c0, e, by have hq := hc 0 _ rfl; rwa [Nat.mul_one, Nat.add_zero, Int.toNat_natCast] at hq, l0, g0⟩
theorem at_I {w : World} {A : Option Addr} {n : Nat} {xs : List Int} (h : (Kd.int .i64).C w A n xs) (i : Nat) (h1 : i < n) : ∃ ad, A = some ad ∧ w.cell? (ad.add i) = some (.int .i64 (rd xs i)) := by
  obtain ⟨ad, e, hx⟩ := Kd.at_int h (i : Int) (by omega) (by omega)
  rw [Int.toNat_natCast] at hx
  exact ⟨ad, e, hx⟩

def inB (lo hi s : Int) : Bool := decide (lo ≤ s) && decide (s ≤ hi)
def rowOk (n : Int) (row : List Int) : Bool := ((row.length : Int) == 4) && !row.any (fun s => !inS n s)
def stepOk (n : Int) (l : List Int) (i : Nat) : Bool := inS n (rd l i) && (i == 0 || decide (rd l ((i : Int) - 1) < rd l i))
def endOk (n : Int) (l : List Int) : Bool := (List.range l.length).all (stepOk n l)
def vb (a : Int) (x y : List (List Int)) : Bool :=
  inB 1 4 x.length && (inS x.length a && (((y.length : Int) == 4) && ((List.range x.length).all (fun j => rowOk x.length (rdL x j)) && (List.range y.length).all (fun j => endOk x.length (rdL y j)))))

def RowsTo (x : List (List Int)) (i : Nat) : Prop := ∀ j : Nat, j < i → rowOk x.length (rdL x j) = true
def EndsTo (n : Int) (y : List (List Int)) (i : Nat) : Prop := ∀ j : Nat, j < i → endOk n (rdL y j) = true
def StepsTo (n : Int) (l : List Int) (i : Nat) : Prop := ∀ j : Nat, j < i → stepOk n l j = true

/-- What is known of the world behind the prologue: the bounds' own cells, the captured number, the function. -/
structure Held (w W : World) (a0 : Int) (A1 : Option Addr) (c1 : Nat) (x : List (List Int)) (A2 : Option Addr) (c2 : Nat) (y : List (List Int)) : Prop where
  below : Below w.heap.size w W
  next : W.cell? ⟨w.heap.size, 1, none⟩ = some (.slice A1 x.length c1)
  ends : W.cell? ⟨w.heap.size, 2, none⟩ = some (.slice A2 y.length c2)
  st : W.cell? ⟨w.heap.size + 1, 0, none⟩ = some (.int .i64 x.length)
  fn : W.cell? ⟨w.heap.size + 1 + 1, 0, none⟩ = some (.func (.func 35) #[] #[.pointer (some ⟨w.heap.size + 1, 0, none⟩)])

theorem held_of (w : World) (a0 : Int) (A1 : Option Addr) (c1 : Nat) (x : List (List Int)) (A2 : Option Addr) (c2 : Nat) (y : List (List Int)) :
    Held w (((w.alloc (.cells #[.int .i64 a0, .slice A1 x.length c1, .slice A2 y.length c2] 27)).alloc (.cells #[.int .i64 x.length] 2)).alloc (.cells #[.func (.func 35) #[] #[.pointer (some ⟨w.heap.size + 1, 0, none⟩)]] 53)) a0 A1 c1 x A2 c2 y where
  below := (((Below.refl _ _).alloc (Nat.le_refl _) _).alloc (by simp) _).alloc (by simp; omega) _
  next := by go_simp
  ends := by go_simp
  st := by go_simp
  fn := by go_simp

theorem below_of (w : World) (a0 : Int) (A1 : Option Addr) (c1 : Nat) (x : List (List Int)) (A2 : Option Addr) (c2 : Nat) (y : List (List Int)) (m : Nat) :
    Below w.heap.size w ((((w.alloc (.cells #[.int .i64 a0, .slice A1 x.length c1, .slice A2 y.length c2] 27)).alloc (.cells #[.int .i64 x.length] 2)).alloc (.cells #[.func (.func 35) #[] #[.pointer (some ⟨w.heap.size + 1, 0, none⟩)]] 53)).drewN m) :=
  pw_below_drewN (held_of w a0 A1 c1 x A2 c2 y).below _

theorem inB_calls (lo hi s : Int) (w : World) : Calls Try.prog 36 #[.int .i64 s, .int .i64 lo, .int .i64 hi] w fun e w' => e = .returned (.bool (inB lo hi s)) ∧ Drawn0 w w' := in_calls s lo hi w

set_option maxHeartbeats 8000000 in
set_option maxRecDepth 100000 in
theorem no1 (a0 : Int) (A1 : Option Addr) (c1 : Nat) (x : List (List Int)) (A2 : Option Addr) (c2 : Nat) (y : List (List Int)) (w : World) (h1 : x.length ≤ 9223372036854775807) (h2 : y.length ≤ 9223372036854775807)
    (t1 : inB 1 4 x.length = false) :
    Calls Try.prog 15 #[.agg #[.int .i64 a0, .slice A1 x.length c1, .slice A2 y.length c2]] w fun e w' => e = .returned (.bool false) ∧ Below w.heap.size w w' := by
  have hu27 := Try.underlying27
  have HT1 := Aside0.mk t1
  clear t1
  go_enter Try.func15, Try.ntmps15
  go_wp2_with (first | (go_at_call 36; (with_reducible refine (inB_calls _ _ _ _).mono ?_); rw [HT1.out]; rintro e w' ⟨rfl, ⟨nd, rfl⟩⟩))
  go_ret
  exact ⟨rfl, below_of _ _ _ _ _ _ _ _ _⟩

set_option maxHeartbeats 8000000 in
set_option maxRecDepth 100000 in
theorem no2 (a0 : Int) (A1 : Option Addr) (c1 : Nat) (x : List (List Int)) (A2 : Option Addr) (c2 : Nat) (y : List (List Int)) (w : World) (h1 : x.length ≤ 9223372036854775807) (h2 : y.length ≤ 9223372036854775807)
    (t1 : inB 1 4 x.length = true) (t2 : inS x.length a0 = false) :
    Calls Try.prog 15 #[.agg #[.int .i64 a0, .slice A1 x.length c1, .slice A2 y.length c2]] w fun e w' => e = .returned (.bool false) ∧ Below w.heap.size w w' := by
  have hu27 := Try.underlying27
  have HT1 := Aside0.mk t1
  have HT2 := Aside0.mk t2
  clear t1 t2
  go_enter Try.func15, Try.ntmps15
  go_wp2_with (first | (go_at_call 36; (with_reducible refine (inB_calls _ _ _ _).mono ?_); rw [HT1.out]; rintro e w' ⟨rfl, ⟨nd, rfl⟩⟩) | (go_at_call 35; (with_reducible refine (isState_calls a0 x.length ⟨w.heap.size + 1, 0, none⟩ _ ?s1 (by omega) (by omega)).mono ?_); (case s1 => exact (held_of w a0 A1 c1 x A2 c2 y).st); rw [HT2.out]; rintro e w' ⟨rfl, ⟨nd, rfl⟩⟩))
  go_ret
  exact ⟨rfl, below_of _ _ _ _ _ _ _ _ _⟩

set_option maxHeartbeats 8000000 in
set_option maxRecDepth 100000 in
theorem no3 (a0 : Int) (A1 : Option Addr) (c1 : Nat) (x : List (List Int)) (A2 : Option Addr) (c2 : Nat) (y : List (List Int)) (w : World) (h1 : x.length ≤ 9223372036854775807) (h2 : y.length ≤ 9223372036854775807)
    (t1 : inB 1 4 x.length = true) (t2 : inS x.length a0 = true) (t3 : ((y.length : Int) == 4) = false) :
    Calls Try.prog 15 #[.agg #[.int .i64 a0, .slice A1 x.length c1, .slice A2 y.length c2]] w fun e w' => e = .returned (.bool false) ∧ Below w.heap.size w w' := by
  have hu27 := Try.underlying27
  have HT1 := Aside0.mk t1
  have HT2 := Aside0.mk t2
  have t3' : ((y.length : Int) != 4) = true := by simp [bne, t3]
  clear t1 t2
  go_enter Try.func15, Try.ntmps15
  go_wp2_with (first | (go_at_call 36; (with_reducible refine (inB_calls _ _ _ _).mono ?_); rw [HT1.out]; rintro e w' ⟨rfl, ⟨nd, rfl⟩⟩) | (go_at_call 35; (with_reducible refine (isState_calls a0 x.length ⟨w.heap.size + 1, 0, none⟩ _ ?s1 (by omega) (by omega)).mono ?_); (case s1 => exact (held_of w a0 A1 c1 x A2 c2 y).st); rw [HT2.out]; rintro e w' ⟨rfl, ⟨nd, rfl⟩⟩))
  go_ret
  exact ⟨rfl, below_of _ _ _ _ _ _ _ _ _⟩

theorem all_false {n : Nat} {p : Nat → Bool} {i : Nat} (hi : i < n) (h : p i = false) : (List.range n).all p = false := by
  rw [List.all_eq_false]
  exact ⟨i, List.mem_range.2 hi, by simp [h]⟩
theorem all_true {n : Nat} {p : Nat → Bool} (h : ∀ i, i < n → p i = true) : (List.range n).all p = true := by
  rw [List.all_eq_true]
  exact fun i hi => h i (List.mem_range.1 hi)
theorem res_rows {res : Bool} {x y : List (List Int)} (h : res = ((List.range x.length).all (fun j => rowOk x.length (rdL x j)) && (List.range y.length).all (fun j => endOk x.length (rdL y j)))) {i : Nat} (hi : i < x.length) (hb : rowOk x.length (rdL x i) = false) : res = false := by
  rw [h, all_false hi hb, Bool.false_and]
theorem res_ends {res : Bool} {x y : List (List Int)} (h : res = ((List.range x.length).all (fun j => rowOk x.length (rdL x j)) && (List.range y.length).all (fun j => endOk x.length (rdL y j)))) {i j : Nat} (hi : i < y.length) (hj : j < (rdL y i).length) (hb : stepOk x.length (rdL y i) j = false) : res = false := by
  have e : endOk x.length (rdL y i) = false := all_false hj hb
  rw [h, all_false (p := fun j : Nat => endOk x.length (rdL y j)) hi e, Bool.and_false]
theorem res_true {res : Bool} {x y : List (List Int)} (h : res = ((List.range x.length).all (fun j => rowOk x.length (rdL x j)) && (List.range y.length).all (fun j => endOk x.length (rdL y j)))) (hx : RowsTo x x.length) (hy : EndsTo x.length y y.length) : res = true := by
  rw [h, all_true hx, all_true (p := fun j : Nat => endOk x.length (rdL y j)) hy]
  rfl

set_option maxHeartbeats 8000000 in
set_option maxRecDepth 100000 in
theorem yes (a0 : Int) (A1 : Option Addr) (c1 : Nat) (x : List (List Int)) (A2 : Option Addr) (c2 : Nat) (y : List (List Int)) (w : World)
    (hr1 : Kd.C (Kd.slice 2 (Kd.int .i64)) w A1 x.length x) (hr2 : Kd.C (Kd.slice 2 (Kd.int .i64)) w A2 y.length y)
    (t1 : inB 1 4 x.length = true) (t2 : inS x.length a0 = true) (t3 : ((y.length : Int) == 4) = true) :
    Calls Try.prog 15 #[.agg #[.int .i64 a0, .slice A1 x.length c1, .slice A2 y.length c2]] w fun e w' => e = .returned (.bool ((List.range x.length).all (fun j => rowOk x.length (rdL x j)) && (List.range y.length).all (fun j => endOk x.length (rdL y j)))) ∧ Below w.heap.size w w' := by
  have hu27 := Try.underlying27
  have h1 := hr1.2.1
  have h2 := hr2.2.1
  have HT1 := Aside0.mk t1
  have HT2 := Aside0.mk t2
  have t3' : ((y.length : Int) != 4) = false := by simp [bne, t3]
  clear t1 t2
  have HE := held_of w a0 A1 c1 x A2 c2 y
  have HR1 := Aside0.mk (Kd.C_below hr1 HE.below)
  have HR2 := Aside0.mk (Kd.C_below hr2 HE.below)
  clear hr1 hr2
  have HH := Aside0.mk HE
  clear HE
  obtain ⟨res, hres⟩ : ∃ b, b = ((List.range x.length).all (fun j => rowOk x.length (rdL x j)) && (List.range y.length).all (fun j => endOk x.length (rdL y j))) := ⟨_, rfl⟩
  rw [← hres]
  have HRes := Aside0.mk hres
  clear hres
  go_enter Try.func15, Try.ntmps15
  go_wp2_with (first | (go_at_call 36; (with_reducible refine (inB_calls _ _ _ _).mono ?_); rw [HT1.out]; rintro e w' ⟨rfl, ⟨nd, rfl⟩⟩) | (go_at_call 35; (with_reducible refine (isState_calls a0 x.length ⟨w.heap.size + 1, 0, none⟩ _ ?s1 (by omega) (by omega)).mono ?_); (case s1 => exact HH.out.st); rw [HT2.out]; rintro e w' ⟨rfl, ⟨nd, rfl⟩⟩))
  generalize (((w.alloc (.cells #[.int .i64 a0, .slice A1 x.length c1, .slice A2 y.length c2] 27)).alloc (.cells #[.int .i64 x.length] 2)).alloc (.cells #[.func (.func 35) #[] #[.pointer (some ⟨w.heap.size + 1, 0, none⟩)]] 53)) = W at *
  have n0 : (0 : Int) ≤ x.length := by omega
  have n1 : (x.length : Int) ≤ 9223372036854775807 := by omega
  go_loopw [34] (fun v w' => ∃ i : Nat, i ≤ x.length ∧ v = .int .i64 i ∧ Aside0 (RowsTo x i) ∧ Drawn0 W w') (fun v _ => x.length - (intOf v).toNat)
  case atStart => exact ⟨0, Nat.zero_le _, rfl, ⟨fun j hj => absurd hj (by omega)⟩, by repeat (first | exact Drawn0.refl _ | apply Drawn0.step)⟩
  case round =>
    obtain ⟨i, hi, rfl, HO, ⟨m, rfl⟩⟩ := hrel
    by_cases hlt : i < x.length
    · obtain ⟨ad, Ai, ci, ead, hx, hli, hri⟩ := at_L HR1.out i hlt
      cases ead
      have HRi := Aside0.mk hri
      clear hri
      by_cases h4 : (((rdL x i).length : Int) == 4) = true
      · have h4' : (((rdL x i).length : Int) != 4) = false := by simp [bne, h4]
        obtain ⟨b, hb⟩ : ∃ b, b = (rdL x i).any (fun s => !inS x.length s) := ⟨_, rfl⟩
        have HB := Aside0.mk hb
        clear hb
        cases b with
        | false =>
          go_wp2_with (first | (go_at_call 37; (with_reducible refine (containsF_calls _ _ (rdL x i) x.length ⟨w.heap.size + 1 + 1, 0, none⟩ ⟨w.heap.size + 1, 0, none⟩ _ ?s0 ?s1 ?s2 n0 n1).mono ?_); (case s0 => exact HRi.out); (case s1 => exact HH.out.fn); (case s2 => exact HH.out.st); rw [← HB.out]; rintro e w' ⟨rfl, ⟨nd, rfl⟩⟩))
          go_roundw
          case measure => simp [intOf]; omega
          case rel =>
            refine ⟨i + 1, by omega, by go_num, ⟨fun j hj => ?_⟩, by repeat (first | exact Drawn0.refl _ | apply Drawn0.step)⟩
            rcases Nat.lt_or_ge j i with h | h
            · exact HO.out j h
            · obtain rfl : j = i := by omega
              unfold rowOk
              rw [h4, ← HB.out]
              rfl
        | true =>
          go_wp2_with (first | (go_at_call 37; (with_reducible refine (containsF_calls _ _ (rdL x i) x.length ⟨w.heap.size + 1 + 1, 0, none⟩ ⟨w.heap.size + 1, 0, none⟩ _ ?s0 ?s1 ?s2 n0 n1).mono ?_); (case s0 => exact HRi.out); (case s1 => exact HH.out.fn); (case s2 => exact HH.out.st); rw [← HB.out]; rintro e w' ⟨rfl, ⟨nd, rfl⟩⟩))
          go_ret
          exact ⟨by rw [res_rows HRes.out hlt (by unfold rowOk; rw [← HB.out]; simp)]; rfl, pw_below_drewN HH.out.below _⟩
      · have h4' : (((rdL x i).length : Int) != 4) = true := by simpa [bne] using h4
        go_wp2
        go_ret
        exact ⟨by rw [res_rows HRes.out hlt (by unfold rowOk; rw [Bool.eq_false_iff.2 h4]; rfl)]; rfl, pw_below_drewN HH.out.below _⟩
    · obtain rfl : i = x.length := by omega
      have hE := HH.out.ends
      go_wp2
      clear hE
      go_loopw [50] (fun v w' => ∃ i : Nat, i ≤ y.length ∧ v = .int .i64 i ∧ Aside0 (EndsTo x.length y i) ∧ Drawn0 W w') (fun v _ => y.length - (intOf v).toNat)
      case atStart => exact ⟨0, Nat.zero_le _, rfl, ⟨fun j hj => absurd hj (by omega)⟩, by repeat (first | exact Drawn0.refl _ | apply Drawn0.step)⟩
      case round =>
        obtain ⟨i, hi2, rfl, HO2, ⟨m2, rfl⟩⟩ := hrel
        by_cases hlt2 : i < y.length
        · obtain ⟨ad, Ai, ci, ead, hx, hli, hri⟩ := at_L HR2.out i hlt2
          cases ead
          have HRi := Aside0.mk hri
          have hlen := hri.2.1
          clear hri
          go_wp2
          have hF := HH.out.fn
          go_loopw [56] (fun v w' => ∃ j : Int, 0 ≤ j ∧ j ≤ (rdL y i).length ∧ v = .int .i64 j ∧ Aside0 (StepsTo x.length (rdL y i) j.toNat) ∧ Drawn0 W w') (fun v _ => (rdL y i).length - (intOf v).toNat)
          case atStart => exact ⟨0, by omega, by omega, rfl, ⟨fun j hj => absurd hj (by simp)⟩, by repeat (first | exact Drawn0.refl _ | apply Drawn0.step)⟩
          case round =>
            obtain ⟨j, hj0, hj, rfl, HO3, ⟨m3, rfl⟩⟩ := hrel
            by_cases hlt3 : j < (rdL y i).length
            · obtain ⟨ad2, ead2, hx2⟩ := Kd.at_int HRi.out j hj0 hlt3
              cases ead2
              obtain ⟨b, hb⟩ : ∃ b, b = inS x.length (rd (rdL y i) j) := ⟨_, rfl⟩
              have HB := Aside0.mk hb
              clear hb
              cases b with
              | false =>
                go_wp2_with (first | (go_at_call 35; (with_reducible refine (isState_calls _ x.length ⟨w.heap.size + 1, 0, none⟩ _ ?s1 n0 n1).mono ?_); (case s1 => exact HH.out.st); rw [← HB.out]; rintro e w' ⟨rfl, ⟨nd, rfl⟩⟩))
                go_ret
                exact ⟨by rw [res_ends (j := j.toNat) HRes.out hlt2 (by omega) (by unfold stepOk; rw [Int.toNat_of_nonneg hj0, ← HB.out]; rfl)]; rfl, pw_below_drewN HH.out.below _⟩
              | true =>
                by_cases hz : 0 < j
                · have hz' : decide (0 < j) = true := decide_eq_true hz
                  obtain ⟨ad3, ead3, hx3⟩ := Kd.at_int HRi.out (j - 1) (by omega) (by omega)
                  cases ead3
                  rw [show (j - 1).toNat = j.toNat - 1 by omega] at hx3
                  by_cases hge : rd (rdL y i) (j - 1) < rd (rdL y i) j
                  · have hge' : decide (rd (rdL y i) j ≤ rd (rdL y i) (j - 1)) = false := decide_eq_false (by omega)
                    go_wp2_with (first | (go_at_call 35; (with_reducible refine (isState_calls _ x.length ⟨w.heap.size + 1, 0, none⟩ _ ?s1 n0 n1).mono ?_); (case s1 => exact HH.out.st); rw [← HB.out]; rintro e w' ⟨rfl, ⟨nd, rfl⟩⟩))
                    go_roundw
                    case measure => simp [intOf]; omega
                    case rel =>
                      refine ⟨j + 1, by omega, by omega, by go_num, ⟨fun q hq => ?_⟩, by repeat (first | exact Drawn0.refl _ | apply Drawn0.step)⟩
                      rcases Nat.lt_or_ge q j.toNat with h | h
                      · exact HO3.out q h
                      · obtain rfl : q = j.toNat := by omega
                        unfold stepOk
                        rw [Int.toNat_of_nonneg hj0, ← HB.out, decide_eq_true hge]
                        simp
                  · have hge' : decide (rd (rdL y i) j ≤ rd (rdL y i) (j - 1)) = true := decide_eq_true (by omega)
                    go_wp2_with (first | (go_at_call 35; (with_reducible refine (isState_calls _ x.length ⟨w.heap.size + 1, 0, none⟩ _ ?s1 n0 n1).mono ?_); (case s1 => exact HH.out.st); rw [← HB.out]; rintro e w' ⟨rfl, ⟨nd, rfl⟩⟩))
                    go_ret
                    exact ⟨by rw [res_ends (j := j.toNat) HRes.out hlt2 (by omega) (by unfold stepOk; rw [Int.toNat_of_nonneg hj0, ← HB.out, decide_eq_false (Int.not_lt.2 hge)]; simp; omega)]; rfl, pw_below_drewN HH.out.below _⟩
                · have hz' : decide (0 < j) = false := decide_eq_false hz
                  go_wp2_with (first | (go_at_call 35; (with_reducible refine (isState_calls _ x.length ⟨w.heap.size + 1, 0, none⟩ _ ?s1 n0 n1).mono ?_); (case s1 => exact HH.out.st); rw [← HB.out]; rintro e w' ⟨rfl, ⟨nd, rfl⟩⟩))
                  go_roundw
                  case measure => simp [intOf]; omega
                  case rel =>
                    refine ⟨j + 1, by omega, by omega, by go_num, ⟨fun q hq => ?_⟩, by repeat (first | exact Drawn0.refl _ | apply Drawn0.step)⟩
                    obtain rfl : q = 0 := by omega
                    obtain rfl : j = 0 := by omega
                    unfold stepOk
                    have hb := HB.out
                    simp at hb
                    simp [← hb]
            · obtain rfl : j = (rdL y i).length := by omega
              go_wp2
              go_roundw
              case measure => simp [intOf]; omega
              case rel =>
                refine ⟨i + 1, by omega, by go_num, ⟨fun q hq => ?_⟩, by repeat (first | exact Drawn0.refl _ | apply Drawn0.step)⟩
                rcases Nat.lt_or_ge q i with h | h
                · exact HO2.out q h
                · obtain rfl : q = i := by omega
                  have hs := HO3.out
                  rw [Int.toNat_natCast] at hs
                  exact all_true hs
        · obtain rfl : i = y.length := by omega
          go_wp2
          go_ret
          exact ⟨by rw [res_true HRes.out HO.out HO2.out]; rfl, pw_below_drewN HH.out.below _⟩

/-- THE CONTRACT. -/
theorem vb_calls (a0 : Int) (A1 : Option Addr) (c1 : Nat) (x : List (List Int)) (A2 : Option Addr) (c2 : Nat) (y : List (List Int)) (w : World)
    (hr1 : Kd.C (Kd.slice 2 (Kd.int .i64)) w A1 x.length x) (hr2 : Kd.C (Kd.slice 2 (Kd.int .i64)) w A2 y.length y) :
    Calls Try.prog 15 #[.agg #[.int .i64 a0, .slice A1 x.length c1, .slice A2 y.length c2]] w fun e w' => e = .returned (.bool (vb a0 x y)) ∧ Below w.heap.size w w' := by
  have h1 := hr1.2.1
  have h2 := hr2.2.1
  unfold vb
  cases t1 : inB 1 4 x.length with
  | false => exact no1 a0 A1 c1 x A2 c2 y w h1 h2 t1
  | true =>
    cases t2 : inS x.length a0 with
    | false => exact no2 a0 A1 c1 x A2 c2 y w h1 h2 t1 t2
    | true =>
      cases t3 : ((y.length : Int) == 4) with
      | false => exact no3 a0 A1 c1 x A2 c2 y w h1 h2 t1 t2 t3
      | true =>
        simp only [Bool.true_and]
        exact yes a0 A1 c1 x A2 c2 y w hr1 hr2 t1 t2 t3
end Go.Proofs.Ytefoaikfpegggaa.ValidB
