/- What is proved: the contracts of spec.l00In, spec.l00Rises and spec.l05Ok: the last returns vb of the bounds that it is handed a pointer to. Conditions: the bounds and their lists read as they are said to. -/
import Derived.Test.YtefoaikfpegggaaValidB
namespace Go.Proofs.Ytefoaikfpegggaa.SpecOk
open Go.RowKit Go.Proofs.YtefoaikfpegggaaW.PrintWords Go.Proofs.YtefoaikfpegggaaW.PrintLast Go.Proofs.YtefoaikfpegggaaW.PrintMore Go.Proofs.Ytefoaikfpegggaa.Mine Go.Proofs.Ytefoaikfpegggaa.Closures Go.Proofs.Ytefoaikfpegggaa.ValidB
attribute [local go_sem] max2_int min2_int max_two min_two max_three min_three max_four min_four
set_option linter.unusedVariables false
set_option linter.unusedSimpArgs false

set_option maxHeartbeats 8000000 in
set_option maxRecDepth 100000 in
theorem l00In_calls (lo hi s : Int) (w : World) : Calls Try.prog 39 #[.int .i64 s, .int .i64 lo, .int .i64 hi] w fun e w' => e = .returned (.bool (inB lo hi s)) ∧ Drawn0 w w' := by
  by_cases c4 : lo ≤ s
  · have c4b0 : decide (lo ≤ s) = true := decide_eq_true c4
    clear c4
    go_enter Try.func39, Try.ntmps39
    go_wp2
    go_ret
    exact ⟨by simp only [inB, c4b0, Bool.true_and]; rfl, by repeat (first | exact Drawn0.refl _ | apply Drawn0.step)⟩
  · have c4b0 : decide (lo ≤ s) = false := decide_eq_false c4
    clear c4
    go_enter Try.func39, Try.ntmps39
    go_wp2
    go_ret
    exact ⟨by simp only [inB, c4b0, Bool.false_and]; rfl, by repeat (first | exact Drawn0.refl _ | apply Drawn0.step)⟩

theorem inS_inB (n s : Int) : inB 0 (n - 1) s = inS n s := rfl

set_option maxHeartbeats 8000000 in
set_option maxRecDepth 100000 in
theorem rises_calls (A : Option Addr) (c : Nat) (l : List Int) (n : Int) (w : World) (hr : Kd.C (Kd.int .i64) w A l.length l) (n0 : 0 ≤ n) (n1 : n ≤ 9223372036854775807) :
    Calls Try.prog 54 #[.slice A l.length c, .int .i64 0, .int .i64 (n - 1)] w fun e w' => e = .returned (.bool (endOk n l)) ∧ Drawn0 w w' := by
  have HR := Aside0.mk hr
  have HL := hr.2.1
  clear hr
  obtain ⟨res, hres⟩ : ∃ b, b = endOk n l := ⟨_, rfl⟩
  rw [← hres]
  have HRes := Aside0.mk hres
  clear hres
  go_enter Try.func54, Try.ntmps54
  go_wp2
  repeat (go_quiet (fail); try go_wp2)
  go_loopw [7] (fun v w' => ∃ j : Int, 0 ≤ j ∧ j ≤ l.length ∧ v = .int .i64 j ∧ Aside0 (StepsTo n l j.toNat) ∧ Drawn0 w w') (fun v _ => l.length - (intOf v).toNat)
  case atStart => exact ⟨0, by omega, by omega, rfl, ⟨fun j hj => absurd hj (by simp)⟩, by repeat (first | exact Drawn0.refl _ | apply Drawn0.step)⟩
  case round =>
    obtain ⟨j, hj0, hj, rfl, HO, ⟨m, rfl⟩⟩ := hrel
    by_cases hlt : j < l.length
    · obtain ⟨ad2, ead2, hx2⟩ := Kd.at_int HR.out j hj0 hlt
      cases ead2
      obtain ⟨b, hb⟩ : ∃ b, b = inS n (rd l j) := ⟨_, rfl⟩
      have HB := Aside0.mk hb
      clear hb
      cases b with
      | false =>
        go_wp2_with (first | (go_at_call 39; (with_reducible refine (l00In_calls _ _ _ _).mono ?_); rw [inS_inB, ← HB.out]; rintro e w' ⟨rfl, ⟨nd, rfl⟩⟩; (try first | exact ⟨rfl, _, World.drewN_drewN _ _ _⟩ | exact ⟨rfl, _, Eq.trans (World.drewN_drewN _ _ _) (congrArg (World.drewN _) (Nat.add_assoc _ _ _))⟩)))
        repeat (go_quiet (first | (go_at_call 39; (with_reducible refine (l00In_calls _ _ _ _).mono ?_); rw [inS_inB, ← HB.out]; rintro e w' ⟨rfl, ⟨nd, rfl⟩⟩; (try first | exact ⟨rfl, _, World.drewN_drewN _ _ _⟩ | exact ⟨rfl, _, Eq.trans (World.drewN_drewN _ _ _) (congrArg (World.drewN _) (Nat.add_assoc _ _ _))⟩))); try go_wp2_with (first | (go_at_call 39; (with_reducible refine (l00In_calls _ _ _ _).mono ?_); rw [inS_inB, ← HB.out]; rintro e w' ⟨rfl, ⟨nd, rfl⟩⟩; (try first | exact ⟨rfl, _, World.drewN_drewN _ _ _⟩ | exact ⟨rfl, _, Eq.trans (World.drewN_drewN _ _ _) (congrArg (World.drewN _) (Nat.add_assoc _ _ _))⟩))))
        go_ret
        exact ⟨by rw [HRes.out, show endOk n l = false from all_false (i := j.toNat) (by omega) (by unfold stepOk; rw [Int.toNat_of_nonneg hj0, ← HB.out]; rfl)]; rfl, by repeat (first | exact Drawn0.refl _ | apply Drawn0.step)⟩
      | true =>
        by_cases hz : 0 < j
        · have hz' : decide (0 < j) = true := decide_eq_true hz
          obtain ⟨ad3, ead3, hx3⟩ := Kd.at_int HR.out (j - 1) (by omega) (by omega)
          cases ead3
          rw [show (j - 1).toNat = j.toNat - 1 by omega] at hx3
          by_cases hge : rd l (j - 1) < rd l j
          · have hge' : decide (rd l j ≤ rd l (j - 1)) = false := decide_eq_false (by omega)
            go_wp2_with (first | (go_at_call 39; (with_reducible refine (l00In_calls _ _ _ _).mono ?_); rw [inS_inB, ← HB.out]; rintro e w' ⟨rfl, ⟨nd, rfl⟩⟩; (try first | exact ⟨rfl, _, World.drewN_drewN _ _ _⟩ | exact ⟨rfl, _, Eq.trans (World.drewN_drewN _ _ _) (congrArg (World.drewN _) (Nat.add_assoc _ _ _))⟩)))
            repeat (go_quiet (first | (go_at_call 39; (with_reducible refine (l00In_calls _ _ _ _).mono ?_); rw [inS_inB, ← HB.out]; rintro e w' ⟨rfl, ⟨nd, rfl⟩⟩; (try first | exact ⟨rfl, _, World.drewN_drewN _ _ _⟩ | exact ⟨rfl, _, Eq.trans (World.drewN_drewN _ _ _) (congrArg (World.drewN _) (Nat.add_assoc _ _ _))⟩))); try go_wp2_with (first | (go_at_call 39; (with_reducible refine (l00In_calls _ _ _ _).mono ?_); rw [inS_inB, ← HB.out]; rintro e w' ⟨rfl, ⟨nd, rfl⟩⟩; (try first | exact ⟨rfl, _, World.drewN_drewN _ _ _⟩ | exact ⟨rfl, _, Eq.trans (World.drewN_drewN _ _ _) (congrArg (World.drewN _) (Nat.add_assoc _ _ _))⟩))))
            go_roundw
            case measure => simp [intOf]; omega
            case rel =>
              refine ⟨j + 1, by omega, by omega, by go_num, ⟨fun q hq => ?_⟩, by repeat (first | exact Drawn0.refl _ | apply Drawn0.step)⟩
              rcases Nat.lt_or_ge q j.toNat with h | h
              · exact HO.out q h
              · obtain rfl : q = j.toNat := by omega
                unfold stepOk
                rw [Int.toNat_of_nonneg hj0, ← HB.out, decide_eq_true hge]
                simp
          · have hge' : decide (rd l j ≤ rd l (j - 1)) = true := decide_eq_true (by omega)
            go_wp2_with (first | (go_at_call 39; (with_reducible refine (l00In_calls _ _ _ _).mono ?_); rw [inS_inB, ← HB.out]; rintro e w' ⟨rfl, ⟨nd, rfl⟩⟩; (try first | exact ⟨rfl, _, World.drewN_drewN _ _ _⟩ | exact ⟨rfl, _, Eq.trans (World.drewN_drewN _ _ _) (congrArg (World.drewN _) (Nat.add_assoc _ _ _))⟩)))
            repeat (go_quiet (first | (go_at_call 39; (with_reducible refine (l00In_calls _ _ _ _).mono ?_); rw [inS_inB, ← HB.out]; rintro e w' ⟨rfl, ⟨nd, rfl⟩⟩; (try first | exact ⟨rfl, _, World.drewN_drewN _ _ _⟩ | exact ⟨rfl, _, Eq.trans (World.drewN_drewN _ _ _) (congrArg (World.drewN _) (Nat.add_assoc _ _ _))⟩))); try go_wp2_with (first | (go_at_call 39; (with_reducible refine (l00In_calls _ _ _ _).mono ?_); rw [inS_inB, ← HB.out]; rintro e w' ⟨rfl, ⟨nd, rfl⟩⟩; (try first | exact ⟨rfl, _, World.drewN_drewN _ _ _⟩ | exact ⟨rfl, _, Eq.trans (World.drewN_drewN _ _ _) (congrArg (World.drewN _) (Nat.add_assoc _ _ _))⟩))))
            go_ret
            exact ⟨by rw [HRes.out, show endOk n l = false from all_false (i := j.toNat) (by omega) (by unfold stepOk; rw [Int.toNat_of_nonneg hj0, ← HB.out, decide_eq_false (by omega)]; simp; omega)]; rfl, by repeat (first | exact Drawn0.refl _ | apply Drawn0.step)⟩
        · have hz' : decide (0 < j) = false := decide_eq_false hz
          go_wp2_with (first | (go_at_call 39; (with_reducible refine (l00In_calls _ _ _ _).mono ?_); rw [inS_inB, ← HB.out]; rintro e w' ⟨rfl, ⟨nd, rfl⟩⟩; (try first | exact ⟨rfl, _, World.drewN_drewN _ _ _⟩ | exact ⟨rfl, _, Eq.trans (World.drewN_drewN _ _ _) (congrArg (World.drewN _) (Nat.add_assoc _ _ _))⟩)))
          repeat (go_quiet (first | (go_at_call 39; (with_reducible refine (l00In_calls _ _ _ _).mono ?_); rw [inS_inB, ← HB.out]; rintro e w' ⟨rfl, ⟨nd, rfl⟩⟩; (try first | exact ⟨rfl, _, World.drewN_drewN _ _ _⟩ | exact ⟨rfl, _, Eq.trans (World.drewN_drewN _ _ _) (congrArg (World.drewN _) (Nat.add_assoc _ _ _))⟩))); try go_wp2_with (first | (go_at_call 39; (with_reducible refine (l00In_calls _ _ _ _).mono ?_); rw [inS_inB, ← HB.out]; rintro e w' ⟨rfl, ⟨nd, rfl⟩⟩; (try first | exact ⟨rfl, _, World.drewN_drewN _ _ _⟩ | exact ⟨rfl, _, Eq.trans (World.drewN_drewN _ _ _) (congrArg (World.drewN _) (Nat.add_assoc _ _ _))⟩))))
          go_roundw
          case measure => simp [intOf]; omega
          case rel =>
            refine ⟨j + 1, by omega, by omega, by go_num, ⟨fun q hq => ?_⟩, by repeat (first | exact Drawn0.refl _ | apply Drawn0.step)⟩
            obtain rfl : q = 0 := by omega
            obtain rfl : j = 0 := by omega
            unfold stepOk
            have hb := HB.out
            simp at hb
            simp [← hb]
    · obtain rfl : j = l.length := by omega
      go_wp2
      repeat (go_quiet (fail); try go_wp2)
      go_ret
      have hs := HO.out
      rw [Int.toNat_natCast] at hs
      exact ⟨by rw [HRes.out, show endOk n l = true from all_true hs]; rfl, by repeat (first | exact Drawn0.refl _ | apply Drawn0.step)⟩

/-- What lies at block g: the bounds' three cells, and what their lists lead to. -/
structure BAt (W : World) (g : Nat) (a0 : Int) (A1 : Option Addr) (c1 : Nat) (x : List (List Int)) (A2 : Option Addr) (c2 : Nat) (y : List (List Int)) : Prop where
  start : W.cell? ⟨g, 0, none⟩ = some (.int .i64 a0)
  next : W.cell? ⟨g, 1, none⟩ = some (.slice A1 x.length c1)
  ends : W.cell? ⟨g, 2, none⟩ = some (.slice A2 y.length c2)
  nextC : Kd.C (Kd.slice 2 (Kd.int .i64)) W A1 x.length x
  endsC : Kd.C (Kd.slice 2 (Kd.int .i64)) W A2 y.length y

set_option maxHeartbeats 8000000 in
set_option maxRecDepth 100000 in
theorem okNo1 (g : Nat) (a0 : Int) (A1 : Option Addr) (c1 : Nat) (x : List (List Int)) (A2 : Option Addr) (c2 : Nat) (y : List (List Int)) (w : World) (hB : BAt w g a0 A1 c1 x A2 c2 y) (t1 : inB 1 4 x.length = false) :
    Calls Try.prog 34 #[.pointer (some ⟨g, 0, none⟩)] w fun e w' => e = .returned (.bool false) ∧ Drawn0 w w' := by
  obtain ⟨b0, b1, b2, hr1, hr2⟩ := hB
  have h1 := hr1.2.1
  have h2 := hr2.2.1
  clear hr1 hr2
  have HT1 := Aside0.mk t1
  clear t1
  go_enter Try.func34, Try.ntmps34
  go_wp2_with (first | (go_at_call 39; (with_reducible refine (l00In_calls 1 4 x.length _).mono ?_); rw [HT1.out]; rintro e w' ⟨rfl, ⟨nd, rfl⟩⟩))
  go_ret
  exact ⟨rfl, by repeat (first | exact Drawn0.refl _ | apply Drawn0.step)⟩

set_option maxHeartbeats 8000000 in
set_option maxRecDepth 100000 in
theorem okNo2 (g : Nat) (a0 : Int) (A1 : Option Addr) (c1 : Nat) (x : List (List Int)) (A2 : Option Addr) (c2 : Nat) (y : List (List Int)) (w : World) (hB : BAt w g a0 A1 c1 x A2 c2 y) (t1 : inB 1 4 x.length = true) (t2 : inS x.length a0 = false) :
    Calls Try.prog 34 #[.pointer (some ⟨g, 0, none⟩)] w fun e w' => e = .returned (.bool false) ∧ Drawn0 w w' := by
  obtain ⟨b0, b1, b2, hr1, hr2⟩ := hB
  have h1 := hr1.2.1
  have h2 := hr2.2.1
  clear hr1 hr2
  have HT1 := Aside0.mk t1
  have HT2 := Aside0.mk t2
  clear t1 t2
  go_enter Try.func34, Try.ntmps34
  go_wp2_with fail
  (with_reducible refine (l00In_calls 1 4 x.length _).mono ?_)
  rw [HT1.out]
  rintro e w' ⟨rfl, ⟨nd, rfl⟩⟩
  go_wp2_with fail
  (with_reducible refine (l00In_calls 0 (x.length - 1) a0 _).mono ?_)
  rw [inS_inB, HT2.out]
  rintro e w' ⟨rfl, ⟨nd2, rfl⟩⟩
  go_wp2_with fail
  go_ret
  exact ⟨rfl, by repeat (first | exact Drawn0.refl _ | apply Drawn0.step)⟩

set_option maxHeartbeats 8000000 in
set_option maxRecDepth 100000 in
theorem okNo3 (g : Nat) (a0 : Int) (A1 : Option Addr) (c1 : Nat) (x : List (List Int)) (A2 : Option Addr) (c2 : Nat) (y : List (List Int)) (w : World) (hB : BAt w g a0 A1 c1 x A2 c2 y) (t1 : inB 1 4 x.length = true) (t2 : inS x.length a0 = true) (t3 : ((y.length : Int) == 4) = false) :
    Calls Try.prog 34 #[.pointer (some ⟨g, 0, none⟩)] w fun e w' => e = .returned (.bool false) ∧ Drawn0 w w' := by
  obtain ⟨b0, b1, b2, hr1, hr2⟩ := hB
  have h1 := hr1.2.1
  have h2 := hr2.2.1
  clear hr1 hr2
  have HT1 := Aside0.mk t1
  have HT2 := Aside0.mk t2
  have t3' : ((y.length : Int) != 4) = true := by simp [bne, t3]
  clear t1 t2
  go_enter Try.func34, Try.ntmps34
  go_wp2_with fail
  (with_reducible refine (l00In_calls 1 4 x.length _).mono ?_)
  rw [HT1.out]
  rintro e w' ⟨rfl, ⟨nd, rfl⟩⟩
  go_wp2_with fail
  (with_reducible refine (l00In_calls 0 (x.length - 1) a0 _).mono ?_)
  rw [inS_inB, HT2.out]
  rintro e w' ⟨rfl, ⟨nd2, rfl⟩⟩
  go_wp2_with fail
  go_ret
  exact ⟨rfl, by repeat (first | exact Drawn0.refl _ | apply Drawn0.step)⟩

set_option maxHeartbeats 8000000 in
set_option maxRecDepth 100000 in
theorem okYes (g : Nat) (a0 : Int) (A1 : Option Addr) (c1 : Nat) (x : List (List Int)) (A2 : Option Addr) (c2 : Nat) (y : List (List Int)) (w : World) (hB : BAt w g a0 A1 c1 x A2 c2 y)
    (t1 : inB 1 4 x.length = true) (t2 : inS x.length a0 = true) (t3 : ((y.length : Int) == 4) = true) :
    Calls Try.prog 34 #[.pointer (some ⟨g, 0, none⟩)] w fun e w' => e = .returned (.bool ((List.range x.length).all (fun j => rowOk x.length (rdL x j)) && (List.range y.length).all (fun j => endOk x.length (rdL y j)))) ∧ Drawn0 w w' := by
  obtain ⟨b0, b1, b2, hr1, hr2⟩ := hB
  have h1 := hr1.2.1
  have h2 := hr2.2.1
  have hy4 : y.length = 4 := by have := eq_of_beq t3; omega
  have HY4 := Aside0.mk hy4
  clear hy4
  have HT1 := Aside0.mk t1
  have HT2 := Aside0.mk t2
  have t3' : ((y.length : Int) != 4) = false := by simp [bne, t3]
  clear t1 t2
  have HR1 := Aside0.mk hr1
  have HR2 := Aside0.mk hr2
  clear hr1 hr2
  obtain ⟨res, hres⟩ : ∃ b, b = ((List.range x.length).all (fun j => rowOk x.length (rdL x j)) && (List.range y.length).all (fun j => endOk x.length (rdL y j))) := ⟨_, rfl⟩
  rw [← hres]
  have HRes := Aside0.mk hres
  clear hres
  have n0 : (0 : Int) ≤ x.length := by omega
  have n1 : (x.length : Int) ≤ 9223372036854775807 := by omega
  go_enter Try.func34, Try.ntmps34
  go_wp2_with fail
  (with_reducible refine (l00In_calls 1 4 x.length _).mono ?_)
  rw [HT1.out]
  rintro e w' ⟨rfl, ⟨nd, rfl⟩⟩
  go_wp2_with fail
  (with_reducible refine (l00In_calls 0 (x.length - 1) a0 _).mono ?_)
  rw [inS_inB, HT2.out]
  rintro e w' ⟨rfl, ⟨nd2, rfl⟩⟩
  go_wp2_with fail
  go_loopw [4] (fun v w' => ∃ i : Nat, i ≤ x.length ∧ v = .int .i64 i ∧ Aside0 (RowsTo x i) ∧ Drawn0 w w') (fun v _ => x.length - (intOf v).toNat)
  case atStart => exact ⟨0, Nat.zero_le _, rfl, ⟨fun j hj => absurd hj (by omega)⟩, by repeat (first | exact Drawn0.refl _ | apply Drawn0.step)⟩
  case round =>
    obtain ⟨i, hi, rfl, HO, ⟨m, rfl⟩⟩ := hrel
    by_cases hlt : i < x.length
    · obtain ⟨ad, Ai, ci, ead, hx, hli, hri⟩ := at_L HR1.out i hlt
      cases ead
      have HRi := Aside0.mk hri
      have hlen := hri.2.1
      clear hri
      by_cases h4 : (((rdL x i).length : Int) == 4) = true
      · have h4' : (((rdL x i).length : Int) != 4) = false := by simp [bne, h4]
        have hn4 : (rdL x i).length = 4 := by have := eq_of_beq h4; omega
        have HN4 := Aside0.mk hn4
        clear hn4
        go_wp2_with fail
        go_loopw [5] (fun v w' => ∃ j : Int, 0 ≤ j ∧ j ≤ 4 ∧ v = .int .i64 j ∧ Aside0 (OkTo x.length (rdL x i) j.toNat) ∧ Drawn0 w w') (fun v _ => 4 - (intOf v).toNat)
        case atStart => exact ⟨0, by omega, by omega, rfl, ⟨fun j hj => absurd hj (by simp)⟩, by repeat (first | exact Drawn0.refl _ | apply Drawn0.step)⟩
        case round =>
          obtain ⟨j, hj0, hj, rfl, HO3, ⟨m3, rfl⟩⟩ := hrel
          by_cases hlt3 : j < 4
          · have hltn : j < (rdL x i).length := by rw [HN4.out]; omega
            obtain ⟨ad2, ead2, hx2⟩ := Kd.at_int HRi.out j hj0 hltn
            cases ead2
            obtain ⟨b, hb⟩ : ∃ b, b = inS x.length (rd (rdL x i) j) := ⟨_, rfl⟩
            have HB := Aside0.mk hb
            clear hb
            cases b with
            | false =>
              go_wp2_with (first | (go_at_call 39; (with_reducible refine (l00In_calls _ _ _ _).mono ?_); rw [inS_inB, ← HB.out]; rintro e w' ⟨rfl, ⟨nd, rfl⟩⟩))
              go_ret
              exact ⟨by rw [res_rows HRes.out hlt (by unfold rowOk; rw [any_true (i := j.toNat) (by omega) (by rw [Int.toNat_of_nonneg hj0]; exact HB.out.symm)]; simp)]; rfl, by repeat (first | exact Drawn0.refl _ | apply Drawn0.step)⟩
            | true =>
              go_wp2_with (first | (go_at_call 39; (with_reducible refine (l00In_calls _ _ _ _).mono ?_); rw [inS_inB, ← HB.out]; rintro e w' ⟨rfl, ⟨nd, rfl⟩⟩))
              go_roundw
              case measure => simp [intOf]; omega
              case rel =>
                refine ⟨j + 1, by omega, by omega, by go_num, ⟨fun q hq => ?_⟩, by repeat (first | exact Drawn0.refl _ | apply Drawn0.step)⟩
                rcases Nat.lt_or_ge q j.toNat with h | h
                · exact HO3.out q h
                · obtain rfl : q = j.toNat := by omega
                  rw [Int.toNat_of_nonneg hj0]
                  exact HB.out.symm
          · obtain rfl : j = 4 := by omega
            go_wp2_with fail
            go_roundw
            case measure => simp [intOf]; omega
            case rel =>
              refine ⟨i + 1, by omega, by go_num, ⟨fun q hq => ?_⟩, by repeat (first | exact Drawn0.refl _ | apply Drawn0.step)⟩
              rcases Nat.lt_or_ge q i with h | h
              · exact HO.out q h
              · obtain rfl : q = i := by omega
                unfold rowOk
                rw [h4, any_false (by rw [HN4.out]; exact HO3.out)]
                rfl
      · have h4' : (((rdL x i).length : Int) != 4) = true := by simpa [bne] using h4
        go_wp2_with fail
        go_ret
        exact ⟨by rw [res_rows HRes.out hlt (by unfold rowOk; rw [Bool.eq_false_iff.2 h4]; rfl)]; rfl, by repeat (first | exact Drawn0.refl _ | apply Drawn0.step)⟩
    · obtain rfl : i = x.length := by omega
      go_wp2_with fail
      go_loopw [6] (fun v w' => ∃ i : Nat, i ≤ 4 ∧ v = .int .i64 i ∧ Aside0 (EndsTo x.length y i) ∧ Drawn0 w w') (fun v _ => 4 - (intOf v).toNat)
      case atStart => exact ⟨0, Nat.zero_le _, rfl, ⟨fun j hj => absurd hj (by omega)⟩, by repeat (first | exact Drawn0.refl _ | apply Drawn0.step)⟩
      case round =>
        obtain ⟨i, hi2, rfl, HO2, ⟨m2, rfl⟩⟩ := hrel
        by_cases hlt2 : i < 4
        · have hlt5 : i < y.length := by rw [HY4.out]; exact hlt2
          obtain ⟨ad, Ai, ci, ead, hx, hli, hri⟩ := at_L HR2.out i hlt5
          cases ead
          have HRi := Aside0.mk hri
          have hlen := hri.2.1
          clear hri
          obtain ⟨b, hb⟩ : ∃ b, b = endOk x.length (rdL y i) := ⟨_, rfl⟩
          have HB := Aside0.mk hb
          clear hb
          cases b with
          | false =>
            go_wp2_with (first | (go_at_call 54; (with_reducible refine (rises_calls _ _ (rdL y i) x.length _ ?s0 n0 n1).mono ?_); (case s0 => exact HRi.out); rw [← HB.out]; rintro e w' ⟨rfl, ⟨nd, rfl⟩⟩))
            go_ret
            exact ⟨by rw [HRes.out, all_false (p := fun j : Nat => endOk x.length (rdL y j)) hlt5 HB.out.symm, Bool.and_false]; rfl, by repeat (first | exact Drawn0.refl _ | apply Drawn0.step)⟩
          | true =>
            go_wp2_with (first | (go_at_call 54; (with_reducible refine (rises_calls _ _ (rdL y i) x.length _ ?s0 n0 n1).mono ?_); (case s0 => exact HRi.out); rw [← HB.out]; rintro e w' ⟨rfl, ⟨nd, rfl⟩⟩))
            go_roundw
            case measure => simp [intOf]; omega
            case rel =>
              refine ⟨i + 1, by omega, by go_num, ⟨fun q hq => ?_⟩, by repeat (first | exact Drawn0.refl _ | apply Drawn0.step)⟩
              rcases Nat.lt_or_ge q i with h | h
              · exact HO2.out q h
              · obtain rfl : q = i := by omega
                exact HB.out.symm
        · obtain rfl : i = 4 := by omega
          go_wp2_with fail
          go_ret
          exact ⟨by rw [res_true HRes.out HO.out (by rw [HY4.out]; exact HO2.out)]; rfl, by repeat (first | exact Drawn0.refl _ | apply Drawn0.step)⟩

/-- THE CONTRACT. -/
theorem l05Ok_calls (g : Nat) (a0 : Int) (A1 : Option Addr) (c1 : Nat) (x : List (List Int)) (A2 : Option Addr) (c2 : Nat) (y : List (List Int)) (w : World) (hB : BAt w g a0 A1 c1 x A2 c2 y) :
    Calls Try.prog 34 #[.pointer (some ⟨g, 0, none⟩)] w fun e w' => e = .returned (.bool (vb a0 x y)) ∧ Drawn0 w w' := by
  unfold vb
  cases t1 : inB 1 4 x.length with
  | false => exact okNo1 g a0 A1 c1 x A2 c2 y w hB t1
  | true =>
    cases t2 : inS x.length a0 with
    | false => exact okNo2 g a0 A1 c1 x A2 c2 y w hB t1 t2
    | true =>
      cases t3 : ((y.length : Int) == 4) with
      | false => exact okNo3 g a0 A1 c1 x A2 c2 y w hB t1 t2 t3
      | true =>
        simp only [Bool.true_and]
        exact okYes g a0 A1 c1 x A2 c2 y w hB t1 t2 t3

/-- Bounds that have just been laid at a block. -/
theorem bAt_box (w W : World) (a0 : Int) (A1 : Option Addr) (c1 : Nat) (x : List (List Int)) (A2 : Option Addr) (c2 : Nat) (y : List (List Int)) (g : Nat)
    (hb : W.heap[g]? = some (.cells #[.int .i64 a0, .slice A1 x.length c1, .slice A2 y.length c2] 27 (0, 0))) (hB : Below w.heap.size w W)
    (hr1 : Kd.C (Kd.slice 2 (Kd.int .i64)) w A1 x.length x) (hr2 : Kd.C (Kd.slice 2 (Kd.int .i64)) w A2 y.length y) : BAt W g a0 A1 c1 x A2 c2 y where
  start := (blk_cell hb 0).trans rfl
  next := (blk_cell hb 1).trans rfl
  ends := (blk_cell hb 2).trans rfl
  nextC := Kd.C_below hr1 hB
  endsC := Kd.C_below hr2 hB
theorem bAt_drewN {W : World} {g : Nat} {a0 : Int} {A1 : Option Addr} {c1 : Nat} {x : List (List Int)} {A2 : Option Addr} {c2 : Nat} {y : List (List Int)} (h : BAt W g a0 A1 c1 x A2 c2 y) (m : Nat) : BAt (W.drewN m) g a0 A1 c1 x A2 c2 y :=
  ⟨h.start, h.next, h.ends, h.nextC, h.endsC⟩

set_option maxHeartbeats 8000000 in
set_option maxRecDepth 100000 in
theorem valid_calls (a0 : Int) (A1 : Option Addr) (c1 : Nat) (x : List (List Int)) (A2 : Option Addr) (c2 : Nat) (y : List (List Int)) (w : World)
    (hr1 : Kd.C (Kd.slice 2 (Kd.int .i64)) w A1 x.length x) (hr2 : Kd.C (Kd.slice 2 (Kd.int .i64)) w A2 y.length y) :
    Calls Try.prog 14 #[.agg #[.int .i64 a0, .slice A1 x.length c1, .slice A2 y.length c2]] w fun e w' => e = .returned (.bool (vb a0 x y)) ∧ Below w.heap.size w w' := by
  have hu27 := Try.underlying27
  have HB := Aside0.mk (bAt_box w (w.alloc (.cells #[.int .i64 a0, .slice A1 x.length c1, .slice A2 y.length c2] 27)) a0 A1 c1 x A2 c2 y w.heap.size (blk_new _ _) (below_alloc (Below.refl _ _) _) hr1 hr2)
  clear hr1 hr2
  go_enter Try.func14, Try.ntmps14
  go_wp2_with (first | (go_at_call 34; (with_reducible refine (l05Ok_calls w.heap.size a0 A1 c1 x A2 c2 y _ ?s0).mono ?_); (case s0 => exact HB.out); rintro e w' ⟨rfl, ⟨nd, rfl⟩⟩))
  go_ret
  exact ⟨rfl, pw_below_drewN (below_alloc (Below.refl _ _) _) _⟩
end Go.Proofs.Ytefoaikfpegggaa.SpecOk
