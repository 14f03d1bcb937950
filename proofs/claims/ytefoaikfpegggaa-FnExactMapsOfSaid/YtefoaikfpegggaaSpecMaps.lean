/- What is proved: the contracts of the reference's MapProduct and MapsOf: they return what mp and mo say. Conditions: the bounds and their lists read as they are said to. -/
import Derived.Test.YtefoaikfpegggaaPureSpec
namespace Go.Proofs.Ytefoaikfpegggaa.SpecMaps
open Go.RowKit Go.Proofs.YtefoaikfpegggaaW.PrintWords Go.Proofs.YtefoaikfpegggaaW.PrintLast Go.Proofs.YtefoaikfpegggaaW.PrintMore Go.Proofs.Ytefoaikfpegggaa.Mine Go.Proofs.Ytefoaikfpegggaa.Closures Go.Proofs.Ytefoaikfpegggaa.ValidB Go.Proofs.Ytefoaikfpegggaa.SpecAll Go.Proofs.Ytefoaikfpegggaa.PureKit Go.Proofs.Ytefoaikfpegggaa.PureMaps Go.Proofs.Ytefoaikfpegggaa.PureSpec
attribute [local go_sem] max2_int min2_int max_two min_two max_three min_three max_four min_four
set_option linter.unusedVariables false
set_option linter.unusedSimpArgs false

/-- What l05All leaves: its box, and what its fields read as. -/
structure Found (W : World) (base g : Nat) (v0 v1 v2 : Value) (st : St) : Prop where
  box : W.heap[g]? = some (.cells #[v0, v1, v2] 62 (0, 0))
  words : Kd.R Kd.string 9 W base (fun k => base ≤ k) v0 st.2
  maps : Kd.N (Kd.slice 2 (Kd.int .i64)) 48 W base (fun k => base ≤ k ∧ some k ≠ v0.ownBlock) v1 st.1
def AllSome (x : List (List Int)) (w : World) (st : St) (e : Ending) (w' : World) : Prop :=
  ∃ (g : Nat) (v0 v1 v2 : Value), e = .returned (.tuple #[.pointer (some ⟨g, 0, none⟩), .int .i64 0]) ∧ Found w' w.heap.size g v0 v1 v2 st ∧ KeepBut w w' g none
theorem all_some {a : Int} {x y : List (List Int)} (V : Valid a x y) (s : Int) {st : St} (hf : fin x = some st) (g : Nat) (w0 w : World) (hI : IsS27 w0 w g s x y) (hB : Below w0.heap.size w0 w) :
    Calls Try.prog 43 #[.pointer (some ⟨g, 0, none⟩)] w fun e w' => ∃ (g_ : Nat) (v0 v1 v2 : Value), e = .returned (.tuple #[.pointer (some ⟨g_, 0, none⟩), .int .i64 0]) ∧ Found w' w.heap.size g_ v0 v1 v2 st ∧ Below w0.heap.size w0 w' := by
  rcases all_ev V s with ⟨st', hf', h⟩ | ⟨st', hf', h⟩
  · rw [hf] at hf'
    obtain rfl := Option.some.inj hf'
    obtain ⟨k, hk⟩ := h.rounds
    refine (spec_l05All.calls k g s x y _ _ _ _ w0 w hI hB hk).mono ?_
    rintro e w' ⟨g_, v0, v1, v2, rfl, hb, hg, hr, hn, hi, hbe, hke⟩
    exact ⟨g_, v0, v1, v2, rfl, ⟨hb, hr, hn⟩, hbe⟩
  · rw [hf] at hf'
    cases hf'
theorem all_none {a : Int} {x y : List (List Int)} (V : Valid a x y) (s : Int) (hf : fin x = none) (g : Nat) (w0 w : World) (hI : IsS27 w0 w g s x y) (hB : Below w0.heap.size w0 w) :
    Calls Try.prog 43 #[.pointer (some ⟨g, 0, none⟩)] w fun e w' => ∃ (g_ : Nat), e = .returned (.tuple #[.pointer (some ⟨g_, 0, none⟩), .int .i64 3]) ∧ Below w0.heap.size w0 w' := by
  rcases all_ev V s with ⟨st', hf', h⟩ | ⟨st', hf', h⟩
  · rw [hf] at hf'
    cases hf'
  · obtain ⟨k, hk⟩ := h.rounds
    refine (spec_l05All.calls k g s x y _ _ _ _ w0 w hI hB hk).mono ?_
    rintro e w' ⟨g_, v0, v1, v2, rfl, hb, hg, hr, hn, hi, hbe, hke⟩
    exact ⟨g_, rfl, hbe⟩

section
variable (a0 : Int) (A1 : Option Addr) (c1 : Nat) (x : List (List Int)) (A2 : Option Addr) (c2 : Nat) (y : List (List Int))
/-- The box of the bounds, and the world behind it. -/
theorem box_start (w : World) (hr1 : Kd.C (Kd.slice 2 (Kd.int .i64)) w A1 x.length x) (hr2 : Kd.C (Kd.slice 2 (Kd.int .i64)) w A2 y.length y) (m : Nat) :
    IsS27 w ((w.alloc (.cells #[.int .i64 a0, .slice A1 x.length c1, .slice A2 y.length c2] 27)).drewN m) w.heap.size a0 x y ∧ Below w.heap.size w ((w.alloc (.cells #[.int .i64 a0, .slice A1 x.length c1, .slice A2 y.length c2] 27)).drewN m) :=
  ⟨(IsS27.new w w A1 c1 A2 c2 a0 x y (Below.refl _ _) hr1 hr2).drewN m, pw_below_drewN (below_alloc (Below.refl _ _) _) m⟩

set_option maxHeartbeats 8000000 in
set_option maxRecDepth 100000 in
theorem mp_invalid (i k : Int) (w : World) (hr1 : Kd.C (Kd.slice 2 (Kd.int .i64)) w A1 x.length x) (hr2 : Kd.C (Kd.slice 2 (Kd.int .i64)) w A2 y.length y) (hv : vb a0 x y = false) :
    Calls Try.prog 20 #[.agg #[.int .i64 a0, .slice A1 x.length c1, .slice A2 y.length c2], .int .i64 i, .int .i64 k] w fun e w' => e = .returned (.tuple #[.int .i64 0, .int .i64 1]) ∧ Below w.heap.size w w' := by
  have hu27 := Try.underlying27
  have HB := Aside0.mk (SpecOk.bAt_box w (w.alloc (.cells #[.int .i64 a0, .slice A1 x.length c1, .slice A2 y.length c2] 27)) a0 A1 c1 x A2 c2 y w.heap.size (blk_new _ _) (below_alloc (Below.refl _ _) _) hr1 hr2)
  have HV := Aside0.mk hv
  clear hr1 hr2 hv
  go_enter Try.func20, Try.ntmps20
  go_wp2_with fail
  (with_reducible refine (SpecOk.l05Ok_calls w.heap.size a0 A1 c1 x A2 c2 y _ ?s0).mono ?_)
  case s0 => exact HB.out
  rw [HV.out]
  rintro e w' ⟨rfl, ⟨nd, rfl⟩⟩
  go_wp2_with fail
  go_ret2
  exact ⟨rfl, pw_below_drewN (below_alloc (Below.refl _ _) _) _⟩

set_option maxHeartbeats 8000000 in
set_option maxRecDepth 100000 in
theorem mp_limit (i k : Int) (w : World) (hr1 : Kd.C (Kd.slice 2 (Kd.int .i64)) w A1 x.length x) (hr2 : Kd.C (Kd.slice 2 (Kd.int .i64)) w A2 y.length y) (hv : vb a0 x y = true) (hf : fin x = none) :
    Calls Try.prog 20 #[.agg #[.int .i64 a0, .slice A1 x.length c1, .slice A2 y.length c2], .int .i64 i, .int .i64 k] w fun e w' => e = .returned (.tuple #[.int .i64 0, .int .i64 3]) ∧ Below w.heap.size w w' := by
  have hu27 := Try.underlying27
  have HB := Aside0.mk (SpecOk.bAt_box w (w.alloc (.cells #[.int .i64 a0, .slice A1 x.length c1, .slice A2 y.length c2] 27)) a0 A1 c1 x A2 c2 y w.heap.size (blk_new _ _) (below_alloc (Below.refl _ _) _) hr1 hr2)
  have HS := fun m => Aside0.mk (box_start a0 A1 c1 x A2 c2 y w hr1 hr2 m)
  have HV := Aside0.mk hv
  have HF := Aside0.mk hf
  clear hr1 hr2 hv hf
  go_enter Try.func20, Try.ntmps20
  go_wp2_with fail
  (with_reducible refine (SpecOk.l05Ok_calls w.heap.size a0 A1 c1 x A2 c2 y _ ?s0).mono ?_)
  case s0 => exact HB.out
  rw [HV.out]
  rintro e w' ⟨rfl, ⟨nd, rfl⟩⟩
  go_wp2_with fail
  (with_reducible refine (all_none (valid_of HV.out) a0 HF.out w.heap.size w _ ?s1 ?s2).mono ?_)
  case s1 => exact (HS nd).out.1
  case s2 => exact (HS nd).out.2
  rintro e w1 ⟨g_, rfl, hb1⟩
  have HB1 := Aside0.mk hb1
  clear hb1
  go_wp2_with fail
  go_ret2
  exact ⟨rfl, HB1.out⟩
/-- What the state that the search ends in is known by. -/
theorem st_of {a : Int} {x y : List (List Int)} (V : Valid a x y) {st : St} (hf : fin x = some st) : Inv x st ∧ st.1.length ≤ 40 := by
  rcases fin_cases (x := x) with ⟨i, hh, h1, hf2⟩ | ⟨i, hh, h1, h3, hf2⟩
  · rw [hf] at hf2
    obtain rfl := Option.some.inj hf2
    exact ⟨inv_rounds V i hh, (hd_le40 hh).2⟩
  · rw [hf] at hf2
    cases hf2
/-- The words' and the maps' rows, and the box. -/
theorem found_cells {W : World} {base g : Nat} {v0 v1 v2 : Value} {st : St} (h : Found W base g v0 v1 v2 st) :
    ∃ A0 c0 A1 c1, v0 = .slice A0 st.2.length c0 ∧ v1 = .slice A1 st.1.length c1 ∧ W.cell? ⟨g, 0, none⟩ = some (.slice A0 st.2.length c0) ∧ W.heap[g]? = some (.cells #[.slice A0 st.2.length c0, .slice A1 st.1.length c1, v2] 62 (0, 0)) ∧ Kd.C (Kd.slice 2 (Kd.int .i64)) W A1 st.1.length st.1 ∧ st.1.length ≤ c1 := by
  obtain ⟨A0, c0, rfl⟩ := Kd.R_slice h.words
  obtain ⟨A1, c1, rfl, hc, hC⟩ := Kd.N_reads h.maps
  exact ⟨A0, c0, A1, c1, rfl, rfl, (blk_cell h.box 0).trans rfl, h.box, hC, hc⟩

set_option maxHeartbeats 8000000 in
set_option maxRecDepth 100000 in
theorem mp_out1 (i k : Int) (w : World) (hr1 : Kd.C (Kd.slice 2 (Kd.int .i64)) w A1 x.length x) (hr2 : Kd.C (Kd.slice 2 (Kd.int .i64)) w A2 y.length y) (hv : vb a0 x y = true) {st : St} (hf : fin x = some st) (hi : inB 0 (st.2.length - 1) i = false) :
    Calls Try.prog 20 #[.agg #[.int .i64 a0, .slice A1 x.length c1, .slice A2 y.length c2], .int .i64 i, .int .i64 k] w fun e w' => e = .returned (.tuple #[.int .i64 0, .int .i64 2]) ∧ Below w.heap.size w w' := by
  have hu27 := Try.underlying27
  have HB := Aside0.mk (SpecOk.bAt_box w (w.alloc (.cells #[.int .i64 a0, .slice A1 x.length c1, .slice A2 y.length c2] 27)) a0 A1 c1 x A2 c2 y w.heap.size (blk_new _ _) (below_alloc (Below.refl _ _) _) hr1 hr2)
  have HS := fun m => Aside0.mk (box_start a0 A1 c1 x A2 c2 y w hr1 hr2 m)
  have HV := Aside0.mk hv
  have HF := Aside0.mk hf
  have HI := Aside0.mk hi
  have hL : st.2.length ≤ 40 := by have := st_of (valid_of hv) hf; rw [this.1.len]; exact this.2
  clear hr1 hr2 hv hf hi
  go_enter Try.func20, Try.ntmps20
  go_wp2_with fail
  (with_reducible refine (SpecOk.l05Ok_calls w.heap.size a0 A1 c1 x A2 c2 y _ ?s0).mono ?_)
  case s0 => exact HB.out
  rw [HV.out]
  rintro e w' ⟨rfl, ⟨nd, rfl⟩⟩
  go_wp2_with fail
  (with_reducible refine (all_some (valid_of HV.out) a0 HF.out w.heap.size w _ ?s1 ?s2).mono ?_)
  case s1 => exact (HS nd).out.1
  case s2 => exact (HS nd).out.2
  rintro e w1 ⟨g_, v0, v1, v2, rfl, hF, hb1⟩
  obtain ⟨B0, d0, B1, d1, rfl, rfl, hc0, hbox, hC, hd1⟩ := found_cells hF
  have HB1 := Aside0.mk hb1
  clear hb1 hF hbox hC hd1
  go_wp2_with fail
  (with_reducible refine (SpecOk.l00In_calls 0 (st.2.length - 1) i _).mono ?_)
  rw [HI.out]
  rintro e w' ⟨rfl, ⟨nd2, rfl⟩⟩
  go_wp2_with fail
  go_ret2
  exact ⟨rfl, pw_below_drewN HB1.out _⟩

set_option maxHeartbeats 8000000 in
set_option maxRecDepth 100000 in
theorem mp_out2 (i k : Int) (w : World) (hr1 : Kd.C (Kd.slice 2 (Kd.int .i64)) w A1 x.length x) (hr2 : Kd.C (Kd.slice 2 (Kd.int .i64)) w A2 y.length y) (hv : vb a0 x y = true) {st : St} (hf : fin x = some st) (hi : inB 0 (st.2.length - 1) i = true) (hk : inB 0 (st.2.length - 1) k = false) :
    Calls Try.prog 20 #[.agg #[.int .i64 a0, .slice A1 x.length c1, .slice A2 y.length c2], .int .i64 i, .int .i64 k] w fun e w' => e = .returned (.tuple #[.int .i64 0, .int .i64 2]) ∧ Below w.heap.size w w' := by
  have hu27 := Try.underlying27
  have HB := Aside0.mk (SpecOk.bAt_box w (w.alloc (.cells #[.int .i64 a0, .slice A1 x.length c1, .slice A2 y.length c2] 27)) a0 A1 c1 x A2 c2 y w.heap.size (blk_new _ _) (below_alloc (Below.refl _ _) _) hr1 hr2)
  have HS := fun m => Aside0.mk (box_start a0 A1 c1 x A2 c2 y w hr1 hr2 m)
  have HV := Aside0.mk hv
  have HF := Aside0.mk hf
  have HI := Aside0.mk hi
  have HJ := Aside0.mk hk
  have hL : st.2.length ≤ 40 := by have := st_of (valid_of hv) hf; rw [this.1.len]; exact this.2
  clear hr1 hr2 hv hf hi hk
  go_enter Try.func20, Try.ntmps20
  go_wp2_with fail
  (with_reducible refine (SpecOk.l05Ok_calls w.heap.size a0 A1 c1 x A2 c2 y _ ?s0).mono ?_)
  case s0 => exact HB.out
  rw [HV.out]
  rintro e w' ⟨rfl, ⟨nd, rfl⟩⟩
  go_wp2_with fail
  (with_reducible refine (all_some (valid_of HV.out) a0 HF.out w.heap.size w _ ?s1 ?s2).mono ?_)
  case s1 => exact (HS nd).out.1
  case s2 => exact (HS nd).out.2
  rintro e w1 ⟨g_, v0, v1, v2, rfl, hF, hb1⟩
  obtain ⟨B0, d0, B1, d1, rfl, rfl, hc0, hbox, hC, hd1⟩ := found_cells hF
  have HB1 := Aside0.mk hb1
  clear hb1 hF hbox hC hd1
  go_wp2_with fail
  (with_reducible refine (SpecOk.l00In_calls 0 (st.2.length - 1) i _).mono ?_)
  rw [HI.out]
  rintro e w' ⟨rfl, ⟨nd2, rfl⟩⟩
  go_wp2_with fail
  (with_reducible refine (SpecOk.l00In_calls 0 (st.2.length - 1) k _).mono ?_)
  rw [HJ.out]
  rintro e w' ⟨rfl, ⟨nd3, rfl⟩⟩
  go_wp2_with fail
  go_ret2
  exact ⟨rfl, pw_below_drewN HB1.out _⟩

set_option maxHeartbeats 8000000 in
set_option maxRecDepth 100000 in
theorem mp_in (i k : Int) (w : World) (hr1 : Kd.C (Kd.slice 2 (Kd.int .i64)) w A1 x.length x) (hr2 : Kd.C (Kd.slice 2 (Kd.int .i64)) w A2 y.length y) (hv : vb a0 x y = true) {st : St} (hf : fin x = some st) (hi : inB 0 (st.2.length - 1) i = true) (hk : inB 0 (st.2.length - 1) k = true) :
    Calls Try.prog 20 #[.agg #[.int .i64 a0, .slice A1 x.length c1, .slice A2 y.length c2], .int .i64 i, .int .i64 k] w fun e w' => e = .returned (.tuple #[.int .i64 (idx st.1 (prod (rdL st.1 i) (rdL st.1 k))), .int .i64 0]) ∧ Below w.heap.size w w' := by
  have hu27 := Try.underlying27
  have HB := Aside0.mk (SpecOk.bAt_box w (w.alloc (.cells #[.int .i64 a0, .slice A1 x.length c1, .slice A2 y.length c2] 27)) a0 A1 c1 x A2 c2 y w.heap.size (blk_new _ _) (below_alloc (Below.refl _ _) _) hr1 hr2)
  have HS := fun m => Aside0.mk (box_start a0 A1 c1 x A2 c2 y w hr1 hr2 m)
  have HV := Aside0.mk hv
  have HF := Aside0.mk hf
  have HI := Aside0.mk hi
  have HJ := Aside0.mk hk
  have hst := st_of (valid_of hv) hf
  have hL : st.2.length ≤ 40 := by rw [hst.1.len]; exact hst.2
  have HQ : Aside0 (∃ k_, spec_l05Maps_product.f k_ st.2 st.1 [] i k = some (idx st.1 (prod (rdL st.1 i) (rdL st.1 k)))) := by
    have h1 := inB_of hi
    have h2 := inB_of hk
    have h3 := hst.1.len
    exact ⟨(product_ev (valid_of hv) st hst.1 (by omega) st.2 [] (by omega) (by omega)).rounds⟩
  obtain ⟨res, hres⟩ : ∃ r, r = idx st.1 (prod (rdL st.1 i) (rdL st.1 k)) := ⟨_, rfl⟩
  rw [← hres] at HQ ⊢
  clear hr1 hr2 hv hf hi hk hst hres
  go_enter Try.func20, Try.ntmps20
  go_wp2_with fail
  (with_reducible refine (SpecOk.l05Ok_calls w.heap.size a0 A1 c1 x A2 c2 y _ ?s0).mono ?_)
  case s0 => exact HB.out
  rw [HV.out]
  rintro e w' ⟨rfl, ⟨nd, rfl⟩⟩
  go_wp2_with fail
  (with_reducible refine (all_some (valid_of HV.out) a0 HF.out w.heap.size w _ ?s1 ?s2).mono ?_)
  case s1 => exact (HS nd).out.1
  case s2 => exact (HS nd).out.2
  rintro e w1 ⟨g_, v0, v1, v2, rfl, hF, hb1⟩
  obtain ⟨B0, d0, B1, d1, rfl, rfl, hc0, hbox, hC, hd1⟩ := found_cells hF
  have HB1 := Aside0.mk hb1
  have HX := fun m => Aside0.mk (blk_drewN hbox m)
  have HC := fun m => Aside0.mk (Kd.C_drewN hC m)
  have HD := Aside0.mk hd1
  clear hb1 hF hbox hC hd1
  go_wp2_with fail
  (with_reducible refine (SpecOk.l00In_calls 0 (st.2.length - 1) i _).mono ?_)
  rw [HI.out]
  rintro e w' ⟨rfl, ⟨nd2, rfl⟩⟩
  go_wp2_with fail
  (with_reducible refine (SpecOk.l00In_calls 0 (st.2.length - 1) k _).mono ?_)
  rw [HJ.out]
  rintro e w' ⟨rfl, ⟨nd3, rfl⟩⟩
  go_wp2_with fail
  obtain ⟨q, hq⟩ := HQ.out
  (with_reducible refine (spec_l05Maps_product.calls q (.slice B0 st.2.length d0) v2 st.2 B1 d1 st.1 [] i k res _ g_ ?s3 ?s4 ?s5 hq).mono ?_)
  case s3 => first | exact (HX _).out | exact (blk_drewN (HX _).out _)
  case s4 => first | exact (HC _).out | exact (Kd.C_drewN (HC _).out _)
  case s5 => exact HD.out
  clear hq
  rintro e w2 ⟨rfl, hb2⟩
  have HB2 := Aside0.mk hb2
  clear hb2
  go_wp2_with fail
  go_ret2
  exact ⟨rfl, below_step (pw_below_drewN HB1.out _) HB2.out⟩

/-- THE CONTRACT of MapProduct. -/
theorem mp_calls (i k : Int) (w : World) (hr1 : Kd.C (Kd.slice 2 (Kd.int .i64)) w A1 x.length x) (hr2 : Kd.C (Kd.slice 2 (Kd.int .i64)) w A2 y.length y) :
    Calls Try.prog 20 #[.agg #[.int .i64 a0, .slice A1 x.length c1, .slice A2 y.length c2], .int .i64 i, .int .i64 k] w fun e w' => e = .returned (.tuple #[.int .i64 (mp a0 x y i k).1, .int .i64 (mp a0 x y i k).2]) ∧ Below w.heap.size w w' := by
  unfold mp
  cases hv : vb a0 x y with
  | false =>
    rw [if_neg (by decide)]
    exact mp_invalid a0 A1 c1 x A2 c2 y i k w hr1 hr2 hv
  | true =>
    rw [if_pos rfl]
    cases hf : fin x with
    | none => exact mp_limit a0 A1 c1 x A2 c2 y i k w hr1 hr2 hv hf
    | some st =>
      have e := (st_of (valid_of hv) hf).1.len
      simp only
      rw [← e]
      cases hi : inB 0 (st.2.length - 1) i with
      | false =>
        rw [if_neg (by decide)]
        exact mp_out1 a0 A1 c1 x A2 c2 y i k w hr1 hr2 hv hf hi
      | true =>
        rw [if_pos rfl]
        cases hk : inB 0 (st.2.length - 1) k with
        | false =>
          rw [if_neg (by decide)]
          exact mp_out2 a0 A1 c1 x A2 c2 y i k w hr1 hr2 hv hf hi hk
        | true =>
          rw [if_pos rfl]
          exact mp_in a0 A1 c1 x A2 c2 y i k w hr1 hr2 hv hf hi hk
end
end Go.Proofs.Ytefoaikfpegggaa.SpecMaps
