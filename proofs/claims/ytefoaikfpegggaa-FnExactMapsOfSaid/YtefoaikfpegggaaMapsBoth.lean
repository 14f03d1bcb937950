/- What is proved: the contracts of the reference's MapsOf and of the program's: both hand back a row of strings of their own that reads as mo says, and mo's code. Conditions: the bounds and their lists read as they are said to. -/
import Derived.Test.YtefoaikfpegggaaImplTimes
namespace Go.Proofs.Ytefoaikfpegggaa.MapsBoth
open Go.RowKit Go.Proofs.YtefoaikfpegggaaW.PrintWords Go.Proofs.YtefoaikfpegggaaW.PrintLast Go.Proofs.YtefoaikfpegggaaW.PrintMore Go.Proofs.Ytefoaikfpegggaa.Mine Go.Proofs.Ytefoaikfpegggaa.Closures Go.Proofs.Ytefoaikfpegggaa.ValidB Go.Proofs.Ytefoaikfpegggaa.SpecAll Go.Proofs.Ytefoaikfpegggaa.PureKit Go.Proofs.Ytefoaikfpegggaa.PureMaps Go.Proofs.Ytefoaikfpegggaa.PureSpec Go.Proofs.Ytefoaikfpegggaa.ImplSame Go.Proofs.Ytefoaikfpegggaa.MapKey Go.Proofs.Ytefoaikfpegggaa.ImplMonoid Go.Proofs.Ytefoaikfpegggaa.SpecMaps Go.Proofs.Ytefoaikfpegggaa.ImplTimes
attribute [local go_sem] max2_int min2_int max_two min_two max_three min_three max_four min_four
set_option linter.unusedVariables false
set_option linter.unusedSimpArgs false

/-- A row of strings of the call's own, and a code. -/
def MoPost (w : World) (l : List ByteArray) (c : Int) (e : Ending) (w' : World) : Prop :=
  ∃ v : Value, e = .returned (.tuple #[v, .int .i64 c]) ∧ Kd.R Kd.string 9 w' w.heap.size (fun _ => True) v l ∧ Below w.heap.size w w'

section
variable (a0 : Int) (A1 : Option Addr) (c1 : Nat) (x : List (List Int)) (A2 : Option Addr) (c2 : Nat) (y : List (List Int))
set_option maxHeartbeats 8000000 in
set_option maxRecDepth 100000 in
theorem smo_invalid (w : World) (hr1 : Kd.C (Kd.slice 2 (Kd.int .i64)) w A1 x.length x) (hr2 : Kd.C (Kd.slice 2 (Kd.int .i64)) w A2 y.length y) (hv : vb a0 x y = false) :
    Calls Try.prog 22 #[.agg #[.int .i64 a0, .slice A1 x.length c1, .slice A2 y.length c2]] w (MoPost w [] 1) := by
  have hu27 := Try.underlying27
  have HB := Aside0.mk (SpecOk.bAt_box w (w.alloc (.cells #[.int .i64 a0, .slice A1 x.length c1, .slice A2 y.length c2] 27)) a0 A1 c1 x A2 c2 y w.heap.size (blk_new _ _) (below_alloc (Below.refl _ _) _) hr1 hr2)
  have HS := fun m => Aside0.mk (box_start a0 A1 c1 x A2 c2 y w hr1 hr2 m)
  have HV := Aside0.mk hv
  clear hr1 hr2 hv
  go_enter Try.func22, Try.ntmps22
  go_wp2_with fail
  (with_reducible refine (SpecOk.l05Ok_calls w.heap.size a0 A1 c1 x A2 c2 y _ ?s0).mono ?_)
  case s0 => exact HB.out
  rw [HV.out]
  rintro e w' ⟨rfl, ⟨nd, rfl⟩⟩
  go_wp2_with (first | ((with_reducible refine gate_dst (N := 8) rfl ?_); refine Kd.R_lit Kd.string (w0 := w) w.heap.size 9 ?hg (N := 8) ?hd (xs := ([] : List ByteArray)) (inner := []) (ok := fun _ => True) (okp := fun _ => True) ?hr ?hp (fun _ hk => hk) trivial (HS nd).out.2 (HS nd).out.2.size (by simp) ?_; (case hd => rfl); (case hg => rfl); (case hr => first | (go_simp; done) | (go_simp; rfl)); (case hp => exact (Reps.none _ _)); intro v8 w3 ho hb hg_ hn_; have HR := Aside0.mk ho; have HB3 := Aside0.mk hb; clear ho hb hg_ hn_))
  go_ret2
  exact ⟨v8, rfl, HR.out, HB3.out⟩

set_option maxHeartbeats 8000000 in
set_option maxRecDepth 100000 in
theorem smo_limit (w : World) (hr1 : Kd.C (Kd.slice 2 (Kd.int .i64)) w A1 x.length x) (hr2 : Kd.C (Kd.slice 2 (Kd.int .i64)) w A2 y.length y) (hv : vb a0 x y = true) (hf : fin x = none) :
    Calls Try.prog 22 #[.agg #[.int .i64 a0, .slice A1 x.length c1, .slice A2 y.length c2]] w (MoPost w [] 3) := by
  have hu27 := Try.underlying27
  have HB := Aside0.mk (SpecOk.bAt_box w (w.alloc (.cells #[.int .i64 a0, .slice A1 x.length c1, .slice A2 y.length c2] 27)) a0 A1 c1 x A2 c2 y w.heap.size (blk_new _ _) (below_alloc (Below.refl _ _) _) hr1 hr2)
  have HS := fun m => Aside0.mk (box_start a0 A1 c1 x A2 c2 y w hr1 hr2 m)
  have HV := Aside0.mk hv
  have HF := Aside0.mk hf
  clear hr1 hr2 hv hf
  go_enter Try.func22, Try.ntmps22
  go_wp2_with fail
  (with_reducible refine (SpecOk.l05Ok_calls w.heap.size a0 A1 c1 x A2 c2 y _ ?s0).mono ?_)
  case s0 => exact HB.out
  rw [HV.out]
  rintro e w' ⟨rfl, ⟨nd, rfl⟩⟩
  go_wp2_with fail
  (with_reducible refine (all_none (valid_of HV.out) a0 HF.out w.heap.size w _ ?s1 ?s2).mono ?_)
  case s1 => exact (HS nd).out.1
  case s2 => exact (HS nd).out.2
  rintro e w1 ⟨g_, rfl, hb1⟩
  have HB1 := Aside0.mk hb1
  clear hb1
  go_wp2_with (first | ((with_reducible refine gate_dst (N := 15) rfl ?_); refine Kd.R_lit Kd.string (w0 := w) w.heap.size 9 ?hg (N := 15) ?hd (xs := ([] : List ByteArray)) (inner := []) (ok := fun _ => True) (okp := fun _ => True) ?hr ?hp (fun _ hk => hk) trivial HB1.out HB1.out.size (by simp) ?_; (case hd => rfl); (case hg => rfl); (case hr => first | (go_simp; done) | (go_simp; rfl)); (case hp => exact (Reps.none _ _)); intro v8 w3 ho hb hg_ hn_; have HR := Aside0.mk ho; have HB3 := Aside0.mk hb; clear ho hb hg_ hn_))
  go_ret2
  exact ⟨v8, rfl, HR.out, HB3.out⟩

set_option maxHeartbeats 8000000 in
set_option maxRecDepth 100000 in
theorem smo_some (w : World) (hr1 : Kd.C (Kd.slice 2 (Kd.int .i64)) w A1 x.length x) (hr2 : Kd.C (Kd.slice 2 (Kd.int .i64)) w A2 y.length y) (hv : vb a0 x y = true) {st : St} (hf : fin x = some st) :
    Calls Try.prog 22 #[.agg #[.int .i64 a0, .slice A1 x.length c1, .slice A2 y.length c2]] w (MoPost w st.2 0) := by
  have hu27 := Try.underlying27
  have HB := Aside0.mk (SpecOk.bAt_box w (w.alloc (.cells #[.int .i64 a0, .slice A1 x.length c1, .slice A2 y.length c2] 27)) a0 A1 c1 x A2 c2 y w.heap.size (blk_new _ _) (below_alloc (Below.refl _ _) _) hr1 hr2)
  have HS := fun m => Aside0.mk (box_start a0 A1 c1 x A2 c2 y w hr1 hr2 m)
  have HV := Aside0.mk hv
  have HF := Aside0.mk hf
  clear hr1 hr2 hv hf
  go_enter Try.func22, Try.ntmps22
  go_wp2_with fail
  (with_reducible refine (SpecOk.l05Ok_calls w.heap.size a0 A1 c1 x A2 c2 y _ ?s0).mono ?_)
  case s0 => exact HB.out
  rw [HV.out]
  rintro e w' ⟨rfl, ⟨nd, rfl⟩⟩
  go_wp2_with fail
  (with_reducible refine (all_some (valid_of HV.out) a0 HF.out w.heap.size w _ ?s1 ?s2).mono ?_)
  case s1 => exact (HS nd).out.1
  case s2 => exact (HS nd).out.2
  rintro e w1 ⟨g_, v0, v1, v2, rfl, hF, hb1⟩
  have HR := Aside0.mk (Kd.R_mono (Kd.R_lower hF.words (HS nd).out.2.size) (ok' := fun _ => True) (fun _ _ => trivial))
  obtain ⟨B0, d0, B1, d1, rfl, rfl, hc0, hbox, hC, hd1⟩ := found_cells hF
  have HB1 := Aside0.mk hb1
  clear hb1 hF hbox hC hd1
  go_wp2_with fail
  go_ret2
  exact ⟨_, rfl, HR.out, HB1.out⟩

/-- THE CONTRACT of the reference's MapsOf. -/
theorem smo_calls (w : World) (hr1 : Kd.C (Kd.slice 2 (Kd.int .i64)) w A1 x.length x) (hr2 : Kd.C (Kd.slice 2 (Kd.int .i64)) w A2 y.length y) :
    Calls Try.prog 22 #[.agg #[.int .i64 a0, .slice A1 x.length c1, .slice A2 y.length c2]] w (MoPost w (mo a0 x y).1 (mo a0 x y).2) := by
  unfold mo
  cases hv : vb a0 x y with
  | false =>
    rw [if_neg (by decide)]
    exact smo_invalid a0 A1 c1 x A2 c2 y w hr1 hr2 hv
  | true =>
    rw [if_pos rfl]
    cases hf : fin x with
    | none => exact smo_limit a0 A1 c1 x A2 c2 y w hr1 hr2 hv hf
    | some st => exact smo_some a0 A1 c1 x A2 c2 y w hr1 hr2 hv hf

set_option maxHeartbeats 8000000 in
set_option maxRecDepth 100000 in
theorem imo_invalid (w : World) (hr1 : Kd.C (Kd.slice 2 (Kd.int .i64)) w A1 x.length x) (hr2 : Kd.C (Kd.slice 2 (Kd.int .i64)) w A2 y.length y) (hv : vb a0 x y = false) :
    Calls Try.prog 23 #[.agg #[.int .i64 a0, .slice A1 x.length c1, .slice A2 y.length c2]] w (MoPost w [] 1) := by
  have hu27 := Try.underlying27
  have HR1 := fun o => Aside0.mk (Kd.C_alloc hr1 o)
  have HR2 := fun o => Aside0.mk (Kd.C_alloc hr2 o)
  have HS := fun (o : Obj) => Aside0.mk (below_alloc (Below.refl w.heap.size w) o)
  have HV := Aside0.mk hv
  clear hr1 hr2 hv
  go_enter Try.func23, Try.ntmps23
  go_wp2_with fail
  (with_reducible refine (vb_calls a0 A1 c1 x A2 c2 y _ ?s1 ?s2).mono ?_)
  case s1 => exact (HR1 _).out
  case s2 => exact (HR2 _).out
  rw [HV.out]
  rintro e w1 ⟨rfl, hb1⟩
  have HB := Aside0.mk (below_step (HS _).out hb1)
  clear hb1
  go_wp2_with fail
  go_ret2
  exact ⟨_, rfl, Kd.R_nil _ _ _ _ _, HB.out⟩

set_option maxHeartbeats 8000000 in
set_option maxRecDepth 100000 in
theorem imo_limit (w : World) (hr1 : Kd.C (Kd.slice 2 (Kd.int .i64)) w A1 x.length x) (hr2 : Kd.C (Kd.slice 2 (Kd.int .i64)) w A2 y.length y) (hv : vb a0 x y = true) (hf : fin x = none) :
    Calls Try.prog 23 #[.agg #[.int .i64 a0, .slice A1 x.length c1, .slice A2 y.length c2]] w (MoPost w [] 3) := by
  have hu27 := Try.underlying27
  have HR1 := fun o => Aside0.mk (Kd.C_alloc hr1 o)
  have HR2 := fun o => Aside0.mk (Kd.C_alloc hr2 o)
  have HS := fun (w1 : World) (hb) => Aside0.mk (begun_of a0 A1 c1 x A2 c2 y (w := w) (w1 := w1) hr1 hb)
  have HV := Aside0.mk hv
  have HF := Aside0.mk hf
  clear hr1 hr2 hv hf
  go_enter Try.func23, Try.ntmps23
  go_wp2_with fail
  (with_reducible refine (vb_calls a0 A1 c1 x A2 c2 y _ ?s1 ?s2).mono ?_)
  case s1 => exact (HR1 _).out
  case s2 => exact (HR2 _).out
  rw [HV.out]
  rintro e w1 ⟨rfl, hb1⟩
  have HB := HS w1 hb1
  clear hb1
  go_wp2_with fail
  (with_reducible refine (monoid_calls w.heap.size A1 c1 a0 x y w1 ?s1 ?s2 ?s3).mono ?_)
  case s1 => exact HB.out.cell
  case s2 => exact HB.out.row
  case s3 => exact valid_of HV.out
  rintro e w2 (⟨_, rfl, hb2⟩ | ⟨st, gm, gM, vm, vw, hf2, _⟩)
  · have HB2 := Aside0.mk (below_step HB.out.below hb2)
    clear hb2
    go_wp2_with fail
    go_ret2
    exact ⟨_, rfl, Kd.R_nil _ _ _ _ _, HB2.out⟩
  · rw [HF.out] at hf2
    cases hf2

set_option maxHeartbeats 8000000 in
set_option maxRecDepth 100000 in
theorem imo_some (w : World) (hr1 : Kd.C (Kd.slice 2 (Kd.int .i64)) w A1 x.length x) (hr2 : Kd.C (Kd.slice 2 (Kd.int .i64)) w A2 y.length y) (hv : vb a0 x y = true) {st : St} (hf : fin x = some st) :
    Calls Try.prog 23 #[.agg #[.int .i64 a0, .slice A1 x.length c1, .slice A2 y.length c2]] w (MoPost w st.2 0) := by
  have hu27 := Try.underlying27
  have HR1 := fun o => Aside0.mk (Kd.C_alloc hr1 o)
  have HR2 := fun o => Aside0.mk (Kd.C_alloc hr2 o)
  have HS := fun (w1 : World) (hb) => Aside0.mk (begun_of a0 A1 c1 x A2 c2 y (w := w) (w1 := w1) hr1 hb)
  have HV := Aside0.mk hv
  have HF := Aside0.mk hf
  have HSt := Aside0.mk (st_of (valid_of hv) hf)
  clear hr1 hr2 hv hf
  go_enter Try.func23, Try.ntmps23
  go_wp2_with fail
  (with_reducible refine (vb_calls a0 A1 c1 x A2 c2 y _ ?s1 ?s2).mono ?_)
  case s1 => exact (HR1 _).out
  case s2 => exact (HR2 _).out
  rw [HV.out]
  rintro e w1 ⟨rfl, hb1⟩
  have HB := HS w1 hb1
  clear hb1
  go_wp2_with fail
  (with_reducible refine (monoid_calls w.heap.size A1 c1 a0 x y w1 ?s1 ?s2 ?s3).mono ?_)
  case s1 => exact HB.out.cell
  case s2 => exact HB.out.row
  case s3 => exact valid_of HV.out
  rintro e w2 (⟨hf2, _⟩ | ⟨st2, gm, gM, vm, vw, hf2, rfl, hM, hb2⟩)
  · rw [HF.out] at hf2
    cases hf2
  · rw [HF.out] at hf2
    obtain rfl := Option.some.inj hf2
    clear hf2
    have HB2 := Aside0.mk (below_step HB.out.below hb2)
    have HR := Aside0.mk (Kd.R_lower hM.words HB.out.below.size)
    obtain ⟨Aw, cw, evw⟩ := Kd.R_slice HR.out
    subst evw
    have hc2 : w2.cell? ⟨gm, 2, none⟩ = some (.slice Aw st.2.length cw) := (blk_cell hM.box 2).trans rfl
    clear hb2 hM
    go_wp2_with fail
    go_ret2
    exact ⟨_, rfl, HR.out, HB2.out⟩

/-- THE CONTRACT of the program's MapsOf. -/
theorem imo_calls (w : World) (hr1 : Kd.C (Kd.slice 2 (Kd.int .i64)) w A1 x.length x) (hr2 : Kd.C (Kd.slice 2 (Kd.int .i64)) w A2 y.length y) :
    Calls Try.prog 23 #[.agg #[.int .i64 a0, .slice A1 x.length c1, .slice A2 y.length c2]] w (MoPost w (mo a0 x y).1 (mo a0 x y).2) := by
  unfold mo
  cases hv : vb a0 x y with
  | false =>
    rw [if_neg (by decide)]
    exact imo_invalid a0 A1 c1 x A2 c2 y w hr1 hr2 hv
  | true =>
    rw [if_pos rfl]
    cases hf : fin x with
    | none => exact imo_limit a0 A1 c1 x A2 c2 y w hr1 hr2 hv hf
    | some st => exact imo_some a0 A1 c1 x A2 c2 y w hr1 hr2 hv hf
end
/-- What mo's list is at most. -/
theorem mo_len (a0 : Int) (x y : List (List Int)) : (mo a0 x y).1.length ≤ 40 := by
  unfold mo
  cases hv : vb a0 x y with
  | false => rw [if_neg (by decide)]; simp
  | true =>
    rw [if_pos rfl]
    cases hf : fin x with
    | none => simp
    | some st =>
      have h := st_of (valid_of hv) hf
      simp only
      rw [h.1.len]
      exact h.2
end Go.Proofs.Ytefoaikfpegggaa.MapsBoth
