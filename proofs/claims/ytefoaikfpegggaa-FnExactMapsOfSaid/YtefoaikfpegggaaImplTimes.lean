/- What is proved: the contracts of impl.monoid.has and times, and of impl.MapProduct and MapsOf: they return what mp and mo say. Conditions: the bounds and their lists read as they are said to. -/
import Derived.Test.YtefoaikfpegggaaImplMonoid
import Derived.Test.YtefoaikfpegggaaSpecMaps
import Derived.BigRegion
namespace Go.Proofs.Ytefoaikfpegggaa.ImplTimes
open Go.RowKit Go.Proofs.YtefoaikfpegggaaW.PrintWords Go.Proofs.YtefoaikfpegggaaW.PrintLast Go.Proofs.YtefoaikfpegggaaW.PrintMore Go.Proofs.Ytefoaikfpegggaa.Mine Go.Proofs.Ytefoaikfpegggaa.Closures Go.Proofs.Ytefoaikfpegggaa.ValidB Go.Proofs.Ytefoaikfpegggaa.SpecAll Go.Proofs.Ytefoaikfpegggaa.PureKit Go.Proofs.Ytefoaikfpegggaa.PureMaps Go.Proofs.Ytefoaikfpegggaa.PureSpec Go.Proofs.Ytefoaikfpegggaa.ImplSame Go.Proofs.Ytefoaikfpegggaa.MapKey Go.Proofs.Ytefoaikfpegggaa.ImplMonoid
attribute [local go_sem] max2_int min2_int max_two min_two max_three min_three max_four min_four
set_option linter.unusedVariables false
set_option linter.unusedSimpArgs false

theorem prod_rd {m k : List Int} {i : Nat} (h : i < m.length) : rd (prod m k) i = rd k (rd m i) := by
  simp [rd, prod, List.getD_eq_getElem?_getD, List.getElem?_eq_getElem h]

set_option maxHeartbeats 8000000 in
set_option maxRecDepth 100000 in
theorem times_calls (B g gm gM : Nat) (vm vw : Value) (A1 : Option Addr) (c1 : Nat) (a : Int) (x y : List (List Int)) (st : St) (w : World) (V : Valid a x y) (hI : Inv x st) (h40 : st.1.length ≤ 40) (hM : Mon x B g gm gM vm vw w st) (hg : w.cell? ⟨g, 1, none⟩ = some (.slice A1 x.length c1))
    (p q : Nat) (hp : p < st.1.length) (hq : q < st.1.length) (hmem : prod (rdL st.1 p) (rdL st.1 q) ∈ st.1) :
    Calls Try.prog 47 #[.pointer (some ⟨gm, 0, none⟩), .int .i64 p, .int .i64 q] w fun e w' => e = .returned (.int .i64 (idx st.1 (prod (rdL st.1 p) (rdL st.1 q)))) ∧ Below w.heap.size w w' := by
  have h1 := V.len.1
  have h4 := V.len.2
  obtain ⟨gr, cr, evm⟩ := R_slice' hM.maps hI.pos
  subst evm
  obtain ⟨mp, hmp⟩ : ∃ m, m = rdL st.1 p := ⟨_, rfl⟩
  obtain ⟨mq, hmq⟩ : ∃ m, m = rdL st.1 q := ⟨_, rfl⟩
  have HGp := Aside0.mk (show PureMaps.Good x mp from hmp ▸ hI.good _ (rdL_mem (by omega) (by omega)))
  have HGq := Aside0.mk (show PureMaps.Good x mq from hmq ▸ hI.good _ (rdL_mem (by omega) (by omega)))
  have hrow : ∀ (r : Nat) (m : List Int), r < st.1.length → m = rdL st.1 r → ∀ c : Nat, c < 4 → w.cell? ⟨gr, r * 4 + c, none⟩ = some (.int .i64 (rd m c)) := by
    intro r m hr hm c hc
    obtain ⟨ad, e, hq⟩ := at_K4 (Kd.R_reads' hM.maps).2.2 (r : Int) (by omega) (by omega)
    cases e
    have h := hq c hc
    rw [add_plain, Int.toNat_natCast, ← hm] at h
    exact h
  have HRp := Aside0.mk (hrow p mp hp hmp)
  have HRq := Aside0.mk (hrow q mq hq hmq)
  rw [← hmp, ← hmq] at hmem ⊢
  obtain ⟨pr, hpr⟩ : ∃ m, m = prod mp mq := ⟨_, rfl⟩
  rw [← hpr] at hmem ⊢
  obtain ⟨res, hres⟩ : ∃ r, r = idx st.1 pr := ⟨_, rfl⟩
  rw [← hres]
  have HPr := Aside0.mk hpr
  have HRes := Aside0.mk hres
  have HMem := Aside0.mk hmem
  have HI := Aside0.mk hI
  have HM := Aside0.mk hM
  have HG := Aside0.mk hg
  clear hrow hmp hmq hpr hres hmem hI hM hg V
  have hB0 : Below w.heap.size w (w.alloc z4) := below_alloc (Below.refl _ _) _
  have S0 := Aside0.mk hB0
  have S1 := Aside0.mk (show (w.alloc z4).heap[w.heap.size]? = some z4 from blk_new _ _)
  have hc0 : (w.alloc z4).cell? ⟨gm, 0, none⟩ = some (.pointer (some ⟨g, 0, none⟩)) := pw_cell_below hB0 ((blk_cell HM.out.box 0).trans rfl)
  have hg2 : (w.alloc z4).cell? ⟨g, 1, none⟩ = some (.slice A1 x.length c1) := pw_cell_below hB0 HG.out
  unfold z4 at hc0 hg2 S0 S1
  clear hB0
  go_enter Try.func47, Try.ntmps47
  go_wp2_with fail
  go_loopw [18] (fun v wr => ∃ i : Nat, i ≤ x.length ∧ v = .int .i64 i ∧ Aside0 (wr.heap[w.heap.size]? = some (.cells (c4 (sf pr [] i)) 80 (0, 0))) ∧ Aside0 (Below w.heap.size w wr)) (fun v _ => x.length - (intOf v).toNat)
  case atStart => exact ⟨0, Nat.zero_le _, rfl, ⟨S1.out⟩, ⟨S0.out⟩⟩
  case round =>
    clear hc0 hg2 S0 S1
    obtain ⟨i, hi, rfl, H3, HB⟩ := hrel
    by_cases hlt : i < x.length
    · have hi4 : i < 4 := by omega
      have him : i < mp.length := by rw [HGp.out.len]; exact hlt
      have hvr := HGp.out.ran _ (rd_mem (m := mp) (i := (i : Int)) (by omega) (by omega))
      obtain ⟨v, hv⟩ : ∃ v : Nat, (v : Int) = rd mp i := ⟨(rd mp i).toNat, by omega⟩
      have hv4 : v < 4 := by omega
      have ha : wr.cell? ⟨gr, p * 4 + i, none⟩ = some (.int .i64 (v : Int)) := by rw [hv]; exact pw_cell_below HB.out (HRp.out i hi4)
      have hb : wr.cell? ⟨gr, q * 4 + v, none⟩ = some (.int .i64 (rd mq v)) := pw_cell_below HB.out (HRq.out v hv4)
      have HE := Aside0.mk (show rd mq v = rd pr i by rw [HPr.out, prod_rd him, hv])
      clear hv hvr
      have hx : wr.cell? ⟨w.heap.size, i, none⟩ = some (.int .i64 (sf pr [] i i)) := (blk_cell H3.out i).trans (c4_get _ hi4)
      have hf := blk_frozen H3.out i
      have hm1 : wr.cell? ⟨gm, 1, none⟩ = some (.slice (some ⟨gr, 0, none⟩) st.1.length cr) := pw_cell_below HB.out ((blk_cell HM.out.box 1).trans rfl)
      go_wp2_with fail
      go_region
      go_wp2_with fail
      go_roundw
      case measure => simp [intOf]; omega
      case rel => exact ⟨i + 1, by omega, by go_num, ⟨by first | exact blk_drew (blk_put H3.out i _ (c4_set _ _ hi4 HE.out)) | exact blk_put (blk_drew H3.out) i _ (c4_set _ _ hi4 HE.out)⟩, ⟨by first | exact below_drew1 (HB.out.setCell (Nat.le_refl _) _) | exact (below_drew1 HB.out).setCell (Nat.le_refl _) _⟩⟩
    · obtain rfl : i = x.length := by omega
      have h3 := H3.out
      rw [c4_end (n := x.length) (by rw [HPr.out]; simp [prod, HGp.out.len]) (by simp)] at h3
      have hx0 : wr.cell? ⟨w.heap.size, 0, none⟩ = some (.int .i64 (rd pr 0)) := (blk_cell h3 0).trans rfl
      have hx1 : wr.cell? ⟨w.heap.size, 1, none⟩ = some (.int .i64 (rd pr 1)) := (blk_cell h3 1).trans rfl
      have hx2 : wr.cell? ⟨w.heap.size, 2, none⟩ = some (.int .i64 (rd pr 2)) := (blk_cell h3 2).trans rfl
      have hx3 : wr.cell? ⟨w.heap.size, 3, none⟩ = some (.int .i64 (rd pr 3)) := (blk_cell h3 3).trans rfl
      have hc3 : wr.cell? ⟨gm, 3, none⟩ = some (.map (some gM)) := pw_cell_below HB.out ((blk_cell HM.out.box 3).trans rfl)
      obtain ⟨D, hD, hDok⟩ := (HM.out.below HB.out).map
      have hrun := look_at h4 hD hDok HI.out.nodup (HI.out.good _ HMem.out) HMem.out
      rw [← HRes.out] at hrun
      clear h3 hD hDok
      go_wp2_with fail
      go_quiet (fail)
      go_wp2_with fail
      go_ret
      exact ⟨rfl, pw_below_drewN HB.out _⟩

set_option maxHeartbeats 8000000 in
set_option maxRecDepth 100000 in
theorem has_calls (gm : Nat) (A : Option Addr) (n c : Nat) (i : Int) (w : World) (hc : w.cell? ⟨gm, 1, none⟩ = some (.slice A n c)) (hn : n ≤ 40) :
    Calls Try.prog 46 #[.pointer (some ⟨gm, 0, none⟩), .int .i64 i] w fun e w' => e = .returned (.bool (inB 0 (n - 1) i)) ∧ Drawn0 w w' := by
  obtain ⟨b, hb⟩ : ∃ b, b = inB 0 (n - 1) i := ⟨_, rfl⟩
  have HB := Aside0.mk hb
  rw [← hb]
  clear hb
  go_enter Try.func46, Try.ntmps46
  go_wp2_with fail
  (with_reducible refine (inB_calls 0 (n - 1) i _).mono ?_)
  rw [← HB.out]
  rintro e w' ⟨rfl, ⟨nd, rfl⟩⟩
  go_wp2_with fail
  go_ret
  exact ⟨rfl, by repeat (first | exact Drawn0.refl _ | apply Drawn0.step)⟩

section
variable (a0 : Int) (A1 : Option Addr) (c1 : Nat) (x : List (List Int)) (A2 : Option Addr) (c2 : Nat) (y : List (List Int))
/-- What stands when the search begins: the box of the bounds. -/
structure Begun (w w1 : World) (gb : Nat) : Prop where
  below : Below w.heap.size w w1
  cell : w1.cell? ⟨gb, 1, none⟩ = some (.slice A1 x.length c1)
  row : Kd.C (Kd.slice 2 (Kd.int .i64)) w1 A1 x.length x
theorem begun_of {w w1 : World} (hr1 : Kd.C (Kd.slice 2 (Kd.int .i64)) w A1 x.length x) (hb : Below (w.alloc (.cells #[.int .i64 a0, .slice A1 x.length c1, .slice A2 y.length c2] 27)).heap.size (w.alloc (.cells #[.int .i64 a0, .slice A1 x.length c1, .slice A2 y.length c2] 27)) w1) : Begun A1 c1 x w w1 w.heap.size :=
  have h0 : Below w.heap.size w (w.alloc (.cells #[.int .i64 a0, .slice A1 x.length c1, .slice A2 y.length c2] 27)) := below_alloc (Below.refl _ _) _
  ⟨below_step h0 hb, (blk_cell (blk_below (blk_new w _) hb) 1).trans rfl, Kd.C_below hr1 (below_step h0 hb)⟩

set_option maxHeartbeats 8000000 in
set_option maxRecDepth 100000 in
theorem mp_invalid (i k : Int) (w : World) (hr1 : Kd.C (Kd.slice 2 (Kd.int .i64)) w A1 x.length x) (hr2 : Kd.C (Kd.slice 2 (Kd.int .i64)) w A2 y.length y) (hv : vb a0 x y = false) :
    Calls Try.prog 21 #[.agg #[.int .i64 a0, .slice A1 x.length c1, .slice A2 y.length c2], .int .i64 i, .int .i64 k] w fun e w' => e = .returned (.tuple #[.int .i64 0, .int .i64 1]) ∧ Below w.heap.size w w' := by
  have hu27 := Try.underlying27
  have HR1 := fun o => Aside0.mk (Kd.C_alloc hr1 o)
  have HR2 := fun o => Aside0.mk (Kd.C_alloc hr2 o)
  have HS := fun (o : Obj) => Aside0.mk (below_alloc (Below.refl w.heap.size w) o)
  have HV := Aside0.mk hv
  clear hr1 hr2 hv
  go_enter Try.func21, Try.ntmps21
  go_wp2_with fail
  (with_reducible refine (vb_calls a0 A1 c1 x A2 c2 y _ ?s1 ?s2).mono ?_)
  case s1 => exact (HR1 _).out
  case s2 => exact (HR2 _).out
  rw [HV.out]
  rintro e w1 ⟨rfl, hb1⟩
  have HB := Aside0.mk (below_step (HS _).out hb1)
  clear hb1
  go_wp2_with fail
  go_ret2
  exact ⟨rfl, HB.out⟩

set_option maxHeartbeats 8000000 in
set_option maxRecDepth 100000 in
theorem mp_limit (i k : Int) (w : World) (hr1 : Kd.C (Kd.slice 2 (Kd.int .i64)) w A1 x.length x) (hr2 : Kd.C (Kd.slice 2 (Kd.int .i64)) w A2 y.length y) (hv : vb a0 x y = true) (hf : fin x = none) :
    Calls Try.prog 21 #[.agg #[.int .i64 a0, .slice A1 x.length c1, .slice A2 y.length c2], .int .i64 i, .int .i64 k] w fun e w' => e = .returned (.tuple #[.int .i64 0, .int .i64 3]) ∧ Below w.heap.size w w' := by
  have hu27 := Try.underlying27
  have HR1 := fun o => Aside0.mk (Kd.C_alloc hr1 o)
  have HR2 := fun o => Aside0.mk (Kd.C_alloc hr2 o)
  have HS := fun (w1 : World) (hb) => Aside0.mk (begun_of a0 A1 c1 x A2 c2 y (w := w) (w1 := w1) hr1 hb)
  have HV := Aside0.mk hv
  have HF := Aside0.mk hf
  clear hr1 hr2 hv hf
  go_enter Try.func21, Try.ntmps21
  go_wp2_with fail
  (with_reducible refine (vb_calls a0 A1 c1 x A2 c2 y _ ?s1 ?s2).mono ?_)
  case s1 => exact (HR1 _).out
  case s2 => exact (HR2 _).out
  rw [HV.out]
  rintro e w1 ⟨rfl, hb1⟩
  have HB := HS w1 hb1
  clear hb1
  go_wp2_with fail
  (with_reducible refine (monoid_calls w.heap.size A1 c1 a0 x y w1 ?s1 ?s2 ?s3).mono ?_)
  case s1 => exact HB.out.cell
  case s2 => exact HB.out.row
  case s3 => exact valid_of HV.out
  rintro e w2 (⟨_, rfl, hb2⟩ | ⟨st, gm, gM, vm, vw, hf2, _⟩)
  · have HB2 := Aside0.mk (below_step HB.out.below hb2)
    clear hb2
    go_wp2_with fail
    go_ret2
    exact ⟨rfl, HB2.out⟩
  · rw [HF.out] at hf2
    cases hf2

set_option maxHeartbeats 8000000 in
set_option maxRecDepth 100000 in
theorem mp_out1 (i k : Int) (w : World) (hr1 : Kd.C (Kd.slice 2 (Kd.int .i64)) w A1 x.length x) (hr2 : Kd.C (Kd.slice 2 (Kd.int .i64)) w A2 y.length y) (hv : vb a0 x y = true) {st : St} (hf : fin x = some st) (hi : inB 0 (st.1.length - 1) i = false) :
    Calls Try.prog 21 #[.agg #[.int .i64 a0, .slice A1 x.length c1, .slice A2 y.length c2], .int .i64 i, .int .i64 k] w fun e w' => e = .returned (.tuple #[.int .i64 0, .int .i64 2]) ∧ Below w.heap.size w w' := by
  have hu27 := Try.underlying27
  have HR1 := fun o => Aside0.mk (Kd.C_alloc hr1 o)
  have HR2 := fun o => Aside0.mk (Kd.C_alloc hr2 o)
  have HS := fun (w1 : World) (hb) => Aside0.mk (begun_of a0 A1 c1 x A2 c2 y (w := w) (w1 := w1) hr1 hb)
  have HV := Aside0.mk hv
  have HF := Aside0.mk hf
  have HI := Aside0.mk hi
  have HSt := Aside0.mk (SpecMaps.st_of (valid_of hv) hf)
  clear hr1 hr2 hv hf hi
  go_enter Try.func21, Try.ntmps21
  go_wp2_with fail
  (with_reducible refine (vb_calls a0 A1 c1 x A2 c2 y _ ?s1 ?s2).mono ?_)
  case s1 => exact (HR1 _).out
  case s2 => exact (HR2 _).out
  rw [HV.out]
  rintro e w1 ⟨rfl, hb1⟩
  have HB := HS w1 hb1
  clear hb1
  go_wp2_with fail
  (with_reducible refine (monoid_calls w.heap.size A1 c1 a0 x y w1 ?s1 ?s2 ?s3).mono ?_)
  case s1 => exact HB.out.cell
  case s2 => exact HB.out.row
  case s3 => exact valid_of HV.out
  rintro e w2 (⟨hf2, _⟩ | ⟨st2, gm, gM, vm, vw, hf2, rfl, hM, hb2⟩)
  · rw [HF.out] at hf2
    cases hf2
  · rw [HF.out] at hf2
    obtain rfl := Option.some.inj hf2
    clear hf2
    have HB2 := Aside0.mk (below_step HB.out.below hb2)
    have HM := Aside0.mk hM
    clear hb2 hM
    obtain ⟨gr, cr, evm⟩ := R_slice' HM.out.maps HSt.out.1.pos
    subst evm
    go_wp2_with fail
    (with_reducible refine (has_calls gm (some ⟨gr, 0, none⟩) st.1.length cr i w2 ?s1 ?s2).mono ?_)
    case s1 => exact (blk_cell HM.out.box 1).trans rfl
    case s2 => exact HSt.out.2
    rw [HI.out]
    rintro e w' ⟨rfl, ⟨nd, rfl⟩⟩
    go_wp2_with fail
    go_ret2
    exact ⟨rfl, pw_below_drewN HB2.out _⟩

set_option maxHeartbeats 8000000 in
set_option maxRecDepth 100000 in
theorem mp_rest (i k : Int) (w : World) (hr1 : Kd.C (Kd.slice 2 (Kd.int .i64)) w A1 x.length x) (hr2 : Kd.C (Kd.slice 2 (Kd.int .i64)) w A2 y.length y) (hv : vb a0 x y = true) {st : St} (hf : fin x = some st) (hi : inB 0 (st.1.length - 1) i = true) {b : Bool} (hk : inB 0 (st.1.length - 1) k = b) :
    Calls Try.prog 21 #[.agg #[.int .i64 a0, .slice A1 x.length c1, .slice A2 y.length c2], .int .i64 i, .int .i64 k] w fun e w' => e = .returned (.tuple #[.int .i64 (if b = true then idx st.1 (prod (rdL st.1 i) (rdL st.1 k)) else 0), .int .i64 (if b = true then 0 else 2)]) ∧ Below w.heap.size w w' := by
  have hu27 := Try.underlying27
  have HR1 := fun o => Aside0.mk (Kd.C_alloc hr1 o)
  have HR2 := fun o => Aside0.mk (Kd.C_alloc hr2 o)
  have HS := fun (w1 : World) (hb) => Aside0.mk (begun_of a0 A1 c1 x A2 c2 y (w := w) (w1 := w1) hr1 hb)
  have HV := Aside0.mk hv
  have HF := Aside0.mk hf
  have HI := Aside0.mk hi
  have HJ := Aside0.mk hk
  have HSt := Aside0.mk (SpecMaps.st_of (valid_of hv) hf)
  have HPm : Aside0 (b = true → prod (rdL st.1 i) (rdL st.1 k) ∈ st.1) := ⟨fun hb => by
    rcases fin_cases (x := x) with ⟨j, hh, h1, hf2⟩ | ⟨j, hh, h1, h3, hf2⟩
    · rw [hf] at hf2
      obtain rfl := Option.some.inj hf2
      have e1 := inB_of hi
      have e2 := inB_of (hk.trans hb)
      exact prod_mem (valid_of hv) hh h1 (by omega) (by omega)
    · rw [hf] at hf2
      cases hf2⟩
  clear hr1 hr2 hv hf hi hk
  go_enter Try.func21, Try.ntmps21
  go_wp2_with fail
  (with_reducible refine (vb_calls a0 A1 c1 x A2 c2 y _ ?s1 ?s2).mono ?_)
  case s1 => exact (HR1 _).out
  case s2 => exact (HR2 _).out
  rw [HV.out]
  rintro e w1 ⟨rfl, hb1⟩
  have HB := HS w1 hb1
  clear hb1
  go_wp2_with fail
  (with_reducible refine (monoid_calls w.heap.size A1 c1 a0 x y w1 ?s1 ?s2 ?s3).mono ?_)
  case s1 => exact HB.out.cell
  case s2 => exact HB.out.row
  case s3 => exact valid_of HV.out
  rintro e w2 (⟨hf2, _⟩ | ⟨st2, gm, gM, vm, vw, hf2, rfl, hM, hb2⟩)
  · rw [HF.out] at hf2
    cases hf2
  · rw [HF.out] at hf2
    obtain rfl := Option.some.inj hf2
    clear hf2
    have HB2 := Aside0.mk (below_step HB.out.below hb2)
    have HG2 := Aside0.mk (pw_cell_below hb2 HB.out.cell)
    have HM := Aside0.mk hM
    clear hb2 hM
    obtain ⟨gr, cr, evm⟩ := R_slice' HM.out.maps HSt.out.1.pos
    subst evm
    go_wp2_with fail
    (with_reducible refine (has_calls gm (some ⟨gr, 0, none⟩) st.1.length cr i w2 ?s1 ?s2).mono ?_)
    case s1 => exact (blk_cell HM.out.box 1).trans rfl
    case s2 => exact HSt.out.2
    rw [HI.out]
    rintro e w' ⟨rfl, ⟨nd, rfl⟩⟩
    go_wp2_with fail
    (with_reducible refine (has_calls gm (some ⟨gr, 0, none⟩) st.1.length cr k (w2.drewN nd) ?s1 ?s2).mono ?_)
    case s1 => exact (blk_cell (blk_drewN HM.out.box nd) 1).trans rfl
    case s2 => exact HSt.out.2
    rw [HJ.out]
    rintro e w' ⟨rfl, ⟨nd2, rfl⟩⟩
    cases b with
    | false =>
      go_wp2_with fail
      go_ret2
      exact ⟨rfl, pw_below_drewN HB2.out _⟩
    | true =>
      go_wp2_with fail
      have e1 := inB_of HI.out
      have e2 := inB_of HJ.out
      obtain ⟨p, rfl⟩ : ∃ p : Nat, i = p := ⟨i.toNat, by omega⟩
      obtain ⟨q, rfl⟩ : ∃ q : Nat, k = q := ⟨k.toNat, by omega⟩
      have HT := fun m => times_calls w1.heap.size w.heap.size gm gM (.slice (some ⟨gr, 0, none⟩) st.1.length cr) vw A1 c1 a0 x y st (w2.drewN m) (valid_of HV.out) HSt.out.1 HSt.out.2 (HM.out.drewN m) (pw_cell_below (pw_below_drewN (Below.refl _ _) m) HG2.out) p q (by omega) (by omega) (HPm.out (by first | rfl | trivial))
      clear e1 e2
      refine (HT _).mono ?_
      clear HT
      rintro e w3 ⟨rfl, hb3⟩
      have HB3 := Aside0.mk (below_step (pw_below_drewN HB2.out _) hb3)
      clear hb3
      go_wp2_with fail
      go_ret2
      exact ⟨rfl, HB3.out⟩

/-- THE CONTRACT of MapProduct. -/
theorem mp_calls (i k : Int) (w : World) (hr1 : Kd.C (Kd.slice 2 (Kd.int .i64)) w A1 x.length x) (hr2 : Kd.C (Kd.slice 2 (Kd.int .i64)) w A2 y.length y) :
    Calls Try.prog 21 #[.agg #[.int .i64 a0, .slice A1 x.length c1, .slice A2 y.length c2], .int .i64 i, .int .i64 k] w fun e w' => e = .returned (.tuple #[.int .i64 (mp a0 x y i k).1, .int .i64 (mp a0 x y i k).2]) ∧ Below w.heap.size w w' := by
  unfold mp
  cases hv : vb a0 x y with
  | false =>
    rw [if_neg (by decide)]
    exact mp_invalid a0 A1 c1 x A2 c2 y i k w hr1 hr2 hv
  | true =>
    rw [if_pos rfl]
    cases hf : fin x with
    | none => exact mp_limit a0 A1 c1 x A2 c2 y i k w hr1 hr2 hv hf
    | some st =>
      simp only
      cases hi : inB 0 (st.1.length - 1) i with
      | false =>
        rw [if_neg (by decide)]
        exact mp_out1 a0 A1 c1 x A2 c2 y i k w hr1 hr2 hv hf hi
      | true =>
        rw [if_pos rfl]
        cases hk : inB 0 (st.1.length - 1) k with
        | false => exact mp_rest a0 A1 c1 x A2 c2 y i k w hr1 hr2 hv hf hi hk
        | true => exact mp_rest a0 A1 c1 x A2 c2 y i k w hr1 hr2 hv hf hi hk
end
end Go.Proofs.Ytefoaikfpegggaa.ImplTimes
