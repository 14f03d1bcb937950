/- What is proved: FnExactMapsOfSaid: the law FnExactMapsOf returns true for all bounds. Conditions: none beyond the row's own. -/
import Derived.Test.YtefoaikfpegggaaRows
import Derived.Test.YtefoaikfpegggaaMapsLaw
import Derived.Test.YtefoaikfpegggaaBridge
import Derived.WalkKit
import Derived.ProofKit
import Derived.OpenShut
import Derived.ShutString
import Derived.ChangeOld
import Derived.Below
import Derived.SizedLaws
namespace Go.Proofs.Ytefoaikfpegggaa.fnExactMapsOf
open Go.ChangeShapes Go.WideShapes Go.ChangeAt Go.RowKit
open Go.ChangeMaps (open_string shut_string)
open Go.Proofs.YtefoaikfpegggaaW.PrintWords Go.Proofs.Ytefoaikfpegggaa.Bridge
theorem own : ownKnob Try.prog.godebug = none := by kernel_rfl
theorem laidOut : laidOutB Try.prog = true := by kernel_rfl
theorem br48 : Br Try.prog 48 (Kd.slice 2 (Kd.int .i64)) (fun xs => xs.length * 8 ≤ reachBytes ∧ ∀ x ∈ xs, (Lit.int .i64 x).wf = true) :=
  Br.slice Try.underlying48 (by kernel_rfl) (by kernel_rfl) (Br.int Try.underlying2 (by kernel_rfl))
theorem br22 : Br Try.prog 22 (Kd.slice 48 (Kd.slice 2 (Kd.int .i64))) (fun xs => xs.length * 24 ≤ reachBytes ∧ ∀ x ∈ xs, x.length * 8 ≤ reachBytes ∧ ∀ y ∈ x, (Lit.int .i64 y).wf = true) :=
  Br.slice Try.underlying22 (by kernel_rfl) (by kernel_rfl) br48
theorem br24 : Br Try.prog 24 (Kd.pair (Kd.int .i64) (Kd.pair (Kd.slice 48 (Kd.slice 2 (Kd.int .i64))) (Kd.slice 48 (Kd.slice 2 (Kd.int .i64))))) (fun x => (Lit.int .i64 x.1).wf = true ∧ ((x.2.1.length * 24 ≤ reachBytes ∧ ∀ y ∈ x.2.1, y.length * 8 ≤ reachBytes ∧ ∀ z ∈ y, (Lit.int .i64 z).wf = true) ∧ (x.2.2.length * 24 ≤ reachBytes ∧ ∀ y ∈ x.2.2, y.length * 8 ≤ reachBytes ∧ ∀ z ∈ y, (Lit.int .i64 z).wf = true))) :=
  Br.imp (Br.struct Try.underlying24 (by kernel_rfl) (Fs.cons rfl (Br.int Try.underlying2 (by kernel_rfl)) rfl (Fs.cons rfl br22 rfl (Fs.one rfl br22)))) (fun _ h => h)
theorem fit_of {K : List (List Int)} {b : List Int → Prop} (h : K.length * 24 ≤ reachBytes ∧ ∀ y ∈ K, y.length * 8 ≤ reachBytes ∧ b y) : K.length ≤ 5864062014805 ∧ ∀ z ∈ K, z.length ≤ 17592186044415 := by
  unfold reachBytes at h
  exact ⟨by omega, fun z hz => by have := (h.2 z hz).1; omega⟩
set_option linter.unusedVariables false in
set_option maxRecDepth 100000 in
theorem lifted (os : Os) (started : os.Started) (H : Type) (enc : TypeId × Value → H) :
    ReturnsInHanded {} Try.checked os 8 .any (Rows.fnExactMapsOfSpec.pre6 enc Try.prog Try.f8 Rows.fnExactMapsOfRow.domain false) (Rows.fnExactMapsOfSpec.post enc Try.prog Try.f8 false true false false) := by
  refine returnsInHanded_of_change_sized (C := Try.checked) own started (by kernel_rfl) Try.func8
    (ChangeSpec.witness6 (enc := enc) (C := Try.checked) false ⟨#[], #[.agg #[.int .i64 0, .slice none 0 0, .slice none 0 0]], []⟩ 8 (by kernel_rfl) (by kernel_rfl) (by kernel_rfl) (by kernel_rfl)) ?_
  intro W base args ds gs before hval0 hW hcnd hsz0 _
  have hsz : (DataW.weightsEach Try.prog (Try.f8.params.toList ++ Rows.fnExactMapsOfSpec.plain.varTypes Try.prog) (ds ++ gs)).all (· ≤ reachBytes) = true := hsz0
  have hval : ∀ (j : Nat) t v, Try.f8.params[j]? = some t → args[j]? = some v → Value.okWide Try.prog W .any base t v := hval0
  have hW' := hW
  obtain ⟨p, q, hA0, hV, rfl, hfz, hnd⟩ := hW
  have hA : DataW.TrodAll enc Try.prog W 0 (fun _ => true) true Try.f8.params.toList args.toList ds p := hA0
  rw [Try.params8] at hA hval hsz
  obtain ⟨v0, vs0, d0, ds0, p0, q0, hargs, rfl, rfl, h0, r0⟩ := trodAll_cons hA
  obtain ⟨rfl, rfl, rfl⟩ := trodAll_nil r0
  obtain rfl : args = #[v0] := by cases args; simp_all
  obtain ⟨rfl, rfl⟩ := trodVars_none hV
  obtain ⟨cs0, rfl, hcs0⟩ := okWide_struct Try.underlying24 (hval 0 24 v0 rfl rfl)
  have k0 := h0
  have lt0 : ∀ x ∈ p0, x.block < W.heap.size := by obtain ⟨m, hm⟩ := k0; exact DataW.trod_lt m _ _ _ hm
  obtain ⟨l0, hK0, hok0⟩ := br24.arg (j := 0) hsz rfl rfl h0
  obtain ⟨x0_0, y0_0, e0_0, f0_0, g0_0⟩ := hK0
  have z0_0 : x0_0 = [.int .i64 l0.1] := f0_0
  obtain ⟨x0_1, y0_1, e0_1, f0_1, g0_1⟩ := g0_0
  obtain ⟨A0_1, c0_1, z0_1, hle0_1, hC0_1⟩ := f0_1
  obtain ⟨A0_2, c0_2, z0_2, hle0_2, hC0_2⟩ := g0_1
  obtain rfl : cs0 = #[.int .i64 l0.1, .slice A0_1 l0.2.1.length c0_1, .slice A0_2 l0.2.2.length c0_2] := by
    apply Array.toList_inj.1
    rw [show cs0.toList = (Value.agg cs0).cells.toList from rfl, e0_0, z0_0, e0_1, z0_1, z0_2]
    rfl
  clear hA0 hval0 hsz0 hsz
  refine (MapsLaw.law_calls (a0 := l0.1) (A1 := A0_1) (c1 := c0_1) (x := l0.2.1) (A2 := A0_2) (c2 := c0_2) (y := l0.2.2) (fit_of hok0.2.1) (fit_of hok0.2.2) W hC0_1 hle0_1 hC0_2 hle0_2).mono fun e W' ⟨he, bel⟩ => ?_
  subst he
  exact ⟨_, rfl, _, _, _, [], _, [], hW', trodAll_mk1 (shut_bool Try.underlying4 _), (trodAll_cons_mk (Below.trod laidOut (by kernel_rfl) (of_decide_eq_true (by kernel_rfl)) k0 bel lt0) trodAll_mk0), rfl, bel.frame _, fun h => by cases h⟩
theorem over : Rows.fnExactMapsOfRow.holds Try.pinned (OpenSpec.ofChange Rows.fnExactMapsOfSpec) :=
  OpenClaim.holds_of_wide 8 Try.f8 rfl rfl rfl rfl rfl rfl rfl ⟨rfl, rfl, rfl, rfl, rfl⟩ rfl rfl rfl rfl rfl (by kernel_rfl) Try.func8 (by kernel_rfl)
    (of_decide_eq_true (by kernel_rfl)) (by unfold Func.isWrapper; first | (rw [if_pos (by decide +kernel)]; kernel_rfl) | (rw [if_neg (by decide +kernel)]; exact ⟨rfl, rfl⟩))
    (fun os started H enc _ => lifted os started H enc)
theorem proved : Rows.FnExactMapsOfSaid := over
#print axioms proved
end Go.Proofs.Ytefoaikfpegggaa.fnExactMapsOf
namespace Go.Proofs.Ytefoaikfpegggaa
/-- The row, under a short name, for the claim. -/
theorem fnExactMapsOf_holds : Rows.FnExactMapsOfSaid := fnExactMapsOf.proved
end Go.Proofs.Ytefoaikfpegggaa