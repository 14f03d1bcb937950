/- What is proved: FnExactSameGraphSaid: the law FnExactSameGraph returns true for all two graphs of steps. Conditions: none beyond the row's own. -/
import Derived.Test.YtjgmkfgiijkpbaaRows
import Derived.Test.YtjgmkfgiijkpbaaQFnExactSameGraphx6
import Derived.Test.YtjgmkfgiijkpbaaPureFnExactSameGraph
import Derived.Test.YtjgmkfgiijkpbaaBridge
import Derived.WalkKit
import Derived.ProofKit
import Derived.OpenShut
import Derived.ShutString
import Derived.ChangeOld
import Derived.Below
import Derived.SizedLaws
namespace Go.Proofs.Ytjgmkfgiijkpbaa.fnExactSameGraph
open Go.ChangeShapes Go.WideShapes Go.ChangeAt Go.RowKit
open Go.ChangeMaps (open_string shut_string)
open Go.Proofs.Ytjgmkfgiijkpbaa.QFnExactSameGraph Go.Proofs.YtjgmkfgiijkpbaaW.PrintWords Go.Proofs.Ytjgmkfgiijkpbaa.Bridge
theorem own : ownKnob Try.prog.godebug = none := by kernel_rfl
theorem laidOut : laidOutB Try.prog = true := by kernel_rfl
theorem br60 : Br Try.prog 60 k60 (fun x => x.f0.size ≤ reachBytes ∧ x.f1.size ≤ reachBytes) :=
  Br.iso (Br.struct Try.underlying60 (by kernel_rfl) (Fs.cons rfl (Br.string Try.underlying9 (by kernel_rfl)) rfl (Fs.one rfl (Br.string Try.underlying9 (by kernel_rfl))))) (fun x : S60 => (x.f0, x.f1)) (fun p => ⟨p.1, p.2⟩) (fun _ => rfl)
theorem br22 : Br Try.prog 22 (Kd.slice 60 k60) (fun xs => xs.length * 32 ≤ reachBytes ∧ ∀ x ∈ xs, x.f0.size ≤ reachBytes ∧ x.f1.size ≤ reachBytes) :=
  Br.slice Try.underlying22 (by kernel_rfl) (by kernel_rfl) br60
theorem br82 : Br Try.prog 82 (Kd.slice 2 (Kd.int .i64)) (fun xs => xs.length * 8 ≤ reachBytes ∧ ∀ x ∈ xs, (Lit.int .i64 x).wf = true) :=
  Br.slice Try.underlying82 (by kernel_rfl) (by kernel_rfl) (Br.int Try.underlying2 (by kernel_rfl))
theorem br49 : Br Try.prog 49 (Kd.slice 82 (Kd.slice 2 (Kd.int .i64))) (fun xs => xs.length * 24 ≤ reachBytes ∧ ∀ x ∈ xs, x.length * 8 ≤ reachBytes ∧ ∀ y ∈ x, (Lit.int .i64 y).wf = true) :=
  Br.slice Try.underlying49 (by kernel_rfl) (by kernel_rfl) br82
theorem br51 : Br Try.prog 51 (Kd.pair (Kd.slice 60 k60) (Kd.slice 82 (Kd.slice 2 (Kd.int .i64)))) (fun x => (x.1.length * 32 ≤ reachBytes ∧ ∀ y ∈ x.1, y.f0.size ≤ reachBytes ∧ y.f1.size ≤ reachBytes) ∧ (x.2.length * 24 ≤ reachBytes ∧ ∀ y ∈ x.2, y.length * 8 ≤ reachBytes ∧ ∀ z ∈ y, (Lit.int .i64 z).wf = true)) :=
  Br.imp (Br.struct Try.underlying51 (by kernel_rfl) (Fs.cons rfl br22 rfl (Fs.one rfl br49))) (fun _ h => h)
set_option linter.unusedVariables false in
set_option maxRecDepth 100000 in
theorem lifted (os : Os) (started : os.Started) (H : Type) (enc : TypeId × Value → H) :
    ReturnsInHanded {} Try.checked os 6 .any (Rows.fnExactSameGraphSpec.pre6 enc Try.prog Try.f6 Rows.fnExactSameGraphRow.domain false) (Rows.fnExactSameGraphSpec.post enc Try.prog Try.f6 false true false false) := by
  refine returnsInHanded_of_change_sized (C := Try.checked) own started (by kernel_rfl) Try.func6
    (ChangeSpec.witness6 (enc := enc) (C := Try.checked) false ⟨#[], #[.agg #[.slice none 0 0, .slice none 0 0], .agg #[.slice none 0 0, .slice none 0 0]], []⟩ 8 (by kernel_rfl) (by kernel_rfl) (by kernel_rfl) (by kernel_rfl)) ?_
  intro W base args ds gs before hval0 hW hcnd hsz0 _
  have hsz : (DataW.weightsEach Try.prog (Try.f6.params.toList ++ Rows.fnExactSameGraphSpec.plain.varTypes Try.prog) (ds ++ gs)).all (· ≤ reachBytes) = true := hsz0
  have hval : ∀ (j : Nat) t v, Try.f6.params[j]? = some t → args[j]? = some v → Value.okWide Try.prog W .any base t v := hval0
  have hW' := hW
  obtain ⟨p, q, hA0, hV, rfl, hfz, hnd⟩ := hW
  have hA : DataW.TrodAll enc Try.prog W 0 (fun _ => true) true Try.f6.params.toList args.toList ds p := hA0
  rw [Try.params6] at hA hval hsz
  obtain ⟨v0, vs0, d0, ds0, p0, q0, hargs, rfl, rfl, h0, r0⟩ := trodAll_cons hA
  obtain ⟨v1, vs1, d1, ds1, p1, q1, rfl, rfl, rfl, h1, r1⟩ := trodAll_cons r0
  obtain ⟨rfl, rfl, rfl⟩ := trodAll_nil r1
  obtain rfl : args = #[v0, v1] := by cases args; simp_all
  obtain ⟨rfl, rfl⟩ := trodVars_none hV
  obtain ⟨cs0, rfl, hcs0⟩ := okWide_struct Try.underlying51 (hval 0 51 v0 rfl rfl)
  have k0 := h0
  have lt0 : ∀ x ∈ p0, x.block < W.heap.size := by obtain ⟨m, hm⟩ := k0; exact DataW.trod_lt m _ _ _ hm
  obtain ⟨l0, hK0, hok0⟩ := br51.arg (j := 0) hsz rfl rfl h0
  obtain ⟨x0_0, y0_0, e0_0, f0_0, g0_0⟩ := hK0
  obtain ⟨A0_0, c0_0, z0_0, hle0_0, hC0_0⟩ := f0_0
  obtain ⟨A0_1, c0_1, z0_1, hle0_1, hC0_1⟩ := g0_0
  obtain rfl : cs0 = #[.slice A0_0 l0.1.length c0_0, .slice A0_1 l0.2.length c0_1] := by
    apply Array.toList_inj.1
    rw [show cs0.toList = (Value.agg cs0).cells.toList from rfl, e0_0, z0_0, z0_1]
    rfl
  obtain ⟨cs1, rfl, hcs1⟩ := okWide_struct Try.underlying51 (hval 1 51 v1 rfl rfl)
  have k1 := h1
  have lt1 : ∀ x ∈ p1, x.block < W.heap.size := by obtain ⟨m, hm⟩ := k1; exact DataW.trod_lt m _ _ _ hm
  obtain ⟨l1, hK1, hok1⟩ := br51.arg (j := 1) hsz rfl rfl h1
  obtain ⟨x1_0, y1_0, e1_0, f1_0, g1_0⟩ := hK1
  obtain ⟨A1_0, c1_0, z1_0, hle1_0, hC1_0⟩ := f1_0
  obtain ⟨A1_1, c1_1, z1_1, hle1_1, hC1_1⟩ := g1_0
  obtain rfl : cs1 = #[.slice A1_0 l1.1.length c1_0, .slice A1_1 l1.2.length c1_1] := by
    apply Array.toList_inj.1
    rw [show cs1.toList = (Value.agg cs1).cells.toList from rfl, e1_0, z1_0, z1_1]
    rfl
  clear hA0 hval0 hsz0 hsz
  obtain ⟨k, hk⟩ := PureSameGraph.law_ev l0.1 l0.2 l1.1 l1.2 (by have := hok0.1.1; unfold reachBytes at this; omega) (by have := hok0.2.1; unfold reachBytes at this; omega) (fun z hz => by have := (hok0.2.2 z hz).1; unfold reachBytes at this; omega) (by have := hok1.1.1; unfold reachBytes at this; omega) (by have := hok1.2.1; unfold reachBytes at this; omega) (fun z hz => by have := (hok1.2.2 z hz).1; unfold reachBytes at this; omega)
  refine (laws_FnExactSameGraph.calls k _ _ l0.1 _ _ l0.2 _ _ l1.1 _ _ l1.2 true W hC0_0 hle0_0 hC0_1 hle0_1 hC1_0 hle1_0 hC1_1 hle1_1 rfl hk).mono fun e W' ⟨he, bel⟩ => ?_
  subst he
  exact ⟨_, rfl, _, _, _, [], _, [], hW', trodAll_mk1 (shut_bool Try.underlying4 _), (trodAll_cons_mk (Below.trod laidOut (by kernel_rfl) (of_decide_eq_true (by kernel_rfl)) k0 bel lt0) (trodAll_cons_mk (Below.trod laidOut (by kernel_rfl) (of_decide_eq_true (by kernel_rfl)) k1 bel lt1) trodAll_mk0)), rfl, bel.frame _, fun h => by cases h⟩
theorem over : Rows.fnExactSameGraphRow.holds Try.pinned (OpenSpec.ofChange Rows.fnExactSameGraphSpec) :=
  OpenClaim.holds_of_wide 6 Try.f6 rfl rfl rfl rfl rfl rfl rfl ⟨rfl, rfl, rfl, rfl, rfl⟩ rfl rfl rfl rfl rfl (by kernel_rfl) Try.func6 (by kernel_rfl)
    (of_decide_eq_true (by kernel_rfl)) (by unfold Func.isWrapper; first | (rw [if_pos (by decide +kernel)]; kernel_rfl) | (rw [if_neg (by decide +kernel)]; exact ⟨rfl, rfl⟩))
    (fun os started H enc _ => lifted os started H enc)
theorem proved : Rows.FnExactSameGraphSaid := over
#print axioms proved
end Go.Proofs.Ytjgmkfgiijkpbaa.fnExactSameGraph
namespace Go.Proofs.Ytjgmkfgiijkpbaa
/-- The row, under a short name, for the claim. -/
theorem fnExactSameGraph_holds : Rows.FnExactSameGraphSaid := fnExactSameGraph.proved
end Go.Proofs.Ytjgmkfgiijkpbaa