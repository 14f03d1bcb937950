/- What is proved: FnExactSameFamilySaid: the law FnExactSameFamily returns true for all two families. Conditions: none beyond the row's own. -/
import Derived.Test.YtjgmkfgiijkpbaaRows
import Derived.Test.YtjgmkfgiijkpbaaQFnExactSameFamilyx5
import Derived.Test.YtjgmkfgiijkpbaaPureFnExactSameFamily
import Derived.Test.YtjgmkfgiijkpbaaBridge
import Derived.WalkKit
import Derived.ProofKit
import Derived.OpenShut
import Derived.ShutString
import Derived.ChangeOld
import Derived.Below
import Derived.SizedLaws
namespace Go.Proofs.Ytjgmkfgiijkpbaa.fnExactSameFamily
open Go.ChangeShapes Go.WideShapes Go.ChangeAt Go.RowKit
open Go.ChangeMaps (open_string shut_string)
open Go.Proofs.Ytjgmkfgiijkpbaa.QFnExactSameFamily Go.Proofs.YtjgmkfgiijkpbaaW.PrintWords Go.Proofs.Ytjgmkfgiijkpbaa.Bridge
theorem own : ownKnob Try.prog.godebug = none := by kernel_rfl
theorem laidOut : laidOutB Try.prog = true := by kernel_rfl
theorem br96 : Br Try.prog 96 k96 (fun x => x.f0.size ≤ reachBytes ∧ (Lit.int .i64 x.f1).wf = true ∧ (Lit.int .i64 x.f2).wf = true) :=
  Br.iso (Br.struct Try.underlying96 (by kernel_rfl) (Fs.cons rfl (Br.string Try.underlying9 (by kernel_rfl)) rfl (Fs.cons rfl (Br.int Try.underlying2 (by kernel_rfl)) rfl (Fs.one rfl (Br.int Try.underlying2 (by kernel_rfl)))))) (fun x : S96 => (x.f0, x.f1, x.f2)) (fun p => ⟨p.1, p.2.1, p.2.2⟩) (fun _ => rfl)
theorem br91 : Br Try.prog 91 (Kd.slice 96 k96) (fun xs => xs.length * 32 ≤ reachBytes ∧ ∀ x ∈ xs, x.f0.size ≤ reachBytes ∧ (Lit.int .i64 x.f1).wf = true ∧ (Lit.int .i64 x.f2).wf = true) :=
  Br.slice Try.underlying91 (by kernel_rfl) (by kernel_rfl) br96
theorem br39 : Br Try.prog 39 (Kd.slice 91 (Kd.slice 96 k96)) (fun xs => xs.length * 24 ≤ reachBytes ∧ ∀ x ∈ xs, x.length * 32 ≤ reachBytes ∧ ∀ y ∈ x, y.f0.size ≤ reachBytes ∧ (Lit.int .i64 y.f1).wf = true ∧ (Lit.int .i64 y.f2).wf = true) :=
  Br.slice Try.underlying39 (by kernel_rfl) (by kernel_rfl) br91
theorem br41 : Br Try.prog 41 (Kd.slice 91 (Kd.slice 96 k96)) (fun xs => xs.length * 24 ≤ reachBytes ∧ ∀ x ∈ xs, x.length * 32 ≤ reachBytes ∧ ∀ y ∈ x, y.f0.size ≤ reachBytes ∧ (Lit.int .i64 y.f1).wf = true ∧ (Lit.int .i64 y.f2).wf = true) :=
  Br.struct Try.underlying41 (by kernel_rfl) (Fs.one rfl br39)
set_option linter.unusedVariables false in
set_option maxRecDepth 100000 in
theorem lifted (os : Os) (started : os.Started) (H : Type) (enc : TypeId × Value → H) :
    ReturnsInHanded {} Try.checked os 5 .any (Rows.fnExactSameFamilySpec.pre6 enc Try.prog Try.f5 Rows.fnExactSameFamilyRow.domain false) (Rows.fnExactSameFamilySpec.post enc Try.prog Try.f5 false true false false) := by
  refine returnsInHanded_of_change_sized (C := Try.checked) own started (by kernel_rfl) Try.func5
    (ChangeSpec.witness6 (enc := enc) (C := Try.checked) false ⟨#[], #[.agg #[.slice none 0 0], .agg #[.slice none 0 0]], []⟩ 8 (by kernel_rfl) (by kernel_rfl) (by kernel_rfl) (by kernel_rfl)) ?_
  intro W base args ds gs before hval0 hW hcnd hsz0 _
  have hsz : (DataW.weightsEach Try.prog (Try.f5.params.toList ++ Rows.fnExactSameFamilySpec.plain.varTypes Try.prog) (ds ++ gs)).all (· ≤ reachBytes) = true := hsz0
  have hval : ∀ (j : Nat) t v, Try.f5.params[j]? = some t → args[j]? = some v → Value.okWide Try.prog W .any base t v := hval0
  have hW' := hW
  obtain ⟨p, q, hA0, hV, rfl, hfz, hnd⟩ := hW
  have hA : DataW.TrodAll enc Try.prog W 0 (fun _ => true) true Try.f5.params.toList args.toList ds p := hA0
  rw [Try.params5] at hA hval hsz
  obtain ⟨v0, vs0, d0, ds0, p0, q0, hargs, rfl, rfl, h0, r0⟩ := trodAll_cons hA
  obtain ⟨v1, vs1, d1, ds1, p1, q1, rfl, rfl, rfl, h1, r1⟩ := trodAll_cons r0
  obtain ⟨rfl, rfl, rfl⟩ := trodAll_nil r1
  obtain rfl : args = #[v0, v1] := by cases args; simp_all
  obtain ⟨rfl, rfl⟩ := trodVars_none hV
  obtain ⟨cs0, rfl, hcs0⟩ := okWide_struct Try.underlying41 (hval 0 41 v0 rfl rfl)
  have k0 := h0
  have lt0 : ∀ x ∈ p0, x.block < W.heap.size := by obtain ⟨m, hm⟩ := k0; exact DataW.trod_lt m _ _ _ hm
  obtain ⟨l0, hK0, hok0⟩ := br41.arg (j := 0) hsz rfl rfl h0
  obtain ⟨A0, c0, e0, hle0, hC0⟩ := hK0
  obtain rfl : cs0 = #[.slice A0 l0.length c0] := by
    apply Array.toList_inj.1
    rw [show cs0.toList = (Value.agg cs0).cells.toList from rfl, e0]
  obtain ⟨cs1, rfl, hcs1⟩ := okWide_struct Try.underlying41 (hval 1 41 v1 rfl rfl)
  have k1 := h1
  have lt1 : ∀ x ∈ p1, x.block < W.heap.size := by obtain ⟨m, hm⟩ := k1; exact DataW.trod_lt m _ _ _ hm
  obtain ⟨l1, hK1, hok1⟩ := br41.arg (j := 1) hsz rfl rfl h1
  obtain ⟨A1, c1, e1, hle1, hC1⟩ := hK1
  obtain rfl : cs1 = #[.slice A1 l1.length c1] := by
    apply Array.toList_inj.1
    rw [show cs1.toList = (Value.agg cs1).cells.toList from rfl, e1]
  clear hA0 hval0 hsz0 hsz
  obtain ⟨k, hk⟩ := PureSameFamily.law_ev l0 l1 (by have := hok0.1; unfold reachBytes at this; omega) (fun z hz => by have := (hok0.2 z hz).1; unfold reachBytes at this; omega) (by have := hok1.1; unfold reachBytes at this; omega) (fun z hz => by have := (hok1.2 z hz).1; unfold reachBytes at this; omega)
  refine (laws_FnExactSameFamily.calls k _ _ l0 _ _ l1 true W hC0 hle0 hC1 hle1 rfl hk).mono fun e W' ⟨he, bel⟩ => ?_
  subst he
  exact ⟨_, rfl, _, _, _, [], _, [], hW', trodAll_mk1 (shut_bool Try.underlying4 _), (trodAll_cons_mk (Below.trod laidOut (by kernel_rfl) (of_decide_eq_true (by kernel_rfl)) k0 bel lt0) (trodAll_cons_mk (Below.trod laidOut (by kernel_rfl) (of_decide_eq_true (by kernel_rfl)) k1 bel lt1) trodAll_mk0)), rfl, bel.frame _, fun h => by cases h⟩
theorem over : Rows.fnExactSameFamilyRow.holds Try.pinned (OpenSpec.ofChange Rows.fnExactSameFamilySpec) :=
  OpenClaim.holds_of_wide 5 Try.f5 rfl rfl rfl rfl rfl rfl rfl ⟨rfl, rfl, rfl, rfl, rfl⟩ rfl rfl rfl rfl rfl (by kernel_rfl) Try.func5 (by kernel_rfl)
    (of_decide_eq_true (by kernel_rfl)) (by unfold Func.isWrapper; first | (rw [if_pos (by decide +kernel)]; kernel_rfl) | (rw [if_neg (by decide +kernel)]; exact ⟨rfl, rfl⟩))
    (fun os started H enc _ => lifted os started H enc)
theorem proved : Rows.FnExactSameFamilySaid := over
#print axioms proved
end Go.Proofs.Ytjgmkfgiijkpbaa.fnExactSameFamily
namespace Go.Proofs.Ytjgmkfgiijkpbaa
/-- The row, under a short name, for the claim. -/
theorem fnExactSameFamily_holds : Rows.FnExactSameFamilySaid := fnExactSameFamily.proved
end Go.Proofs.Ytjgmkfgiijkpbaa