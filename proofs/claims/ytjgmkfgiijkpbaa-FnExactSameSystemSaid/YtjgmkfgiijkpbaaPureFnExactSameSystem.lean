/- What is proved: the law FnExactSameSystem, as a statement over plain Lean values, comes to true. Conditions: each list has at most 4398046511103 elements (the row's own reach). -/
import Derived.Test.YtjgmkfgiijkpbaaPFnExactSameSystemx3
import Derived.Test.YtjgmkfgiijkpbaaPureKit
namespace Go.Proofs.Ytjgmkfgiijkpbaa.PureSameSystem
open Go.RowKit Go.Proofs.Ytjgmkfgiijkpbaa.PFnExactSameSystem Go.Proofs.YtjgmkfgiijkpbaaW.PrintWords Go.Proofs.YtjgmkfgiijkpbaaW.PrintLast Go.Proofs.Ytjgmkfgiijkpbaa.PureKit

theorem szEquation_some (a b : ByteArray) (s : Int) : ∃ t, laws_szEquation.f a b s = some t := by
  unfold laws_szEquation.f
  split
  · exact ⟨_, rfl⟩
  · split
    · exact ⟨_, rfl⟩
    · exact ⟨_, rfl⟩

theorem sz_ev (l : List S60) (hl : l.length ≤ 4398046511103) (a : Int) : ∃ t, Ev (fun k => laws_szEquationS.f k l a) t := by
  unfold laws_szEquationS.f
  by_cases h : wrap64 (a - (l.length : Int)) < 0
  · exact ⟨-1, 0, fun k _ => by simp only [if_pos h]⟩
  · obtain ⟨r, hr⟩ := any_loop (fun k s i => laws_szEquationS.l0 k l s i) l.length (fun i s hi => by
      obtain ⟨t, ht⟩ := szEquation_some (rd_T60 l i).f0 (rd_T60 l i).f1 s
      by_cases hn : t < 0
      · left
        refine ⟨-1, Ev.step (f := fun _ => some (-1)) (fun k => ?_) (Ev.now _)⟩
        simp only [laws_szEquationS.l0]
        rw [if_pos (by omega), if_pos (by omega), ht]
        simp only [Option.bind_some]
        rw [if_pos hn]
      · right
        refine ⟨t, fun r hr => Ev.step (fun k => ?_) hr⟩
        simp only [laws_szEquationS.l0]
        rw [if_pos (by omega), if_pos (by omega), ht]
        simp only [Option.bind_some]
        rw [if_neg hn, wrap_succ (by omega) (by omega)]) (fun s => by
      refine ⟨s, Ev.step (f := fun _ => some s) (fun k => ?_) (Ev.now _)⟩
      simp only [laws_szEquationS.l0]
      rw [if_neg (by omega)]) l.length 0 (wrap64 (a - (l.length : Int))) (by omega)
    exact ⟨r, Ev.congr (fun k => by simp only [if_neg h]; rfl) hr⟩

def conv (x : S60) : S61 := ⟨x.f0, x.f1⟩

theorem to_ev (l : List S60) (hl : l.length ≤ 4398046511103) : Ev (fun k => laws_toEquationS.f k l) (l.map conv) := by
  unfold laws_toEquationS.f
  refine Ev.congr (f := fun k => laws_toEquationS.l0 k l (List.replicate l.length z61) 0) (fun k => ?_) ?_
  · rw [if_pos (by omega), if_pos (by omega)]
    simp
  · refine map_loop0 (fun k out i => laws_toEquationS.l0 k l out i) (l.map conv) _ (by simp) (fun i out r hi ho hr => Ev.step (fun k => ?_) hr) (fun out => ?_)
    · have hi' : i < l.length := by simpa using hi
      have ho' : out.length = l.length := by simpa using ho
      simp only [laws_toEquationS.l0, laws_toEquation.f]
      rw [if_pos (by omega), if_pos (by omega)]
      simp only [Option.bind_some]
      rw [if_pos (by omega), wrap_succ (by omega) (by omega)]
      simp [conv, rd_T60, List.getD_eq_getElem?_getD, List.getElem?_eq_getElem hi']
    · refine Ev.step (f := fun _ => some out) (fun k => ?_) (Ev.now _)
      simp only [laws_toEquationS.l0]
      rw [if_neg (by simp)]

def same (x y : List S61) (j : Nat) : Bool :=
  !(!((((rd_T61 x j).f0).toList) == (((rd_T61 y j).f0).toList)) || (!((((rd_T61 x j).f1).toList) == (((rd_T61 y j).f1).toList))))

def all (x y : List S61) : Bool := if (x.length : Int) = (y.length : Int) then (List.range x.length).all (same x y) else false

theorem spec_ev (x y : List S61) (hx : x.length ≤ 4398046511103) : Ev (fun k => spec_SameSystem.f k x y) (all x y) := by
  unfold spec_SameSystem.f all
  by_cases h : (x.length : Int) = (y.length : Int)
  · simp only [if_pos h]
    refine cmp_loop0 (fun k i => spec_SameSystem.l0 k x y i) x.length (same x y) (fun i r hi hp hr => Ev.step (fun k => ?_) hr) (fun i hi hp => Ev.step (f := fun _ => some false) (fun k => ?_) (Ev.now _)) (Ev.step (f := fun _ => some true) (fun k => ?_) (Ev.now _))
    · simp only [spec_SameSystem.l0]
      rw [if_pos (by omega), if_pos (by omega), if_pos (by omega), if_neg (by simpa [same] using hp), wrap_succ (by omega) (by omega)]
    · simp only [spec_SameSystem.l0]
      rw [if_pos (by omega), if_pos (by omega), if_pos (by omega), if_pos (by simpa only [same, Bool.not_eq_false'] using hp)]
    · simp only [spec_SameSystem.l0]
      rw [if_neg (by omega)]
  · simp only [if_neg h]
    exact Ev.now _

theorem impl_ev (x y : List S61) (hx : x.length ≤ 4398046511103) : Ev (fun k => impl_SameSystem.f k x y) (all x y) := by
  unfold impl_SameSystem.f
  refine Ev.bind (a := all x y) ?_ (Ev.now _)
  unfold impl_Equation.f all
  by_cases h : (x.length : Int) = (y.length : Int)
  · simp only [if_pos h]
    refine cmp_loop0 (fun k i => impl_Equation.l0 k x y x.length i) x.length (same x y) (fun i r hi hp hr => Ev.step (fun k => ?_) hr) (fun i hi hp => Ev.step (f := fun _ => some false) (fun k => ?_) (Ev.now _)) (Ev.step (f := fun _ => some true) (fun k => ?_) (Ev.now _))
    · simp only [impl_Equation.l0]
      rw [if_pos (by omega), if_pos (by omega), if_pos (by omega), if_pos (by omega), if_neg (by simpa [same] using hp), wrap_succ (by omega) (by omega)]
    · simp only [impl_Equation.l0]
      rw [if_pos (by omega), if_pos (by omega), if_pos (by omega), if_pos (by omega), if_pos (by simpa only [same, Bool.not_eq_false'] using hp)]
    · simp only [impl_Equation.l0]
      rw [if_neg (by omega)]
  · simp only [if_neg h]
    exact Ev.now _

theorem eq_ev (x : List S61) (hx : x.length ≤ 4398046511103) : Ev (fun k => laws_eqEquationS.f k x x) true := by
  unfold laws_eqEquationS.f
  simp only [if_pos]
  have h := cmp_loop0 (fun k i => laws_eqEquationS.l0 k x x i) x.length (fun _ => true) (fun i r hi hp hr => Ev.step (fun k => by
    simp only [laws_eqEquationS.l0, laws_eqEquation.f]
    rw [if_pos (by omega), if_pos (by omega), if_pos (by omega)]
    simp only [if_pos, Option.bind_some]
    rw [wrap_succ (by omega) (by omega)]) hr) (fun i hi hp => by simp at hp) (Ev.step (f := fun _ => some true) (fun k => by
    simp only [laws_eqEquationS.l0]
    rw [if_neg (by omega)]) (Ev.now _))
  rwa [show ((List.range x.length).all fun _ => true) = true from List.all_eq_true.2 (fun _ _ => rfl)] at h

theorem law_ev (l0 l1 : List S60) (h0 : l0.length ≤ 4398046511103) (h1 : l1.length ≤ 4398046511103) : ∃ k, laws_FnExactSameSystem.f k l0 l1 = some true := by
  apply Ev.rounds
  unfold laws_FnExactSameSystem.f
  obtain ⟨t, ht⟩ := sz_ev l0 h0 1048576
  refine Ev.bind ht ?_
  by_cases hn : t < 0
  · simp only [if_pos hn]
    exact Ev.now _
  simp only [if_neg hn]
  obtain ⟨t1, ht1⟩ := sz_ev l1 h1 t
  refine Ev.bind ht1 ?_
  by_cases hn1 : t1 < 0
  · simp only [if_pos hn1]
    exact Ev.now _
  simp only [if_neg hn1]
  have m0 : (l0.map conv).length ≤ 4398046511103 := by simpa using h0
  have m1 : (l1.map conv).length ≤ 4398046511103 := by simpa using h1
  refine Ev.bind (to_ev l0 h0) (Ev.bind (to_ev l1 h1) (Ev.bind (spec_ev _ _ m0) (Ev.bind (to_ev l0 h0) (Ev.bind (to_ev l1 h1) (Ev.bind (impl_ev _ _ m0) ?_)))))
  simp only [bne_self_eq_false, Bool.false_eq_true, if_false]
  refine Ev.bind (to_ev l0 h0) (Ev.bind (eq_ev _ m0) ?_)
  simp only [if_true]
  refine Ev.bind (to_ev l1 h1) (Ev.bind (eq_ev _ m1) ?_)
  simp only [if_true]
  exact Ev.now _

end Go.Proofs.Ytjgmkfgiijkpbaa.PureSameSystem
