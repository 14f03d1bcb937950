/- What is proved: the law FnExactSameGraph, as a statement over plain Lean values, comes to true. Conditions: the lists are no longer than the row's own reach allows. -/
import Derived.Test.YtjgmkfgiijkpbaaQFnExactSameGraphx6
import Derived.Test.YtjgmkfgiijkpbaaPureKit
namespace Go.Proofs.Ytjgmkfgiijkpbaa.PureSameGraph
open Go.RowKit Go.Proofs.Ytjgmkfgiijkpbaa.QFnExactSameGraph Go.Proofs.YtjgmkfgiijkpbaaW.PrintWords Go.Proofs.YtjgmkfgiijkpbaaW.PrintLast Go.Proofs.Ytjgmkfgiijkpbaa.PureKit

theorem szEquation_some (a b : ByteArray) (s : Int) : ∃ t, laws_szEquation.f a b s = some t := by
  unfold laws_szEquation.f
  split
  · exact ⟨_, rfl⟩
  · split
    · exact ⟨_, rfl⟩
    · exact ⟨_, rfl⟩

theorem szE_ev (l : List S60) (hl : l.length ≤ 4398046511103) (a : Int) : ∃ t, Ev (fun k => laws_szEquationS.f k l a) t := by
  unfold laws_szEquationS.f
  by_cases h : wrap64 (a - (l.length : Int)) < 0
  · exact ⟨-1, 0, fun k _ => by simp only [if_pos h]⟩
  · obtain ⟨r, hr⟩ := any_loop (fun k s i => laws_szEquationS.l0 k l s i) l.length (fun i s hi => by
      obtain ⟨t, ht⟩ := szEquation_some (rd_T60 l i).f0 (rd_T60 l i).f1 s
      by_cases hn : t < 0
      · left
        refine ⟨-1, Ev.step (f := fun _ => some (-1)) (fun k => ?_) (Ev.now _)⟩
        simp only [laws_szEquationS.l0]
        rw [if_pos (by omega), if_pos (by omega), ht]
        simp only [Option.bind_some]
        rw [if_pos hn]
      · right
        refine ⟨t, fun r hr => Ev.step (fun k => ?_) hr⟩
        simp only [laws_szEquationS.l0]
        rw [if_pos (by omega), if_pos (by omega), ht]
        simp only [Option.bind_some]
        rw [if_neg hn, wrap_succ (by omega) (by omega)]) (fun s => by
      refine ⟨s, Ev.step (f := fun _ => some s) (fun k => ?_) (Ev.now _)⟩
      simp only [laws_szEquationS.l0]
      rw [if_neg (by omega)]) l.length 0 (wrap64 (a - (l.length : Int))) (by omega)
    exact ⟨r, Ev.congr (fun k => by simp only [if_neg h]; rfl) hr⟩

def conv (x : S60) : S61 := ⟨x.f0, x.f1⟩

theorem toE_ev (l : List S60) (hl : l.length ≤ 4398046511103) : Ev (fun k => laws_toEquationS.f k l) (l.map conv) := by
  unfold laws_toEquationS.f
  refine Ev.congr (f := fun k => laws_toEquationS.l0 k l (List.replicate l.length z61) 0) (fun k => ?_) ?_
  · rw [if_pos (by omega), if_pos (by omega)]
    simp
  · refine map_loop0 (fun k out i => laws_toEquationS.l0 k l out i) (l.map conv) _ (by simp) (fun i out r hi ho hr => Ev.step (fun k => ?_) hr) (fun out => ?_)
    · have hi' : i < l.length := by simpa using hi
      have ho' : out.length = l.length := by simpa using ho
      simp only [laws_toEquationS.l0, laws_toEquation.f]
      rw [if_pos (by omega), if_pos (by omega)]
      simp only [Option.bind_some]
      rw [if_pos (by omega), wrap_succ (by omega) (by omega)]
      simp [conv, rd_T60, List.getD_eq_getElem?_getD, List.getElem?_eq_getElem hi']
    · refine Ev.step (f := fun _ => some out) (fun k => ?_) (Ev.now _)
      simp only [laws_toEquationS.l0]
      rw [if_neg (by simp)]

def sameE (x y : List S61) (j : Nat) : Bool :=
  !(!((((rd_T61 x j).f0).toList) == (((rd_T61 y j).f0).toList)) || (!((((rd_T61 x j).f1).toList) == (((rd_T61 y j).f1).toList))))

def allE (x y : List S61) : Bool := if (x.length : Int) = (y.length : Int) then (List.range x.length).all (sameE x y) else false

theorem sys_ev (x y : List S61) (hx : x.length ≤ 4398046511103) : Ev (fun k => spec_SameSystem.f k x y) (allE x y) := by
  unfold spec_SameSystem.f allE
  by_cases h : (x.length : Int) = (y.length : Int)
  · simp only [if_pos h]
    refine cmp_loop0 (fun k i => spec_SameSystem.l0 k x y i) x.length (sameE x y) (fun i r hi hp hr => Ev.step (fun k => ?_) hr) (fun i hi hp => Ev.step (f := fun _ => some false) (fun k => ?_) (Ev.now _)) (Ev.step (f := fun _ => some true) (fun k => ?_) (Ev.now _))
    · simp only [spec_SameSystem.l0]
      rw [if_pos (by omega), if_pos (by omega), if_pos (by omega), if_neg (by simpa [sameE] using hp), wrap_succ (by omega) (by omega)]
    · simp only [spec_SameSystem.l0]
      rw [if_pos (by omega), if_pos (by omega), if_pos (by omega), if_pos (by simpa only [sameE, Bool.not_eq_false'] using hp)]
    · simp only [spec_SameSystem.l0]
      rw [if_neg (by omega)]
  · simp only [if_neg h]
    exact Ev.now _

theorem eqE_ev (x : List S61) (hx : x.length ≤ 4398046511103) : Ev (fun k => laws_eqEquationS.f k x x) true := by
  unfold laws_eqEquationS.f
  simp only [if_pos]
  have h := cmp_loop0 (fun k i => laws_eqEquationS.l0 k x x i) x.length (fun _ => true) (fun i r hi hp hr => Ev.step (fun k => by
    simp only [laws_eqEquationS.l0, laws_eqEquation.f]
    rw [if_pos (by omega), if_pos (by omega), if_pos (by omega)]
    simp only [if_pos, Option.bind_some]
    rw [wrap_succ (by omega) (by omega)]) hr) (fun i hi hp => by simp at hp) (Ev.step (f := fun _ => some true) (fun k => by
    simp only [laws_eqEquationS.l0]
    rw [if_neg (by omega)]) (Ev.now _))
  rwa [show ((List.range x.length).all fun _ => true) = true from List.all_eq_true.2 (fun _ _ => rfl)] at h


theorem equalE_ev (x y : List S61) (hx : x.length < 4611686018427387904) : Ev (fun k => impl_Equation.f k x y) (allE x y) := by
  unfold impl_Equation.f allE
  by_cases h : (x.length : Int) = (y.length : Int)
  · simp only [if_pos h]
    refine cmp_loop0 (fun k i => impl_Equation.l0 k x y x.length i) x.length (sameE x y) (fun i r hi hp hr => Ev.step (fun k => ?_) hr) (fun i hi hp => Ev.step (f := fun _ => some false) (fun k => ?_) (Ev.now _)) (Ev.step (f := fun _ => some true) (fun k => ?_) (Ev.now _))
    · simp only [impl_Equation.l0]
      rw [if_pos (by omega), if_pos (by omega), if_pos (by omega), if_pos (by omega), if_neg (by simpa [sameE] using hp), wrap_succ (by omega) (by omega)]
    · simp only [impl_Equation.l0]
      rw [if_pos (by omega), if_pos (by omega), if_pos (by omega), if_pos (by omega), if_pos (by simpa only [sameE, Bool.not_eq_false'] using hp)]
    · simp only [impl_Equation.l0]
      rw [if_neg (by omega)]
  · simp only [if_neg h]
    exact Ev.now _

theorem rd_bound {x : List (List Int)} (hr : ∀ z ∈ x, z.length < 4611686018427387904) (i : Int) : (rd_L3 x i).length < 4611686018427387904 := by
  unfold rd_L3
  rw [List.getD_eq_getElem?_getD]
  cases h : x[i.toNat]? with
  | none => simp
  | some z => exact hr z (List.mem_of_getElem? h)

theorem szI_ev (l : List Int) (_hl : l.length < 4611686018427387904) (a : Int) : ∃ t, Ev (fun _ : Nat => laws_szInt64S.f l a) t := by
  unfold laws_szInt64S.f
  by_cases h : wrap64 (a - (l.length : Int)) < 0
  · exact ⟨-1, 0, fun k _ => by simp only [if_pos h]⟩
  · exact ⟨wrap64 (a - (l.length : Int)), 0, fun k _ => by simp only [if_neg h]⟩

def identI (x : Int) : Int := x
def identL (x : List Int) : List Int := x

theorem szII_ev (l : List (List Int)) (hl : l.length < 4611686018427387904) (hr : ∀ z ∈ l, z.length < 4611686018427387904) (a : Int) : ∃ t, Ev (fun k => laws_szInt64SS.f k l a) t := by
  unfold laws_szInt64SS.f
  by_cases h : wrap64 (a - (l.length : Int)) < 0
  · exact ⟨-1, 0, fun k _ => by simp only [if_pos h]⟩
  · obtain ⟨r, hr'⟩ := any_loop (fun k s i => laws_szInt64SS.l0 k l s i) l.length (fun i s hi => by
      obtain ⟨t, ht⟩ := szI_ev (rd_L3 l i) (rd_bound hr i) s
      by_cases hn : t < 0
      · left
        refine ⟨-1, Ev.step (fun k => ?_) (Ev.bind (f := fun k t => if t < 0 then some (-1) else laws_szInt64SS.l0 k l t ((i : Int) + 1)) ht (by simp only [if_pos hn]; exact Ev.now _))⟩
        simp only [laws_szInt64SS.l0]
        rw [if_pos (by omega), if_pos (by omega), wrap_succ (by omega) (by omega)]
      · right
        refine ⟨t, fun r hr'' => Ev.step (fun k => ?_) (Ev.bind (f := fun k t => if t < 0 then some (-1) else laws_szInt64SS.l0 k l t ((i : Int) + 1)) ht (by simp only [if_neg hn]; exact hr''))⟩
        simp only [laws_szInt64SS.l0]
        rw [if_pos (by omega), if_pos (by omega), wrap_succ (by omega) (by omega)]) (fun s => by
      refine ⟨s, Ev.step (f := fun _ => some s) (fun k => ?_) (Ev.now _)⟩
      simp only [laws_szInt64SS.l0]
      rw [if_neg (by omega)]) l.length 0 (wrap64 (a - (l.length : Int))) (by omega)
    exact ⟨r, Ev.congr (fun k => by simp only [if_neg h]; rfl) hr'⟩

theorem toI0_ev (l : List Int) (hl : l.length ≤ 17592186044415) : Ev (fun k => laws_toInt64S.f k l) (l.map identI) := by
  unfold laws_toInt64S.f
  refine Ev.congr (f := fun k => laws_toInt64S.l0 k l (List.replicate l.length 0) 0) (fun k => ?_) ?_
  · rw [if_pos (by omega), if_pos (by omega)]
    simp
  · refine map_loop0 (fun k out i => laws_toInt64S.l0 k l out i) (l.map identI) _ (by simp) (fun i out r hi ho hr => Ev.step (fun k => ?_) hr) (fun out => ?_)
    · have hi' : i < l.length := by simpa using hi
      have ho' : out.length = l.length := by simpa using ho
      simp only [laws_toInt64S.l0]
      rw [if_pos (by omega), if_pos (by omega)]
      rw [if_pos (by omega), wrap_succ (by omega) (by omega)]
      simp [identI, rd, List.getD_eq_getElem?_getD, List.getElem?_eq_getElem hi']
    · refine Ev.step (f := fun _ => some out) (fun k => ?_) (Ev.now _)
      simp only [laws_toInt64S.l0]
      rw [if_neg (by simp)]

theorem toI_ev (l : List Int) (hl : l.length ≤ 17592186044415) : Ev (fun k => laws_toInt64S.f k l) (identL l) := by
  have h := toI0_ev l hl
  rwa [show l.map identI = identL l from List.map_id _] at h

theorem toII0_ev (l : List (List Int)) (hl : l.length ≤ 5864062014805) (hr : ∀ z ∈ l, z.length ≤ 17592186044415) : Ev (fun k => laws_toInt64SS.f k l) (l.map identL) := by
  unfold laws_toInt64SS.f
  refine Ev.congr (f := fun k => laws_toInt64SS.l0 k l (List.replicate l.length []) 0) (fun k => ?_) ?_
  · rw [if_pos (by omega), if_pos (by omega)]
    simp
  · refine map_loop0 (fun k out i => laws_toInt64SS.l0 k l out i) (l.map identL) _ (by simp) (fun i out r hi ho hr' => ?_) (fun out => ?_)
    · have hi' : i < l.length := by simpa using hi
      have ho' : out.length = l.length := by simpa using ho
      have he : rd_L3 l i = l[i] := by simp [rd_L3, List.getD_eq_getElem?_getD, List.getElem?_eq_getElem hi']
      have hb := toI_ev (rd_L3 l i) (by rw [he]; exact hr _ (List.getElem_mem hi'))
      refine Ev.step (fun k => ?_) (Ev.bind (f := fun k t => laws_toInt64SS.l0 k l (out.set i t) ((i : Int) + 1)) hb (by rw [he]; simpa using hr'))
      simp only [laws_toInt64SS.l0]
      rw [if_pos (by omega), if_pos (by omega)]
      congr 1
      funext t
      rw [if_pos (by omega), wrap_succ (by omega) (by omega)]
      simp
    · refine Ev.step (f := fun _ => some out) (fun k => ?_) (Ev.now _)
      simp only [laws_toInt64SS.l0]
      rw [if_neg (by simp)]

theorem toII_ev (l : List (List Int)) (hl : l.length ≤ 5864062014805) (hr : ∀ z ∈ l, z.length ≤ 17592186044415) : Ev (fun k => laws_toInt64SS.f k l) l := by
  have h := toII0_ev l hl hr
  rwa [show l.map identL = l from List.map_id _] at h

def sameI (x y : List Int) (j : Nat) : Bool := rd x j == rd y j
def allI (x y : List Int) : Bool := if (x.length : Int) = (y.length : Int) then (List.range x.length).all (sameI x y) else false
def sameII (x y : List (List Int)) (j : Nat) : Bool := allI (rd_L3 x j) (rd_L3 y j)
def allII (x y : List (List Int)) : Bool := if (x.length : Int) = (y.length : Int) then (List.range x.length).all (sameII x y) else false

theorem same_ev (x y : List Int) (hx : x.length < 4611686018427387904) : Ev (fun k => spec_l00Same.f k x y) (allI x y) := by
  unfold spec_l00Same.f allI
  by_cases h : (x.length : Int) = (y.length : Int)
  · simp only [if_pos h]
    refine cmp_loop0 (fun k i => spec_l00Same.l0 k x y i) x.length (sameI x y) (fun i r hi hp hr => Ev.step (fun k => ?_) hr) (fun i hi hp => Ev.step (f := fun _ => some false) (fun k => ?_) (Ev.now _)) (Ev.step (f := fun _ => some true) (fun k => ?_) (Ev.now _))
    · simp only [spec_l00Same.l0]
      rw [if_pos (by omega), if_pos (by omega), if_pos (by omega), if_pos (by simpa [sameI] using hp), wrap_succ (by omega) (by omega)]
    · simp only [spec_l00Same.l0]
      rw [if_pos (by omega), if_pos (by omega), if_pos (by omega), if_neg (by simpa [sameI] using hp)]
    · simp only [spec_l00Same.l0]
      rw [if_neg (by omega)]
  · simp only [if_neg h]
    exact Ev.now _

theorem equal_ev (x y : List Int) (hx : x.length < 4611686018427387904) : Ev (fun k => slices_Equal_int64_int64.f k x y) (allI x y) := by
  unfold slices_Equal_int64_int64.f allI
  by_cases h : (x.length : Int) = (y.length : Int)
  · simp only [if_pos h]
    refine cmp_loop0 (fun k i => slices_Equal_int64_int64.l0 k x y x.length i) x.length (sameI x y) (fun i r hi hp hr => Ev.step (fun k => ?_) hr) (fun i hi hp => Ev.step (f := fun _ => some false) (fun k => ?_) (Ev.now _)) (Ev.step (f := fun _ => some true) (fun k => ?_) (Ev.now _))
    · simp only [slices_Equal_int64_int64.l0]
      rw [if_pos (by omega), if_pos (by omega), if_pos (by omega), if_pos (by omega), if_pos (by simpa [sameI] using hp), wrap_succ (by omega) (by omega)]
    · simp only [slices_Equal_int64_int64.l0]
      rw [if_pos (by omega), if_pos (by omega), if_pos (by omega), if_pos (by omega), if_neg (by simpa [sameI] using hp)]
    · simp only [slices_Equal_int64_int64.l0]
      rw [if_neg (by omega)]
  · simp only [if_neg h]
    exact Ev.now _

theorem equalF_ev (x y : List (List Int)) (hx : x.length < 4611686018427387904) (hr : ∀ z ∈ x, z.length < 4611686018427387904) : Ev (fun k => slices_EqualFunc_int64_int64_int64_int64.f k x y) (allII x y) := by
  unfold slices_EqualFunc_int64_int64_int64_int64.f allII
  by_cases h : (x.length : Int) = (y.length : Int)
  · simp only [if_pos h]
    refine cmp_loop0 (fun k i => slices_EqualFunc_int64_int64_int64_int64.l0 k y x x.length i) x.length (sameII x y) (fun i r hi hp hr' => ?_) (fun i hi hp => ?_) (Ev.step (f := fun _ => some true) (fun k => ?_) (Ev.now _))
    · have hb := equal_ev (rd_L3 x i) (rd_L3 y i) (rd_bound hr i)
      rw [show allI (rd_L3 x i) (rd_L3 y i) = true from hp] at hb
      refine Ev.step (fun k => ?_) (Ev.bind (f := fun k t => if t = true then slices_EqualFunc_int64_int64_int64_int64.l0 k y x x.length ((i : Int) + 1) else some false) hb (by simp only [if_true]; exact hr'))
      simp only [slices_EqualFunc_int64_int64_int64_int64.l0]
      rw [if_pos (by omega), if_pos (by omega), if_pos (by omega), if_pos (by omega), wrap_succ (by omega) (by omega)]
    · have hb := equal_ev (rd_L3 x i) (rd_L3 y i) (rd_bound hr i)
      rw [show allI (rd_L3 x i) (rd_L3 y i) = false from hp] at hb
      refine Ev.step (fun k => ?_) (Ev.bind (f := fun k t => if t = true then slices_EqualFunc_int64_int64_int64_int64.l0 k y x x.length ((i : Int) + 1) else some false) hb (by simp only [Bool.false_eq_true, if_false]; exact Ev.now _))
      simp only [slices_EqualFunc_int64_int64_int64_int64.l0]
      rw [if_pos (by omega), if_pos (by omega), if_pos (by omega), if_pos (by omega), wrap_succ (by omega) (by omega)]
    · simp only [slices_EqualFunc_int64_int64_int64_int64.l0]
      rw [if_neg (by omega)]
  · simp only [if_neg h]
    exact Ev.now _

theorem eqI_ev (x : List Int) (hx : x.length < 4611686018427387904) : Ev (fun k => laws_eqInt64S.f k x x) true := by
  unfold laws_eqInt64S.f
  simp only [if_pos]
  have h := cmp_loop0 (fun k i => laws_eqInt64S.l0 k x x i) x.length (fun _ => true) (fun i r hi hp hr => Ev.step (fun k => by
    simp only [laws_eqInt64S.l0]
    rw [if_pos (by omega), if_pos (by omega), if_pos (by omega)]
    simp only [if_pos]
    rw [wrap_succ (by omega) (by omega)]) hr) (fun i hi hp => by simp at hp) (Ev.step (f := fun _ => some true) (fun k => by
    simp only [laws_eqInt64S.l0]
    rw [if_neg (by omega)]) (Ev.now _))
  rwa [show ((List.range x.length).all fun _ => true) = true from List.all_eq_true.2 (fun _ _ => rfl)] at h

theorem eqII_ev (x : List (List Int)) (hx : x.length < 4611686018427387904) (hr : ∀ z ∈ x, z.length < 4611686018427387904) : Ev (fun k => laws_eqInt64SS.f k x x) true := by
  unfold laws_eqInt64SS.f
  simp only [if_pos]
  have h := cmp_loop0 (fun k i => laws_eqInt64SS.l0 k x x i) x.length (fun _ => true) (fun i r hi hp hr' => Ev.step (fun k => by
    simp only [laws_eqInt64SS.l0]
    rw [if_pos (by omega), if_pos (by omega), if_pos (by omega), wrap_succ (by omega) (by omega)]) (Ev.bind (f := fun k t => if t = true then laws_eqInt64SS.l0 k x x ((i : Int) + 1) else some false) (eqI_ev (rd_L3 x i) (rd_bound hr i)) (by simp only [if_true]; exact hr'))) (fun i hi hp => by simp at hp) (Ev.step (f := fun _ => some true) (fun k => by
    simp only [laws_eqInt64SS.l0]
    rw [if_neg (by omega)]) (Ev.now _))
  rwa [show ((List.range x.length).all fun _ => true) = true from List.all_eq_true.2 (fun _ _ => rfl)] at h

theorem specL_ev (m m' : List S61) (x y : List (List Int)) (hx : x.length < 4611686018427387904) (hr : ∀ z ∈ x, z.length < 4611686018427387904) (h : (x.length : Int) = (y.length : Int)) : Ev (fun k => spec_SameGraph.l0 k 0 m x m' y) ((List.range x.length).all (sameII x y)) := by
  refine cmp_loop0 (fun k i => spec_SameGraph.l0 k i m x m' y) x.length (sameII x y) (fun i r hi hp hr' => ?_) (fun i hi hp => ?_) (Ev.step (f := fun _ => some true) (fun k => ?_) (Ev.now _))
  · have hb := same_ev (rd_L3 x i) (rd_L3 y i) (rd_bound hr i)
    rw [show allI (rd_L3 x i) (rd_L3 y i) = true from hp] at hb
    refine Ev.step (fun k => ?_) (Ev.bind (f := fun k t => if t = true then spec_SameGraph.l0 k ((i : Int) + 1) m x m' y else some false) hb (by simp only [if_true]; exact hr'))
    simp only [spec_SameGraph.l0]
    rw [if_pos (by omega), if_pos (by omega), if_pos (by omega), wrap_succ (by omega) (by omega)]
  · have hb := same_ev (rd_L3 x i) (rd_L3 y i) (rd_bound hr i)
    rw [show allI (rd_L3 x i) (rd_L3 y i) = false from hp] at hb
    refine Ev.step (fun k => ?_) (Ev.bind (f := fun k t => if t = true then spec_SameGraph.l0 k ((i : Int) + 1) m x m' y else some false) hb (by simp only [Bool.false_eq_true, if_false]; exact Ev.now _))
    simp only [spec_SameGraph.l0]
    rw [if_pos (by omega), if_pos (by omega), if_pos (by omega), wrap_succ (by omega) (by omega)]
  · simp only [spec_SameGraph.l0]
    rw [if_neg (by omega)]

def all (m : List S61) (x : List (List Int)) (m' : List S61) (y : List (List Int)) : Bool := allE m m' && allII x y

theorem spec_ev (m : List S61) (x : List (List Int)) (m' : List S61) (y : List (List Int)) (hm : m.length ≤ 4398046511103) (hx : x.length < 4611686018427387904) (hr : ∀ z ∈ x, z.length < 4611686018427387904) :
    Ev (fun k => spec_SameGraph.f k m x m' y) (all m x m' y) := by
  unfold spec_SameGraph.f all
  refine Ev.bind (sys_ev m m' hm) ?_
  cases h : allE m m' with
  | false =>
    simp only [Bool.false_eq_true, if_false, Bool.false_and]
    exact Ev.step (f := fun _ => some false) (fun k => by simp only [spec_SameGraph.j0, if_true]) (Ev.now _)
  | true =>
    simp only [if_true, Bool.true_and]
    by_cases h1 : (x.length : Int) = (y.length : Int)
    · have e : ((x.length : Int) != (y.length : Int)) = false := by simp [h1]
      simp only [e, allII, if_pos h1]
      exact Ev.step (fun k => by simp only [spec_SameGraph.j0, Bool.false_eq_true, if_false]) (specL_ev m m' x y hx hr h1)
    · have e : ((x.length : Int) != (y.length : Int)) = true := by simpa using h1
      simp only [e, allII, if_neg h1]
      exact Ev.step (f := fun _ => some false) (fun k => by simp only [spec_SameGraph.j0, if_true]) (Ev.now _)

theorem impl_ev (m : List S61) (x : List (List Int)) (m' : List S61) (y : List (List Int)) (hm : m.length < 4611686018427387904) (hx : x.length < 4611686018427387904) (hr : ∀ z ∈ x, z.length < 4611686018427387904) :
    Ev (fun k => impl_SameGraph.f k m x m' y) (all m x m' y) := by
  unfold impl_SameGraph.f all
  refine Ev.bind (equalE_ev m m' hm) ?_
  cases h : allE m m' with
  | false => simp only [Bool.false_eq_true, if_false, Bool.false_and]; exact Ev.now _
  | true =>
    simp only [if_true, Bool.true_and]
    exact Ev.bind (equalF_ev x y hx hr) (Ev.now _)

theorem sz_ev (m : List S60) (x : List (List Int)) (hm : m.length ≤ 4398046511103) (hx : x.length < 4611686018427387904) (hr : ∀ z ∈ x, z.length < 4611686018427387904) (a : Int) : ∃ t, Ev (fun k => laws_szStepGraph.f k m x a) t := by
  unfold laws_szStepGraph.f
  obtain ⟨t, ht⟩ := szE_ev m hm a
  by_cases hn : t < 0
  · exact ⟨-1, Ev.bind ht (by simp only [if_pos hn]; exact Ev.now _)⟩
  obtain ⟨u, hu⟩ := szII_ev x hx hr t
  by_cases hv : u < 0
  · exact ⟨-1, Ev.bind ht (by simp only [if_neg hn]; exact Ev.bind hu (by simp only [if_pos hv]; exact Ev.now _))⟩
  · exact ⟨u, Ev.bind ht (by simp only [if_neg hn]; exact Ev.bind hu (by simp only [if_neg hv]; exact Ev.now _))⟩

theorem to_ev (m : List S60) (x : List (List Int)) (hm : m.length ≤ 4398046511103) (hx : x.length ≤ 5864062014805) (hr : ∀ z ∈ x, z.length ≤ 17592186044415) : Ev (fun k => laws_toStepGraph.f k m x) (m.map conv, x) := by
  unfold laws_toStepGraph.f
  exact Ev.bind (toE_ev m hm) (Ev.bind (toII_ev x hx hr) (Ev.now _))

theorem eq_ev (m : List S61) (x : List (List Int)) (hm : m.length ≤ 4398046511103) (hx : x.length < 4611686018427387904) (hr : ∀ z ∈ x, z.length < 4611686018427387904) : Ev (fun k => laws_eqStepGraph.f k m x m x) true := by
  unfold laws_eqStepGraph.f
  refine Ev.bind (eqE_ev m hm) ?_
  simp only [if_true]
  refine Ev.bind (eqII_ev x hx hr) ?_
  simp only [if_true]
  exact Ev.now _

theorem law_ev (m : List S60) (x : List (List Int)) (m' : List S60) (y : List (List Int)) (hm : m.length ≤ 4398046511103) (hx : x.length ≤ 5864062014805) (hr : ∀ z ∈ x, z.length ≤ 17592186044415)
    (hm' : m'.length ≤ 4398046511103) (hy : y.length ≤ 5864062014805) (hs : ∀ z ∈ y, z.length ≤ 17592186044415) : ∃ k, laws_FnExactSameGraph.f k m x m' y = some true := by
  apply Ev.rounds
  unfold laws_FnExactSameGraph.f
  have hr2 : ∀ z ∈ x, z.length < 4611686018427387904 := fun z hz => by have := hr z hz; omega
  have hs2 : ∀ z ∈ y, z.length < 4611686018427387904 := fun z hz => by have := hs z hz; omega
  obtain ⟨t, ht⟩ := sz_ev m x hm (by omega) hr2 1048576
  refine Ev.bind ht ?_
  by_cases hn : t < 0
  · simp only [if_pos hn]
    exact Ev.now _
  simp only [if_neg hn]
  obtain ⟨t1, ht1⟩ := sz_ev m' y hm' (by omega) hs2 t
  refine Ev.bind ht1 ?_
  by_cases hn1 : t1 < 0
  · simp only [if_pos hn1]
    exact Ev.now _
  simp only [if_neg hn1]
  have m0 : (m.map conv).length ≤ 4398046511103 := by simpa using hm
  have m1 : (m'.map conv).length ≤ 4398046511103 := by simpa using hm'
  have m2 : (m.map conv).length < 4611686018427387904 := by omega
  have x2 : x.length < 4611686018427387904 := by omega
  have y2 : y.length < 4611686018427387904 := by omega
  refine Ev.bind (to_ev m x hm hx hr) (Ev.bind (to_ev m' y hm' hy hs) (Ev.bind (spec_ev _ _ _ _ m0 x2 hr2) (Ev.bind (to_ev m x hm hx hr) (Ev.bind (to_ev m' y hm' hy hs) (Ev.bind (impl_ev _ _ _ _ m2 x2 hr2) ?_)))))
  simp only [bne_self_eq_false, Bool.false_eq_true, if_false]
  refine Ev.bind (to_ev m x hm hx hr) (Ev.bind (eq_ev _ _ m0 x2 hr2) ?_)
  simp only [if_true]
  refine Ev.bind (to_ev m' y hm' hy hs) (Ev.bind (eq_ev _ _ m1 y2 hs2) ?_)
  simp only [if_true]
  exact Ev.now _

end Go.Proofs.Ytjgmkfgiijkpbaa.PureSameGraph
