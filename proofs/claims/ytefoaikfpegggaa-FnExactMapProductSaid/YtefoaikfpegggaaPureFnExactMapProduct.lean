/- What is proved: the law FnExactMapProduct, as a statement over plain Lean values, comes to true. Conditions: the lists are no longer than the row's own reach allows. -/
import Derived.Test.YtefoaikfpegggaaQFnExactMapProductx2
import Derived.Test.YtefoaikfpegggaaPureKit
namespace Go.Proofs.Ytefoaikfpegggaa.PureFnExactMapProduct
open Go.RowKit Go.Proofs.Ytefoaikfpegggaa.QFnExactMapProduct Go.Proofs.YtefoaikfpegggaaW.PrintWords Go.Proofs.YtefoaikfpegggaaW.PrintLast Go.Proofs.Ytefoaikfpegggaa.PureKit

theorem rd_bound {x : List (List Int)} (hr : ∀ z ∈ x, z.length < 4611686018427387904) (i : Int) : (rd_L1 x i).length < 4611686018427387904 := by
  unfold rd_L1
  rw [List.getD_eq_getElem?_getD]
  cases h : x[i.toNat]? with
  | none => simp
  | some z => exact hr z (List.mem_of_getElem? h)

theorem szI_ev (l : List Int) (_hl : l.length < 4611686018427387904) (a : Int) : ∃ t, Ev (fun _ : Nat => laws_szInt64S.f l a) t := by
  unfold laws_szInt64S.f
  by_cases h : wrap64 (a - (l.length : Int)) < 0
  · exact ⟨-1, 0, fun k _ => by simp only [if_pos h]⟩
  · exact ⟨wrap64 (a - (l.length : Int)), 0, fun k _ => by simp only [if_neg h]⟩

def identI (x : Int) : Int := x
def identL (x : List Int) : List Int := x

theorem szII_ev (l : List (List Int)) (hl : l.length < 4611686018427387904) (hr : ∀ z ∈ l, z.length < 4611686018427387904) (a : Int) : ∃ t, Ev (fun k => laws_szInt64SS.f k l a) t := by
  unfold laws_szInt64SS.f
  by_cases h : wrap64 (a - (l.length : Int)) < 0
  · exact ⟨-1, 0, fun k _ => by simp only [if_pos h]⟩
  · obtain ⟨r, hr'⟩ := any_loop (fun k s i => laws_szInt64SS.l0 k l s i) l.length (fun i s hi => by
      obtain ⟨t, ht⟩ := szI_ev (rd_L1 l i) (rd_bound hr i) s
      by_cases hn : t < 0
      · left
        refine ⟨-1, Ev.step (fun k => ?_) (Ev.bind (f := fun k t => if t < 0 then some (-1) else laws_szInt64SS.l0 k l t ((i : Int) + 1)) ht (by simp only [if_pos hn]; exact Ev.now _))⟩
        simp only [laws_szInt64SS.l0]
        rw [if_pos (by omega), if_pos (by omega), wrap_succ (by omega) (by omega)]
      · right
        refine ⟨t, fun r hr'' => Ev.step (fun k => ?_) (Ev.bind (f := fun k t => if t < 0 then some (-1) else laws_szInt64SS.l0 k l t ((i : Int) + 1)) ht (by simp only [if_neg hn]; exact hr''))⟩
        simp only [laws_szInt64SS.l0]
        rw [if_pos (by omega), if_pos (by omega), wrap_succ (by omega) (by omega)]) (fun s => by
      refine ⟨s, Ev.step (f := fun _ => some s) (fun k => ?_) (Ev.now _)⟩
      simp only [laws_szInt64SS.l0]
      rw [if_neg (by omega)]) l.length 0 (wrap64 (a - (l.length : Int))) (by omega)
    exact ⟨r, Ev.congr (fun k => by simp only [if_neg h]; rfl) hr'⟩

theorem toI0_ev (l : List Int) (hl : l.length ≤ 17592186044415) : Ev (fun k => laws_toInt64S.f k l) (l.map identI) := by
  unfold laws_toInt64S.f
  refine Ev.congr (f := fun k => laws_toInt64S.l0 k l (List.replicate l.length 0) 0) (fun k => ?_) ?_
  · rw [if_pos (by omega), if_pos (by omega)]
    simp
  · refine map_loop0 (fun k out i => laws_toInt64S.l0 k l out i) (l.map identI) _ (by simp) (fun i out r hi ho hr => Ev.step (fun k => ?_) hr) (fun out => ?_)
    · have hi' : i < l.length := by simpa using hi
      have ho' : out.length = l.length := by simpa using ho
      simp only [laws_toInt64S.l0]
      rw [if_pos (by omega), if_pos (by omega)]
      rw [if_pos (by omega), wrap_succ (by omega) (by omega)]
      simp [identI, rd, List.getD_eq_getElem?_getD, List.getElem?_eq_getElem hi']
    · refine Ev.step (f := fun _ => some out) (fun k => ?_) (Ev.now _)
      simp only [laws_toInt64S.l0]
      rw [if_neg (by simp)]

theorem toI_ev (l : List Int) (hl : l.length ≤ 17592186044415) : Ev (fun k => laws_toInt64S.f k l) (identL l) := by
  have h := toI0_ev l hl
  rwa [show l.map identI = identL l from List.map_id _] at h

theorem toII0_ev (l : List (List Int)) (hl : l.length ≤ 5864062014805) (hr : ∀ z ∈ l, z.length ≤ 17592186044415) : Ev (fun k => laws_toInt64SS.f k l) (l.map identL) := by
  unfold laws_toInt64SS.f
  refine Ev.congr (f := fun k => laws_toInt64SS.l0 k l (List.replicate l.length []) 0) (fun k => ?_) ?_
  · rw [if_pos (by omega), if_pos (by omega)]
    simp
  · refine map_loop0 (fun k out i => laws_toInt64SS.l0 k l out i) (l.map identL) _ (by simp) (fun i out r hi ho hr' => ?_) (fun out => ?_)
    · have hi' : i < l.length := by simpa using hi
      have ho' : out.length = l.length := by simpa using ho
      have he : rd_L1 l i = l[i] := by simp [rd_L1, List.getD_eq_getElem?_getD, List.getElem?_eq_getElem hi']
      have hb := toI_ev (rd_L1 l i) (by rw [he]; exact hr _ (List.getElem_mem hi'))
      refine Ev.step (fun k => ?_) (Ev.bind (f := fun k t => laws_toInt64SS.l0 k l (out.set i t) ((i : Int) + 1)) hb (by rw [he]; simpa using hr'))
      simp only [laws_toInt64SS.l0]
      rw [if_pos (by omega), if_pos (by omega)]
      congr 1
      funext t
      rw [if_pos (by omega), wrap_succ (by omega) (by omega)]
      simp
    · refine Ev.step (f := fun _ => some out) (fun k => ?_) (Ev.now _)
      simp only [laws_toInt64SS.l0]
      rw [if_neg (by simp)]

theorem toII_ev (l : List (List Int)) (hl : l.length ≤ 5864062014805) (hr : ∀ z ∈ l, z.length ≤ 17592186044415) : Ev (fun k => laws_toInt64SS.f k l) l := by
  have h := toII0_ev l hl hr
  rwa [show l.map identL = l from List.map_id _] at h

def sameI (x y : List Int) (j : Nat) : Bool := rd x j == rd y j
def allI (x y : List Int) : Bool := if (x.length : Int) = (y.length : Int) then (List.range x.length).all (sameI x y) else false
def sameII (x y : List (List Int)) (j : Nat) : Bool := allI (rd_L1 x j) (rd_L1 y j)
def allII (x y : List (List Int)) : Bool := if (x.length : Int) = (y.length : Int) then (List.range x.length).all (sameII x y) else false

theorem eqI_ev (x : List Int) (hx : x.length < 4611686018427387904) : Ev (fun k => laws_eqInt64S.f k x x) true := by
  unfold laws_eqInt64S.f
  simp only [if_pos]
  have h := cmp_loop0 (fun k i => laws_eqInt64S.l0 k x x i) x.length (fun _ => true) (fun i r hi hp hr => Ev.step (fun k => by
    simp only [laws_eqInt64S.l0]
    rw [if_pos (by omega), if_pos (by omega), if_pos (by omega)]
    simp only [if_pos]
    rw [wrap_succ (by omega) (by omega)]) hr) (fun i hi hp => by simp at hp) (Ev.step (f := fun _ => some true) (fun k => by
    simp only [laws_eqInt64S.l0]
    rw [if_neg (by omega)]) (Ev.now _))
  rwa [show ((List.range x.length).all fun _ => true) = true from List.all_eq_true.2 (fun _ _ => rfl)] at h

theorem eqII_ev (x : List (List Int)) (hx : x.length < 4611686018427387904) (hr : ∀ z ∈ x, z.length < 4611686018427387904) : Ev (fun k => laws_eqInt64SS.f k x x) true := by
  unfold laws_eqInt64SS.f
  simp only [if_pos]
  have h := cmp_loop0 (fun k i => laws_eqInt64SS.l0 k x x i) x.length (fun _ => true) (fun i r hi hp hr' => Ev.step (fun k => by
    simp only [laws_eqInt64SS.l0]
    rw [if_pos (by omega), if_pos (by omega), if_pos (by omega), wrap_succ (by omega) (by omega)]) (Ev.bind (f := fun k t => if t = true then laws_eqInt64SS.l0 k x x ((i : Int) + 1) else some false) (eqI_ev (rd_L1 x i) (rd_bound hr i)) (by simp only [if_true]; exact hr'))) (fun i hi hp => by simp at hp) (Ev.step (f := fun _ => some true) (fun k => by
    simp only [laws_eqInt64SS.l0]
    rw [if_neg (by omega)]) (Ev.now _))
  rwa [show ((List.range x.length).all fun _ => true) = true from List.all_eq_true.2 (fun _ _ => rfl)] at h

/-- What the row's own reach tells of a list of lists. -/
def Fit (x : List (List Int)) : Prop := x.length ≤ 5864062014805 ∧ ∀ z ∈ x, z.length ≤ 17592186044415
theorem Fit.len {x : List (List Int)} (h : Fit x) : x.length < 4611686018427387904 := by
  have := h.1
  omega
theorem Fit.rows {x : List (List Int)} (h : Fit x) : ∀ z ∈ x, z.length < 4611686018427387904 := fun z hz => by
  have := h.2 z hz
  omega

theorem sz_ev (a : Int) (x y : List (List Int)) (hx : Fit x) (hy : Fit y) (s : Int) : ∃ t, Ev (fun k => laws_szBounds.f k a x y s) t := by
  unfold laws_szBounds.f
  obtain ⟨t, ht⟩ := szII_ev x hx.len hx.rows s
  by_cases hn : t < 0
  · exact ⟨-1, Ev.bind ht (by simp only [if_pos hn]; exact Ev.now _)⟩
  obtain ⟨u, hu⟩ := szII_ev y hy.len hy.rows t
  by_cases hv : u < 0
  · exact ⟨-1, Ev.bind ht (by simp only [if_neg hn]; exact Ev.bind hu (by simp only [if_pos hv]; exact Ev.now _))⟩
  · exact ⟨u, Ev.bind ht (by simp only [if_neg hn]; exact Ev.bind hu (by simp only [if_neg hv]; exact Ev.now _))⟩

theorem to_ev (a : Int) (x y : List (List Int)) (hx : Fit x) (hy : Fit y) : Ev (fun k => laws_toBounds.f k a x y) (a, x, y) := by
  unfold laws_toBounds.f
  exact Ev.bind (toII_ev x hx.1 hx.2) (Ev.bind (toII_ev y hy.1 hy.2) (Ev.now _))

theorem eq_ev (a : Int) (x y : List (List Int)) (hx : Fit x) (hy : Fit y) : Ev (fun k => laws_eqBounds.f k a x y a x y) true := by
  unfold laws_eqBounds.f
  simp only [if_true]
  refine Ev.bind (eqII_ev x hx.len hx.rows) ?_
  simp only [if_true]
  refine Ev.bind (eqII_ev y hy.len hy.rows) ?_
  simp only [if_true]
  exact Ev.now _

theorem spec_ev (a : Int) (x y : List (List Int)) (c n : Int) : Ev (fun _ : Nat => spec_MapProduct.f a x y c n) (PureMaps.mp a x y c n) := Ev.now _
theorem impl_ev (a : Int) (x y : List (List Int)) (c n : Int) : Ev (fun _ : Nat => impl_MapProduct.f a x y c n) (PureMaps.mp a x y c n) := Ev.now _

theorem law_ev (a : Int) (x y : List (List Int)) (c n : Int) (hx : Fit x) (hy : Fit y) : ∃ k, laws_FnExactMapProduct.f k a x y c n = some true := by
  apply Ev.rounds
  unfold laws_FnExactMapProduct.f
  obtain ⟨t, ht⟩ := sz_ev a x y hx hy 1048576
  refine Ev.bind ht ?_
  by_cases hn : t < 0
  · simp only [if_pos hn]
    exact Ev.now _
  simp only [if_neg hn]
  refine Ev.bind (to_ev a x y hx hy) (Ev.bind (spec_ev a x y c n) (Ev.bind (to_ev a x y hx hy) (Ev.bind (impl_ev a x y c n) ?_)))
  simp only [bne_self_eq_false, if_true]
  refine Ev.step (f := fun k => (laws_toBounds.f k a x y).bind fun b => (laws_eqBounds.f k a x y b.1 b.2.1 b.2.2).bind fun t => if t = true then some true else some false) (fun k => ?_) (Ev.bind (to_ev a x y hx hy) (Ev.bind (eq_ev _ _ _ hx hy) ?_))
  · simp only [laws_FnExactMapProduct.j0, Bool.false_eq_true, if_false]
  · simp only [if_true]
    exact Ev.now _

end Go.Proofs.Ytefoaikfpegggaa.PureFnExactMapProduct
