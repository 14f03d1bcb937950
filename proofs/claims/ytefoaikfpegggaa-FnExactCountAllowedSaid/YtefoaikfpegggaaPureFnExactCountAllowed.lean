/- What is proved: the law FnExactCountAllowed, as a statement over plain Lean values, comes to true. Conditions: the lists are no longer than the row's own reach allows. -/
import Derived.Test.YtefoaikfpegggaaQFnExactCountAllowedx6
import Derived.Test.YtefoaikfpegggaaPureKit
namespace Go.Proofs.Ytefoaikfpegggaa.PureFnExactCountAllowed
open Go.RowKit Go.Proofs.Ytefoaikfpegggaa.QFnExactCountAllowed Go.Proofs.YtefoaikfpegggaaW.PrintWords Go.Proofs.YtefoaikfpegggaaW.PrintLast Go.Proofs.Ytefoaikfpegggaa.PureKit Go.Proofs.Ytefoaikfpegggaa.Closures Go.Proofs.Ytefoaikfpegggaa.ValidB

theorem rd_bound {x : List (List Int)} (hr : ∀ z ∈ x, z.length < 4611686018427387904) (i : Int) : (rd_L1 x i).length < 4611686018427387904 := by
  unfold rd_L1
  rw [List.getD_eq_getElem?_getD]
  cases h : x[i.toNat]? with
  | none => simp
  | some z => exact hr z (List.mem_of_getElem? h)

theorem szI_ev (l : List Int) (_hl : l.length < 4611686018427387904) (a : Int) : ∃ t, Ev (fun _ : Nat => laws_szInt64S.f l a) t := by
  unfold laws_szInt64S.f
  by_cases h : wrap64 (a - (l.length : Int)) < 0
  · exact ⟨-1, 0, fun k _ => by simp only [if_pos h]⟩
  · exact ⟨wrap64 (a - (l.length : Int)), 0, fun k _ => by simp only [if_neg h]⟩

def identI (x : Int) : Int := x
def identL (x : List Int) : List Int := x

theorem szII_ev (l : List (List Int)) (hl : l.length < 4611686018427387904) (hr : ∀ z ∈ l, z.length < 4611686018427387904) (a : Int) : ∃ t, Ev (fun k => laws_szInt64SS.f k l a) t := by
  unfold laws_szInt64SS.f
  by_cases h : wrap64 (a - (l.length : Int)) < 0
  · exact ⟨-1, 0, fun k _ => by simp only [if_pos h]⟩
  · obtain ⟨r, hr'⟩ := any_loop (fun k s i => laws_szInt64SS.l0 k l s i) l.length (fun i s hi => by
      obtain ⟨t, ht⟩ := szI_ev (rd_L1 l i) (rd_bound hr i) s
      by_cases hn : t < 0
      · left
        refine ⟨-1, Ev.step (fun k => ?_) (Ev.bind (f := fun k t => if t < 0 then some (-1) else laws_szInt64SS.l0 k l t ((i : Int) + 1)) ht (by simp only [if_pos hn]; exact Ev.now _))⟩
        simp only [laws_szInt64SS.l0]
        rw [if_pos (by omega), if_pos (by omega), wrap_succ (by omega) (by omega)]
      · right
        refine ⟨t, fun r hr'' => Ev.step (fun k => ?_) (Ev.bind (f := fun k t => if t < 0 then some (-1) else laws_szInt64SS.l0 k l t ((i : Int) + 1)) ht (by simp only [if_neg hn]; exact hr''))⟩
        simp only [laws_szInt64SS.l0]
        rw [if_pos (by omega), if_pos (by omega), wrap_succ (by omega) (by omega)]) (fun s => by
      refine ⟨s, Ev.step (f := fun _ => some s) (fun k => ?_) (Ev.now _)⟩
      simp only [laws_szInt64SS.l0]
      rw [if_neg (by omega)]) l.length 0 (wrap64 (a - (l.length : Int))) (by omega)
    exact ⟨r, Ev.congr (fun k => by simp only [if_neg h]; rfl) hr'⟩

theorem toI0_ev (l : List Int) (hl : l.length ≤ 17592186044415) : Ev (fun k => laws_toInt64S.f k l) (l.map identI) := by
  unfold laws_toInt64S.f
  refine Ev.congr (f := fun k => laws_toInt64S.l0 k l (List.replicate l.length 0) 0) (fun k => ?_) ?_
  · rw [if_pos (by omega), if_pos (by omega)]
    simp
  · refine map_loop0 (fun k out i => laws_toInt64S.l0 k l out i) (l.map identI) _ (by simp) (fun i out r hi ho hr => Ev.step (fun k => ?_) hr) (fun out => ?_)
    · have hi' : i < l.length := by simpa using hi
      have ho' : out.length = l.length := by simpa using ho
      simp only [laws_toInt64S.l0]
      rw [if_pos (by omega), if_pos (by omega)]
      rw [if_pos (by omega), wrap_succ (by omega) (by omega)]
      simp [identI, rd, List.getD_eq_getElem?_getD, List.getElem?_eq_getElem hi']
    · refine Ev.step (f := fun _ => some out) (fun k => ?_) (Ev.now _)
      simp only [laws_toInt64S.l0]
      rw [if_neg (by simp)]

theorem toI_ev (l : List Int) (hl : l.length ≤ 17592186044415) : Ev (fun k => laws_toInt64S.f k l) (identL l) := by
  have h := toI0_ev l hl
  rwa [show l.map identI = identL l from List.map_id _] at h

theorem toII0_ev (l : List (List Int)) (hl : l.length ≤ 5864062014805) (hr : ∀ z ∈ l, z.length ≤ 17592186044415) : Ev (fun k => laws_toInt64SS.f k l) (l.map identL) := by
  unfold laws_toInt64SS.f
  refine Ev.congr (f := fun k => laws_toInt64SS.l0 k l (List.replicate l.length []) 0) (fun k => ?_) ?_
  · rw [if_pos (by omega), if_pos (by omega)]
    simp
  · refine map_loop0 (fun k out i => laws_toInt64SS.l0 k l out i) (l.map identL) _ (by simp) (fun i out r hi ho hr' => ?_) (fun out => ?_)
    · have hi' : i < l.length := by simpa using hi
      have ho' : out.length = l.length := by simpa using ho
      have he : rd_L1 l i = l[i] := by simp [rd_L1, List.getD_eq_getElem?_getD, List.getElem?_eq_getElem hi']
      have hb := toI_ev (rd_L1 l i) (by rw [he]; exact hr _ (List.getElem_mem hi'))
      refine Ev.step (fun k => ?_) (Ev.bind (f := fun k t => laws_toInt64SS.l0 k l (out.set i t) ((i : Int) + 1)) hb (by rw [he]; simpa using hr'))
      simp only [laws_toInt64SS.l0]
      rw [if_pos (by omega), if_pos (by omega)]
      congr 1
      funext t
      rw [if_pos (by omega), wrap_succ (by omega) (by omega)]
      simp
    · refine Ev.step (f := fun _ => some out) (fun k => ?_) (Ev.now _)
      simp only [laws_toInt64SS.l0]
      rw [if_neg (by simp)]

theorem toII_ev (l : List (List Int)) (hl : l.length ≤ 5864062014805) (hr : ∀ z ∈ l, z.length ≤ 17592186044415) : Ev (fun k => laws_toInt64SS.f k l) l := by
  have h := toII0_ev l hl hr
  rwa [show l.map identL = l from List.map_id _] at h

def sameI (x y : List Int) (j : Nat) : Bool := rd x j == rd y j
def allI (x y : List Int) : Bool := if (x.length : Int) = (y.length : Int) then (List.range x.length).all (sameI x y) else false
def sameII (x y : List (List Int)) (j : Nat) : Bool := allI (rd_L1 x j) (rd_L1 y j)
def allII (x y : List (List Int)) : Bool := if (x.length : Int) = (y.length : Int) then (List.range x.length).all (sameII x y) else false

theorem eqI_ev (x : List Int) (hx : x.length < 4611686018427387904) : Ev (fun k => laws_eqInt64S.f k x x) true := by
  unfold laws_eqInt64S.f
  simp only [if_pos]
  have h := cmp_loop0 (fun k i => laws_eqInt64S.l0 k x x i) x.length (fun _ => true) (fun i r hi hp hr => Ev.step (fun k => by
    simp only [laws_eqInt64S.l0]
    rw [if_pos (by omega), if_pos (by omega), if_pos (by omega)]
    simp only [if_pos]
    rw [wrap_succ (by omega) (by omega)]) hr) (fun i hi hp => by simp at hp) (Ev.step (f := fun _ => some true) (fun k => by
    simp only [laws_eqInt64S.l0]
    rw [if_neg (by omega)]) (Ev.now _))
  rwa [show ((List.range x.length).all fun _ => true) = true from List.all_eq_true.2 (fun _ _ => rfl)] at h

theorem eqII_ev (x : List (List Int)) (hx : x.length < 4611686018427387904) (hr : ∀ z ∈ x, z.length < 4611686018427387904) : Ev (fun k => laws_eqInt64SS.f k x x) true := by
  unfold laws_eqInt64SS.f
  simp only [if_pos]
  have h := cmp_loop0 (fun k i => laws_eqInt64SS.l0 k x x i) x.length (fun _ => true) (fun i r hi hp hr' => Ev.step (fun k => by
    simp only [laws_eqInt64SS.l0]
    rw [if_pos (by omega), if_pos (by omega), if_pos (by omega), wrap_succ (by omega) (by omega)]) (Ev.bind (f := fun k t => if t = true then laws_eqInt64SS.l0 k x x ((i : Int) + 1) else some false) (eqI_ev (rd_L1 x i) (rd_bound hr i)) (by simp only [if_true]; exact hr'))) (fun i hi hp => by simp at hp) (Ev.step (f := fun _ => some true) (fun k => by
    simp only [laws_eqInt64SS.l0]
    rw [if_neg (by omega)]) (Ev.now _))
  rwa [show ((List.range x.length).all fun _ => true) = true from List.all_eq_true.2 (fun _ _ => rfl)] at h

/-- What the row's own reach tells of a list of lists. -/
def Fit (x : List (List Int)) : Prop := x.length ≤ 5864062014805 ∧ ∀ z ∈ x, z.length ≤ 17592186044415
theorem Fit.len {x : List (List Int)} (h : Fit x) : x.length < 4611686018427387904 := by
  have := h.1
  omega
theorem Fit.rows {x : List (List Int)} (h : Fit x) : ∀ z ∈ x, z.length < 4611686018427387904 := fun z hz => by
  have := h.2 z hz
  omega

theorem sz_ev (a : Int) (x y : List (List Int)) (hx : Fit x) (hy : Fit y) (s : Int) : ∃ t, Ev (fun k => laws_szBounds.f k a x y s) t := by
  unfold laws_szBounds.f
  obtain ⟨t, ht⟩ := szII_ev x hx.len hx.rows s
  by_cases hn : t < 0
  · exact ⟨-1, Ev.bind ht (by simp only [if_pos hn]; exact Ev.now _)⟩
  obtain ⟨u, hu⟩ := szII_ev y hy.len hy.rows t
  by_cases hv : u < 0
  · exact ⟨-1, Ev.bind ht (by simp only [if_neg hn]; exact Ev.bind hu (by simp only [if_pos hv]; exact Ev.now _))⟩
  · exact ⟨u, Ev.bind ht (by simp only [if_neg hn]; exact Ev.bind hu (by simp only [if_neg hv]; exact Ev.now _))⟩

theorem to_ev (a : Int) (x y : List (List Int)) (hx : Fit x) (hy : Fit y) : Ev (fun k => laws_toBounds.f k a x y) (a, x, y) := by
  unfold laws_toBounds.f
  exact Ev.bind (toII_ev x hx.1 hx.2) (Ev.bind (toII_ev y hy.1 hy.2) (Ev.now _))

theorem eq_ev (a : Int) (x y : List (List Int)) (hx : Fit x) (hy : Fit y) : Ev (fun k => laws_eqBounds.f k a x y a x y) true := by
  unfold laws_eqBounds.f
  simp only [if_true]
  refine Ev.bind (eqII_ev x hx.len hx.rows) ?_
  simp only [if_true]
  refine Ev.bind (eqII_ev y hy.len hy.rows) ?_
  simp only [if_true]
  exact Ev.now _

/-- What valid bounds are. -/
structure Valid (a : Int) (x y : List (List Int)) : Prop where
  len : 1 ≤ x.length ∧ x.length ≤ 4
  start : 0 ≤ a ∧ a < (x.length : Int)
  len4 : y.length = 4
  rowlen : ∀ j : Nat, j < x.length → (rdL x j).length = 4
  row : ∀ j : Nat, j < x.length → ∀ q : Nat, q < 4 → 0 ≤ rd (rdL x j) q ∧ rd (rdL x j) q < (x.length : Int)
  ends : ∀ c : Int, 0 ≤ c → c ≤ 3 → ∀ j : Nat, j < (rdL y c).length → 0 ≤ rd (rdL y c) j ∧ rd (rdL y c) j < (x.length : Int)
  endsup : ∀ c : Int, 0 ≤ c → c ≤ 3 → ∀ j : Nat, j < (rdL y c).length → 0 < j → rd (rdL y c) ((j : Int) - 1) < rd (rdL y c) j
theorem inB_of {lo hi s : Int} (h : inB lo hi s = true) : lo ≤ s ∧ s ≤ hi := by
  unfold inB at h
  rw [Bool.and_eq_true, decide_eq_true_eq, decide_eq_true_eq] at h
  exact h
theorem inS_of {n s : Int} (h : inS n s = true) : 0 ≤ s ∧ s < n := by
  unfold inS at h
  rw [Bool.and_eq_true, decide_eq_true_eq, decide_eq_true_eq] at h
  omega
theorem valid_of {a : Int} {x y : List (List Int)} (h : vb a x y = true) : Valid a x y := by
  unfold vb at h
  rw [Bool.and_eq_true, Bool.and_eq_true, Bool.and_eq_true, Bool.and_eq_true] at h
  obtain ⟨h1, h2, h3, h4, h5⟩ := h
  have h1 := inB_of h1
  have h2 := inS_of h2
  have h3 : y.length = 4 := by have := eq_of_beq h3; omega
  have rows : ∀ j : Nat, j < x.length → rowOk x.length (rdL x j) = true := fun j hj => List.all_eq_true.1 h4 j (List.mem_range.2 hj)
  have ends : ∀ c : Int, 0 ≤ c → c ≤ 3 → ∀ j : Nat, j < (rdL y c).length → stepOk x.length (rdL y c) j = true := by
    intro c h0 h1 j hj
    have hc := List.all_eq_true.1 h5 c.toNat (List.mem_range.2 (by omega))
    rw [Int.toNat_of_nonneg h0] at hc
    exact List.all_eq_true.1 hc j (List.mem_range.2 hj)
  refine ⟨by omega, h2, h3, fun j hj => ?_, fun j hj q hq => ?_, fun c h0 h1 j hj => ?_, fun c h0 h1 j hj h2 => ?_⟩
  · have := rows j hj
    unfold rowOk at this
    rw [Bool.and_eq_true] at this
    have := eq_of_beq this.1
    omega
  · have := rows j hj
    unfold rowOk at this
    rw [Bool.and_eq_true, Bool.not_eq_true', List.any_eq_false] at this
    have hl : (rdL x j).length = 4 := by have := eq_of_beq this.1; omega
    have e : rd (rdL x j) q = (rdL x j)[q]'(by omega) := by simp [rd, List.getD_eq_getElem?_getD, List.getElem?_eq_getElem (show q < (rdL x j).length by omega)]
    have h6 := this.2 _ (List.getElem_mem (show q < (rdL x j).length by omega))
    rw [← e] at h6
    exact inS_of (by simpa using h6)
  · have := ends c h0 h1 j hj
    unfold stepOk at this
    rw [Bool.and_eq_true] at this
    exact inS_of this.1
  · have := ends c h0 h1 j hj
    unfold stepOk at this
    rw [Bool.and_eq_true, Bool.or_eq_true, decide_eq_true_eq, beq_iff_eq] at this
    rcases this.2 with h | h
    · omega
    · exact h
/-- A rising list of numbers below n is no longer than n. -/
theorem rise_le {l : List Int} {n : Int} (h : ∀ j : Nat, j < l.length → 0 ≤ rd l j ∧ rd l j < n) (hu : ∀ j : Nat, j < l.length → 0 < j → rd l ((j : Int) - 1) < rd l j) : ∀ j : Nat, j < l.length → (j : Int) ≤ rd l j
  | 0, hj => by have := h 0 hj; simpa using this.1
  | j + 1, hj => by
    have ih := rise_le h hu j (by omega)
    have := hu (j + 1) hj (by omega)
    rw [show (((j + 1 : Nat)) : Int) - 1 = (j : Int) by omega] at this
    omega
theorem Valid.endslen {a : Int} {x y : List (List Int)} (V : Valid a x y) (c : Int) (h0 : 0 ≤ c) (h1 : c ≤ 3) : (rdL y c).length ≤ 4 := by
  rcases Nat.eq_zero_or_pos (rdL y c).length with h | h
  · omega
  · have h2 := rise_le (V.ends c h0 h1) (V.endsup c h0 h1) ((rdL y c).length - 1) (by omega)
    have h3 := V.ends c h0 h1 ((rdL y c).length - 1) (by omega)
    have h4 := V.len
    omega

theorem eL (z : List (List Int)) (i : Int) : rd_L1 z i = rdL z i := rfl
theorem in1 (a b c : Int) : spec_l00In.f a b c = some (inB b c a) := by
  unfold spec_l00In.f inB
  by_cases h : a ≥ b
  · rw [if_pos h, decide_eq_true h, Bool.true_and]
  · rw [if_neg h, decide_eq_false h, Bool.false_and]
theorem in2 (a b c : Int) : impl_in.f a b c = some (inB b c a) := by
  unfold impl_in.f inB
  by_cases h : a ≥ b
  · rw [if_pos h, decide_eq_true h, Bool.true_and]
  · rw [if_neg h, decide_eq_false h, Bool.false_and]

/-- A row's numbers take v up, the first j of them. -/
def addRow (row : List Int) (v : Int) : Nat → List Int → List Int
  | 0, out => out
  | j + 1, out => (addRow row v j out).set (rd row j).toNat (wrap64 (rd (addRow row v j out) (rd row j) + v))
/-- The first s states hand on what they have. -/
def stepTo (x : List (List Int)) (now : List Int) : Nat → List Int
  | 0 => List.replicate x.length 0
  | s + 1 => addRow (rdL x s) (rd now s) 4 (stepTo x now s)
def iter (x : List (List Int)) (now : List Int) : Nat → List Int
  | 0 => now
  | i + 1 => stepTo x (iter x now i) x.length
def sumTo (row now : List Int) : Nat → Int
  | 0 => 0
  | j + 1 => wrap64 (sumTo row now j + rd now (rd row j))
theorem addRow_length (row : List Int) (v : Int) (out : List Int) : ∀ j, (addRow row v j out).length = out.length
  | 0 => rfl
  | j + 1 => by
    simp only [addRow, List.length_set]
    exact addRow_length row v out j
theorem stepTo_length (x : List (List Int)) (now : List Int) : ∀ s, (stepTo x now s).length = x.length
  | 0 => by simp [stepTo]
  | s + 1 => by
    simp only [stepTo, addRow_length]
    exact stepTo_length x now s
theorem iter_length (x : List (List Int)) (now : List Int) (h : now.length = x.length) : ∀ i, (iter x now i).length = x.length
  | 0 => h
  | _ + 1 => stepTo_length _ _ _
/-- What both come to. -/
def count (a : Int) (x y : List (List Int)) (k n : Int) : Int × Int :=
  if vb a x y = true then (if inB 0 3 k = true then (if inB 0 20 n = true then (sumTo (rdL y k) (iter x ((List.replicate x.length 0).set a.toNat 1) n.toNat) (rdL y k).length, 0) else (0, 2)) else (0, 2)) else (0, 1)

theorem spec_ev (a : Int) (x y : List (List Int)) (c n : Int) (_hx : Fit x) : Ev (fun k => spec_CountAllowed.f k a x y c n) (count a x y c n) := by
  unfold spec_CountAllowed.f count
  simp only [spec_ValidBounds.f, Option.bind_some, in1]
  cases hv : vb a x y with
  | false => simp only [Bool.false_eq_true, if_false]; exact Ev.now _
  | true =>
    simp only [if_true]
    cases hc : inB 0 3 c with
    | false =>
      simp only [Bool.false_eq_true, if_false]
      exact Ev.step (f := fun _ => some (0, 2)) (fun k => by simp only [spec_CountAllowed.j0, if_true]) (Ev.now _)
    | true =>
      simp only [if_true]
      cases hn : inB 0 20 n with
      | false =>
        simp only [Bool.not_false, Bool.false_eq_true, if_false]
        exact Ev.step (f := fun _ => some (0, 2)) (fun k => by simp only [spec_CountAllowed.j0, if_true]) (Ev.now _)
      | true =>
        simp only [Bool.not_true, if_true]
        have V := valid_of hv
        have hc2 := inB_of hc
        have hn2 := inB_of hn
        have hl4 := V.len
        have b1 : (0 : Int) ≤ (x.length : Int) := by omega
        have b2 : x.length ≤ 35184372088832 := by omega
        refine Ev.step (f := fun k => spec_CountAllowed.l0 k c n ((List.replicate x.length 0).set a.toNat 1) 0 a x y) (fun k => ?_) ?_
        · simp only [spec_CountAllowed.j0, Bool.false_eq_true, if_false, Option.bind_some, Int.toNat_natCast, List.length_replicate]
          rw [if_pos b1, if_pos b2, if_pos V.start.1, if_pos V.start.2]
        · have hl := fun i => iter_length x ((List.replicate x.length 0).set a.toNat 1) (by simp) i
          refine up_loop (fun k s i => spec_CountAllowed.l0 k c n s i a x y) (iter x ((List.replicate x.length 0).set a.toNat 1)) n.toNat _ (fun i hi h => ?_) ?_
          · refine Ev.step (f := fun k => spec_CountAllowed.l1 k c n (iter x ((List.replicate x.length 0).set a.toNat 1) i) i (List.replicate x.length 0) 0 a x y) (fun k => ?_) ?_
            · simp only [spec_CountAllowed.l0]
              have a0 : (i : Int) < n := by omega
              rw [if_pos a0, if_pos b1, Int.toNat_natCast, if_pos b2]
            · refine up_loop (fun k s j => spec_CountAllowed.l1 k c n (iter x ((List.replicate x.length 0).set a.toNat 1) i) i s j a x y) (stepTo x (iter x ((List.replicate x.length 0).set a.toNat 1) i)) x.length _ (fun j hj h2 => ?_) ?_
              · refine Ev.step (f := fun k => spec_CountAllowed.l2 k c n (iter x ((List.replicate x.length 0).set a.toNat 1) i) i (stepTo x (iter x ((List.replicate x.length 0).set a.toNat 1) i) j) j 0 a x y) (fun k => ?_) ?_
                · simp only [spec_CountAllowed.l1]
                  have a0 : (j : Int) < ((iter x ((List.replicate x.length 0).set a.toNat 1) i).length : Int) := by rw [hl]; omega
                  rw [if_pos a0]
                · refine up_loop (fun k s q => spec_CountAllowed.l2 k c n (iter x ((List.replicate x.length 0).set a.toNat 1) i) i s j q a x y) (fun q => addRow (rdL x j) (rd (iter x ((List.replicate x.length 0).set a.toNat 1) i) j) q (stepTo x (iter x ((List.replicate x.length 0).set a.toNat 1) i) j)) 4 _ (fun q hq h3 => Ev.step (fun k => ?_) h3) ?_
                  · have R := V.row j hj q hq
                    have a1 : (q : Int) < 4 := by omega
                    have a2 : (0 : Int) ≤ (j : Int) := by omega
                    have a3 : (j : Int) < (x.length : Int) := by omega
                    have a4 : (0 : Int) ≤ (q : Int) := by omega
                    have a5 : (q : Int) < ((rdL x j).length : Int) := by rw [V.rowlen j hj]; omega
                    have a6 := R.1
                    have a7 : rd (rdL x j) q < ((addRow (rdL x j) (rd (iter x ((List.replicate x.length 0).set a.toNat 1) i) j) q (stepTo x (iter x ((List.replicate x.length 0).set a.toNat 1) i) j)).length : Int) := by rw [addRow_length, stepTo_length]; exact R.2
                    have a8 : (j : Int) < ((iter x ((List.replicate x.length 0).set a.toNat 1) i).length : Int) := by rw [hl]; omega
                    simp only [spec_CountAllowed.l2]
                    rw [if_pos a1, if_pos a2, if_pos a3, if_pos a4, if_pos (show (q : Int) < ((rd_L1 x j).length : Int) from a5), if_pos (show 0 ≤ rd (rd_L1 x j) q from a6), if_pos (show rd (rd_L1 x j) q < _ from a7), if_pos a8, wrap_succ (by omega) (by omega)]
                    rfl
                  · refine Ev.step (fun k => ?_) h2
                    simp only [spec_CountAllowed.l2]
                    have a1 : ¬ ((4 : Nat) : Int) < 4 := by omega
                    rw [if_neg a1, wrap_succ (by omega) (by omega)]
                    rfl
              · refine Ev.step (fun k => ?_) h
                simp only [spec_CountAllowed.l1]
                have a0 : ¬ (x.length : Int) < ((iter x ((List.replicate x.length 0).set a.toNat 1) i).length : Int) := by rw [hl]; omega
                rw [if_neg a0, wrap_succ (by omega) (by omega)]
                rfl
          · refine Ev.step (f := fun k => spec_CountAllowed.l3 k c (iter x ((List.replicate x.length 0).set a.toNat 1) n.toNat) 0 0 a x y) (fun k => ?_) ?_
            · simp only [spec_CountAllowed.l0]
              have a0 : ¬ (n.toNat : Int) < n := by omega
              rw [if_neg a0]
            · have d1 := hc2.1
              have d2 : c < (y.length : Int) := by rw [V.len4]; omega
              refine up_loop (fun k s j => spec_CountAllowed.l3 k c (iter x ((List.replicate x.length 0).set a.toNat 1) n.toNat) s j a x y) (sumTo (rdL y c) (iter x ((List.replicate x.length 0).set a.toNat 1) n.toNat)) (rdL y c).length _ (fun j hj h => Ev.step (fun k => ?_) h) (Ev.step (f := fun _ => some (_, 0)) (fun k => ?_) (Ev.now _))
              · have E := V.ends c hc2.1 hc2.2 j hj
                have a1 : (j : Int) < ((rdL y c).length : Int) := by omega
                have a2 : (0 : Int) ≤ (j : Int) := by omega
                have a3 := E.1
                have a4 : rd (rdL y c) j < ((iter x ((List.replicate x.length 0).set a.toNat 1) n.toNat).length : Int) := by rw [hl]; exact E.2
                have a5 := V.endslen c hc2.1 hc2.2
                simp only [spec_CountAllowed.l3]
                rw [if_pos d1, if_pos d2, if_pos (show (j : Int) < ((rd_L1 y c).length : Int) from a1), if_pos a2, if_pos (show 0 ≤ rd (rd_L1 y c) j from a3), if_pos (show rd (rd_L1 y c) j < _ from a4), wrap_succ (by omega) (by omega)]
                rfl
              · simp only [spec_CountAllowed.l3]
                have a1 : ¬ ((rdL y c).length : Int) < ((rdL y c).length : Int) := by omega
                rw [if_pos d1, if_pos d2, if_neg (show ¬ ((rdL y c).length : Int) < ((rd_L1 y c).length : Int) from a1)]

theorem impl_ev (a : Int) (x y : List (List Int)) (c n : Int) (_hx : Fit x) : Ev (fun k => impl_CountAllowed.f k a x y c n) (count a x y c n) := by
  unfold impl_CountAllowed.f impl_boundOk.f count
  simp only [impl_ValidBounds.f, Option.bind_some, in2]
  cases hv : vb a x y with
  | false =>
    simp only [Bool.false_eq_true, if_false, Option.bind_some]
    simp only [if_neg (show ¬ (1 : Int) = 0 by decide)]
    exact Ev.now _
  | true =>
    simp only [if_true]
    cases hc : inB 0 3 c with
    | false =>
      simp only [Bool.false_eq_true, if_false, Option.bind_some]
      simp only [if_neg (show ¬ (2 : Int) = 0 by decide)]
      exact Ev.now _
    | true =>
      simp only [if_true, Option.bind_some]
      cases hn : inB 0 20 n with
      | false => simp only [Bool.false_eq_true, if_false]; exact Ev.now _
      | true =>
        simp only [if_true, Int.toNat_natCast, List.length_replicate]
        have V := valid_of hv
        have hc2 := inB_of hc
        have hn2 := inB_of hn
        have hl4 := V.len
        have b1 : (0 : Int) ≤ (x.length : Int) := by omega
        have b2 : x.length ≤ 35184372088832 := by omega
        simp only [if_pos b1, if_pos b2, if_pos V.start.1, if_pos V.start.2]
        have hl := fun i => iter_length x ((List.replicate x.length 0).set a.toNat 1) (by simp) i
        refine up_loop (fun k s i => impl_CountAllowed.l0 k c s n i a x y) (iter x ((List.replicate x.length 0).set a.toNat 1)) n.toNat _ (fun i hi h => ?_) ?_
        · refine Ev.step (f := fun k => impl_CountAllowed.l1 k c (iter x ((List.replicate x.length 0).set a.toNat 1) i) (List.replicate x.length 0) n i x x.length 0 a x y) (fun k => ?_) ?_
          · simp only [impl_CountAllowed.l0]
            have a0 : (i : Int) < n := by omega
            have a1 : (0 : Int) ≤ ((iter x ((List.replicate x.length 0).set a.toNat 1) i).length : Int) := by omega
            have a2 : (iter x ((List.replicate x.length 0).set a.toNat 1) i).length ≤ 35184372088832 := by rw [hl]; exact b2
            rw [if_pos a0, if_pos a1, Int.toNat_natCast, if_pos a2, hl]
          · refine up_loop (fun k s j => impl_CountAllowed.l1 k c (iter x ((List.replicate x.length 0).set a.toNat 1) i) s n i x x.length j a x y) (stepTo x (iter x ((List.replicate x.length 0).set a.toNat 1) i)) x.length _ (fun j hj h2 => ?_) ?_
            · have a2 : (0 : Int) ≤ (j : Int) := by omega
              have a3 : (j : Int) < (x.length : Int) := by omega
              have a8 : (j : Int) < ((iter x ((List.replicate x.length 0).set a.toNat 1) i).length : Int) := by rw [hl]; omega
              refine Ev.step (f := fun k => impl_CountAllowed.l2 k c (iter x ((List.replicate x.length 0).set a.toNat 1) i) (stepTo x (iter x ((List.replicate x.length 0).set a.toNat 1) i) j) j n i x x.length j (rdL x j) (rdL x j).length 0 a x y) (fun k => ?_) ?_
              · simp only [impl_CountAllowed.l1, eL]
                rw [if_pos a3, if_pos a2, if_pos a3]
              · refine up_loop (fun k s q => impl_CountAllowed.l2 k c (iter x ((List.replicate x.length 0).set a.toNat 1) i) s j n i x x.length j (rdL x j) (rdL x j).length q a x y) (fun q => addRow (rdL x j) (rd (iter x ((List.replicate x.length 0).set a.toNat 1) i) j) q (stepTo x (iter x ((List.replicate x.length 0).set a.toNat 1) i) j)) 4 _ (fun q hq h3 => Ev.step (fun k => ?_) h3) ?_
                · have R := V.row j hj q hq
                  have a4 : (0 : Int) ≤ (q : Int) := by omega
                  have a5 : (q : Int) < ((rdL x j).length : Int) := by rw [V.rowlen j hj]; omega
                  have a6 := R.1
                  have a7 : rd (rdL x j) q < ((addRow (rdL x j) (rd (iter x ((List.replicate x.length 0).set a.toNat 1) i) j) q (stepTo x (iter x ((List.replicate x.length 0).set a.toNat 1) i) j)).length : Int) := by rw [addRow_length, stepTo_length]; exact R.2
                  simp only [impl_CountAllowed.l2]
                  rw [if_pos a5, if_pos a4, if_pos a5, if_pos a6, if_pos a7, if_pos a2, if_pos a8, wrap_succ (by omega) (by omega)]
                  rfl
                · refine Ev.step (fun k => ?_) h2
                  simp only [impl_CountAllowed.l2]
                  have a1 : ¬ ((4 : Nat) : Int) < ((rdL x j).length : Int) := by rw [V.rowlen j hj]; omega
                  rw [if_neg a1, wrap_succ (by omega) (by omega)]
                  rfl
            · refine Ev.step (fun k => ?_) h
              simp only [impl_CountAllowed.l1]
              have a0 : ¬ (x.length : Int) < (x.length : Int) := by omega
              rw [if_neg a0, wrap_succ (by omega) (by omega)]
              rfl
        · have d1 := hc2.1
          have d2 : c < (y.length : Int) := by rw [V.len4]; omega
          refine Ev.step (f := fun k => impl_CountAllowed.l3 k (iter x ((List.replicate x.length 0).set a.toNat 1) n.toNat) 0 (rdL y c) (rdL y c).length 0) (fun k => ?_) ?_
          · simp only [impl_CountAllowed.l0, eL]
            have a0 : ¬ (n.toNat : Int) < n := by omega
            rw [if_neg a0, if_pos d1, if_pos d2]
          · refine up_loop (fun k s j => impl_CountAllowed.l3 k (iter x ((List.replicate x.length 0).set a.toNat 1) n.toNat) s (rdL y c) (rdL y c).length j) (sumTo (rdL y c) (iter x ((List.replicate x.length 0).set a.toNat 1) n.toNat)) (rdL y c).length _ (fun j hj h => Ev.step (fun k => ?_) h) (Ev.step (f := fun _ => some (_, 0)) (fun k => ?_) (Ev.now _))
            · have E := V.ends c hc2.1 hc2.2 j hj
              have a1 : (j : Int) < ((rdL y c).length : Int) := by omega
              have a2 : (0 : Int) ≤ (j : Int) := by omega
              have a3 := E.1
              have a4 : rd (rdL y c) j < ((iter x ((List.replicate x.length 0).set a.toNat 1) n.toNat).length : Int) := by rw [hl]; exact E.2
              have a5 := V.endslen c hc2.1 hc2.2
              simp only [impl_CountAllowed.l3]
              rw [if_pos a1, if_pos a2, if_pos a1, if_pos a3, if_pos a4, wrap_succ (by omega) (by omega)]
              rfl
            · simp only [impl_CountAllowed.l3]
              have a1 : ¬ ((rdL y c).length : Int) < ((rdL y c).length : Int) := by omega
              rw [if_neg a1]

theorem law_ev (a : Int) (x y : List (List Int)) (c n : Int) (hx : Fit x) (hy : Fit y) : ∃ k, laws_FnExactCountAllowed.f k a x y c n = some true := by
  apply Ev.rounds
  unfold laws_FnExactCountAllowed.f
  obtain ⟨t, ht⟩ := sz_ev a x y hx hy 1048576
  refine Ev.bind ht ?_
  by_cases hn : t < 0
  · simp only [if_pos hn]
    exact Ev.now _
  simp only [if_neg hn]
  refine Ev.bind (to_ev a x y hx hy) (Ev.bind (spec_ev a x y c n hx) (Ev.bind (to_ev a x y hx hy) (Ev.bind (impl_ev a x y c n hx) ?_)))
  simp only [bne_self_eq_false, if_true]
  refine Ev.step (f := fun k => (laws_toBounds.f k a x y).bind fun b => (laws_eqBounds.f k a x y b.1 b.2.1 b.2.2).bind fun t => if t = true then some true else some false) (fun k => ?_) (Ev.bind (to_ev a x y hx hy) (Ev.bind (eq_ev _ _ _ hx hy) ?_))
  · simp only [laws_FnExactCountAllowed.j0, Bool.false_eq_true, if_false]
  · simp only [if_true]
    exact Ev.now _

end Go.Proofs.Ytefoaikfpegggaa.PureFnExactCountAllowed
