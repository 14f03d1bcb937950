/- What is proved: the law FnExactFirstAllowed, as a statement over plain Lean values, comes to true. Conditions: the lists are no longer than the row's own reach allows. -/
import Derived.Test.YtefoaikfpegggaaQFnExactFirstAllowedx6
import Derived.Test.YtefoaikfpegggaaPureKit
namespace Go.Proofs.Ytefoaikfpegggaa.PureFnExactFirstAllowed
open Go.RowKit Go.Proofs.Ytefoaikfpegggaa.QFnExactFirstAllowed Go.Proofs.YtefoaikfpegggaaW.PrintWords Go.Proofs.YtefoaikfpegggaaW.PrintLast Go.Proofs.Ytefoaikfpegggaa.PureKit Go.Proofs.Ytefoaikfpegggaa.Closures Go.Proofs.Ytefoaikfpegggaa.ValidB

theorem rd_bound {x : List (List Int)} (hr : ∀ z ∈ x, z.length < 4611686018427387904) (i : Int) : (rd_L1 x i).length < 4611686018427387904 := by
  unfold rd_L1
  rw [List.getD_eq_getElem?_getD]
  cases h : x[i.toNat]? with
  | none => simp
  | some z => exact hr z (List.mem_of_getElem? h)

theorem szI_ev (l : List Int) (_hl : l.length < 4611686018427387904) (a : Int) : ∃ t, Ev (fun _ : Nat => laws_szInt64S.f l a) t := by
  unfold laws_szInt64S.f
  by_cases h : wrap64 (a - (l.length : Int)) < 0
  · exact ⟨-1, 0, fun k _ => by simp only [if_pos h]⟩
  · exact ⟨wrap64 (a - (l.length : Int)), 0, fun k _ => by simp only [if_neg h]⟩

def identI (x : Int) : Int := x
def identL (x : List Int) : List Int := x

theorem szII_ev (l : List (List Int)) (hl : l.length < 4611686018427387904) (hr : ∀ z ∈ l, z.length < 4611686018427387904) (a : Int) : ∃ t, Ev (fun k => laws_szInt64SS.f k l a) t := by
  unfold laws_szInt64SS.f
  by_cases h : wrap64 (a - (l.length : Int)) < 0
  · exact ⟨-1, 0, fun k _ => by simp only [if_pos h]⟩
  · obtain ⟨r, hr'⟩ := any_loop (fun k s i => laws_szInt64SS.l0 k l s i) l.length (fun i s hi => by
      obtain ⟨t, ht⟩ := szI_ev (rd_L1 l i) (rd_bound hr i) s
      by_cases hn : t < 0
      · left
        refine ⟨-1, Ev.step (fun k => ?_) (Ev.bind (f := fun k t => if t < 0 then some (-1) else laws_szInt64SS.l0 k l t ((i : Int) + 1)) ht (by simp only [if_pos hn]; exact Ev.now _))⟩
        simp only [laws_szInt64SS.l0]
        rw [if_pos (by omega), if_pos (by omega), wrap_succ (by omega) (by omega)]
      · right
        refine ⟨t, fun r hr'' => Ev.step (fun k => ?_) (Ev.bind (f := fun k t => if t < 0 then some (-1) else laws_szInt64SS.l0 k l t ((i : Int) + 1)) ht (by simp only [if_neg hn]; exact hr''))⟩
        simp only [laws_szInt64SS.l0]
        rw [if_pos (by omega), if_pos (by omega), wrap_succ (by omega) (by omega)]) (fun s => by
      refine ⟨s, Ev.step (f := fun _ => some s) (fun k => ?_) (Ev.now _)⟩
      simp only [laws_szInt64SS.l0]
      rw [if_neg (by omega)]) l.length 0 (wrap64 (a - (l.length : Int))) (by omega)
    exact ⟨r, Ev.congr (fun k => by simp only [if_neg h]; rfl) hr'⟩

theorem toI0_ev (l : List Int) (hl : l.length ≤ 17592186044415) : Ev (fun k => laws_toInt64S.f k l) (l.map identI) := by
  unfold laws_toInt64S.f
  refine Ev.congr (f := fun k => laws_toInt64S.l0 k l (List.replicate l.length 0) 0) (fun k => ?_) ?_
  · rw [if_pos (by omega), if_pos (by omega)]
    simp
  · refine map_loop0 (fun k out i => laws_toInt64S.l0 k l out i) (l.map identI) _ (by simp) (fun i out r hi ho hr => Ev.step (fun k => ?_) hr) (fun out => ?_)
    · have hi' : i < l.length := by simpa using hi
      have ho' : out.length = l.length := by simpa using ho
      simp only [laws_toInt64S.l0]
      rw [if_pos (by omega), if_pos (by omega)]
      rw [if_pos (by omega), wrap_succ (by omega) (by omega)]
      simp [identI, rd, List.getD_eq_getElem?_getD, List.getElem?_eq_getElem hi']
    · refine Ev.step (f := fun _ => some out) (fun k => ?_) (Ev.now _)
      simp only [laws_toInt64S.l0]
      rw [if_neg (by simp)]

theorem toI_ev (l : List Int) (hl : l.length ≤ 17592186044415) : Ev (fun k => laws_toInt64S.f k l) (identL l) := by
  have h := toI0_ev l hl
  rwa [show l.map identI = identL l from List.map_id _] at h

theorem toII0_ev (l : List (List Int)) (hl : l.length ≤ 5864062014805) (hr : ∀ z ∈ l, z.length ≤ 17592186044415) : Ev (fun k => laws_toInt64SS.f k l) (l.map identL) := by
  unfold laws_toInt64SS.f
  refine Ev.congr (f := fun k => laws_toInt64SS.l0 k l (List.replicate l.length []) 0) (fun k => ?_) ?_
  · rw [if_pos (by omega), if_pos (by omega)]
    simp
  · refine map_loop0 (fun k out i => laws_toInt64SS.l0 k l out i) (l.map identL) _ (by simp) (fun i out r hi ho hr' => ?_) (fun out => ?_)
    · have hi' : i < l.length := by simpa using hi
      have ho' : out.length = l.length := by simpa using ho
      have he : rd_L1 l i = l[i] := by simp [rd_L1, List.getD_eq_getElem?_getD, List.getElem?_eq_getElem hi']
      have hb := toI_ev (rd_L1 l i) (by rw [he]; exact hr _ (List.getElem_mem hi'))
      refine Ev.step (fun k => ?_) (Ev.bind (f := fun k t => laws_toInt64SS.l0 k l (out.set i t) ((i : Int) + 1)) hb (by rw [he]; simpa using hr'))
      simp only [laws_toInt64SS.l0]
      rw [if_pos (by omega), if_pos (by omega)]
      congr 1
      funext t
      rw [if_pos (by omega), wrap_succ (by omega) (by omega)]
      simp
    · refine Ev.step (f := fun _ => some out) (fun k => ?_) (Ev.now _)
      simp only [laws_toInt64SS.l0]
      rw [if_neg (by simp)]

theorem toII_ev (l : List (List Int)) (hl : l.length ≤ 5864062014805) (hr : ∀ z ∈ l, z.length ≤ 17592186044415) : Ev (fun k => laws_toInt64SS.f k l) l := by
  have h := toII0_ev l hl hr
  rwa [show l.map identL = l from List.map_id _] at h

def sameI (x y : List Int) (j : Nat) : Bool := rd x j == rd y j
def allI (x y : List Int) : Bool := if (x.length : Int) = (y.length : Int) then (List.range x.length).all (sameI x y) else false
def sameII (x y : List (List Int)) (j : Nat) : Bool := allI (rd_L1 x j) (rd_L1 y j)
def allII (x y : List (List Int)) : Bool := if (x.length : Int) = (y.length : Int) then (List.range x.length).all (sameII x y) else false

theorem eqI_ev (x : List Int) (hx : x.length < 4611686018427387904) : Ev (fun k => laws_eqInt64S.f k x x) true := by
  unfold laws_eqInt64S.f
  simp only [if_pos]
  have h := cmp_loop0 (fun k i => laws_eqInt64S.l0 k x x i) x.length (fun _ => true) (fun i r hi hp hr => Ev.step (fun k => by
    simp only [laws_eqInt64S.l0]
    rw [if_pos (by omega), if_pos (by omega), if_pos (by omega)]
    simp only [if_pos]
    rw [wrap_succ (by omega) (by omega)]) hr) (fun i hi hp => by simp at hp) (Ev.step (f := fun _ => some true) (fun k => by
    simp only [laws_eqInt64S.l0]
    rw [if_neg (by omega)]) (Ev.now _))
  rwa [show ((List.range x.length).all fun _ => true) = true from List.all_eq_true.2 (fun _ _ => rfl)] at h

theorem eqII_ev (x : List (List Int)) (hx : x.length < 4611686018427387904) (hr : ∀ z ∈ x, z.length < 4611686018427387904) : Ev (fun k => laws_eqInt64SS.f k x x) true := by
  unfold laws_eqInt64SS.f
  simp only [if_pos]
  have h := cmp_loop0 (fun k i => laws_eqInt64SS.l0 k x x i) x.length (fun _ => true) (fun i r hi hp hr' => Ev.step (fun k => by
    simp only [laws_eqInt64SS.l0]
    rw [if_pos (by omega), if_pos (by omega), if_pos (by omega), wrap_succ (by omega) (by omega)]) (Ev.bind (f := fun k t => if t = true then laws_eqInt64SS.l0 k x x ((i : Int) + 1) else some false) (eqI_ev (rd_L1 x i) (rd_bound hr i)) (by simp only [if_true]; exact hr'))) (fun i hi hp => by simp at hp) (Ev.step (f := fun _ => some true) (fun k => by
    simp only [laws_eqInt64SS.l0]
    rw [if_neg (by omega)]) (Ev.now _))
  rwa [show ((List.range x.length).all fun _ => true) = true from List.all_eq_true.2 (fun _ _ => rfl)] at h

/-- What the row's own reach tells of a list of lists. -/
def Fit (x : List (List Int)) : Prop := x.length ≤ 5864062014805 ∧ ∀ z ∈ x, z.length ≤ 17592186044415
theorem Fit.len {x : List (List Int)} (h : Fit x) : x.length < 4611686018427387904 := by
  have := h.1
  omega
theorem Fit.rows {x : List (List Int)} (h : Fit x) : ∀ z ∈ x, z.length < 4611686018427387904 := fun z hz => by
  have := h.2 z hz
  omega

theorem sz_ev (a : Int) (x y : List (List Int)) (hx : Fit x) (hy : Fit y) (s : Int) : ∃ t, Ev (fun k => laws_szBounds.f k a x y s) t := by
  unfold laws_szBounds.f
  obtain ⟨t, ht⟩ := szII_ev x hx.len hx.rows s
  by_cases hn : t < 0
  · exact ⟨-1, Ev.bind ht (by simp only [if_pos hn]; exact Ev.now _)⟩
  obtain ⟨u, hu⟩ := szII_ev y hy.len hy.rows t
  by_cases hv : u < 0
  · exact ⟨-1, Ev.bind ht (by simp only [if_neg hn]; exact Ev.bind hu (by simp only [if_pos hv]; exact Ev.now _))⟩
  · exact ⟨u, Ev.bind ht (by simp only [if_neg hn]; exact Ev.bind hu (by simp only [if_neg hv]; exact Ev.now _))⟩

theorem to_ev (a : Int) (x y : List (List Int)) (hx : Fit x) (hy : Fit y) : Ev (fun k => laws_toBounds.f k a x y) (a, x, y) := by
  unfold laws_toBounds.f
  exact Ev.bind (toII_ev x hx.1 hx.2) (Ev.bind (toII_ev y hy.1 hy.2) (Ev.now _))

theorem eq_ev (a : Int) (x y : List (List Int)) (hx : Fit x) (hy : Fit y) : Ev (fun k => laws_eqBounds.f k a x y a x y) true := by
  unfold laws_eqBounds.f
  simp only [if_true]
  refine Ev.bind (eqII_ev x hx.len hx.rows) ?_
  simp only [if_true]
  refine Ev.bind (eqII_ev y hy.len hy.rows) ?_
  simp only [if_true]
  exact Ev.now _

/-- What valid bounds are. -/
structure Valid (a : Int) (x y : List (List Int)) : Prop where
  len : 1 ≤ x.length ∧ x.length ≤ 4
  start : 0 ≤ a ∧ a < (x.length : Int)
  len4 : y.length = 4
  rowlen : ∀ j : Nat, j < x.length → (rdL x j).length = 4
  row : ∀ j : Nat, j < x.length → ∀ q : Nat, q < 4 → 0 ≤ rd (rdL x j) q ∧ rd (rdL x j) q < (x.length : Int)
  ends : ∀ c : Int, 0 ≤ c → c ≤ 3 → ∀ j : Nat, j < (rdL y c).length → 0 ≤ rd (rdL y c) j ∧ rd (rdL y c) j < (x.length : Int)
  endsup : ∀ c : Int, 0 ≤ c → c ≤ 3 → ∀ j : Nat, j < (rdL y c).length → 0 < j → rd (rdL y c) ((j : Int) - 1) < rd (rdL y c) j
theorem inB_of {lo hi s : Int} (h : inB lo hi s = true) : lo ≤ s ∧ s ≤ hi := by
  unfold inB at h
  rw [Bool.and_eq_true, decide_eq_true_eq, decide_eq_true_eq] at h
  exact h
theorem inS_of {n s : Int} (h : inS n s = true) : 0 ≤ s ∧ s < n := by
  unfold inS at h
  rw [Bool.and_eq_true, decide_eq_true_eq, decide_eq_true_eq] at h
  omega
theorem valid_of {a : Int} {x y : List (List Int)} (h : vb a x y = true) : Valid a x y := by
  unfold vb at h
  rw [Bool.and_eq_true, Bool.and_eq_true, Bool.and_eq_true, Bool.and_eq_true] at h
  obtain ⟨h1, h2, h3, h4, h5⟩ := h
  have h1 := inB_of h1
  have h2 := inS_of h2
  have h3 : y.length = 4 := by have := eq_of_beq h3; omega
  have rows : ∀ j : Nat, j < x.length → rowOk x.length (rdL x j) = true := fun j hj => List.all_eq_true.1 h4 j (List.mem_range.2 hj)
  have ends : ∀ c : Int, 0 ≤ c → c ≤ 3 → ∀ j : Nat, j < (rdL y c).length → stepOk x.length (rdL y c) j = true := by
    intro c h0 h1 j hj
    have hc := List.all_eq_true.1 h5 c.toNat (List.mem_range.2 (by omega))
    rw [Int.toNat_of_nonneg h0] at hc
    exact List.all_eq_true.1 hc j (List.mem_range.2 hj)
  refine ⟨by omega, h2, h3, fun j hj => ?_, fun j hj q hq => ?_, fun c h0 h1 j hj => ?_, fun c h0 h1 j hj h2 => ?_⟩
  · have := rows j hj
    unfold rowOk at this
    rw [Bool.and_eq_true] at this
    have := eq_of_beq this.1
    omega
  · have := rows j hj
    unfold rowOk at this
    rw [Bool.and_eq_true, Bool.not_eq_true', List.any_eq_false] at this
    have hl : (rdL x j).length = 4 := by have := eq_of_beq this.1; omega
    have e : rd (rdL x j) q = (rdL x j)[q]'(by omega) := by simp [rd, List.getD_eq_getElem?_getD, List.getElem?_eq_getElem (show q < (rdL x j).length by omega)]
    have h6 := this.2 _ (List.getElem_mem (show q < (rdL x j).length by omega))
    rw [← e] at h6
    exact inS_of (by simpa using h6)
  · have := ends c h0 h1 j hj
    unfold stepOk at this
    rw [Bool.and_eq_true] at this
    exact inS_of this.1
  · have := ends c h0 h1 j hj
    unfold stepOk at this
    rw [Bool.and_eq_true, Bool.or_eq_true, decide_eq_true_eq, beq_iff_eq] at this
    rcases this.2 with h | h
    · omega
    · exact h
/-- A rising list of numbers below n is no longer than n. -/
theorem rise_le {l : List Int} {n : Int} (h : ∀ j : Nat, j < l.length → 0 ≤ rd l j ∧ rd l j < n) (hu : ∀ j : Nat, j < l.length → 0 < j → rd l ((j : Int) - 1) < rd l j) : ∀ j : Nat, j < l.length → (j : Int) ≤ rd l j
  | 0, hj => by have := h 0 hj; simpa using this.1
  | j + 1, hj => by
    have ih := rise_le h hu j (by omega)
    have := hu (j + 1) hj (by omega)
    rw [show (((j + 1 : Nat)) : Int) - 1 = (j : Int) by omega] at this
    omega
theorem Valid.endslen {a : Int} {x y : List (List Int)} (V : Valid a x y) (c : Int) (h0 : 0 ≤ c) (h1 : c ≤ 3) : (rdL y c).length ≤ 4 := by
  rcases Nat.eq_zero_or_pos (rdL y c).length with h | h
  · omega
  · have h2 := rise_le (V.ends c h0 h1) (V.endsup c h0 h1) ((rdL y c).length - 1) (by omega)
    have h3 := V.ends c h0 h1 ((rdL y c).length - 1) (by omega)
    have h4 := V.len
    omega

theorem in1 (a b c : Int) : spec_l00In.f a b c = some (inB b c a) := by
  unfold spec_l00In.f inB
  by_cases h : a ≥ b
  · rw [if_pos h, decide_eq_true h, Bool.true_and]
  · rw [if_neg h, decide_eq_false h, Bool.false_and]
theorem in2 (a b c : Int) : impl_in.f a b c = some (inB b c a) := by
  unfold impl_in.f inB
  by_cases h : a ≥ b
  · rw [if_pos h, decide_eq_true h, Bool.true_and]
  · rw [if_neg h, decide_eq_false h, Bool.false_and]
theorem rd_get (l : List Int) (i : Nat) (h : i < l.length) : rd l (i : Int) = l[i] := by
  simp [rd, List.getD_eq_getElem?_getD, List.getElem?_eq_getElem h]

/-! ### is a number in a list -/
theorem has_ev (l : List Int) (v : Int) (hl : l.length ≤ 1000000) : Ev (fun k => spec_l00Has.f k l v) (decide (v ∈ l)) := by
  unfold spec_l00Has.f
  have main : ∀ d i : Nat, i + d = l.length → Ev (fun k => spec_l00Has.l0 k l v (i : Int)) (decide (v ∈ l.drop i)) := by
    intro d
    induction d with
    | zero =>
      intro i hi
      rw [List.drop_eq_nil_of_le (by omega : l.length ≤ i)]
      refine Ev.step (f := fun _ => some false) (fun k => ?_) (Ev.now _)
      have a1 : ¬ (i : Int) < (l.length : Int) := by omega
      simp only [spec_l00Has.l0]
      rw [if_neg a1]
    | succ d ih =>
      intro i hi
      have hlt : i < l.length := by omega
      have a1 : (i : Int) < (l.length : Int) := by omega
      have a2 : (0 : Int) ≤ (i : Int) := by omega
      rw [(List.getElem_cons_drop hlt).symm]
      by_cases h : l[i] = v
      · rw [decide_eq_true (List.mem_cons.2 (Or.inl h.symm) : v ∈ l[i] :: l.drop (i + 1))]
        refine Ev.step (f := fun _ => some true) (fun k => ?_) (Ev.now _)
        simp only [spec_l00Has.l0, rd_get l i hlt]
        rw [if_pos a1, if_pos a2, if_pos h]
      · have e : decide (v ∈ l[i] :: l.drop (i + 1)) = decide (v ∈ l.drop (i + 1)) := decide_eq_decide.2 ⟨fun m => (List.mem_cons.1 m).resolve_left (fun e => h e.symm), fun m => List.mem_cons_of_mem _ m⟩
        rw [e]
        refine Ev.step (fun k => ?_) (ih (i + 1) (by omega))
        simp only [spec_l00Has.l0, rd_get l i hlt]
        rw [if_pos a1, if_pos a2, if_neg h, wrap_succ (by omega) (by omega)]
        rfl
  exact main l.length 0 (by omega)
theorem contains_ev (l : List Int) (v : Int) (hl : l.length ≤ 1000000) : Ev (fun k => slices_Contains_int64_int64.f k l v) (decide (v ∈ l)) := by
  have main : ∀ d i : Nat, i + d = l.length → ∃ r : Int, Ev (fun k => slices_Index_int64_int64.l0 k l v (l.length : Int) (i : Int)) r ∧ decide (r ≥ 0) = decide (v ∈ l.drop i) := by
    intro d
    induction d with
    | zero =>
      intro i hi
      refine ⟨-1, Ev.step (f := fun _ => some (-1)) (fun k => ?_) (Ev.now _), ?_⟩
      · have a1 : ¬ (i : Int) < (l.length : Int) := by omega
        simp only [slices_Index_int64_int64.l0]
        rw [if_neg a1]
      · rw [List.drop_eq_nil_of_le (by omega : l.length ≤ i)]
        simp
    | succ d ih =>
      intro i hi
      have hlt : i < l.length := by omega
      have a1 : (i : Int) < (l.length : Int) := by omega
      have a2 : (0 : Int) ≤ (i : Int) := by omega
      rw [(List.getElem_cons_drop hlt).symm]
      by_cases h : v = l[i]
      · refine ⟨i, Ev.step (f := fun _ => some (i : Int)) (fun k => ?_) (Ev.now _), ?_⟩
        · simp only [slices_Index_int64_int64.l0, rd_get l i hlt]
          rw [if_pos a1, if_pos a2, if_pos a1, if_pos h]
        · rw [decide_eq_true (show (i : Int) ≥ 0 by omega), decide_eq_true (List.mem_cons.2 (Or.inl h) : v ∈ l[i] :: l.drop (i + 1))]
      · obtain ⟨r, h1, h2⟩ := ih (i + 1) (by omega)
        refine ⟨r, Ev.step (fun k => ?_) h1, ?_⟩
        · simp only [slices_Index_int64_int64.l0, rd_get l i hlt]
          rw [if_pos a1, if_pos a2, if_pos a1, if_neg h, wrap_succ (by omega) (by omega)]
          rfl
        · rw [h2]
          exact decide_eq_decide.2 ⟨fun m => List.mem_cons_of_mem _ m, fun m => (List.mem_cons.1 m).resolve_left h⟩
  obtain ⟨r, h1, h2⟩ := main l.length 0 (by omega)
  unfold slices_Contains_int64_int64.f slices_Index_int64_int64.f
  refine Ev.bind h1 ?_
  rw [List.drop_zero] at h2
  rw [h2]
  exact Ev.now _

/-! ### the states that are met -/
theorem few : ∀ (n : Nat) (l : List Int), l.Nodup → (∀ v ∈ l, 0 ≤ v ∧ v < (n : Int)) → l.length ≤ n
  | 0, l, _, h => by
    cases l with
    | nil => exact Nat.le_refl _
    | cons a b => have := h a (by simp); omega
  | n + 1, l, hd, h => by
    by_cases m : ((n : Int)) ∈ l
    · have := few n (l.erase (n : Int)) (hd.erase _) (fun v hv => by
        rw [hd.mem_erase_iff] at hv
        have := h v hv.2
        have h3 := hv.1
        omega)
      rw [List.length_erase_of_mem m] at this
      omega
    · have := few n l hd (fun v hv => by
        have h2 := h v hv
        have h3 : v ≠ (n : Int) := fun e => m (e ▸ hv)
        omega)
      omega
def letter (j : Nat) : ByteArray := strOfNums ([(wrap64 (97 + (j : Int))) % 256] : List Int)
theorem letter_size (j : Nat) : (letter j).size = 1 := strOfNums_size _
theorem letter_cut (j : Nat) (h : j < 4) : (⟨#[97, 98, 99, 100]⟩ : ByteArray).extract j (j + 1) = letter j := by
  have : j = 0 ∨ j = 1 ∨ j = 2 ∨ j = 3 := by omega
  have e : letter j = ⟨[UInt8.ofNat (97 + j)].toArray⟩ := by
    unfold letter strOfNums
    rw [show wrap64 (97 + (j : Int)) % 256 = ((97 + j : Nat) : Int) by unfold wrap64; omega, List.map_cons, List.map_nil, Int.toNat_natCast]
  rw [e]
  apply ByteArray.ext
  rw [ByteArray.data_extract]
  rcases this with rfl | rfl | rfl | rfl <;> first | decide | rfl | simp
def inn (row : List Int) (wd : ByteArray) (s : List Int × List ByteArray) : Nat → List Int × List ByteArray
  | 0 => s
  | j + 1 => if rd row (j : Int) ∈ (inn row wd s j).1 then inn row wd s j else ((inn row wd s j).1 ++ [rd row (j : Int)], (inn row wd s j).2 ++ [wd ++ letter j])
structure Inv (n : Nat) (t : List Int × List ByteArray) : Prop where
  nd : t.1.Nodup
  rng : ∀ v ∈ t.1, 0 ≤ v ∧ v < (n : Int)
  len : t.1.length = t.2.length
  sz : ∀ j : Nat, (rdOf ByteArray.empty t.2 (j : Int)).size ≤ j
theorem rd_app (l m : List Int) (q : Nat) (h : q < l.length) : rd (l ++ m) (q : Int) = rd l (q : Int) := by
  rw [rd_get (l ++ m) q (by rw [List.length_append]; omega), rd_get l q h, List.getElem_append_left h]
theorem rdOf_app (l m : List ByteArray) (q : Nat) (h : q < l.length) : rdOf ByteArray.empty (l ++ m) (q : Int) = rdOf ByteArray.empty l (q : Int) := by
  simp only [rdOf, Int.toNat_natCast, List.getD_eq_getElem?_getD]
  rw [List.getElem?_append_left h]
theorem inn_inv {n i : Nat} {row : List Int} {wd : ByteArray} {s : List Int × List ByteArray} (hs : Inv n s) (hi : i < s.1.length) (hw : wd.size ≤ i) (hr : ∀ j : Nat, j < 4 → 0 ≤ rd row (j : Int) ∧ rd row (j : Int) < (n : Int)) :
    ∀ j : Nat, j ≤ 4 → Inv n (inn row wd s j) ∧ s.1.length ≤ (inn row wd s j).1.length ∧ (∀ q : Nat, q < s.1.length → rd (inn row wd s j).1 (q : Int) = rd s.1 (q : Int)) ∧ (∀ q : Nat, q < s.1.length → rdOf ByteArray.empty (inn row wd s j).2 (q : Int) = rdOf ByteArray.empty s.2 (q : Int))
  | 0, _ => ⟨hs, Nat.le_refl _, fun _ _ => rfl, fun _ _ => rfl⟩
  | j + 1, hj => by
    obtain ⟨I, L, R, W⟩ := inn_inv hs hi hw hr j (by omega)
    rw [inn]
    split
    · exact ⟨I, L, R, W⟩
    · next hm =>
      have hv := hr j (by omega)
      refine ⟨⟨?_, ?_, ?_, ?_⟩, ?_, ?_, ?_⟩
      · rw [List.nodup_append]
        refine ⟨I.nd, by simp, fun a ha b hb e => ?_⟩
        rw [List.mem_singleton] at hb
        subst hb
        exact hm (e ▸ ha)
      · intro v hv2
        rcases List.mem_append.1 hv2 with h | h
        · exact I.rng v h
        · rw [List.mem_singleton] at h
          subst h
          exact hv
      · simp [I.len]
      · intro q
        by_cases h1 : q < (inn row wd s j).2.length
        · show (rdOf ByteArray.empty ((inn row wd s j).2 ++ [wd ++ letter j]) (q : Int)).size ≤ q
          rw [rdOf_app _ _ _ h1]
          exact I.sz q
        · by_cases h2 : q = (inn row wd s j).2.length
          · subst h2
            have e : rdOf ByteArray.empty ((inn row wd s j).2 ++ [wd ++ letter j]) (((inn row wd s j).2.length : Nat) : Int) = wd ++ letter j := by
              simp [rdOf, List.getD_eq_getElem?_getD]
            show (rdOf ByteArray.empty ((inn row wd s j).2 ++ [wd ++ letter j]) (((inn row wd s j).2.length : Nat) : Int)).size ≤ _
            rw [e, ByteArray.size_append, letter_size]
            have := I.len
            omega
          · have e : rdOf ByteArray.empty ((inn row wd s j).2 ++ [wd ++ letter j]) (q : Int) = ByteArray.empty := by
              simp only [rdOf, Int.toNat_natCast, List.getD_eq_getElem?_getD]
              rw [List.getElem?_eq_none (by rw [List.length_append]; simp; omega)]
              rfl
            show (rdOf ByteArray.empty ((inn row wd s j).2 ++ [wd ++ letter j]) (q : Int)).size ≤ _
            rw [e]
            exact Nat.zero_le _
      · show s.1.length ≤ ((inn row wd s j).1 ++ [rd row (j : Int)]).length
        rw [List.length_append]
        omega
      · intro q hq
        show rd ((inn row wd s j).1 ++ [rd row (j : Int)]) (q : Int) = _
        rw [rd_app _ _ _ (by omega), R q hq]
      · intro q hq
        show rdOf ByteArray.empty ((inn row wd s j).2 ++ [wd ++ letter j]) (q : Int) = _
        rw [rdOf_app _ _ _ (by rw [← I.len]; omega), W q hq]

/-! ### both searches -/
set_option maxHeartbeats 4000000 in
theorem both {a : Int} {x y : List (List Int)} (V : Valid a x y) (c : Int) (hc : 0 ≤ c ∧ c ≤ 3) : ∀ (d i : Nat) (t : List Int × List ByteArray), i + d = 4 → Inv x.length t →
    ∃ r : ByteArray × Int, Ev (fun k => spec_FirstAllowed.l0 k c t.1 t.2 (i : Int) a x y) r ∧ Ev (fun k => impl_FirstAllowed.l0 k c t.1 t.2 (i : Int) a x y) r := by
  intro d
  induction d with
  | zero =>
    intro i t hi I
    have h4 := few x.length t.1 I.nd I.rng
    have l4 := V.len
    have a1 : ¬ (i : Int) < (t.1.length : Int) := by omega
    refine ⟨((⟨#[]⟩ : ByteArray), 6), Ev.step (f := fun _ => some ((⟨#[]⟩ : ByteArray), 6)) (fun k => ?_) (Ev.now _), Ev.step (f := fun _ => some ((⟨#[]⟩ : ByteArray), 6)) (fun k => ?_) (Ev.now _)⟩
    · simp only [spec_FirstAllowed.l0]; rw [if_neg a1]
    · simp only [impl_FirstAllowed.l0]; rw [if_neg a1]
  | succ d ih =>
    intro i t hi I
    have h4 := few x.length t.1 I.nd I.rng
    have l4 := V.len
    by_cases hlt : i < t.1.length
    · have a1 : (i : Int) < (t.1.length : Int) := by omega
      have a2 : (0 : Int) ≤ (i : Int) := by omega
      have a3 := hc.1
      have a4 : c < (y.length : Int) := by rw [V.len4]; omega
      have a5 : (i : Int) < (t.2.length : Int) := by rw [← I.len]; exact a1
      have mr := I.rng (rd t.1 (i : Int)) (by rw [rd_get t.1 i hlt]; exact List.getElem_mem hlt)
      have el := V.endslen c hc.1 hc.2
      have H1 := has_ev (rdL y c) (rd t.1 (i : Int)) (by omega)
      have H2 := contains_ev (rdL y c) (rd t.1 (i : Int)) (by omega)
      by_cases hm : rd t.1 (i : Int) ∈ rdL y c
      · rw [decide_eq_true hm] at H1 H2
        refine ⟨(rdOf ByteArray.empty t.2 (i : Int), 0), ?_, ?_⟩
        · refine Ev.step (f := fun k => (spec_l00Has.f k (rdL y c) (rd t.1 (i : Int))).bind fun b => if b = true then some (rdOf ByteArray.empty t.2 (i : Int), 0) else spec_FirstAllowed.l1 k c t.1 t.2 (i : Int) 0 a x y) (fun k => ?_) (Ev.bind H1 ?_)
          · simp only [spec_FirstAllowed.l0]
            rw [if_pos a1, if_pos a3, if_pos a4, if_pos a2, if_pos a5]
            rfl
          · simp only [if_true]; exact Ev.now _
        · refine Ev.step (f := fun k => (slices_Contains_int64_int64.f k (rdL y c) (rd t.1 (i : Int))).bind fun b => if b = true then some (rdOf ByteArray.empty t.2 (i : Int), 0) else impl_FirstAllowed.l1 k c t.1 t.2 (i : Int) (rdL x (rd t.1 (i : Int))) ((rdL x (rd t.1 (i : Int))).length : Int) 0 a x y) (fun k => ?_) (Ev.bind H2 ?_)
          · simp only [impl_FirstAllowed.l0]
            rw [if_pos a1, if_pos a3, if_pos a4, if_pos a2, if_pos a5, if_pos mr.1, if_pos mr.2]
            rfl
          · simp only [if_true]; exact Ev.now _
      · rw [decide_eq_false hm] at H1 H2
        obtain ⟨mi, hmi⟩ : ∃ mi : Nat, rd t.1 (i : Int) = (mi : Int) := ⟨(rd t.1 (i : Int)).toNat, by omega⟩
        have hmx : mi < x.length := by omega
        have rl := V.rowlen mi hmx
        have rw_ : ∀ j : Nat, j < 4 → 0 ≤ rd (rdL x (mi : Int)) (j : Int) ∧ rd (rdL x (mi : Int)) (j : Int) < (x.length : Int) := fun j hj => V.row mi hmx j hj
        have sz := I.sz i
        have step := fun j hj => inn_inv (row := rdL x (mi : Int)) I hlt sz rw_ j hj
        have S := step 4 (Nat.le_refl _)
        obtain ⟨r, h1, h2⟩ := ih (i + 1) (inn (rdL x (mi : Int)) (rdOf ByteArray.empty t.2 (i : Int)) t 4) (by omega) S.1
        refine ⟨r, ?_, ?_⟩
        · refine Ev.step (f := fun k => (spec_l00Has.f k (rdL y c) (rd t.1 (i : Int))).bind fun b => if b = true then some (rdOf ByteArray.empty t.2 (i : Int), 0) else spec_FirstAllowed.l1 k c t.1 t.2 (i : Int) 0 a x y) (fun k => ?_) (Ev.bind H1 ?_)
          · simp only [spec_FirstAllowed.l0]
            rw [if_pos a1, if_pos a3, if_pos a4, if_pos a2, if_pos a5]
            rfl
          · simp only [Bool.false_eq_true, if_false]
            refine up_loop (fun k (s : List Int × List ByteArray) q => spec_FirstAllowed.l1 k c s.1 s.2 (i : Int) q a x y) (inn (rdL x (mi : Int)) (rdOf ByteArray.empty t.2 (i : Int)) t) 4 r (fun j hj h => ?_) ?_
            · obtain ⟨J, L, R, W⟩ := step j (by omega)
              have jl := few x.length _ J.nd J.rng
              have b1 : (j : Int) < 4 := by omega
              have b2 : (i : Int) < ((inn (rdL x (mi : Int)) (rdOf ByteArray.empty t.2 (i : Int)) t j).1.length : Int) := by omega
              have b3 : rd (inn (rdL x (mi : Int)) (rdOf ByteArray.empty t.2 (i : Int)) t j).1 (i : Int) = (mi : Int) := by rw [R i hlt, hmi]
              have b4 : (0 : Int) ≤ (mi : Int) := by omega
              have b5 : (mi : Int) < (x.length : Int) := by omega
              have b6 : (0 : Int) ≤ (j : Int) := by omega
              have b7 : (j : Int) < ((rd_L1 x (mi : Int)).length : Int) := by show (j : Int) < ((rdL x (mi : Int)).length : Int); rw [rl]; omega
              have b8 : (inn (rdL x (mi : Int)) (rdOf ByteArray.empty t.2 (i : Int)) t j).1.length < 17592186044416 := by omega
              have b9 : (i : Int) < ((inn (rdL x (mi : Int)) (rdOf ByteArray.empty t.2 (i : Int)) t j).2.length : Int) := by rw [← J.len]; exact b2
              have b10 : rdOf ByteArray.empty (inn (rdL x (mi : Int)) (rdOf ByteArray.empty t.2 (i : Int)) t j).2 (i : Int) = rdOf ByteArray.empty t.2 (i : Int) := W i hlt
              have b11 : (rdOf ByteArray.empty t.2 (i : Int)).size + (strOfNums ([(wrap64 (97 + (j : Int))) % 256] : List Int)).size ≤ 9223372036854775807 := by rw [strOfNums_size, List.length_singleton]; omega
              have b12 : (inn (rdL x (mi : Int)) (rdOf ByteArray.empty t.2 (i : Int)) t j).2.length < 8796093022208 := by rw [← J.len]; omega
              rw [inn] at h
              have G := has_ev (inn (rdL x (mi : Int)) (rdOf ByteArray.empty t.2 (i : Int)) t j).1 (rd (rdL x (mi : Int)) (j : Int)) (by omega)
              refine Ev.step (f := fun k => (spec_l00Has.f k (inn (rdL x (mi : Int)) (rdOf ByteArray.empty t.2 (i : Int)) t j).1 (rd (rdL x (mi : Int)) (j : Int))).bind fun b => if b = true then spec_FirstAllowed.l1 k c (inn (rdL x (mi : Int)) (rdOf ByteArray.empty t.2 (i : Int)) t j).1 (inn (rdL x (mi : Int)) (rdOf ByteArray.empty t.2 (i : Int)) t j).2 (i : Int) ((j : Int) + 1) a x y else spec_FirstAllowed.l1 k c ((inn (rdL x (mi : Int)) (rdOf ByteArray.empty t.2 (i : Int)) t j).1 ++ [rd (rdL x (mi : Int)) (j : Int)]) ((inn (rdL x (mi : Int)) (rdOf ByteArray.empty t.2 (i : Int)) t j).2 ++ [rdOf ByteArray.empty t.2 (i : Int) ++ letter j]) (i : Int) ((j : Int) + 1) a x y) (fun k => ?_) (Ev.bind G ?_)
              · simp only [spec_FirstAllowed.l1, b3, b10, Option.bind_some]
                rw [if_pos b1, if_pos a2, if_pos b2, if_pos b4, if_pos b5, if_pos b6, if_pos b7, if_pos b8, if_pos b9, if_pos b11, if_pos b12, wrap_succ (by omega) (by omega)]
                rfl
              · by_cases hin : rd (rdL x (mi : Int)) (j : Int) ∈ (inn (rdL x (mi : Int)) (rdOf ByteArray.empty t.2 (i : Int)) t j).1
                · simp only [decide_eq_true hin, if_true]
                  rw [if_pos hin] at h
                  exact h
                · simp only [decide_eq_false hin, Bool.false_eq_true, if_false]
                  rw [if_neg hin] at h
                  exact h
            · refine Ev.step (fun k => ?_) h1
              simp only [spec_FirstAllowed.l1]
              have b1 : ¬ ((4 : Nat) : Int) < 4 := by omega
              rw [if_neg b1, wrap_succ (by omega) (by omega)]
              rfl
        · refine Ev.step (f := fun k => (slices_Contains_int64_int64.f k (rdL y c) (rd t.1 (i : Int))).bind fun b => if b = true then some (rdOf ByteArray.empty t.2 (i : Int), 0) else impl_FirstAllowed.l1 k c t.1 t.2 (i : Int) (rdL x (rd t.1 (i : Int))) ((rdL x (rd t.1 (i : Int))).length : Int) 0 a x y) (fun k => ?_) (Ev.bind H2 ?_)
          · simp only [impl_FirstAllowed.l0]
            rw [if_pos a1, if_pos a3, if_pos a4, if_pos a2, if_pos a5, if_pos mr.1, if_pos mr.2]
            rfl
          · simp only [Bool.false_eq_true, if_false, hmi, rl]
            refine up_loop (fun k (s : List Int × List ByteArray) q => impl_FirstAllowed.l1 k c s.1 s.2 (i : Int) (rdL x (mi : Int)) ((4 : Nat) : Int) q a x y) (inn (rdL x (mi : Int)) (rdOf ByteArray.empty t.2 (i : Int)) t) 4 r (fun j hj h => ?_) ?_
            · have b13 : (j : Int) ≤ (j : Int) + 1 := by omega
              have b14 : (j : Int) + 1 ≤ 4 := by omega
              have lc : (⟨#[97, 98, 99, 100]⟩ : ByteArray).extract ((j : Int)).toNat ((j : Int) + 1).toNat = letter j := by
                rw [Int.toNat_natCast, show ((j : Int) + 1).toNat = j + 1 by omega]
                exact letter_cut j hj
              obtain ⟨J, L, R, W⟩ := step j (by omega)
              have jl := few x.length _ J.nd J.rng
              have b1 : (j : Int) < ((4 : Nat) : Int) := by omega
              have b6 : (0 : Int) ≤ (j : Int) := by omega
              have b7 : (j : Int) < ((rdL x (mi : Int)).length : Int) := by rw [rl]; omega
              have b8 : (inn (rdL x (mi : Int)) (rdOf ByteArray.empty t.2 (i : Int)) t j).1.length + [rd (rdL x (mi : Int)) (j : Int)].length < 17592186044416 := by rw [List.length_singleton]; omega
              have b9 : (i : Int) < ((inn (rdL x (mi : Int)) (rdOf ByteArray.empty t.2 (i : Int)) t j).2.length : Int) := by rw [← J.len]; omega
              have b10 : rdOf ByteArray.empty (inn (rdL x (mi : Int)) (rdOf ByteArray.empty t.2 (i : Int)) t j).2 (i : Int) = rdOf ByteArray.empty t.2 (i : Int) := W i hlt
              have b11 : (rdOf ByteArray.empty t.2 (i : Int)).size + (letter j).size ≤ 9223372036854775807 := by rw [letter_size]; omega
              have b12 : ∀ z : ByteArray, (inn (rdL x (mi : Int)) (rdOf ByteArray.empty t.2 (i : Int)) t j).2.length + [z].length < 8796093022208 := fun z => by rw [← J.len, List.length_singleton]; omega
              have ws : wrap64 ((j : Int) + 1) = (j : Int) + 1 := wrap_succ (by omega) (by omega)
              rw [inn] at h
              have G := contains_ev (inn (rdL x (mi : Int)) (rdOf ByteArray.empty t.2 (i : Int)) t j).1 (rd (rdL x (mi : Int)) (j : Int)) (by omega)
              refine Ev.step (f := fun k => (slices_Contains_int64_int64.f k (inn (rdL x (mi : Int)) (rdOf ByteArray.empty t.2 (i : Int)) t j).1 (rd (rdL x (mi : Int)) (j : Int))).bind fun b => if b = true then impl_FirstAllowed.l1 k c (inn (rdL x (mi : Int)) (rdOf ByteArray.empty t.2 (i : Int)) t j).1 (inn (rdL x (mi : Int)) (rdOf ByteArray.empty t.2 (i : Int)) t j).2 (i : Int) (rdL x (mi : Int)) ((4 : Nat) : Int) ((j : Int) + 1) a x y else impl_FirstAllowed.l1 k c ((inn (rdL x (mi : Int)) (rdOf ByteArray.empty t.2 (i : Int)) t j).1 ++ [rd (rdL x (mi : Int)) (j : Int)]) ((inn (rdL x (mi : Int)) (rdOf ByteArray.empty t.2 (i : Int)) t j).2 ++ [rdOf ByteArray.empty t.2 (i : Int) ++ letter j]) (i : Int) (rdL x (mi : Int)) ((4 : Nat) : Int) ((j : Int) + 1) a x y) (fun k => ?_) (Ev.bind G ?_)
              · simp only [impl_FirstAllowed.l1, b10, ws, lc, Option.bind_some]
                rw [if_pos b1, if_pos b6, if_pos b7, if_pos b8, if_pos a2, if_pos b9, if_pos b13, if_pos b14, if_pos b11, if_pos (b12 _)]
              · by_cases hin : rd (rdL x (mi : Int)) (j : Int) ∈ (inn (rdL x (mi : Int)) (rdOf ByteArray.empty t.2 (i : Int)) t j).1
                · simp only [decide_eq_true hin, if_true]
                  rw [if_pos hin] at h
                  exact h
                · simp only [decide_eq_false hin, Bool.false_eq_true, if_false]
                  rw [if_neg hin] at h
                  exact h
            · refine Ev.step (fun k => ?_) h2
              simp only [impl_FirstAllowed.l1]
              have b1 : ¬ ((4 : Nat) : Int) < ((4 : Nat) : Int) := by omega
              rw [if_neg b1, wrap_succ (by omega) (by omega)]
              rfl
    · have a1 : ¬ (i : Int) < (t.1.length : Int) := by omega
      refine ⟨((⟨#[]⟩ : ByteArray), 6), Ev.step (f := fun _ => some ((⟨#[]⟩ : ByteArray), 6)) (fun k => ?_) (Ev.now _), Ev.step (f := fun _ => some ((⟨#[]⟩ : ByteArray), 6)) (fun k => ?_) (Ev.now _)⟩
      · simp only [spec_FirstAllowed.l0]; rw [if_neg a1]
      · simp only [impl_FirstAllowed.l0]; rw [if_neg a1]

theorem first_ev (a : Int) (x y : List (List Int)) (c : Int) : ∃ r : ByteArray × Int, Ev (fun k => spec_FirstAllowed.f k a x y c) r ∧ Ev (fun k => impl_FirstAllowed.f k a x y c) r := by
  unfold spec_FirstAllowed.f impl_FirstAllowed.f impl_boundOk.f
  simp only [spec_ValidBounds.f, impl_ValidBounds.f, Option.bind_some, in1, in2]
  cases hv : vb a x y with
  | false =>
    refine ⟨((⟨#[]⟩ : ByteArray), 1), ?_, ?_⟩
    · simp only [Bool.false_eq_true, if_false]; exact Ev.now _
    · simp only [Bool.false_eq_true, if_false, Option.bind_some]
      simp only [if_neg (show ¬ (1 : Int) = 0 by decide)]
      exact Ev.now _
  | true =>
    cases hc : inB 0 3 c with
    | false =>
      refine ⟨((⟨#[]⟩ : ByteArray), 2), ?_, ?_⟩
      · simp only [if_true, Bool.false_eq_true, if_false]; exact Ev.now _
      · simp only [if_true, Bool.false_eq_true, if_false, Option.bind_some]
        simp only [if_neg (show ¬ (2 : Int) = 0 by decide)]
        exact Ev.now _
    | true =>
      simp only [if_true, Option.bind_some]
      have V := valid_of hv
      have I : Inv x.length ([a], [(⟨#[]⟩ : ByteArray)]) := by
        refine ⟨by simp, fun v hv => ?_, rfl, fun j => ?_⟩
        · rw [List.mem_singleton] at hv
          subst hv
          exact V.start
        · cases j with
          | zero => exact Nat.le_refl _
          | succ j =>
            have e : rdOf ByteArray.empty [(⟨#[]⟩ : ByteArray)] ((j + 1 : Nat) : Int) = ByteArray.empty := by
              simp only [rdOf, Int.toNat_natCast]
              rfl
            show (rdOf ByteArray.empty [(⟨#[]⟩ : ByteArray)] ((j + 1 : Nat) : Int)).size ≤ _
            rw [e]
            exact Nat.zero_le _
      exact both V c (inB_of hc) 4 0 _ (by omega) I

theorem law_ev (a : Int) (x y : List (List Int)) (c : Int) (hx : Fit x) (hy : Fit y) : ∃ k, laws_FnExactFirstAllowed.f k a x y c = some true := by
  apply Ev.rounds
  unfold laws_FnExactFirstAllowed.f
  obtain ⟨t, ht⟩ := sz_ev a x y hx hy 1048576
  refine Ev.bind ht ?_
  by_cases hn : t < 0
  · simp only [if_pos hn]
    exact Ev.now _
  simp only [if_neg hn]
  obtain ⟨r, h1, h2⟩ := first_ev a x y c
  refine Ev.bind (to_ev a x y hx hy) (Ev.bind h1 (Ev.bind (to_ev a x y hx hy) (Ev.bind h2 ?_)))
  simp only [bne_self_eq_false, if_true]
  refine Ev.step (f := fun k => (laws_toBounds.f k a x y).bind fun b => (laws_eqBounds.f k a x y b.1 b.2.1 b.2.2).bind fun t => if t = true then some true else some false) (fun k => ?_) (Ev.bind (to_ev a x y hx hy) (Ev.bind (eq_ev _ _ _ hx hy) ?_))
  · simp only [laws_FnExactFirstAllowed.j0, Bool.false_eq_true, if_false]
  · simp only [if_true]
    exact Ev.now _

end Go.Proofs.Ytefoaikfpegggaa.PureFnExactFirstAllowed
