/- What is proved: the law FnExactSameSolutions, as a statement over plain Lean values, comes to true. Conditions: the lists are no longer than the row's own reach allows. -/
import Derived.Test.YtjgmkfgiijkpbaaQFnExactSameSolutionsx6
import Derived.Test.YtjgmkfgiijkpbaaPureKit
namespace Go.Proofs.Ytjgmkfgiijkpbaa.PureSameSolutions
open Go.RowKit Go.Proofs.Ytjgmkfgiijkpbaa.QFnExactSameSolutions Go.Proofs.YtjgmkfgiijkpbaaW.PrintWords Go.Proofs.YtjgmkfgiijkpbaaW.PrintLast Go.Proofs.Ytjgmkfgiijkpbaa.PureKit

theorem szPowers_some (a b : ByteArray) (c s : Int) : ∃ t, laws_szPowers.f a b c s = some t := by
  unfold laws_szPowers.f
  split
  · exact ⟨_, rfl⟩
  · split
    · exact ⟨_, rfl⟩
    · exact ⟨_, rfl⟩

theorem szS_ev (l : List ByteArray) (hl : l.length < 4611686018427387904) (a : Int) : ∃ t, Ev (fun k => laws_szStringS.f k l a) t := by
  unfold laws_szStringS.f
  by_cases h : wrap64 (a - (l.length : Int)) < 0
  · exact ⟨-1, 0, fun k _ => by simp only [if_pos h]⟩
  · obtain ⟨r, hr⟩ := any_loop (fun k s i => laws_szStringS.l0 k l s i) l.length (fun i s hi => by
      by_cases hn : (wrap64 (s - ((rdOf ByteArray.empty l i).size : Int))) < 0
      · left
        refine ⟨-1, Ev.step (f := fun _ => some (-1)) (fun k => ?_) (Ev.now _)⟩
        simp only [laws_szStringS.l0]
        rw [if_pos (by omega), if_pos (by omega), if_pos hn]
      · right
        refine ⟨(wrap64 (s - ((rdOf ByteArray.empty l i).size : Int))), fun r hr => Ev.step (fun k => ?_) hr⟩
        simp only [laws_szStringS.l0]
        rw [if_pos (by omega), if_pos (by omega), if_neg hn, wrap_succ (by omega) (by omega)]) (fun s => by
      refine ⟨s, Ev.step (f := fun _ => some s) (fun k => ?_) (Ev.now _)⟩
      simp only [laws_szStringS.l0]
      rw [if_neg (by omega)]) l.length 0 (wrap64 (a - (l.length : Int))) (by omega)
    exact ⟨r, Ev.congr (fun k => by simp only [if_neg h]; rfl) hr⟩

theorem szP_ev (l : List S87) (hl : l.length < 4611686018427387904) (a : Int) : ∃ t, Ev (fun k => laws_szPowersS.f k l a) t := by
  unfold laws_szPowersS.f
  by_cases h : wrap64 (a - (l.length : Int)) < 0
  · exact ⟨-1, 0, fun k _ => by simp only [if_pos h]⟩
  · obtain ⟨r, hr⟩ := any_loop (fun k s i => laws_szPowersS.l0 k l s i) l.length (fun i s hi => by
      obtain ⟨t, ht⟩ := szPowers_some (rd_T87 l i).f0 (rd_T87 l i).f1 (rd_T87 l i).f2 s
      by_cases hn : t < 0
      · left
        refine ⟨-1, Ev.step (f := fun _ => some (-1)) (fun k => ?_) (Ev.now _)⟩
        simp only [laws_szPowersS.l0]
        rw [if_pos (by omega), if_pos (by omega), ht]
        simp only [Option.bind_some]
        rw [if_pos hn]
      · right
        refine ⟨t, fun r hr => Ev.step (fun k => ?_) hr⟩
        simp only [laws_szPowersS.l0]
        rw [if_pos (by omega), if_pos (by omega), ht]
        simp only [Option.bind_some]
        rw [if_neg hn, wrap_succ (by omega) (by omega)]) (fun s => by
      refine ⟨s, Ev.step (f := fun _ => some s) (fun k => ?_) (Ev.now _)⟩
      simp only [laws_szPowersS.l0]
      rw [if_neg (by omega)]) l.length 0 (wrap64 (a - (l.length : Int))) (by omega)
    exact ⟨r, Ev.congr (fun k => by simp only [if_neg h]; rfl) hr⟩

theorem szOne_ev (a : Bool) (l : List ByteArray) (m : List S87) (hl : l.length < 4611686018427387904) (hm : m.length < 4611686018427387904) (s : Int) : ∃ t, Ev (fun k => laws_szOneSolutions.f k a l m s) t := by
  unfold laws_szOneSolutions.f
  obtain ⟨t, ht⟩ := szS_ev l hl s
  by_cases hn : t < 0
  · exact ⟨-1, Ev.bind ht (by simp only [if_pos hn]; exact Ev.now _)⟩
  obtain ⟨u, hu⟩ := szP_ev m hm t
  by_cases hv : u < 0
  · exact ⟨-1, Ev.bind ht (by simp only [if_neg hn]; exact Ev.bind hu (by simp only [if_pos hv]; exact Ev.now _))⟩
  · exact ⟨u, Ev.bind ht (by simp only [if_neg hn]; exact Ev.bind hu (by simp only [if_neg hv]; exact Ev.now _))⟩

def conv (x : S87) : S67 := ⟨x.f0, x.f1, x.f2⟩
def ident (x : ByteArray) : ByteArray := x

theorem toS_ev (l : List ByteArray) (hl : l.length ≤ 8796093022207) : Ev (fun k => laws_toStringS.f k l) (l.map ident) := by
  unfold laws_toStringS.f
  refine Ev.congr (f := fun k => laws_toStringS.l0 k l (List.replicate l.length (⟨#[]⟩ : ByteArray)) 0) (fun k => ?_) ?_
  · rw [if_pos (by omega), if_pos (by omega)]
    simp
  · refine map_loop0 (fun k out i => laws_toStringS.l0 k l out i) (l.map ident) _ (by simp) (fun i out r hi ho hr => Ev.step (fun k => ?_) hr) (fun out => ?_)
    · have hi' : i < l.length := by simpa using hi
      have ho' : out.length = l.length := by simpa using ho
      simp only [laws_toStringS.l0]
      rw [if_pos (by omega), if_pos (by omega)]
      rw [if_pos (by omega), wrap_succ (by omega) (by omega)]
      simp [ident, rdOf, List.getD_eq_getElem?_getD, List.getElem?_eq_getElem hi']
    · refine Ev.step (f := fun _ => some out) (fun k => ?_) (Ev.now _)
      simp only [laws_toStringS.l0]
      rw [if_neg (by simp)]

theorem toP_ev (l : List S87) (hl : l.length ≤ 3518437208780) : Ev (fun k => laws_toPowersS.f k l) (l.map conv) := by
  unfold laws_toPowersS.f
  refine Ev.congr (f := fun k => laws_toPowersS.l0 k l (List.replicate l.length z67) 0) (fun k => ?_) ?_
  · rw [if_pos (by omega), if_pos (by omega)]
    simp
  · refine map_loop0 (fun k out i => laws_toPowersS.l0 k l out i) (l.map conv) _ (by simp) (fun i out r hi ho hr => Ev.step (fun k => ?_) hr) (fun out => ?_)
    · have hi' : i < l.length := by simpa using hi
      have ho' : out.length = l.length := by simpa using ho
      simp only [laws_toPowersS.l0, laws_toPowers.f]
      rw [if_pos (by omega), if_pos (by omega)]
      simp only [Option.bind_some]
      rw [if_pos (by omega), wrap_succ (by omega) (by omega)]
      simp [conv, rd_T87, List.getD_eq_getElem?_getD, List.getElem?_eq_getElem hi']
    · refine Ev.step (f := fun _ => some out) (fun k => ?_) (Ev.now _)
      simp only [laws_toPowersS.l0]
      rw [if_neg (by simp)]

theorem toOne_ev (a : Bool) (l : List ByteArray) (m : List S87) (hl : l.length ≤ 8796093022207) (hm : m.length ≤ 3518437208780) : Ev (fun k => laws_toOneSolutions.f k a l m) (a, l, m.map conv) := by
  unfold laws_toOneSolutions.f
  have h := toS_ev l hl
  rw [show l.map ident = l from List.map_id _] at h
  exact Ev.bind h (Ev.bind (toP_ev m hm) (Ev.now _))

def sameS (x y : List ByteArray) (j : Nat) : Bool := (rdOf ByteArray.empty x j).toList == (rdOf ByteArray.empty y j).toList
def allS (x y : List ByteArray) : Bool := if (x.length : Int) = (y.length : Int) then (List.range x.length).all (sameS x y) else false
def sameP (x y : List S67) (j : Nat) : Bool :=
  !(!((((rd_T67 x j).f0).toList) == (((rd_T67 y j).f0).toList)) || (!((((rd_T67 x j).f1).toList) == (((rd_T67 y j).f1).toList)) || (!(((rd_T67 x j).f2) == ((rd_T67 y j).f2)))))
def allP (x y : List S67) : Bool := if (x.length : Int) = (y.length : Int) then (List.range x.length).all (sameP x y) else false
def all (a : Bool) (l : List ByteArray) (m : List S67) (b : Bool) (l' : List ByteArray) (m' : List S67) : Bool := (a == b) && (allS l l' && allP m m')

theorem equalS_ev (x y : List ByteArray) (hx : x.length < 4611686018427387904) : Ev (fun k => slices_Equal_string_string.f k x y) (allS x y) := by
  unfold slices_Equal_string_string.f allS
  by_cases h : (x.length : Int) = (y.length : Int)
  · simp only [if_pos h]
    refine cmp_loop0 (fun k i => slices_Equal_string_string.l0 k x y x.length i) x.length (sameS x y) (fun i r hi hp hr => Ev.step (fun k => ?_) hr) (fun i hi hp => Ev.step (f := fun _ => some false) (fun k => ?_) (Ev.now _)) (Ev.step (f := fun _ => some true) (fun k => ?_) (Ev.now _))
    · simp only [slices_Equal_string_string.l0]
      rw [if_pos (by omega), if_pos (by omega), if_pos (by omega), if_pos (by omega), if_pos (by simpa [sameS] using hp), wrap_succ (by omega) (by omega)]
    · simp only [slices_Equal_string_string.l0]
      rw [if_pos (by omega), if_pos (by omega), if_pos (by omega), if_pos (by omega), if_neg (by simpa [sameS] using hp)]
    · simp only [slices_Equal_string_string.l0]
      rw [if_neg (by omega)]
  · simp only [if_neg h]
    exact Ev.now _

theorem equalP_ev (x y : List S67) (hx : x.length < 4611686018427387904) : Ev (fun k => impl_Powers.f k x y) (allP x y) := by
  unfold impl_Powers.f allP
  by_cases h : (x.length : Int) = (y.length : Int)
  · simp only [if_pos h]
    refine cmp_loop0 (fun k i => impl_Powers.l0 k x y x.length i) x.length (sameP x y) (fun i r hi hp hr => Ev.step (fun k => ?_) hr) (fun i hi hp => Ev.step (f := fun _ => some false) (fun k => ?_) (Ev.now _)) (Ev.step (f := fun _ => some true) (fun k => ?_) (Ev.now _))
    · simp only [impl_Powers.l0]
      rw [if_pos (by omega), if_pos (by omega), if_pos (by omega), if_pos (by omega), if_neg (by simpa [sameP] using hp), wrap_succ (by omega) (by omega)]
    · simp only [impl_Powers.l0]
      rw [if_pos (by omega), if_pos (by omega), if_pos (by omega), if_pos (by omega), if_pos (by simpa only [sameP, Bool.not_eq_false'] using hp)]
    · simp only [impl_Powers.l0]
      rw [if_neg (by omega)]
  · simp only [if_neg h]
    exact Ev.now _

theorem impl_ev (a : Bool) (l : List ByteArray) (m : List S67) (b : Bool) (l' : List ByteArray) (m' : List S67) (hl : l.length < 4611686018427387904) (hm : m.length < 4611686018427387904) :
    Ev (fun k => impl_SameSolutions.f k a l m b l' m') (all a l m b l' m') := by
  unfold impl_SameSolutions.f all
  cases h : (a == b) with
  | false => simp only [Bool.false_and, Bool.false_eq_true, if_false]; exact Ev.now _
  | true =>
    simp only [if_true, Bool.true_and]
    refine Ev.bind (equalS_ev l l' hl) ?_
    cases h2 : allS l l' with
    | false => simp only [Bool.false_and, Bool.false_eq_true, if_false]; exact Ev.now _
    | true =>
      simp only [if_true, Bool.true_and]
      exact Ev.bind (equalP_ev m m' hm) (Ev.now _)

theorem l1_ev (a : Bool) (l : List ByteArray) (m : List S67) (b : Bool) (l' : List ByteArray) (m' : List S67) (hm : m.length < 4611686018427387904) (h : (m.length : Int) = (m'.length : Int)) :
    Ev (fun k => spec_SameSolutions.l1 k 0 a l m b l' m') (allP m m') := by
  unfold allP
  simp only [if_pos h]
  refine cmp_loop0 (fun k i => spec_SameSolutions.l1 k i a l m b l' m') m.length (sameP m m') (fun i r hi hp hr => Ev.step (fun k => ?_) hr) (fun i hi hp => Ev.step (f := fun _ => some false) (fun k => ?_) (Ev.now _)) (Ev.step (f := fun _ => some true) (fun k => ?_) (Ev.now _))
  · simp only [spec_SameSolutions.l1]
    rw [if_pos (by omega), if_pos (by omega), if_pos (by omega), if_neg (by simpa [sameP] using hp), wrap_succ (by omega) (by omega)]
  · simp only [spec_SameSolutions.l1]
    rw [if_pos (by omega), if_pos (by omega), if_pos (by omega), if_pos (by simpa only [sameP, Bool.not_eq_false'] using hp)]
  · simp only [spec_SameSolutions.l1]
    rw [if_neg (by omega)]

theorem l0_ev (a : Bool) (l : List ByteArray) (m : List S67) (b : Bool) (l' : List ByteArray) (m' : List S67) (hl : l.length < 4611686018427387904) (hm : m.length < 4611686018427387904) (h0 : (l.length : Int) = (l'.length : Int)) (h : (m.length : Int) = (m'.length : Int)) :
    Ev (fun k => spec_SameSolutions.l0 k 0 a l m b l' m') (allS l l' && allP m m') := by
  unfold allS
  simp only [if_pos h0]
  refine then_loop0 (fun k i => spec_SameSolutions.l0 k i a l m b l' m') l.length (sameS l l') (allP m m') (fun i r hi hp hr => Ev.step (fun k => ?_) hr) (fun i hi hp => Ev.step (f := fun _ => some false) (fun k => ?_) (Ev.now _)) (Ev.step (f := fun k => spec_SameSolutions.l1 k 0 a l m b l' m') (fun k => ?_) (l1_ev a l m b l' m' hm h))
  · simp only [spec_SameSolutions.l0]
    rw [if_pos (by omega), if_pos (by omega), if_pos (by omega), if_pos (by simpa [sameS] using hp), wrap_succ (by omega) (by omega)]
  · simp only [spec_SameSolutions.l0]
    rw [if_pos (by omega), if_pos (by omega), if_pos (by omega), if_neg (by simpa [sameS] using hp)]
  · simp only [spec_SameSolutions.l0]
    rw [if_neg (by omega)]

theorem spec_ev (a : Bool) (l : List ByteArray) (m : List S67) (b : Bool) (l' : List ByteArray) (m' : List S67) (hl : l.length < 4611686018427387904) (hm : m.length < 4611686018427387904) :
    Ev (fun k => spec_SameSolutions.f k a l m b l' m') (all a l m b l' m') := by
  unfold spec_SameSolutions.f all
  cases h : (a == b) with
  | false =>
    have hne : (a != b) = true := by simp [bne, h]
    simp only [if_pos hne, Bool.false_and]
    exact Ev.step (f := fun _ => some false) (fun k => by simp only [spec_SameSolutions.j0, if_true]) (Ev.now _)
  | true =>
    have hne : ¬ (a != b) = true := by simp [bne, h]
    simp only [if_neg hne, Bool.true_and]
    by_cases h0 : (l.length : Int) = (l'.length : Int)
    · simp only [if_pos h0]
      by_cases h1 : (m.length : Int) = (m'.length : Int)
      · have e : ((m.length : Int) != (m'.length : Int)) = false := by simp [h1]
        simp only [e]
        exact Ev.step (fun k => by simp only [spec_SameSolutions.j0, Bool.false_eq_true, if_false]) (l0_ev a l m b l' m' hl hm h0 h1)
      · have e : ((m.length : Int) != (m'.length : Int)) = true := by simpa using h1
        simp only [e, allP, if_neg h1, Bool.and_false]
        exact Ev.step (f := fun _ => some false) (fun k => by simp only [spec_SameSolutions.j0, if_true]) (Ev.now _)
    · simp only [if_neg h0, allS, Bool.false_and]
      exact Ev.step (f := fun _ => some false) (fun k => by simp only [spec_SameSolutions.j0, if_true]) (Ev.now _)

theorem eqS_ev (x : List ByteArray) (hx : x.length < 4611686018427387904) : Ev (fun k => laws_eqStringS.f k x x) true := by
  unfold laws_eqStringS.f
  simp only [if_pos]
  have h := cmp_loop0 (fun k i => laws_eqStringS.l0 k x x i) x.length (fun _ => true) (fun i r hi hp hr => Ev.step (fun k => by
    simp only [laws_eqStringS.l0]
    rw [if_pos (by omega), if_pos (by omega), if_pos (by omega)]
    simp only [if_pos]
    rw [wrap_succ (by omega) (by omega)]) hr) (fun i hi hp => by simp at hp) (Ev.step (f := fun _ => some true) (fun k => by
    simp only [laws_eqStringS.l0]
    rw [if_neg (by omega)]) (Ev.now _))
  rwa [show ((List.range x.length).all fun _ => true) = true from List.all_eq_true.2 (fun _ _ => rfl)] at h

theorem eqP_ev (x : List S67) (hx : x.length < 4611686018427387904) : Ev (fun k => laws_eqPowersS.f k x x) true := by
  unfold laws_eqPowersS.f
  simp only [if_pos]
  have h := cmp_loop0 (fun k i => laws_eqPowersS.l0 k x x i) x.length (fun _ => true) (fun i r hi hp hr => Ev.step (fun k => by
    simp only [laws_eqPowersS.l0, laws_eqPowers.f]
    rw [if_pos (by omega), if_pos (by omega), if_pos (by omega)]
    simp only [if_pos, Option.bind_some]
    rw [wrap_succ (by omega) (by omega)]) hr) (fun i hi hp => by simp at hp) (Ev.step (f := fun _ => some true) (fun k => by
    simp only [laws_eqPowersS.l0]
    rw [if_neg (by omega)]) (Ev.now _))
  rwa [show ((List.range x.length).all fun _ => true) = true from List.all_eq_true.2 (fun _ _ => rfl)] at h

theorem eq_ev (a : Bool) (l : List ByteArray) (m : List S67) (hl : l.length < 4611686018427387904) (hm : m.length < 4611686018427387904) : Ev (fun k => laws_eqOneSolutions.f k a l m a l m) true := by
  unfold laws_eqOneSolutions.f
  have hne : ¬ (a != a) = true := by simp
  simp only [if_neg hne]
  refine Ev.bind (eqS_ev l hl) ?_
  simp only [if_true]
  refine Ev.bind (eqP_ev m hm) ?_
  simp only [if_true]
  exact Ev.now _

theorem law_ev (a : Bool) (l : List ByteArray) (m : List S87) (b : Bool) (l' : List ByteArray) (m' : List S87) (hl : l.length ≤ 8796093022207) (hm : m.length ≤ 3518437208780) (hl' : l'.length ≤ 8796093022207) (hm' : m'.length ≤ 3518437208780) :
    ∃ k, laws_FnExactSameSolutions.f k a l m b l' m' = some true := by
  apply Ev.rounds
  unfold laws_FnExactSameSolutions.f
  obtain ⟨t, ht⟩ := szOne_ev a l m (by omega) (by omega) 1048576
  refine Ev.bind ht ?_
  by_cases hn : t < 0
  · simp only [if_pos hn]
    exact Ev.now _
  simp only [if_neg hn]
  obtain ⟨t1, ht1⟩ := szOne_ev b l' m' (by omega) (by omega) t
  refine Ev.bind ht1 ?_
  by_cases hn1 : t1 < 0
  · simp only [if_pos hn1]
    exact Ev.now _
  simp only [if_neg hn1]
  have b0 : l.length < 4611686018427387904 := by omega
  have b1 : l'.length < 4611686018427387904 := by omega
  have m0 : (m.map conv).length < 4611686018427387904 := by simp; omega
  have m1 : (m'.map conv).length < 4611686018427387904 := by simp; omega
  refine Ev.bind (toOne_ev a l m hl hm) (Ev.bind (toOne_ev b l' m' hl' hm') (Ev.bind (spec_ev _ _ _ _ _ _ b0 m0) (Ev.bind (toOne_ev a l m hl hm) (Ev.bind (toOne_ev b l' m' hl' hm') (Ev.bind (impl_ev _ _ _ _ _ _ b0 m0) ?_)))))
  simp only [bne_self_eq_false, Bool.false_eq_true, if_false]
  refine Ev.bind (toOne_ev a l m hl hm) (Ev.bind (eq_ev _ _ _ b0 m0) ?_)
  simp only [if_true]
  refine Ev.bind (toOne_ev b l' m' hl' hm') (Ev.bind (eq_ev _ _ _ b1 m1) ?_)
  simp only [if_true]
  exact Ev.now _

end Go.Proofs.Ytjgmkfgiijkpbaa.PureSameSolutions
