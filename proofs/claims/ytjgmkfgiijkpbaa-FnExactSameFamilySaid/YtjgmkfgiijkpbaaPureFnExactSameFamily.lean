/- What is proved: the law FnExactSameFamily, as a statement over plain Lean values, comes to true. Conditions: the lists are no longer than the row's own reach allows. -/
import Derived.Test.YtjgmkfgiijkpbaaQFnExactSameFamilyx5
import Derived.Test.YtjgmkfgiijkpbaaPureKit
namespace Go.Proofs.Ytjgmkfgiijkpbaa.PureSameFamily
open Go.RowKit Go.Proofs.Ytjgmkfgiijkpbaa.QFnExactSameFamily Go.Proofs.YtjgmkfgiijkpbaaW.PrintWords Go.Proofs.YtjgmkfgiijkpbaaW.PrintLast Go.Proofs.Ytjgmkfgiijkpbaa.PureKit

theorem rd_bound {x : List (List S96)} (hr : ∀ z ∈ x, z.length < 4611686018427387904) (i : Int) : (rd_L3 x i).length < 4611686018427387904 := by
  unfold rd_L3
  rw [List.getD_eq_getElem?_getD]
  cases h : x[i.toNat]? with
  | none => simp
  | some z => exact hr z (List.mem_of_getElem? h)

theorem rd_bound5 {x : List (List S78)} (hr : ∀ z ∈ x, z.length < 4611686018427387904) (i : Int) : (rd_L5 x i).length < 4611686018427387904 := by
  unfold rd_L5
  rw [List.getD_eq_getElem?_getD]
  cases h : x[i.toNat]? with
  | none => simp
  | some z => exact hr z (List.mem_of_getElem? h)

theorem szPiece_some (a : ByteArray) (b c s : Int) : ∃ t, laws_szPiece.f a b c s = some t := by
  unfold laws_szPiece.f
  split
  · exact ⟨_, rfl⟩
  · exact ⟨_, rfl⟩

theorem szS_ev (l : List S96) (hl : l.length < 4611686018427387904) (a : Int) : ∃ t, Ev (fun k => laws_szPieceS.f k l a) t := by
  unfold laws_szPieceS.f
  by_cases h : wrap64 (a - (l.length : Int)) < 0
  · exact ⟨-1, 0, fun k _ => by simp only [if_pos h]⟩
  · obtain ⟨r, hr⟩ := any_loop (fun k s i => laws_szPieceS.l0 k l s i) l.length (fun i s hi => by
      obtain ⟨t, ht⟩ := szPiece_some (rd_T96 l i).f0 (rd_T96 l i).f1 (rd_T96 l i).f2 s
      by_cases hn : t < 0
      · left
        refine ⟨-1, Ev.step (f := fun _ => some (-1)) (fun k => ?_) (Ev.now _)⟩
        simp only [laws_szPieceS.l0]
        rw [if_pos (by omega), if_pos (by omega), ht]
        simp only [Option.bind_some]
        rw [if_pos hn]
      · right
        refine ⟨t, fun r hr => Ev.step (fun k => ?_) hr⟩
        simp only [laws_szPieceS.l0]
        rw [if_pos (by omega), if_pos (by omega), ht]
        simp only [Option.bind_some]
        rw [if_neg hn, wrap_succ (by omega) (by omega)]) (fun s => by
      refine ⟨s, Ev.step (f := fun _ => some s) (fun k => ?_) (Ev.now _)⟩
      simp only [laws_szPieceS.l0]
      rw [if_neg (by omega)]) l.length 0 (wrap64 (a - (l.length : Int))) (by omega)
    exact ⟨r, Ev.congr (fun k => by simp only [if_neg h]; rfl) hr⟩

theorem szSS_ev (l : List (List S96)) (hl : l.length < 4611686018427387904) (hr : ∀ z ∈ l, z.length < 4611686018427387904) (a : Int) : ∃ t, Ev (fun k => laws_szPieceSS.f k l a) t := by
  unfold laws_szPieceSS.f
  by_cases h : wrap64 (a - (l.length : Int)) < 0
  · exact ⟨-1, 0, fun k _ => by simp only [if_pos h]⟩
  · obtain ⟨r, hr'⟩ := any_loop (fun k s i => laws_szPieceSS.l0 k l s i) l.length (fun i s hi => by
      obtain ⟨t, ht⟩ := szS_ev (rd_L3 l i) (rd_bound hr i) s
      by_cases hn : t < 0
      · left
        refine ⟨-1, Ev.step (fun k => ?_) (Ev.bind (f := fun k t => if t < 0 then some (-1) else laws_szPieceSS.l0 k l t ((i : Int) + 1)) ht (by simp only [if_pos hn]; exact Ev.now _))⟩
        simp only [laws_szPieceSS.l0]
        rw [if_pos (by omega), if_pos (by omega), wrap_succ (by omega) (by omega)]
      · right
        refine ⟨t, fun r hr'' => Ev.step (fun k => ?_) (Ev.bind (f := fun k t => if t < 0 then some (-1) else laws_szPieceSS.l0 k l t ((i : Int) + 1)) ht (by simp only [if_neg hn]; exact hr''))⟩
        simp only [laws_szPieceSS.l0]
        rw [if_pos (by omega), if_pos (by omega), wrap_succ (by omega) (by omega)]) (fun s => by
      refine ⟨s, Ev.step (f := fun _ => some s) (fun k => ?_) (Ev.now _)⟩
      simp only [laws_szPieceSS.l0]
      rw [if_neg (by omega)]) l.length 0 (wrap64 (a - (l.length : Int))) (by omega)
    exact ⟨r, Ev.congr (fun k => by simp only [if_neg h]; rfl) hr'⟩

def conv (x : S96) : S78 := ⟨x.f0, x.f1, x.f2⟩

theorem toS_ev (l : List S96) (hl : l.length ≤ 4398046511103) : Ev (fun k => laws_toPieceS.f k l) (l.map conv) := by
  unfold laws_toPieceS.f
  refine Ev.congr (f := fun k => laws_toPieceS.l0 k l (List.replicate l.length z78) 0) (fun k => ?_) ?_
  · rw [if_pos (by omega), if_pos (by omega)]
    simp
  · refine map_loop0 (fun k out i => laws_toPieceS.l0 k l out i) (l.map conv) _ (by simp) (fun i out r hi ho hr => Ev.step (fun k => ?_) hr) (fun out => ?_)
    · have hi' : i < l.length := by simpa using hi
      have ho' : out.length = l.length := by simpa using ho
      simp only [laws_toPieceS.l0, laws_toPiece.f]
      rw [if_pos (by omega), if_pos (by omega)]
      simp only [Option.bind_some]
      rw [if_pos (by omega), wrap_succ (by omega) (by omega)]
      simp [conv, rd_T96, List.getD_eq_getElem?_getD, List.getElem?_eq_getElem hi']
    · refine Ev.step (f := fun _ => some out) (fun k => ?_) (Ev.now _)
      simp only [laws_toPieceS.l0]
      rw [if_neg (by simp)]

theorem toSS_ev (l : List (List S96)) (hl : l.length ≤ 5864062014805) (hr : ∀ z ∈ l, z.length ≤ 4398046511103) : Ev (fun k => laws_toPieceSS.f k l) (l.map (List.map conv)) := by
  unfold laws_toPieceSS.f
  refine Ev.congr (f := fun k => laws_toPieceSS.l0 k l (List.replicate l.length []) 0) (fun k => ?_) ?_
  · rw [if_pos (by omega), if_pos (by omega)]
    simp
  · refine map_loop0 (fun k out i => laws_toPieceSS.l0 k l out i) (l.map (List.map conv)) _ (by simp) (fun i out r hi ho hr' => ?_) (fun out => ?_)
    · have hi' : i < l.length := by simpa using hi
      have ho' : out.length = l.length := by simpa using ho
      have he : rd_L3 l i = l[i] := by simp [rd_L3, List.getD_eq_getElem?_getD, List.getElem?_eq_getElem hi']
      have hb := toS_ev (rd_L3 l i) (by rw [he]; exact hr _ (List.getElem_mem hi'))
      refine Ev.step (fun k => ?_) (Ev.bind (f := fun k t => laws_toPieceSS.l0 k l (out.set i t) ((i : Int) + 1)) hb (by rw [he]; simpa using hr'))
      simp only [laws_toPieceSS.l0]
      rw [if_pos (by omega), if_pos (by omega)]
      congr 1
      funext t
      rw [if_pos (by omega), wrap_succ (by omega) (by omega)]
      simp
    · refine Ev.step (f := fun _ => some out) (fun k => ?_) (Ev.now _)
      simp only [laws_toPieceSS.l0]
      rw [if_neg (by simp)]

def sameP (x y : List S78) (j : Nat) : Bool :=
  !(!((((rd_T78 x j).f0).toList) == (((rd_T78 y j).f0).toList)) || (!(((rd_T78 x j).f1) == ((rd_T78 y j).f1)) || (!(((rd_T78 x j).f2) == ((rd_T78 y j).f2)))))
def allP (x y : List S78) : Bool := if (x.length : Int) = (y.length : Int) then (List.range x.length).all (sameP x y) else false
def sameF (x y : List (List S78)) (j : Nat) : Bool := allP (rd_L5 x j) (rd_L5 y j)
def allF (x y : List (List S78)) : Bool := if (x.length : Int) = (y.length : Int) then (List.range x.length).all (sameF x y) else false

theorem same_ev (x y : List S78) (hx : x.length < 4611686018427387904) : Ev (fun k => spec_l06Same.f k x y) (allP x y) := by
  unfold spec_l06Same.f allP
  by_cases h : (x.length : Int) = (y.length : Int)
  · simp only [if_pos h]
    refine cmp_loop0 (fun k i => spec_l06Same.l0 k x y i) x.length (sameP x y) (fun i r hi hp hr => Ev.step (fun k => ?_) hr) (fun i hi hp => Ev.step (f := fun _ => some false) (fun k => ?_) (Ev.now _)) (Ev.step (f := fun _ => some true) (fun k => ?_) (Ev.now _))
    · simp only [spec_l06Same.l0]
      rw [if_pos (by omega), if_pos (by omega), if_pos (by omega), if_neg (by simpa [sameP] using hp), wrap_succ (by omega) (by omega)]
    · simp only [spec_l06Same.l0]
      rw [if_pos (by omega), if_pos (by omega), if_pos (by omega), if_pos (by simpa only [sameP, Bool.not_eq_false'] using hp)]
    · simp only [spec_l06Same.l0]
      rw [if_neg (by omega)]
  · simp only [if_neg h]
    exact Ev.now _

theorem equal_ev (x y : List S78) (hx : x.length < 4611686018427387904) : Ev (fun k => impl_Piece_43.f k x y) (allP x y) := by
  unfold impl_Piece_43.f allP
  by_cases h : (x.length : Int) = (y.length : Int)
  · simp only [if_pos h]
    refine cmp_loop0 (fun k i => impl_Piece_43.l0 k x y x.length i) x.length (sameP x y) (fun i r hi hp hr => Ev.step (fun k => ?_) hr) (fun i hi hp => Ev.step (f := fun _ => some false) (fun k => ?_) (Ev.now _)) (Ev.step (f := fun _ => some true) (fun k => ?_) (Ev.now _))
    · simp only [impl_Piece_43.l0]
      rw [if_pos (by omega), if_pos (by omega), if_pos (by omega), if_pos (by omega), if_neg (by simpa [sameP] using hp), wrap_succ (by omega) (by omega)]
    · simp only [impl_Piece_43.l0]
      rw [if_pos (by omega), if_pos (by omega), if_pos (by omega), if_pos (by omega), if_pos (by simpa only [sameP, Bool.not_eq_false'] using hp)]
    · simp only [impl_Piece_43.l0]
      rw [if_neg (by omega)]
  · simp only [if_neg h]
    exact Ev.now _

theorem equalF_ev (x y : List (List S78)) (hx : x.length < 4611686018427387904) (hr : ∀ z ∈ x, z.length < 4611686018427387904) : Ev (fun k => impl_Piece_42.f k x y) (allF x y) := by
  unfold impl_Piece_42.f allF
  by_cases h : (x.length : Int) = (y.length : Int)
  · simp only [if_pos h]
    refine cmp_loop0 (fun k i => impl_Piece_42.l0 k y x x.length i) x.length (sameF x y) (fun i r hi hp hr' => ?_) (fun i hi hp => ?_) (Ev.step (f := fun _ => some true) (fun k => ?_) (Ev.now _))
    · have hb := equal_ev (rd_L5 x i) (rd_L5 y i) (rd_bound5 hr i)
      rw [show allP (rd_L5 x i) (rd_L5 y i) = true from hp] at hb
      refine Ev.step (fun k => ?_) (Ev.bind (f := fun k t => if t = true then impl_Piece_42.l0 k y x x.length ((i : Int) + 1) else some false) hb (by simp only [if_true]; exact hr'))
      simp only [impl_Piece_42.l0]
      rw [if_pos (by omega), if_pos (by omega), if_pos (by omega), if_pos (by omega), wrap_succ (by omega) (by omega)]
    · have hb := equal_ev (rd_L5 x i) (rd_L5 y i) (rd_bound5 hr i)
      rw [show allP (rd_L5 x i) (rd_L5 y i) = false from hp] at hb
      refine Ev.step (fun k => ?_) (Ev.bind (f := fun k t => if t = true then impl_Piece_42.l0 k y x x.length ((i : Int) + 1) else some false) hb (by simp only [Bool.false_eq_true, if_false]; exact Ev.now _))
      simp only [impl_Piece_42.l0]
      rw [if_pos (by omega), if_pos (by omega), if_pos (by omega), if_pos (by omega), wrap_succ (by omega) (by omega)]
    · simp only [impl_Piece_42.l0]
      rw [if_neg (by omega)]
  · simp only [if_neg h]
    exact Ev.now _

theorem spec_ev (x y : List (List S78)) (hx : x.length < 4611686018427387904) (hr : ∀ z ∈ x, z.length < 4611686018427387904) : Ev (fun k => spec_SameFamily.f k x y) (allF x y) := by
  unfold spec_SameFamily.f allF
  by_cases h : (x.length : Int) = (y.length : Int)
  · simp only [if_pos h]
    refine cmp_loop0 (fun k i => spec_SameFamily.l0 k i x y) x.length (sameF x y) (fun i r hi hp hr' => ?_) (fun i hi hp => ?_) (Ev.step (f := fun _ => some true) (fun k => ?_) (Ev.now _))
    · have hb := same_ev (rd_L5 x i) (rd_L5 y i) (rd_bound5 hr i)
      rw [show allP (rd_L5 x i) (rd_L5 y i) = true from hp] at hb
      refine Ev.step (fun k => ?_) (Ev.bind (f := fun k t => if t = true then spec_SameFamily.l0 k ((i : Int) + 1) x y else some false) hb (by simp only [if_true]; exact hr'))
      simp only [spec_SameFamily.l0]
      rw [if_pos (by omega), if_pos (by omega), if_pos (by omega), wrap_succ (by omega) (by omega)]
    · have hb := same_ev (rd_L5 x i) (rd_L5 y i) (rd_bound5 hr i)
      rw [show allP (rd_L5 x i) (rd_L5 y i) = false from hp] at hb
      refine Ev.step (fun k => ?_) (Ev.bind (f := fun k t => if t = true then spec_SameFamily.l0 k ((i : Int) + 1) x y else some false) hb (by simp only [Bool.false_eq_true, if_false]; exact Ev.now _))
      simp only [spec_SameFamily.l0]
      rw [if_pos (by omega), if_pos (by omega), if_pos (by omega), wrap_succ (by omega) (by omega)]
    · simp only [spec_SameFamily.l0]
      rw [if_neg (by omega)]
  · simp only [if_neg h]
    exact Ev.now _

theorem eqS_ev (x : List S78) (hx : x.length < 4611686018427387904) : Ev (fun k => laws_eqPieceS.f k x x) true := by
  unfold laws_eqPieceS.f
  simp only [if_pos]
  have h := cmp_loop0 (fun k i => laws_eqPieceS.l0 k x x i) x.length (fun _ => true) (fun i r hi hp hr => Ev.step (fun k => by
    simp only [laws_eqPieceS.l0, laws_eqPiece.f]
    rw [if_pos (by omega), if_pos (by omega), if_pos (by omega)]
    simp only [if_pos, Option.bind_some]
    rw [wrap_succ (by omega) (by omega)]) hr) (fun i hi hp => by simp at hp) (Ev.step (f := fun _ => some true) (fun k => by
    simp only [laws_eqPieceS.l0]
    rw [if_neg (by omega)]) (Ev.now _))
  rwa [show ((List.range x.length).all fun _ => true) = true from List.all_eq_true.2 (fun _ _ => rfl)] at h

theorem eqSS_ev (x : List (List S78)) (hx : x.length < 4611686018427387904) (hr : ∀ z ∈ x, z.length < 4611686018427387904) : Ev (fun k => laws_eqPieceSS.f k x x) true := by
  unfold laws_eqPieceSS.f
  simp only [if_pos]
  have h := cmp_loop0 (fun k i => laws_eqPieceSS.l0 k x x i) x.length (fun _ => true) (fun i r hi hp hr' => Ev.step (fun k => by
    simp only [laws_eqPieceSS.l0]
    rw [if_pos (by omega), if_pos (by omega), if_pos (by omega), wrap_succ (by omega) (by omega)]) (Ev.bind (f := fun k t => if t = true then laws_eqPieceSS.l0 k x x ((i : Int) + 1) else some false) (eqS_ev (rd_L5 x i) (rd_bound5 hr i)) (by simp only [if_true]; exact hr'))) (fun i hi hp => by simp at hp) (Ev.step (f := fun _ => some true) (fun k => by
    simp only [laws_eqPieceSS.l0]
    rw [if_neg (by omega)]) (Ev.now _))
  rwa [show ((List.range x.length).all fun _ => true) = true from List.all_eq_true.2 (fun _ _ => rfl)] at h

theorem sz_ev (x : List (List S96)) (hx : x.length < 4611686018427387904) (hr : ∀ z ∈ x, z.length < 4611686018427387904) (a : Int) : ∃ t, Ev (fun k => laws_szFamily.f k x a) t := by
  unfold laws_szFamily.f
  obtain ⟨t, ht⟩ := szSS_ev x hx hr a
  by_cases hn : t < 0
  · exact ⟨-1, Ev.bind ht (by simp only [if_pos hn]; exact Ev.now _)⟩
  · exact ⟨t, Ev.bind ht (by simp only [if_neg hn]; exact Ev.now _)⟩

theorem law_ev (x y : List (List S96)) (hx : x.length ≤ 5864062014805) (hr : ∀ z ∈ x, z.length ≤ 4398046511103) (hy : y.length ≤ 5864062014805) (hs : ∀ z ∈ y, z.length ≤ 4398046511103) : ∃ k, laws_FnExactSameFamily.f k x y = some true := by
  apply Ev.rounds
  unfold laws_FnExactSameFamily.f
  have hr2 : ∀ z ∈ x, z.length < 4611686018427387904 := fun z hz => by have := hr z hz; omega
  have hs2 : ∀ z ∈ y, z.length < 4611686018427387904 := fun z hz => by have := hs z hz; omega
  obtain ⟨t, ht⟩ := sz_ev x (by omega) hr2 1048576
  refine Ev.bind ht ?_
  by_cases hn : t < 0
  · simp only [if_pos hn]
    exact Ev.now _
  simp only [if_neg hn]
  obtain ⟨t1, ht1⟩ := sz_ev y (by omega) hs2 t
  refine Ev.bind ht1 ?_
  by_cases hn1 : t1 < 0
  · simp only [if_pos hn1]
    exact Ev.now _
  simp only [if_neg hn1]
  have tx : Ev (fun k => laws_toFamily.f k x) (x.map (List.map conv)) := by
    unfold laws_toFamily.f
    exact Ev.bind (toSS_ev x hx hr) (Ev.now _)
  have ty : Ev (fun k => laws_toFamily.f k y) (y.map (List.map conv)) := by
    unfold laws_toFamily.f
    exact Ev.bind (toSS_ev y hy hs) (Ev.now _)
  have x2 : (x.map (List.map conv)).length < 4611686018427387904 := by simp; omega
  have y2 : (y.map (List.map conv)).length < 4611686018427387904 := by simp; omega
  have rx : ∀ z ∈ x.map (List.map conv), z.length < 4611686018427387904 := by
    intro z hz
    obtain ⟨u, hu, rfl⟩ := List.mem_map.1 hz
    simpa using hr2 u hu
  have ry : ∀ z ∈ y.map (List.map conv), z.length < 4611686018427387904 := by
    intro z hz
    obtain ⟨u, hu, rfl⟩ := List.mem_map.1 hz
    simpa using hs2 u hu
  have im : Ev (fun k => impl_SameFamily.f k (x.map (List.map conv)) (y.map (List.map conv))) (allF (x.map (List.map conv)) (y.map (List.map conv))) := by
    unfold impl_SameFamily.f
    exact Ev.bind (equalF_ev _ _ x2 rx) (Ev.now _)
  have ex : Ev (fun k => laws_eqFamily.f k (x.map (List.map conv)) (x.map (List.map conv))) true := by
    unfold laws_eqFamily.f
    exact Ev.bind (eqSS_ev _ x2 rx) (by simp only [if_true]; exact Ev.now _)
  have ey : Ev (fun k => laws_eqFamily.f k (y.map (List.map conv)) (y.map (List.map conv))) true := by
    unfold laws_eqFamily.f
    exact Ev.bind (eqSS_ev _ y2 ry) (by simp only [if_true]; exact Ev.now _)
  refine Ev.bind tx (Ev.bind ty (Ev.bind (spec_ev _ _ x2 rx) (Ev.bind tx (Ev.bind ty (Ev.bind im ?_)))))
  simp only [bne_self_eq_false, Bool.false_eq_true, if_false]
  refine Ev.bind tx (Ev.bind ex ?_)
  simp only [if_true]
  refine Ev.bind ty (Ev.bind ey ?_)
  simp only [if_true]
  exact Ev.now _

end Go.Proofs.Ytjgmkfgiijkpbaa.PureSameFamily
