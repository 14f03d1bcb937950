/- What is proved: what the helpers of the law MapsOf come to: sizes, copies, equality of a thing with itself, marks. Conditions: as each states. -/
import Derived.Test.YtefoaikfpegggaaQFnExactMapsOfx2
import Derived.Test.YtefoaikfpegggaaPureKit
import Derived.Test.YtefoaikfpegggaaMarkSS
namespace Go.Proofs.Ytefoaikfpegggaa.PureFnExactMapsOf
open Go.RowKit Go.Proofs.Ytefoaikfpegggaa.MarkSS Go.Proofs.Ytefoaikfpegggaa.QFnExactMapsOf Go.Proofs.YtefoaikfpegggaaW.PrintWords Go.Proofs.YtefoaikfpegggaaW.PrintLast Go.Proofs.Ytefoaikfpegggaa.PureKit

theorem rd_bound {x : List (List Int)} (hr : ∀ z ∈ x, z.length < 4611686018427387904) (i : Int) : (rd_L1 x i).length < 4611686018427387904 := by
  unfold rd_L1
  rw [List.getD_eq_getElem?_getD]
  cases h : x[i.toNat]? with
  | none => simp
  | some z => exact hr z (List.mem_of_getElem? h)

theorem szI_ev (l : List Int) (_hl : l.length < 4611686018427387904) (a : Int) : ∃ t, Ev (fun _ : Nat => laws_szInt64S.f l a) t := by
  unfold laws_szInt64S.f
  by_cases h : wrap64 (a - (l.length : Int)) < 0
  · exact ⟨-1, 0, fun k _ => by simp only [if_pos h]⟩
  · exact ⟨wrap64 (a - (l.length : Int)), 0, fun k _ => by simp only [if_neg h]⟩

def identI (x : Int) : Int := x
def identL (x : List Int) : List Int := x

theorem szII_ev (l : List (List Int)) (hl : l.length < 4611686018427387904) (hr : ∀ z ∈ l, z.length < 4611686018427387904) (a : Int) : ∃ t, Ev (fun k => laws_szInt64SS.f k l a) t := by
  unfold laws_szInt64SS.f
  by_cases h : wrap64 (a - (l.length : Int)) < 0
  · exact ⟨-1, 0, fun k _ => by simp only [if_pos h]⟩
  · obtain ⟨r, hr'⟩ := any_loop (fun k s i => laws_szInt64SS.l0 k l s i) l.length (fun i s hi => by
      obtain ⟨t, ht⟩ := szI_ev (rd_L1 l i) (rd_bound hr i) s
      by_cases hn : t < 0
      · left
        refine ⟨-1, Ev.step (fun k => ?_) (Ev.bind (f := fun k t => if t < 0 then some (-1) else laws_szInt64SS.l0 k l t ((i : Int) + 1)) ht (by simp only [if_pos hn]; exact Ev.now _))⟩
        simp only [laws_szInt64SS.l0]
        rw [if_pos (by omega), if_pos (by omega), wrap_succ (by omega) (by omega)]
      · right
        refine ⟨t, fun r hr'' => Ev.step (fun k => ?_) (Ev.bind (f := fun k t => if t < 0 then some (-1) else laws_szInt64SS.l0 k l t ((i : Int) + 1)) ht (by simp only [if_neg hn]; exact hr''))⟩
        simp only [laws_szInt64SS.l0]
        rw [if_pos (by omega), if_pos (by omega), wrap_succ (by omega) (by omega)]) (fun s => by
      refine ⟨s, Ev.step (f := fun _ => some s) (fun k => ?_) (Ev.now _)⟩
      simp only [laws_szInt64SS.l0]
      rw [if_neg (by omega)]) l.length 0 (wrap64 (a - (l.length : Int))) (by omega)
    exact ⟨r, Ev.congr (fun k => by simp only [if_neg h]; rfl) hr'⟩

theorem toI0_ev (l : List Int) (hl : l.length ≤ 17592186044415) : Ev (fun k => laws_toInt64S.f k l) (l.map identI) := by
  unfold laws_toInt64S.f
  refine Ev.congr (f := fun k => laws_toInt64S.l0 k l (List.replicate l.length 0) 0) (fun k => ?_) ?_
  · rw [if_pos (by omega), if_pos (by omega)]
    simp
  · refine map_loop0 (fun k out i => laws_toInt64S.l0 k l out i) (l.map identI) _ (by simp) (fun i out r hi ho hr => Ev.step (fun k => ?_) hr) (fun out => ?_)
    · have hi' : i < l.length := by simpa using hi
      have ho' : out.length = l.length := by simpa using ho
      simp only [laws_toInt64S.l0]
      rw [if_pos (by omega), if_pos (by omega)]
      rw [if_pos (by omega), wrap_succ (by omega) (by omega)]
      simp [identI, rd, List.getD_eq_getElem?_getD, List.getElem?_eq_getElem hi']
    · refine Ev.step (f := fun _ => some out) (fun k => ?_) (Ev.now _)
      simp only [laws_toInt64S.l0]
      rw [if_neg (by simp)]

theorem toI_ev (l : List Int) (hl : l.length ≤ 17592186044415) : Ev (fun k => laws_toInt64S.f k l) (identL l) := by
  have h := toI0_ev l hl
  rwa [show l.map identI = identL l from List.map_id _] at h

theorem toII0_ev (l : List (List Int)) (hl : l.length ≤ 5864062014805) (hr : ∀ z ∈ l, z.length ≤ 17592186044415) : Ev (fun k => laws_toInt64SS.f k l) (l.map identL) := by
  unfold laws_toInt64SS.f
  refine Ev.congr (f := fun k => laws_toInt64SS.l0 k l (List.replicate l.length []) 0) (fun k => ?_) ?_
  · rw [if_pos (by omega), if_pos (by omega)]
    simp
  · refine map_loop0 (fun k out i => laws_toInt64SS.l0 k l out i) (l.map identL) _ (by simp) (fun i out r hi ho hr' => ?_) (fun out => ?_)
    · have hi' : i < l.length := by simpa using hi
      have ho' : out.length = l.length := by simpa using ho
      have he : rd_L1 l i = l[i] := by simp [rd_L1, List.getD_eq_getElem?_getD, List.getElem?_eq_getElem hi']
      have hb := toI_ev (rd_L1 l i) (by rw [he]; exact hr _ (List.getElem_mem hi'))
      refine Ev.step (fun k => ?_) (Ev.bind (f := fun k t => laws_toInt64SS.l0 k l (out.set i t) ((i : Int) + 1)) hb (by rw [he]; simpa using hr'))
      simp only [laws_toInt64SS.l0]
      rw [if_pos (by omega), if_pos (by omega)]
      congr 1
      funext t
      rw [if_pos (by omega), wrap_succ (by omega) (by omega)]
      simp
    · refine Ev.step (f := fun _ => some out) (fun k => ?_) (Ev.now _)
      simp only [laws_toInt64SS.l0]
      rw [if_neg (by simp)]

theorem toII_ev (l : List (List Int)) (hl : l.length ≤ 5864062014805) (hr : ∀ z ∈ l, z.length ≤ 17592186044415) : Ev (fun k => laws_toInt64SS.f k l) l := by
  have h := toII0_ev l hl hr
  rwa [show l.map identL = l from List.map_id _] at h

def sameI (x y : List Int) (j : Nat) : Bool := rd x j == rd y j
def allI (x y : List Int) : Bool := if (x.length : Int) = (y.length : Int) then (List.range x.length).all (sameI x y) else false
def sameII (x y : List (List Int)) (j : Nat) : Bool := allI (rd_L1 x j) (rd_L1 y j)
def allII (x y : List (List Int)) : Bool := if (x.length : Int) = (y.length : Int) then (List.range x.length).all (sameII x y) else false

theorem eqI_ev (x : List Int) (hx : x.length < 4611686018427387904) : Ev (fun k => laws_eqInt64S.f k x x) true := by
  unfold laws_eqInt64S.f
  simp only [if_pos]
  have h := cmp_loop0 (fun k i => laws_eqInt64S.l0 k x x i) x.length (fun _ => true) (fun i r hi hp hr => Ev.step (fun k => by
    simp only [laws_eqInt64S.l0]
    rw [if_pos (by omega), if_pos (by omega), if_pos (by omega)]
    simp only [if_pos]
    rw [wrap_succ (by omega) (by omega)]) hr) (fun i hi hp => by simp at hp) (Ev.step (f := fun _ => some true) (fun k => by
    simp only [laws_eqInt64S.l0]
    rw [if_neg (by omega)]) (Ev.now _))
  rwa [show ((List.range x.length).all fun _ => true) = true from List.all_eq_true.2 (fun _ _ => rfl)] at h

theorem eqII_ev (x : List (List Int)) (hx : x.length < 4611686018427387904) (hr : ∀ z ∈ x, z.length < 4611686018427387904) : Ev (fun k => laws_eqInt64SS.f k x x) true := by
  unfold laws_eqInt64SS.f
  simp only [if_pos]
  have h := cmp_loop0 (fun k i => laws_eqInt64SS.l0 k x x i) x.length (fun _ => true) (fun i r hi hp hr' => Ev.step (fun k => by
    simp only [laws_eqInt64SS.l0]
    rw [if_pos (by omega), if_pos (by omega), if_pos (by omega), wrap_succ (by omega) (by omega)]) (Ev.bind (f := fun k t => if t = true then laws_eqInt64SS.l0 k x x ((i : Int) + 1) else some false) (eqI_ev (rd_L1 x i) (rd_bound hr i)) (by simp only [if_true]; exact hr'))) (fun i hi hp => by simp at hp) (Ev.step (f := fun _ => some true) (fun k => by
    simp only [laws_eqInt64SS.l0]
    rw [if_neg (by omega)]) (Ev.now _))
  rwa [show ((List.range x.length).all fun _ => true) = true from List.all_eq_true.2 (fun _ _ => rfl)] at h

/-- What the row's own reach tells of a list of lists. -/
def Fit (x : List (List Int)) : Prop := x.length ≤ 5864062014805 ∧ ∀ z ∈ x, z.length ≤ 17592186044415
theorem Fit.len {x : List (List Int)} (h : Fit x) : x.length < 4611686018427387904 := by
  have := h.1
  omega
theorem Fit.rows {x : List (List Int)} (h : Fit x) : ∀ z ∈ x, z.length < 4611686018427387904 := fun z hz => by
  have := h.2 z hz
  omega

theorem sz_ev (a : Int) (x y : List (List Int)) (hx : Fit x) (hy : Fit y) (s : Int) : ∃ t, Ev (fun k => laws_szBounds.f k a x y s) t := by
  unfold laws_szBounds.f
  obtain ⟨t, ht⟩ := szII_ev x hx.len hx.rows s
  by_cases hn : t < 0
  · exact ⟨-1, Ev.bind ht (by simp only [if_pos hn]; exact Ev.now _)⟩
  obtain ⟨u, hu⟩ := szII_ev y hy.len hy.rows t
  by_cases hv : u < 0
  · exact ⟨-1, Ev.bind ht (by simp only [if_neg hn]; exact Ev.bind hu (by simp only [if_pos hv]; exact Ev.now _))⟩
  · exact ⟨u, Ev.bind ht (by simp only [if_neg hn]; exact Ev.bind hu (by simp only [if_neg hv]; exact Ev.now _))⟩

theorem to_ev (a : Int) (x y : List (List Int)) (hx : Fit x) (hy : Fit y) : Ev (fun k => laws_toBounds.f k a x y) (a, x, y) := by
  unfold laws_toBounds.f
  exact Ev.bind (toII_ev x hx.1 hx.2) (Ev.bind (toII_ev y hy.1 hy.2) (Ev.now _))

theorem eq_ev (a : Int) (x y : List (List Int)) (hx : Fit x) (hy : Fit y) : Ev (fun k => laws_eqBounds.f k a x y a x y) true := by
  unfold laws_eqBounds.f
  simp only [if_true]
  refine Ev.bind (eqII_ev x hx.len hx.rows) ?_
  simp only [if_true]
  refine Ev.bind (eqII_ev y hy.len hy.rows) ?_
  simp only [if_true]
  exact Ev.now _

theorem eqS_ev (x : List ByteArray) (hx : x.length < 4611686018427387904) : Ev (fun k => laws_eqStringS.f k x x) true := by
  unfold laws_eqStringS.f
  simp only [if_pos]
  have h := cmp_loop0 (fun k i => laws_eqStringS.l0 k x x i) x.length (fun _ => true) (fun i r hi hp hr => Ev.step (fun k => by
    simp only [laws_eqStringS.l0]
    rw [if_pos (by omega), if_pos (by omega), if_pos (by omega)]
    simp only [if_pos]
    rw [wrap_succ (by omega) (by omega)]) hr) (fun i hi hp => by simp at hp) (Ev.step (f := fun _ => some true) (fun k => by
    simp only [laws_eqStringS.l0]
    rw [if_neg (by omega)]) (Ev.now _))
  rwa [show ((List.range x.length).all fun _ => true) = true from List.all_eq_true.2 (fun _ _ => rfl)] at h

theorem szI_f {l : List Int} {a t : Int} (ha : 0 ≤ a) (ha2 : a < 4611686018427387904) (hl : l.length < 4611686018427387904) (h : laws_szInt64S.f l a = some t) (ht : 0 ≤ t) : t = a - l.length := by
  unfold laws_szInt64S.f at h
  have e : wrap64 (a - (l.length : Int)) = a - l.length := by unfold wrap64; omega
  rw [e] at h
  by_cases hn : a - (l.length : Int) < 0
  · rw [if_pos hn] at h
    have := Option.some.inj h
    omega
  · rw [if_neg hn] at h
    exact (Option.some.inj h).symm

theorem sz_l0 {x : List (List Int)} (hx : x.length < 4611686018427387904) (hr : ∀ z ∈ x, z.length < 4611686018427387904) : ∀ (k i : Nat) (a t : Int), i ≤ x.length → 0 ≤ a → a < 4611686018427387904 → laws_szInt64SS.l0 k x a i = some t → 0 ≤ t → t = a - tot (x.drop i)
  | 0, _, _, _, _, _, _, h, _ => by simp [laws_szInt64SS.l0] at h
  | k + 1, i, a, t, hi, ha, ha2, h, ht => by
    simp only [laws_szInt64SS.l0] at h
    by_cases hlt : i < x.length
    · rw [if_pos (by omega), if_pos (by omega)] at h
      obtain ⟨u, hu, h⟩ := Option.bind_eq_some_iff.mp h
      by_cases hn : u < 0
      · rw [if_pos hn] at h
        have := Option.some.inj h
        omega
      · rw [if_neg hn, wrap_succ (by omega) (by omega)] at h
        have e := szI_f ha ha2 (rd_bound hr i) hu (by omega)
        have e1 : rd_L1 x (i : Int) = x[i] := by
          unfold rd_L1
          rw [Int.toNat_natCast, List.getD_eq_getElem?_getD, List.getElem?_eq_getElem hlt]
          rfl
        rw [e1] at e
        have e2 := sz_l0 hx hr k (i + 1) u t (by omega) (by omega) (by omega) (by rw [show (((i + 1 : Nat)) : Int) = (i : Int) + 1 by omega]; exact h) ht
        rw [List.drop_eq_getElem_cons hlt]
        have e3 : tot (x[i] :: x.drop (i + 1)) = x[i].length + tot (x.drop (i + 1)) := by simp only [tot, List.map_cons, List.sum_cons]
        omega
    · rw [if_neg (by omega)] at h
      have := Option.some.inj h
      have e : x.drop i = [] := List.drop_eq_nil_of_le (by omega)
      rw [e]
      have e3 : tot [] = 0 := rfl
      omega

theorem szII_f {x : List (List Int)} (hx : x.length < 4611686018427387904) (hr : ∀ z ∈ x, z.length < 4611686018427387904) {k : Nat} {a t : Int} (ha : 0 ≤ a) (ha2 : a < 4611686018427387904) (h : laws_szInt64SS.f k x a = some t) (ht : 0 ≤ t) : t = a - x.length - tot x := by
  unfold laws_szInt64SS.f at h
  have e : wrap64 (a - (x.length : Int)) = a - x.length := by unfold wrap64; omega
  rw [e] at h
  by_cases hn : a - (x.length : Int) < 0
  · rw [if_pos hn] at h
    have := Option.some.inj h
    omega
  · rw [if_neg hn] at h
    exact sz_l0 hx hr k 0 _ t (Nat.zero_le _) (by omega) (by omega) h ht

/-- What szBounds lets through. -/
theorem sz_fits {k : Nat} {a : Int} {x y : List (List Int)} {t : Int} (hx : Fit x) (hy : Fit y) (h : laws_szBounds.f k a x y 1048576 = some t) (ht : 0 ≤ t) : x.length ≤ 2000000 ∧ y.length ≤ 2000000 ∧ 1 + (tot x : Int) + tot y ≤ 2000000 := by
  unfold laws_szBounds.f at h
  obtain ⟨u, hu, h⟩ := Option.bind_eq_some_iff.mp h
  by_cases hn : u < 0
  · rw [if_pos hn] at h
    have := Option.some.inj h
    omega
  rw [if_neg hn] at h
  obtain ⟨v, hv, h⟩ := Option.bind_eq_some_iff.mp h
  by_cases hm : v < 0
  · rw [if_pos hm] at h
    have := Option.some.inj h
    omega
  rw [if_neg hm] at h
  have := Option.some.inj h
  have e1 := szII_f hx.len hx.rows (by omega) (by omega) hu (by omega)
  have e2 := szII_f hy.len hy.rows (by omega) (by omega) hv (by omega)
  omega

theorem mt_run : ∀ (n : Nat) (a : Int) (s : ByteArray), a ≤ n → 0 ≤ a → a < 4611686018427387904 → s.size + n ≤ 4611686018427387904 → ∃ r, ∀ k, n < k → laws_markText.l0 k a s = some r
  | 0, a, s, h, h0, h1, hs => by
    refine ⟨⟨#[109]⟩ ++ s, fun k hk => ?_⟩
    obtain ⟨k, rfl⟩ : ∃ j, k = j + 1 := ⟨k - 1, by omega⟩
    simp only [laws_markText.l0]
    rw [if_neg (by omega), if_pos (by omega)]
  | n + 1, a, s, h, h0, h1, hs => by
    by_cases hp : a > 0
    · have e : wrap64 (Int.tdiv a 10) = a / 10 := by
        rw [Int.tdiv_eq_ediv_of_nonneg h0]
        unfold wrap64
        omega
      obtain ⟨r, hr⟩ := mt_run n (a / 10) (strOfNums [wrap64 (48 + Int.tmod a 10) % 256] ++ s) (by omega) (by omega) (by omega) (by rw [ByteArray.size_append, strOfNums_size]; simp only [List.length_cons, List.length_nil]; omega)
      refine ⟨r, fun k hk => ?_⟩
      obtain ⟨k, rfl⟩ : ∃ j, k = j + 1 := ⟨k - 1, by omega⟩
      simp only [laws_markText.l0, Option.bind_some]
      rw [if_pos hp, if_pos (by rw [strOfNums_size]; simp only [List.length_cons, List.length_nil]; omega), e]
      exact hr k (by omega)
    · refine ⟨⟨#[109]⟩ ++ s, fun k hk => ?_⟩
      obtain ⟨k, rfl⟩ : ∃ j, k = j + 1 := ⟨k - 1, by omega⟩
      simp only [laws_markText.l0]
      rw [if_neg hp, if_pos (by omega)]

/-- The text of a mark. -/
def txt (a : Int) : ByteArray := (laws_markText.f (a.toNat + 1) a).getD ByteArray.empty
theorem txt_ev (a : Int) (h : a < 1000000) : Ev (fun k => laws_markText.f k a) (txt a) := by
  unfold txt laws_markText.f
  by_cases hp : a ≤ 0
  · simp only [if_pos hp, Option.getD_some]
    exact Ev.now _
  · obtain ⟨r, hr⟩ := mt_run a.toNat a ⟨#[]⟩ (by omega) (by omega) (by omega) (by simp [ByteArray.size]; omega)
    simp only [if_neg hp]
    rw [hr (a.toNat + 1) (by omega)]
    exact ⟨a.toNat + 1, fun k hk => hr k (by omega)⟩

/-- The marks of a row of n strings. -/
def marks (n : Nat) : List ByteArray := (List.range n).map fun j : Nat => txt (1 + (j : Int))
theorem marks_len (n : Nat) : (marks n).length = n := by simp [marks]
theorem marks_get (n i : Nat) (h : i < n) : (marks n)[i]'(by rw [marks_len]; exact h) = txt (1 + (i : Int)) := by simp [marks]

theorem markS_ev (l : List ByteArray) (hl : l.length ≤ 1000) : Ev (fun k => laws_markStringS.f k l 1) (1 + (l.length : Int), marks l.length) := by
  unfold laws_markStringS.f
  have g : ∀ (d i : Nat) (s : List ByteArray), i + d = l.length → s.length = l.length → s.take i = (marks l.length).take i → Ev (fun k => laws_markStringS.l0 k s (1 + (i : Int)) i) (1 + (l.length : Int), marks l.length) := by
    intro d
    induction d with
    | zero =>
      intro i s hi hs ht
      obtain rfl : i = l.length := by omega
      have e : s = marks l.length := by
        rw [← List.take_length (l := s), hs, ht]
        exact List.take_of_length_le (by rw [marks_len]; omega)
      rw [← e]
      refine Ev.step (f := fun _ => some (1 + (l.length : Int), s)) (fun k => ?_) (Ev.now _)
      simp only [laws_markStringS.l0]
      rw [if_neg (by omega)]
    | succ d ih =>
      intro i s hi hs ht
      have hil : i < l.length := by omega
      have hr := ih (i + 1) (s.set i (txt (1 + (i : Int)))) (by omega) (by simpa using hs) (by
        rw [List.take_succ_eq_append_getElem (by simpa [hs] using hil), List.take_succ_eq_append_getElem (by rw [marks_len]; exact hil), List.getElem_set_self, List.take_set_of_le (Nat.le_refl i), ht, marks_get _ _ hil])
      refine Ev.step (fun k => ?_) (Ev.bind (f := fun k t => laws_markStringS.l0 k (s.set i t) (1 + ((i + 1 : Nat) : Int)) ((i + 1 : Nat) : Int)) (txt_ev (1 + (i : Int)) (by omega)) hr)
      simp only [laws_markStringS.l0]
      rw [if_pos (by omega)]
      congr 1
      funext t
      rw [if_pos (by omega), wrap_succ (by omega) (by omega), wrap_succ (by omega) (by omega), Int.toNat_natCast, show (((i + 1 : Nat)) : Int) = (i : Int) + 1 by omega, Int.add_assoc]
  simpa using g l.length 0 l (by omega) rfl (by simp)

theorem heldS_ev (n : Nat) (hn : n ≤ 1000) : Ev (fun k => laws_heldStringS.f k (marks n) 1) (1 + (n : Int)) := by
  unfold laws_heldStringS.f
  have g : ∀ (d i : Nat), i + d = n → Ev (fun k => laws_heldStringS.l0 k (marks n) (1 + (i : Int)) i) (1 + (n : Int)) := by
    intro d
    induction d with
    | zero =>
      intro i hi
      obtain rfl : i = n := by omega
      refine Ev.step (f := fun _ => some (1 + (i : Int))) (fun k => ?_) (Ev.now _)
      simp only [laws_heldStringS.l0]
      rw [if_neg (by rw [marks_len]; omega)]
    | succ d ih =>
      intro i hi
      have hil : i < n := by omega
      have hr := ih (i + 1) (by omega)
      have e : rdOf ByteArray.empty (marks n) (i : Int) = txt (1 + (i : Int)) := by
        unfold rdOf
        rw [Int.toNat_natCast, List.getD_eq_getElem?_getD, List.getElem?_eq_getElem (by rw [marks_len]; exact hil), marks_get _ _ hil]
        rfl
      refine Ev.step (fun k => ?_) (Ev.bind (f := fun k t => if (txt (1 + (i : Int))).toList = t.toList then laws_heldStringS.l0 k (marks n) (1 + ((i + 1 : Nat) : Int)) ((i + 1 : Nat) : Int) else some (-1)) (txt_ev (1 + (i : Int)) (by omega)) (by simp only [if_true]; exact hr))
      simp only [laws_heldStringS.l0]
      rw [if_pos (by rw [marks_len]; omega), if_pos (by omega), e]
      congr 1
      funext t
      rw [wrap_succ (by omega) (by omega), wrap_succ (by omega) (by omega), show (((i + 1 : Nat)) : Int) = (i : Int) + 1 by omega, Int.add_assoc]
  simpa using g n 0 (by omega)

end Go.Proofs.Ytefoaikfpegggaa.PureFnExactMapsOf
