/- What is proved: plain facts on the search for all maps of bounds: the states it goes through, that the maps found are closed under products, and that the reference's functions l05Map, find, l05All, product come to them. Conditions: valid bounds, as each theorem states. -/
import Derived.Test.YtefoaikfpegggaaSpecAllB
import Derived.Test.YtefoaikfpegggaaPureKit
namespace Go.Proofs.Ytefoaikfpegggaa.PureMaps
open Go.RowKit Go.Proofs.YtefoaikfpegggaaW.PrintWords Go.Proofs.Ytefoaikfpegggaa.Closures Go.Proofs.Ytefoaikfpegggaa.ValidB Go.Proofs.Ytefoaikfpegggaa.SpecAll Go.Proofs.Ytefoaikfpegggaa.PureKit

/-- What valid bounds are. -/
structure Valid (a : Int) (x y : List (List Int)) : Prop where
  len : 1 ≤ x.length ∧ x.length ≤ 4
  start : 0 ≤ a ∧ a < (x.length : Int)
  len4 : y.length = 4
  rowlen : ∀ j : Nat, j < x.length → (rdL x j).length = 4
  row : ∀ j : Nat, j < x.length → ∀ q : Nat, q < 4 → 0 ≤ rd (rdL x j) q ∧ rd (rdL x j) q < (x.length : Int)
  ends : ∀ c : Int, 0 ≤ c → c ≤ 3 → ∀ j : Nat, j < (rdL y c).length → 0 ≤ rd (rdL y c) j ∧ rd (rdL y c) j < (x.length : Int)
  endsup : ∀ c : Int, 0 ≤ c → c ≤ 3 → ∀ j : Nat, j < (rdL y c).length → 0 < j → rd (rdL y c) ((j : Int) - 1) < rd (rdL y c) j
theorem inB_of {lo hi s : Int} (h : inB lo hi s = true) : lo ≤ s ∧ s ≤ hi := by
  unfold inB at h
  rw [Bool.and_eq_true, decide_eq_true_eq, decide_eq_true_eq] at h
  exact h
theorem inS_of {n s : Int} (h : inS n s = true) : 0 ≤ s ∧ s < n := by
  unfold inS at h
  rw [Bool.and_eq_true, decide_eq_true_eq, decide_eq_true_eq] at h
  omega
theorem valid_of {a : Int} {x y : List (List Int)} (h : vb a x y = true) : Valid a x y := by
  unfold vb at h
  rw [Bool.and_eq_true, Bool.and_eq_true, Bool.and_eq_true, Bool.and_eq_true] at h
  obtain ⟨h1, h2, h3, h4, h5⟩ := h
  have h1 := inB_of h1
  have h2 := inS_of h2
  have h3 : y.length = 4 := by have := eq_of_beq h3; omega
  have rows : ∀ j : Nat, j < x.length → rowOk x.length (rdL x j) = true := fun j hj => List.all_eq_true.1 h4 j (List.mem_range.2 hj)
  have ends : ∀ c : Int, 0 ≤ c → c ≤ 3 → ∀ j : Nat, j < (rdL y c).length → stepOk x.length (rdL y c) j = true := by
    intro c h0 h1 j hj
    have hc := List.all_eq_true.1 h5 c.toNat (List.mem_range.2 (by omega))
    rw [Int.toNat_of_nonneg h0] at hc
    exact List.all_eq_true.1 hc j (List.mem_range.2 hj)
  refine ⟨by omega, h2, h3, fun j hj => ?_, fun j hj q hq => ?_, fun c h0 h1 j hj => ?_, fun c h0 h1 j hj h2 => ?_⟩
  · have := rows j hj
    unfold rowOk at this
    rw [Bool.and_eq_true] at this
    have := eq_of_beq this.1
    omega
  · have := rows j hj
    unfold rowOk at this
    rw [Bool.and_eq_true, Bool.not_eq_true', List.any_eq_false] at this
    have hl : (rdL x j).length = 4 := by have := eq_of_beq this.1; omega
    have e : rd (rdL x j) q = (rdL x j)[q]'(by omega) := by simp [rd, List.getD_eq_getElem?_getD, List.getElem?_eq_getElem (show q < (rdL x j).length by omega)]
    have h6 := this.2 _ (List.getElem_mem (show q < (rdL x j).length by omega))
    rw [← e] at h6
    exact inS_of (by simpa using h6)
  · have := ends c h0 h1 j hj
    unfold stepOk at this
    rw [Bool.and_eq_true] at this
    exact inS_of this.1
  · have := ends c h0 h1 j hj
    unfold stepOk at this
    rw [Bool.and_eq_true, Bool.or_eq_true, decide_eq_true_eq, beq_iff_eq] at this
    rcases this.2 with h | h
    · omega
    · exact h
/-- A rising list of numbers below n is no longer than n. -/
theorem rise_le {l : List Int} {n : Int} (h : ∀ j : Nat, j < l.length → 0 ≤ rd l j ∧ rd l j < n) (hu : ∀ j : Nat, j < l.length → 0 < j → rd l ((j : Int) - 1) < rd l j) : ∀ j : Nat, j < l.length → (j : Int) ≤ rd l j
  | 0, hj => by have := h 0 hj; simpa using this.1
  | j + 1, hj => by
    have ih := rise_le h hu j (by omega)
    have := hu (j + 1) hj (by omega)
    rw [show (((j + 1 : Nat)) : Int) - 1 = (j : Int) by omega] at this
    omega
theorem Valid.endslen {a : Int} {x y : List (List Int)} (V : Valid a x y) (c : Int) (h0 : 0 ≤ c) (h1 : c ≤ 3) : (rdL y c).length ≤ 4 := by
  rcases Nat.eq_zero_or_pos (rdL y c).length with h | h
  · omega
  · have h2 := rise_le (V.ends c h0 h1) (V.endsup c h0 h1) ((rdL y c).length - 1) (by omega)
    have h3 := V.ends c h0 h1 ((rdL y c).length - 1) (by omega)
    have h4 := V.len
    omega

/-! ### words and maps -/
/-- Where letter c leads from state s. -/
def to1 (x : List (List Int)) (c s : Int) : Int := rd (rdL x s) c
/-- A letter behind a map. -/
def bh (x : List (List Int)) (m : List Int) (c : Int) : List Int := m.map (to1 x c)
/-- The map of the empty word. -/
def idm (x : List (List Int)) : List Int := (List.range x.length).map (fun j : Nat => (j : Int))
/-- The word of one letter. -/
def lett (c : Nat) : ByteArray := strOfNums [97 + (c : Int)]
/-- Where the first j letters of a word lead from a state. -/
def walkTo (x : List (List Int)) (w : ByteArray) (s : Int) : Nat → Int
  | 0 => s
  | j + 1 => to1 x ((bt w j - 97) % 256) (walkTo x w s j)
def wmap (x : List (List Int)) (w : ByteArray) : List Int := (List.range x.length).map (fun j : Nat => walkTo x w (j : Int) w.size)
/-- A map on x's states. -/
structure Good (x : List (List Int)) (m : List Int) : Prop where
  len : m.length = x.length
  ran : ∀ e ∈ m, 0 ≤ e ∧ e < (x.length : Int)
/-- A word over the four letters. -/
def Abcd (w : ByteArray) : Prop := ∀ j : Nat, j < w.size → 97 ≤ bt w j ∧ bt w j ≤ 100

section
variable {a : Int} {x y : List (List Int)}
theorem to1_ran (V : Valid a x y) {c s : Int} (hc : 0 ≤ c ∧ c < 4) (hs : 0 ≤ s ∧ s < (x.length : Int)) : 0 ≤ to1 x c s ∧ to1 x c s < (x.length : Int) := by
  have h := V.row s.toNat (by omega) c.toNat (by omega)
  rw [Int.toNat_of_nonneg hs.1, Int.toNat_of_nonneg hc.1] at h
  exact h
theorem idm_good : Good x (idm x) := ⟨by simp [idm], fun e he => by
  simp only [idm, List.mem_map, List.mem_range] at he
  obtain ⟨j, hj, rfl⟩ := he
  omega⟩
theorem bh_good (V : Valid a x y) {m : List Int} (h : Good x m) {c : Int} (hc : 0 ≤ c ∧ c < 4) : Good x (bh x m c) := ⟨by simp [bh, h.len], fun e he => by
  simp only [bh, List.mem_map] at he
  obtain ⟨s, hs, rfl⟩ := he
  exact to1_ran V hc (h.ran s hs)⟩
theorem rd_mem {m : List Int} {i : Int} (h0 : 0 ≤ i) (h1 : i < (m.length : Int)) : rd m i ∈ m := by
  unfold rd
  rw [List.getD_eq_getElem?_getD, List.getElem?_eq_getElem (show i.toNat < m.length by omega)]
  exact List.getElem_mem _
theorem rdL_mem {ms : List (List Int)} {i : Int} (h0 : 0 ≤ i) (h1 : i < (ms.length : Int)) : rdL ms i ∈ ms := by
  unfold rdL
  rw [List.getD_eq_getElem?_getD, List.getElem?_eq_getElem (show i.toNat < ms.length by omega)]
  exact List.getElem_mem _
theorem bt_ran (w : ByteArray) (j : Int) : 0 ≤ bt w j ∧ bt w j ≤ 255 := by
  unfold bt
  split
  · rename_i h
    have := (w[j.toNat]'h).toNat_lt
    omega
  · omega
theorem walkTo_ran (V : Valid a x y) {w : ByteArray} (hw : Abcd w) {s : Int} (hs : 0 ≤ s ∧ s < (x.length : Int)) : ∀ j : Nat, j ≤ w.size → 0 ≤ walkTo x w s j ∧ walkTo x w s j < (x.length : Int)
  | 0, _ => hs
  | j + 1, hj => by
    have h := hw j (by omega)
    exact to1_ran V (by omega) (walkTo_ran V hw hs j (by omega))
end

theorem lett_size (c : Nat) : (lett c).size = 1 := rfl
theorem lett_bt {c : Nat} (hc : c < 4) : bt (lett c) 0 = 97 + (c : Int) := by
  have : c = 0 ∨ c = 1 ∨ c = 2 ∨ c = 3 := by omega
  rcases this with rfl | rfl | rfl | rfl <;> decide
theorem bt_left {u v : ByteArray} {j : Nat} (h : j < u.size) : bt (u ++ v) j = bt u j := by
  have h1 : j < (u ++ v).size := by rw [ByteArray.size_append]; omega
  unfold bt
  simp only [Int.toNat_natCast]
  rw [dif_pos h1, dif_pos h, ByteArray.getElem_append_left h]
theorem bt_right {u v : ByteArray} {j : Nat} (h0 : u.size ≤ j) (h : j - u.size < v.size) : bt (u ++ v) j = bt v ((j - u.size : Nat) : Int) := by
  have h1 : j < (u ++ v).size := by rw [ByteArray.size_append]; omega
  unfold bt
  simp only [Int.toNat_natCast]
  rw [dif_pos h1, dif_pos h, ByteArray.getElem_append_right h0]
theorem abcd_empty : Abcd (⟨#[]⟩ : ByteArray) := fun j hj => by
  have : (⟨#[]⟩ : ByteArray).size = 0 := rfl
  omega
theorem abcd_snoc {w : ByteArray} (h : Abcd w) {c : Nat} (hc : c < 4) : Abcd (w ++ lett c) := fun j hj => by
  rw [ByteArray.size_append, lett_size] at hj
  rcases Nat.lt_or_ge j w.size with h1 | h1
  · rw [bt_left h1]; exact h j h1
  · obtain rfl : j = w.size := by omega
    rw [bt_right (Nat.le_refl _) (by rw [lett_size]; omega), Nat.sub_self]
    have := lett_bt hc
    rw [show ((0 : Nat) : Int) = 0 from rfl, this]
    omega
theorem abcd_lett {c : Nat} (hc : c < 4) : Abcd (lett c) := fun j hj => by
  rw [lett_size] at hj
  obtain rfl : j = 0 := by omega
  have := lett_bt hc
  rw [show ((0 : Nat) : Int) = 0 from rfl, this]
  omega
theorem walkTo_left {x : List (List Int)} {u v : ByteArray} {s : Int} : ∀ j : Nat, j ≤ u.size → walkTo x (u ++ v) s j = walkTo x u s j
  | 0, _ => rfl
  | j + 1, hj => by
    simp only [walkTo]
    rw [walkTo_left j (by omega), bt_left (by omega)]
theorem wmap_snoc {x : List (List Int)} {w : ByteArray} {c : Nat} (hc : c < 4) : wmap x (w ++ lett c) = bh x (wmap x w) c := by
  unfold wmap bh
  rw [List.map_map]
  refine List.map_congr_left (fun j _ => ?_)
  rw [ByteArray.size_append, lett_size]
  show walkTo x (w ++ lett c) j (w.size + 1) = to1 x c (walkTo x w j w.size)
  simp only [walkTo]
  rw [walkTo_left w.size (Nat.le_refl _), bt_right (Nat.le_refl _) (by rw [lett_size]; omega), Nat.sub_self]
  have := lett_bt hc
  rw [show ((0 : Nat) : Int) = 0 from rfl, this, show ((97 + (c : Int) - 97) % 256) = (c : Int) by omega]
theorem wmap_empty {x : List (List Int)} : wmap x (⟨#[]⟩ : ByteArray) = idm x := rfl
theorem wmap_lett {x : List (List Int)} {c : Nat} (hc : c < 4) : wmap x (lett c) = bh x (idm x) c := by
  have h := wmap_snoc (x := x) (w := (⟨#[]⟩ : ByteArray)) hc
  rw [wmap_empty] at h
  rw [← h]
  congr 1

/-! ### the search -/
abbrev St := List (List Int) × List ByteArray
def mem (ms : List (List Int)) (m : List Int) : Bool := ms.any (fun z => z == m)
theorem mem_iff {ms : List (List Int)} {m : List Int} : mem ms m = true ↔ m ∈ ms := by
  simp [mem]
/-- Letter c is tried behind map i. -/
def addl (x : List (List Int)) (i : Nat) (st : St) (c : Nat) : St :=
  if mem st.1 (bh x (rdL st.1 i) c) = true then st else (st.1 ++ [bh x (rdL st.1 i) c], st.2 ++ [rdOf ByteArray.empty st.2 i ++ lett c])
/-- The first j letters. -/
def rnd (x : List (List Int)) (i : Nat) (st : St) : Nat → St
  | 0 => st
  | j + 1 => addl x i (rnd x i st j) j
/-- Behind the first i maps. -/
def rounds (x : List (List Int)) : Nat → St
  | 0 => ([idm x], [⟨#[]⟩])
  | i + 1 => rnd x i (rounds x i) 4
def bfs (x : List (List Int)) : Nat → Nat → Option St
  | 0, _ => none
  | f + 1, i => if i < (rounds x i).1.length then (if 40 < (rounds x (i + 1)).1.length then none else bfs x f (i + 1)) else some (rounds x i)
/-- What the search comes to: none past the limit. -/
def fin (x : List (List Int)) : Option St := bfs x 41 0
/-- The search has come to map i. -/
def Hd (x : List (List Int)) (i : Nat) : Prop := ∀ j : Nat, j < i → j < (rounds x j).1.length ∧ (rounds x (j + 1)).1.length ≤ 40

section
variable {a : Int} {x y : List (List Int)} {i : Nat}
theorem hd_zero : Hd x 0 := fun j hj => by omega
theorem hd_succ (h : Hd x i) (h1 : i < (rounds x i).1.length) (h2 : (rounds x (i + 1)).1.length ≤ 40) : Hd x (i + 1) := fun j hj => by
  rcases Nat.lt_or_ge j i with h3 | h3
  · exact h j h3
  · obtain rfl : j = i := by omega
    exact ⟨h1, h2⟩
theorem hd_le40 (h : Hd x i) : i ≤ 40 ∧ (rounds x i).1.length ≤ 40 := by
  cases i with
  | zero => exact ⟨by omega, by simp [rounds]⟩
  | succ i =>
    have h1 := h i (by omega)
    refine ⟨?_, h1.2⟩
    cases i with
    | zero => omega
    | succ i =>
      have h2 := h i (by omega)
      omega
theorem bfs_hd : ∀ i : Nat, Hd x i → fin x = bfs x (41 - i) i
  | 0, _ => rfl
  | i + 1, h => by
    have ih := bfs_hd i (fun j hj => h j (by omega))
    have h1 := h i (by omega)
    have h2 := hd_le40 h
    rw [ih, show 41 - i = (41 - (i + 1)) + 1 by omega]
    show (if i < (rounds x i).1.length then (if 40 < (rounds x (i + 1)).1.length then none else bfs x (41 - (i + 1)) (i + 1)) else some (rounds x i)) = _
    rw [if_pos h1.1, if_neg (by omega)]
theorem fin_done (h : Hd x i) (h1 : ¬ i < (rounds x i).1.length) : fin x = some (rounds x i) := by
  have h2 := hd_le40 h
  rw [bfs_hd i h, show 41 - i = (40 - i) + 1 by omega]
  show (if i < (rounds x i).1.length then (if 40 < (rounds x (i + 1)).1.length then none else bfs x (40 - i) (i + 1)) else some (rounds x i)) = _
  rw [if_neg h1]
theorem fin_lim (h : Hd x i) (h1 : i < (rounds x i).1.length) (h3 : 40 < (rounds x (i + 1)).1.length) : fin x = none := by
  have h2 := hd_le40 h
  rw [bfs_hd i h, show 41 - i = (40 - i) + 1 by omega]
  show (if i < (rounds x i).1.length then (if 40 < (rounds x (i + 1)).1.length then none else bfs x (40 - i) (i + 1)) else some (rounds x i)) = _
  rw [if_pos h1, if_pos h3]
/-- One of the two comes. -/
theorem bfs_cases : ∀ f i : Nat, Hd x i → f + i = 41 → (∃ j, Hd x j ∧ ¬ j < (rounds x j).1.length ∧ fin x = some (rounds x j)) ∨ (∃ j, Hd x j ∧ j < (rounds x j).1.length ∧ 40 < (rounds x (j + 1)).1.length ∧ fin x = none)
  | 0, i, h, hf => by have := hd_le40 h; omega
  | f + 1, i, h, hf => by
    by_cases h1 : i < (rounds x i).1.length
    · by_cases h2 : 40 < (rounds x (i + 1)).1.length
      · exact .inr ⟨i, h, h1, h2, fin_lim h h1 h2⟩
      · exact bfs_cases f (i + 1) (hd_succ h h1 (by omega)) (by omega)
    · exact .inl ⟨i, h, h1, fin_done h h1⟩
theorem fin_cases : (∃ j, Hd x j ∧ ¬ j < (rounds x j).1.length ∧ fin x = some (rounds x j)) ∨ (∃ j, Hd x j ∧ j < (rounds x j).1.length ∧ 40 < (rounds x (j + 1)).1.length ∧ fin x = none) := bfs_cases 41 0 hd_zero rfl

/-- What holds of a state of the search. -/
structure Inv (x : List (List Int)) (st : St) : Prop where
  len : st.2.length = st.1.length
  pos : 0 < st.1.length
  good : ∀ m ∈ st.1, Good x m
  of : ∀ j : Nat, j < st.1.length → rdL st.1 j = wmap x (rdOf ByteArray.empty st.2 j)
  abcd : ∀ j : Nat, j < st.1.length → Abcd (rdOf ByteArray.empty st.2 j)
  size : ∀ j : Nat, j < st.1.length → (rdOf ByteArray.empty st.2 j).size ≤ j
  nodup : st.1.Nodup
theorem rdL_app {l : List (List Int)} {m : List Int} {j : Nat} (h : j < l.length) : rdL (l ++ [m]) j = rdL l j := by
  simp [rdL, List.getD_eq_getElem?_getD, List.getElem?_append_left h]
theorem rdL_last {l : List (List Int)} {m : List Int} : rdL (l ++ [m]) l.length = m := by
  simp [rdL, List.getD_eq_getElem?_getD]
theorem rdO_app {l : List ByteArray} {m : ByteArray} {j : Nat} (h : j < l.length) : rdOf ByteArray.empty (l ++ [m]) j = rdOf ByteArray.empty l j := by
  simp [rdOf, List.getD_eq_getElem?_getD, List.getElem?_append_left h]
theorem rdO_last {l : List ByteArray} {m : ByteArray} : rdOf ByteArray.empty (l ++ [m]) l.length = m := by
  simp [rdOf, List.getD_eq_getElem?_getD]
theorem inv_start : Inv x ([idm x], [⟨#[]⟩]) where
  len := rfl
  pos := by simp
  good := fun m hm => by rw [List.mem_singleton] at hm; rw [hm]; exact idm_good
  of := fun j hj => by obtain rfl : j = 0 := by simpa using hj
                       rfl
  abcd := fun j hj => by obtain rfl : j = 0 := by simpa using hj
                         exact abcd_empty
  size := fun j hj => by obtain rfl : j = 0 := by simpa using hj
                         exact Nat.le_refl _
  nodup := by simp
theorem inv_addl (V : Valid a x y) {st : St} (I : Inv x st) {i c : Nat} (hi : i < st.1.length) (hc : c < 4) : Inv x (addl x i st c) := by
  unfold addl
  split
  · exact I
  · rename_i hm
    have hn : bh x (rdL st.1 i) c ∉ st.1 := fun h => hm (mem_iff.2 h)
    refine ⟨by simp [I.len], by simp, fun m h => ?_, fun j hj => ?_, fun j hj => ?_, fun j hj => ?_, ?_⟩
    · rw [List.mem_append, List.mem_singleton] at h
      rcases h with h | rfl
      · exact I.good m h
      · exact bh_good V (I.good _ (rdL_mem (by omega) (by omega))) (by omega)
    · rw [List.length_append, List.length_singleton] at hj
      rcases Nat.lt_or_ge j st.1.length with h | h
      · show rdL (st.1 ++ _) j = wmap x (rdOf ByteArray.empty (st.2 ++ _) j)
        rw [rdL_app h, rdO_app (by rw [I.len]; exact h)]
        exact I.of j h
      · obtain rfl : j = st.1.length := by omega
        show rdL (st.1 ++ _) st.1.length = wmap x (rdOf ByteArray.empty (st.2 ++ _) st.1.length)
        rw [rdL_last, ← I.len, rdO_last, wmap_snoc hc, I.of i hi]
    · rw [List.length_append, List.length_singleton] at hj
      rcases Nat.lt_or_ge j st.1.length with h | h
      · show Abcd (rdOf ByteArray.empty (st.2 ++ _) j)
        rw [rdO_app (by rw [I.len]; exact h)]
        exact I.abcd j h
      · obtain rfl : j = st.1.length := by omega
        show Abcd (rdOf ByteArray.empty (st.2 ++ _) st.1.length)
        rw [← I.len, rdO_last]
        exact abcd_snoc (I.abcd i hi) hc
    · rw [List.length_append, List.length_singleton] at hj
      rcases Nat.lt_or_ge j st.1.length with h | h
      · show (rdOf ByteArray.empty (st.2 ++ _) j).size ≤ j
        rw [rdO_app (by rw [I.len]; exact h)]
        exact I.size j h
      · obtain rfl : j = st.1.length := by omega
        show (rdOf ByteArray.empty (st.2 ++ _) st.1.length).size ≤ st.1.length
        rw [← I.len, rdO_last, ByteArray.size_append, lett_size]
        have := I.size i hi
        have := I.len
        omega
    · rw [List.nodup_append]
      refine ⟨I.nodup, by simp, fun p hp q hq => ?_⟩
      rw [List.mem_singleton] at hq
      subst hq
      exact fun e => hn (e ▸ hp)
theorem addl_pre (x : List (List Int)) (i : Nat) (st : St) (c : Nat) : st.1 <+: (addl x i st c).1 := by
  unfold addl
  split
  · exact List.prefix_refl _
  · exact List.prefix_append _ _
theorem addl_len (x : List (List Int)) (i : Nat) (st : St) (c : Nat) : (addl x i st c).1.length ≤ st.1.length + 1 := by
  unfold addl
  split
  · omega
  · simp
theorem rnd_pre (x : List (List Int)) (i : Nat) (st : St) : ∀ j, st.1 <+: (rnd x i st j).1
  | 0 => List.prefix_refl _
  | j + 1 => List.IsPrefix.trans (rnd_pre x i st j) (addl_pre x i _ j)
theorem rnd_pre2 (x : List (List Int)) (i : Nat) (st : St) (j : Nat) : ∀ d, (rnd x i st j).1 <+: (rnd x i st (j + d)).1
  | 0 => List.prefix_refl _
  | d + 1 => List.IsPrefix.trans (rnd_pre2 x i st j d) (addl_pre x i _ (j + d))
theorem rnd_len (x : List (List Int)) (i : Nat) (st : St) : ∀ j, (rnd x i st j).1.length ≤ st.1.length + j
  | 0 => Nat.le_refl _
  | j + 1 => by
    have := addl_len x i (rnd x i st j) j
    have := rnd_len x i st j
    simp only [rnd]
    omega
theorem inv_rnd (V : Valid a x y) {st : St} (I : Inv x st) {i : Nat} (hi : i < st.1.length) : ∀ j, j ≤ 4 → Inv x (rnd x i st j)
  | 0, _ => I
  | j + 1, hj => inv_addl V (inv_rnd V I hi j (by omega)) (Nat.lt_of_lt_of_le hi (rnd_pre x i st j).length_le) (by omega)
theorem inv_rounds (V : Valid a x y) : ∀ i, Hd x i → Inv x (rounds x i)
  | 0, _ => inv_start
  | i + 1, h => inv_rnd V (inv_rounds V i (fun j hj => h j (by omega))) (h i (by omega)).1 4 (Nat.le_refl _)
theorem rounds_pre (x : List (List Int)) (i : Nat) : ∀ d, (rounds x i).1 <+: (rounds x (i + d)).1
  | 0 => List.prefix_refl _
  | d + 1 => List.IsPrefix.trans (rounds_pre x i d) (rnd_pre x (i + d) _ 4)
theorem pre_rdL {l l' : List (List Int)} (h : l <+: l') {j : Nat} (hj : j < l.length) : rdL l' j = rdL l j := by
  obtain ⟨r, rfl⟩ := h
  simp [rdL, List.getD_eq_getElem?_getD, List.getElem?_append_left hj]

/-- What is found is closed under letters. -/
theorem closed (h : Hd x i) (h1 : ¬ i < (rounds x i).1.length) {m : List Int} (hm : m ∈ (rounds x i).1) {c : Nat} (hc : c < 4) : bh x m c ∈ (rounds x i).1 := by
  obtain ⟨j, hj, rfl⟩ := List.mem_iff_getElem.1 hm
  have hji : j < i := by omega
  have hlt := (h j hji).1
  have hp : (rounds x j).1 <+: (rounds x i).1 := by
    have := rounds_pre x j (i - j)
    rwa [show j + (i - j) = i by omega] at this
  have e : (rounds x i).1[j] = rdL (rounds x i).1 j := by simp [rdL, List.getD_eq_getElem?_getD, List.getElem?_eq_getElem hj]
  rw [e, pre_rdL hp hlt]
  have hp1 : (rnd x j (rounds x j) (c + 1)).1 <+: (rounds x i).1 := by
    have h2 := rnd_pre2 x j (rounds x j) (c + 1) (4 - (c + 1))
    rw [show c + 1 + (4 - (c + 1)) = 4 by omega] at h2
    have h3 := rounds_pre x (j + 1) (i - (j + 1))
    rw [show j + 1 + (i - (j + 1)) = i by omega] at h3
    exact List.IsPrefix.trans h2 h3
  refine hp1.subset ?_
  have e2 : rdL (rnd x j (rounds x j) c).1 j = rdL (rounds x j).1 j := pre_rdL (rnd_pre x j (rounds x j) c) hlt
  simp only [rnd]
  unfold addl
  rw [e2]
  split
  · rename_i hm2
    exact mem_iff.1 hm2
  · simp
/-- .. and so under words. -/
theorem closed_word (V : Valid a x y) (h : Hd x i) (h1 : ¬ i < (rounds x i).1.length) {m : List Int} (hm : m ∈ (rounds x i).1) {w : ByteArray} (hw : Abcd w) : ∀ j, j ≤ w.size → m.map (fun s => walkTo x w s j) ∈ (rounds x i).1
  | 0, _ => by
    have : m.map (fun s => walkTo x w s 0) = m := by simp [walkTo]
    rw [this]
    exact hm
  | j + 1, hj => by
    have ih := closed_word V h h1 hm hw j (by omega)
    have hb := hw j (by omega)
    have e : m.map (fun s => walkTo x w s (j + 1)) = bh x (m.map (fun s => walkTo x w s j)) (((bt w j - 97) % 256).toNat : Nat) := by
      unfold bh
      rw [List.map_map]
      refine List.map_congr_left (fun s _ => ?_)
      simp only [walkTo, Function.comp]
      rw [show ((((bt w (j : Int) - 97) % 256).toNat : Nat) : Int) = (bt w j - 97) % 256 by omega]
    rw [e]
    exact closed h h1 ih (by omega)
/-- The product of two maps. -/
def prod (m k : List Int) : List Int := m.map (fun s => rd k s)
theorem wmap_rd {w : ByteArray} {s : Int} (hs : 0 ≤ s ∧ s < (x.length : Int)) : rd (wmap x w) s = walkTo x w s w.size := by
  simp only [rd, wmap, List.getD_eq_getElem?_getD, List.getElem?_map]
  rw [List.getElem?_range (by omega)]
  simp only [Option.map_some, Option.getD_some]
  rw [Int.toNat_of_nonneg hs.1]
theorem prod_mem (V : Valid a x y) (h : Hd x i) (h1 : ¬ i < (rounds x i).1.length) {p q : Int} (hp : 0 ≤ p ∧ p < ((rounds x i).1.length : Int)) (hq : 0 ≤ q ∧ q < ((rounds x i).1.length : Int)) : prod (rdL (rounds x i).1 p) (rdL (rounds x i).1 q) ∈ (rounds x i).1 := by
  have I := inv_rounds V i h
  have hm := rdL_mem hp.1 hp.2
  have hof := I.of q.toNat (by omega)
  have hab := I.abcd q.toNat (by omega)
  rw [Int.toNat_of_nonneg hq.1] at hof
  have h3 := closed_word V h h1 hm hab _ (Nat.le_refl _)
  have e : prod (rdL (rounds x i).1 p) (rdL (rounds x i).1 q) = (rdL (rounds x i).1 p).map (fun s => walkTo x (rdOf ByteArray.empty (rounds x i).2 (q.toNat : Nat)) s (rdOf ByteArray.empty (rounds x i).2 (q.toNat : Nat)).size) := by
    unfold prod
    refine List.map_congr_left (fun s hs => ?_)
    rw [hof]
    exact wmap_rd ((I.good _ hm).ran s hs)
  rw [e]
  exact h3
end

/-! ### the number of a map -/
def idxR : List (List Int) → List Int → Int → Int
  | [], _, _ => -1
  | z :: r, m, i => if z = m then i else idxR r m (i + 1)
def idx (ms : List (List Int)) (m : List Int) : Int := idxR ms m 0
theorem idxR_neg {m : List Int} : ∀ {l : List (List Int)} {i : Int}, 0 ≤ i → (idxR l m i < 0 ↔ m ∉ l)
  | [], i, hi => by simp [idxR]
  | z :: r, i, hi => by
    unfold idxR
    by_cases e : z = m
    · rw [if_pos e]
      subst e
      simp
      omega
    · rw [if_neg e, idxR_neg (by omega)]
      simp [Ne.symm e]
theorem idx_neg {ms : List (List Int)} {m : List Int} : (idx ms m < 0) ↔ ¬ mem ms m = true := by
  unfold idx
  rw [idxR_neg (by omega), mem_iff]
theorem idxR_at : ∀ {l : List (List Int)} {i : Int} {j : Nat} (hj : j < l.length), l.Nodup → idxR l l[j] i = i + j
  | z :: r, i, 0, hj, hn => by simp [idxR]
  | z :: r, i, j + 1, hj, hn => by
    rw [List.nodup_cons] at hn
    have hj' : j < r.length := by simpa using hj
    have e : z ≠ r[j] := fun e => hn.1 (e ▸ List.getElem_mem hj')
    simp only [List.getElem_cons_succ]
    unfold idxR
    rw [if_neg e, idxR_at hj' hn.2]
    omega
theorem idx_at {ms : List (List Int)} {j : Nat} (hj : j < ms.length) (hn : ms.Nodup) : idx ms ms[j] = j := by
  unfold idx
  rw [idxR_at hj hn]
  omega

/-! ### what the two programs come to -/
/-- MapsOf. -/
def mo (a : Int) (x y : List (List Int)) : List ByteArray × Int :=
  if vb a x y = true then (match fin x with | none => ([], 3) | some st => (st.2, 0)) else ([], 1)
/-- MapProduct. -/
def mp (a : Int) (x y : List (List Int)) (i k : Int) : Int × Int :=
  if vb a x y = true then (match fin x with
    | none => (0, 3)
    | some st => if inB 0 (st.1.length - 1) i = true then (if inB 0 (st.1.length - 1) k = true then (idx st.1 (prod (rdL st.1 i) (rdL st.1 k)), 0) else (0, 2)) else (0, 2)) else (0, 1)

end Go.Proofs.Ytefoaikfpegggaa.PureMaps
