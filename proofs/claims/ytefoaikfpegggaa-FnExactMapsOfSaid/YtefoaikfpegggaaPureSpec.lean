/- What is proved: what the reference's functions l05Map, l00Same, find, l05All, product come to, in plain words. Conditions: valid bounds, and what each theorem states. -/
import Derived.Test.YtefoaikfpegggaaPureMaps
namespace Go.Proofs.Ytefoaikfpegggaa.PureSpec
open Go.RowKit Go.Proofs.YtefoaikfpegggaaW.PrintWords Go.Proofs.Ytefoaikfpegggaa.Closures Go.Proofs.Ytefoaikfpegggaa.ValidB Go.Proofs.Ytefoaikfpegggaa.SpecAll Go.Proofs.Ytefoaikfpegggaa.PureKit Go.Proofs.Ytefoaikfpegggaa.PureMaps

section
variable {a : Int} {x y : List (List Int)}
theorem idm_rd {j : Nat} (h : j < x.length) : rd (idm x) j = (j : Int) := by
  simp [rd, idm, List.getD_eq_getElem?_getD, List.getElem?_range h]
/-- The maps of the first j states. -/
def mapTo (x : List (List Int)) (w : ByteArray) (j : Nat) : List Int := (List.range j).map (fun s : Nat => walkTo x w (s : Int) w.size)
theorem map_ev (V : Valid a x y) (s : Int) {w : ByteArray} (hw : Abcd w) (hz : w.size < 4611686018427387904) : Ev (fun k => spec_l05Map.f k s x y w) (wmap x w, s) := by
  unfold spec_l05Map.f
  have hl4 := V.len
  refine up_loop (fun k l j => spec_l05Map.l0 k w l j s x y) (mapTo x w) x.length _ (fun j hj h => ?_) (Ev.step (f := fun _ => some (mapTo x w x.length, s)) (fun k => ?_) (Ev.now _))
  · refine Ev.step (f := fun k => spec_l05Map.l1 k w (mapTo x w j) j j 0 s x y) (fun k => ?_) ?_
    · simp only [spec_l05Map.l0]
      have a0 : (j : Int) < (x.length : Int) := by omega
      rw [if_pos a0]
    · refine up_loop (fun k t q => spec_l05Map.l1 k w (mapTo x w j) j t q s x y) (fun q => walkTo x w j q) w.size _ (fun q hq h2 => Ev.step (fun k => ?_) h2) (Ev.step (fun k => ?_) h)
      · have R := walkTo_ran V hw (s := (j : Int)) (by omega) q (by omega)
        have hb := hw q hq
        have hrow := V.rowlen (walkTo x w j q).toNat (by omega)
        rw [Int.toNat_of_nonneg R.1] at hrow
        have a1 : (q : Int) < (w.size : Int) := by omega
        have a2 : (0 : Int) ≤ (q : Int) := by omega
        have a3 : 0 ≤ (bt w q - 97) % 256 := by omega
        have a4 : (bt w q - 97) % 256 < ((rd_L1 x (walkTo x w j q)).length : Int) := by
          show _ < ((rdL x (walkTo x w j q)).length : Int)
          omega
        simp only [spec_l05Map.l1]
        rw [if_pos a1, if_pos R.1, if_pos R.2, if_pos a2, if_pos a3, if_pos a4, wrap_succ (by omega) (by omega)]
        rfl
      · have a1 : ¬ (w.size : Int) < (w.size : Int) := by omega
        have a2 : (mapTo x w j).length < 17592186044416 := by simp [mapTo]; omega
        simp only [spec_l05Map.l1]
        rw [if_neg a1, if_pos a2, wrap_succ (by omega) (by omega)]
        have e : mapTo x w (j + 1) = mapTo x w j ++ [walkTo x w j w.size] := by simp [mapTo, List.range_succ]
        rw [e]
  · simp only [spec_l05Map.l0]
    have a0 : ¬ (x.length : Int) < (x.length : Int) := by omega
    rw [if_neg a0]

theorem eq_of_rd {u v : List Int} (hl : u.length = v.length) (h : ∀ j : Nat, j < u.length → rd u j = rd v j) : u = v := by
  apply List.ext_getElem hl
  intro j h1 h2
  have := h j h1
  simpa [rd, List.getD_eq_getElem?_getD, List.getElem?_eq_getElem h1, List.getElem?_eq_getElem h2] using this
theorem same_ev (u v : List Int) (hu : u.length < 4611686018427387904) : Ev (fun k => spec_l00Same.f k u v) (decide (u = v)) := by
  unfold spec_l00Same.f
  by_cases h : (u.length : Int) = (v.length : Int)
  · simp only [if_pos h]
    have e : decide (u = v) = (List.range u.length).all (fun j : Nat => rd u j == rd v j) := by
      rw [Bool.eq_iff_iff, decide_eq_true_eq, List.all_eq_true]
      constructor
      · rintro rfl j _
        simp
      · intro hall
        refine eq_of_rd (by omega) (fun j hj => ?_)
        simpa using hall j (List.mem_range.2 hj)
    rw [e]
    refine cmp_loop0 (fun k i => spec_l00Same.l0 k u v i) u.length (fun j : Nat => rd u j == rd v j) (fun i r hi hp hr => Ev.step (fun k => ?_) hr) (fun i hi hp => Ev.step (f := fun _ => some false) (fun k => ?_) (Ev.now _)) (Ev.step (f := fun _ => some true) (fun k => ?_) (Ev.now _))
    · simp only [spec_l00Same.l0]
      rw [if_pos (by omega), if_pos (by omega), if_pos (by omega), if_pos (by simpa using hp), wrap_succ (by omega) (by omega)]
    · simp only [spec_l00Same.l0]
      rw [if_pos (by omega), if_pos (by omega), if_pos (by omega), if_neg (by simpa using hp)]
    · simp only [spec_l00Same.l0]
      rw [if_neg (by omega)]
  · simp only [if_neg h]
    have e : decide (u = v) = false := decide_eq_false (fun e => h (by rw [e]))
    rw [e]
    exact Ev.now _
theorem find_ev (ms : List (List Int)) (m : List Int) (hms : ms.length < 4611686018427387904) (hs : ∀ z ∈ ms, z.length < 4611686018427387904) : Ev (fun k => spec_l05Maps_find.f k ms m) (idx ms m) := by
  unfold spec_l05Maps_find.f idx
  have h : ∀ d i : Nat, i + d = ms.length → Ev (fun k => spec_l05Maps_find.l0 k ms m i) (idxR (ms.drop i) m i) := by
    intro d
    induction d with
    | zero =>
      intro i h
      obtain rfl : i = ms.length := by omega
      rw [List.drop_length]
      refine Ev.step (f := fun _ => some (-1)) (fun k => ?_) (Ev.now _)
      simp only [spec_l05Maps_find.l0]
      rw [if_neg (by omega)]
    | succ d ih =>
      intro i h
      have ih := ih (i + 1) (by omega)
      have hi : i < ms.length := by omega
      rw [show (((i + 1 : Nat)) : Int) = (i : Int) + 1 by omega] at ih
      rw [List.drop_eq_getElem_cons hi]
      have e : rd_L1 ms i = ms[i] := by simp [rd_L1, List.getD_eq_getElem?_getD, List.getElem?_eq_getElem hi]
      have hsm := same_ev ms[i] m (hs _ (List.getElem_mem hi))
      have a1 : (i : Int) < (ms.length : Int) := by omega
      have a2 : (0 : Int) ≤ (i : Int) := by omega
      refine Ev.step (f := fun k => (spec_l00Same.f k (rd_L1 ms i) m).bind fun t => if t = true then some (i : Int) else spec_l05Maps_find.l0 k ms m (wrap64 ((i : Int) + 1))) (fun k => ?_) ?_
      · simp only [spec_l05Maps_find.l0]
        rw [if_pos a1, if_pos a2]
      · rw [e]
        refine Ev.bind hsm ?_
        unfold idxR
        by_cases hm : ms[i] = m
        · rw [if_pos hm, decide_eq_true hm]
          simp only [if_true]
          exact Ev.now _
        · rw [if_neg hm, decide_eq_false hm]
          simp only [Bool.false_eq_true, if_false]
          rw [wrap_succ (by omega) (by omega)]
          exact ih
  simpa using h ms.length 0 (by omega)

/-- The letters' numbers, the first j. -/
def lets (x : List (List Int)) (ms : List (List Int)) (j : Nat) : List Int := (List.range j).map (fun c : Nat => idx ms (wmap x (lett c)))
theorem letters_ev (V : Valid a x y) (s : Int) (st : St) (I : Inv x st) (h40 : st.1.length ≤ 1000) : Ev (fun k => spec_l05All.l2 k 97 s x y st.2 st.1 []) (st.2, st.1, 0, s) := by
  have hl4 := V.len
  have g : ∀ d j : Nat, j + d = 4 → Ev (fun k => spec_l05All.l2 k (97 + (j : Int)) s x y st.2 st.1 (lets x st.1 j)) (st.2, st.1, 0, s) := by
    intro d
    induction d with
    | zero =>
      intro j hj
      obtain rfl : j = 4 := by omega
      refine Ev.step (f := fun _ => some (st.2, st.1, 0, s)) (fun k => ?_) (Ev.now _)
      simp only [spec_l05All.l2]
      have a0 : ¬ (97 + ((4 : Nat) : Int)) ≤ 100 := by omega
      rw [if_neg a0]
    | succ d ih =>
      intro j hj
      have ih := ih (j + 1) (by omega)
      have hc : j < 4 := by omega
      have a0 : (97 + (j : Int)) ≤ 100 := by omega
      have e1 : strOfNums [97 + (j : Int)] = lett j := rfl
      refine Ev.step (f := fun k => (spec_l05Map.f k s x y (lett j)).bind fun bt => (spec_l05Maps_find.f k st.1 bt.1).bind fun t => if (lets x st.1 j).length < 17592186044416 then spec_l05All.l2 k ((97 + (j : Int) + 1) % 256) bt.2 x y st.2 st.1 (lets x st.1 j ++ [t]) else none) (fun k => ?_) ?_
      · simp only [spec_l05All.l2]
        rw [if_pos a0, e1]
      · refine Ev.bind (map_ev V s (abcd_lett hc) (by rw [lett_size]; omega)) ?_
        refine Ev.bind (find_ev st.1 _ (by omega) (fun z hz => by have := (I.good z hz).len; omega)) ?_
        have a2 : (lets x st.1 j).length < 17592186044416 := by simp [lets]; omega
        simp only [if_pos a2]
        have e2 : lets x st.1 (j + 1) = lets x st.1 j ++ [idx st.1 (wmap x (lett j))] := by simp [lets, List.range_succ]
        rw [e2, show (97 + (((j + 1 : Nat)) : Int)) = (97 + (j : Int) + 1) % 256 by omega] at ih
        exact ih
  have := g 4 0 rfl
  simpa [lets] using this
theorem round_ev (V : Valid a x y) (s : Int) (i : Nat) (st : St) (I : Inv x st) (hi : i < st.1.length) (h40 : st.1.length ≤ 1000) (r : List ByteArray × List (List Int) × Int × Int)
    (h : Ev (fun k => spec_l05All.l1 k i 101 s x y (rnd x i st 4).2 (rnd x i st 4).1) r) : Ev (fun k => spec_l05All.l1 k i 97 s x y st.2 st.1) r := by
  have hl4 := V.len
  have g : ∀ d j : Nat, j + d = 4 → Ev (fun k => spec_l05All.l1 k i (97 + (j : Int)) s x y (rnd x i st j).2 (rnd x i st j).1) r := by
    intro d
    induction d with
    | zero =>
      intro j hj
      obtain rfl : j = 4 := by omega
      exact h
    | succ d ih =>
      intro j hj
      have ih := ih (j + 1) (by omega)
      have hc : j < 4 := by omega
      have J := inv_rnd V I hi j (by omega)
      have hlen := rnd_len x i st j
      have hij : i < (rnd x i st j).1.length := Nat.lt_of_lt_of_le hi (rnd_pre x i st j).length_le
      have a0 : (97 + (j : Int)) ≤ 100 := by omega
      have a1 : (0 : Int) ≤ (i : Int) := by omega
      have a2 : (i : Int) < ((rnd x i st j).2.length : Int) := by rw [J.len]; omega
      have e1 : strOfNums [97 + (j : Int)] = lett j := rfl
      have hz := J.size i hij
      have a3 : (rdOf ByteArray.empty (rnd x i st j).2 i).size + (strOfNums [97 + (j : Int)]).size ≤ 9223372036854775807 := by rw [e1, lett_size]; omega
      have a4 : (rnd x i st j).2.length < 8796093022208 := by rw [J.len]; omega
      have a5 : (rnd x i st j).1.length < 5864062014805 := by omega
      have ew : wmap x (rdOf ByteArray.empty (rnd x i st j).2 i ++ lett j) = bh x (rdL (rnd x i st j).1 i) j := by rw [wmap_snoc hc, J.of i hij]
      refine Ev.step (f := fun k => (spec_l05Map.f k s x y (rdOf ByteArray.empty (rnd x i st j).2 i ++ lett j)).bind fun bt => (spec_l05Maps_find.f k (rnd x i st j).1 bt.1).bind fun t => if t < 0 then (spec_l05All.l1 k i ((97 + (j : Int) + 1) % 256) bt.2 x y ((rnd x i st j).2 ++ [rdOf ByteArray.empty (rnd x i st j).2 i ++ lett j]) ((rnd x i st j).1 ++ [bt.1])) else (spec_l05All.l1 k i ((97 + (j : Int) + 1) % 256) bt.2 x y (rnd x i st j).2 (rnd x i st j).1)) (fun k => ?_) ?_
      · simp only [spec_l05All.l1, Option.bind_some]
        rw [if_pos a0, if_pos a1, if_pos a2, if_pos a3]
        simp only [if_pos a4, if_pos a5, e1]
      · refine Ev.bind (map_ev V s (abcd_snoc (J.abcd i hij) hc) (by rw [ByteArray.size_append, lett_size]; omega)) ?_
        rw [ew]
        refine Ev.bind (find_ev (rnd x i st j).1 _ (by omega) (fun z hz => by have := (J.good z hz).len; omega)) ?_
        rw [show (97 + (((j + 1 : Nat)) : Int)) = (97 + (j : Int) + 1) % 256 by omega] at ih
        by_cases hm : mem (rnd x i st j).1 (bh x (rdL (rnd x i st j).1 i) j) = true
        · have hn : ¬ idx (rnd x i st j).1 (bh x (rdL (rnd x i st j).1 i) j) < 0 := fun h => idx_neg.1 h hm
          simp only [if_neg hn]
          have e3 : rnd x i st (j + 1) = rnd x i st j := by
            show addl x i (rnd x i st j) j = _
            unfold addl
            rw [if_pos hm]
          rw [e3] at ih
          exact ih
        · have hn : idx (rnd x i st j).1 (bh x (rdL (rnd x i st j).1 i) j) < 0 := idx_neg.2 hm
          simp only [if_pos hn]
          have e3 : rnd x i st (j + 1) = ((rnd x i st j).1 ++ [bh x (rdL (rnd x i st j).1 i) j], (rnd x i st j).2 ++ [rdOf ByteArray.empty (rnd x i st j).2 i ++ lett j]) := by
            show addl x i (rnd x i st j) j = _
            unfold addl
            rw [if_neg hm]
          rw [e3] at ih
          exact ih
  have := g 4 0 rfl
  simpa [rnd] using this
/-- The whole search. -/
theorem all_ev (V : Valid a x y) (s : Int) :
    (∃ st, fin x = some st ∧ Ev (fun k => spec_l05All.f k s x y) (st.2, st.1, 0, s)) ∨ (∃ st : St, fin x = none ∧ Ev (fun k => spec_l05All.f k s x y) (st.2, st.1, 3, s)) := by
  have hl4 := V.len
  have main : ∀ (r : List ByteArray × List (List Int) × Int × Int) (i : Nat), Hd x i → Ev (fun k => spec_l05All.l0 k i s x y (rounds x i).2 (rounds x i).1) r → Ev (fun k => spec_l05All.f k s x y) r := by
    intro r i
    induction i with
    | zero =>
      intro _ h
      unfold spec_l05All.f
      refine Ev.bind (map_ev V s abcd_empty (by show 0 < _; omega)) ?_
      exact h
    | succ i ih =>
      intro hh h
      have hh' : Hd x i := fun j hj => hh j (by omega)
      have h1 := hh i (by omega)
      have h2 := hd_le40 hh'
      have I := inv_rounds V i hh'
      have J := inv_rounds V (i + 1) hh
      refine ih hh' (Ev.step (f := fun k => spec_l05All.l1 k i 97 s x y (rounds x i).2 (rounds x i).1) (fun k => ?_) (round_ev V s i (rounds x i) I h1.1 (by omega) r (Ev.step (fun k => ?_) h)))
      · simp only [spec_l05All.l0]
        have a0 : (i : Int) < ((rounds x i).2.length : Int) := by rw [I.len]; omega
        rw [if_pos a0]
      · simp only [spec_l05All.l1]
        have a0 : ¬ (101 : Int) ≤ 100 := by omega
        have a1 : ¬ (((rnd x i (rounds x i) 4).2.length : Int) > 40) := by
          have e : (rnd x i (rounds x i) 4).2.length = (rounds x (i + 1)).1.length := J.len
          rw [e]; omega
        rw [if_neg a0, if_neg a1, wrap_succ (by omega) (by omega)]
        rfl
  rcases fin_cases (x := x) with ⟨i, hh, h1, hf⟩ | ⟨i, hh, h1, h3, hf⟩
  · left
    have I := inv_rounds V i hh
    have h2 := hd_le40 hh
    refine ⟨_, hf, main _ i hh (Ev.step (f := fun k => spec_l05All.l2 k 97 s x y (rounds x i).2 (rounds x i).1 []) (fun k => ?_) (letters_ev V s (rounds x i) I (by omega)))⟩
    simp only [spec_l05All.l0]
    have a0 : ¬ (i : Int) < ((rounds x i).2.length : Int) := by rw [I.len]; omega
    rw [if_neg a0]
  · right
    have I := inv_rounds V i hh
    have h2 := hd_le40 hh
    have J := inv_rnd V I h1 4 (Nat.le_refl _)
    refine ⟨rounds x (i + 1), hf, main _ i hh (Ev.step (f := fun k => spec_l05All.l1 k i 97 s x y (rounds x i).2 (rounds x i).1) (fun k => ?_) (round_ev V s i (rounds x i) I h1 (by omega) _ (Ev.step (f := fun _ => some ((rnd x i (rounds x i) 4).2, (rnd x i (rounds x i) 4).1, 3, s)) (fun k => ?_) (Ev.now _))))⟩
    · simp only [spec_l05All.l0]
      have a0 : (i : Int) < ((rounds x i).2.length : Int) := by rw [I.len]; omega
      rw [if_pos a0]
    · simp only [spec_l05All.l1]
      have a0 : ¬ (101 : Int) ≤ 100 := by omega
      have a1 : (((rnd x i (rounds x i) 4).2.length : Int) > 40) := by
        have e : (rnd x i (rounds x i) 4).2.length = (rnd x i (rounds x i) 4).1.length := J.len
        rw [e]
        have : (rounds x (i + 1)).1.length = (rnd x i (rounds x i) 4).1.length := rfl
        omega
      rw [if_neg a0, if_pos a1]
/-- The first j numbers of a product. -/
def prodTo (m k : List Int) (j : Nat) : List Int := (List.range j).map (fun s : Nat => rd k (rd m s))
theorem prodTo_all (m k : List Int) : prodTo m k m.length = prod m k := by
  unfold prodTo prod
  apply List.ext_getElem (by simp)
  intro j h1 h2
  simp only [List.length_map] at h2
  simp [rd, List.getD_eq_getElem?_getD, List.getElem?_eq_getElem h2]
theorem product_ev (V : Valid a x y) (st : St) (I : Inv x st) (h40 : st.1.length ≤ 1000) (l0 : List ByteArray) (l2 : List Int) {p q : Int} (hp : 0 ≤ p ∧ p < (st.1.length : Int)) (hq : 0 ≤ q ∧ q < (st.1.length : Int)) :
    Ev (fun k => spec_l05Maps_product.f k l0 st.1 l2 p q) (idx st.1 (prod (rdL st.1 p) (rdL st.1 q))) := by
  have hl4 := V.len
  have Gp := I.good _ (rdL_mem hp.1 hp.2)
  have Gq := I.good _ (rdL_mem hq.1 hq.2)
  unfold spec_l05Maps_product.f
  refine up_loop (fun k l j => spec_l05Maps_product.l0 k p q l j l0 st.1 l2) (prodTo (rdL st.1 p) (rdL st.1 q)) (rdL st.1 p).length _ (fun j hj h => Ev.step (fun k => ?_) h) (Ev.step (f := fun k => (spec_l05Maps_find.f k st.1 (prod (rdL st.1 p) (rdL st.1 q))).bind fun t => some t) (fun k => ?_) (Ev.bind (find_ev st.1 _ (by omega) (fun z hz => by have := (I.good z hz).len; omega)) (Ev.now _)))
  · have hr := Gp.ran _ (rd_mem (m := rdL st.1 p) (i := (j : Int)) (by omega) (by omega))
    have a1 : (j : Int) < ((rd_L1 st.1 p).length : Int) := by show (j : Int) < ((rdL st.1 p).length : Int); omega
    have a2 : (0 : Int) ≤ (j : Int) := by omega
    have a3 : 0 ≤ rd (rd_L1 st.1 p) j := hr.1
    have a4 : rd (rd_L1 st.1 p) j < ((rd_L1 st.1 q).length : Int) := by show rd (rdL st.1 p) j < ((rdL st.1 q).length : Int); rw [Gq.len]; exact hr.2
    have a5 : (prodTo (rdL st.1 p) (rdL st.1 q) j).length < 17592186044416 := by simp [prodTo]; have := Gp.len; omega
    have hj2 := Gp.len
    simp only [spec_l05Maps_product.l0]
    rw [if_pos hp.1, if_pos hp.2, if_pos a1, if_pos hq.1, if_pos hq.2, if_pos a2, if_pos a3, if_pos a4, if_pos a5, wrap_succ (by omega) (by omega)]
    have e : prodTo (rdL st.1 p) (rdL st.1 q) (j + 1) = prodTo (rdL st.1 p) (rdL st.1 q) j ++ [rd (rd_L1 st.1 q) (rd (rd_L1 st.1 p) j)] := by
      simp [prodTo, List.range_succ]
      rfl
    rw [e]
  · have a1 : ¬ (((rdL st.1 p).length : Nat) : Int) < ((rd_L1 st.1 p).length : Int) := by show ¬ ((rdL st.1 p).length : Int) < ((rdL st.1 p).length : Int); omega
    simp only [spec_l05Maps_product.l0]
    rw [if_pos hp.1, if_pos hp.2, if_neg a1, prodTo_all]
end

end Go.Proofs.Ytefoaikfpegggaa.PureSpec
