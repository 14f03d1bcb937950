/- What is proved: the contracts of the laws' markInt64SS and markBounds (they return how far they have counted, and turn nothing but the rows they were handed), and of toBounds with its two rows told apart. Conditions: rows of the call's own that lie apart, as each theorem states. -/
import Derived.Test.YtefoaikfpegggaaQFnExactMapsOfx2
import Derived.Test.YtefoaikfpegggaaMapKey
namespace Go.Proofs.Ytefoaikfpegggaa.MarkSS
open Go.RowKit Go.Proofs.YtefoaikfpegggaaW.PrintWords Go.Proofs.YtefoaikfpegggaaW.PrintLast Go.Proofs.YtefoaikfpegggaaW.PrintMore Go.Proofs.Ytefoaikfpegggaa.PureKit Go.Proofs.Ytefoaikfpegggaa.QFnExactMapsOf
attribute [local go_sem] max2_int min2_int max_two min_two max_three min_three max_four min_four
set_option linter.unusedVariables false
set_option linter.unusedSimpArgs false

/-- The numbers of a list of lists, how many. -/
def tot (l : List (List Int)) : Nat := (l.map List.length).sum
theorem tot_take {l : List (List Int)} {j : Nat} (h : j < l.length) : tot (l.take (j + 1)) = tot (l.take j) + l[j].length := by
  rw [tot, List.take_succ_eq_append_getElem h, List.map_append, List.sum_append]
  simp only [List.map_cons, List.map_nil, List.sum_cons, List.sum_nil, Nat.add_zero]
  rfl
theorem tot_le (l : List (List Int)) (j : Nat) : tot (l.take j) ≤ tot l := by
  conv => rhs; rw [← List.take_append_drop j l]
  simp only [tot, List.map_append, List.sum_append]
  omega
theorem mark_ev (l : List Int) (a : Int) (h0 : 0 ≤ a) (h1 : a + l.length < 4611686018427387904) : ∃ r, Ev (fun k => laws_markInt64S.f k l a) (a + l.length, r) := by
  unfold laws_markInt64S.f
  have g : ∀ (d i : Nat) (s : List Int), i + d = l.length → s.length = l.length → ∃ r, Ev (fun k => laws_markInt64S.l0 k s (a + i) i) (a + l.length, r) := by
    intro d
    induction d with
    | zero =>
      intro i s hi hs
      obtain rfl : i = l.length := by omega
      refine ⟨s, Ev.step (f := fun _ => some (a + (l.length : Int), s)) (fun k => ?_) (Ev.now _)⟩
      simp only [laws_markInt64S.l0]
      rw [if_neg (by omega)]
    | succ d ih =>
      intro i s hi hs
      obtain ⟨r, hr⟩ := ih (i + 1) (s.set i (a + i)) (by omega) (by simpa using hs)
      refine ⟨r, Ev.step (fun k => ?_) hr⟩
      simp only [laws_markInt64S.l0]
      rw [if_pos (by omega), if_pos (by omega), wrap_succ (by omega) (by omega), wrap_succ (by omega) (by omega), Int.toNat_natCast]
      rw [show (((i + 1 : Nat)) : Int) = (i : Int) + 1 by omega, Int.add_assoc]
  obtain ⟨r, hr⟩ := g l.length 0 l (by omega) rfl
  exact ⟨r, by simpa using hr⟩

/-- The inner rows of a row of rows that lie apart. -/
theorem S_rows {w : World} {base : Nat} {P : Nat → Prop} {v : Value} {l : List (List Int)} (h : Kd.S (Kd.slice 2 (Kd.int .i64)) 48 w base P v l) :
    ∃ f : Nat → Nat, ∀ j (hj : j < l.length), ∃ (g cap : Nat) (u : Value), v = .slice (some ⟨g, 0, none⟩) l.length cap ∧ w.cell? ⟨g, j, none⟩ = some u ∧ Kd.R (Kd.int .i64) 2 w base (fun k => (P k ∧ some k ≠ v.ownBlock) ∧ f k = j) u l[j] := by
  obtain ⟨f, hR⟩ := h
  refine ⟨f, fun j hj => ?_⟩
  obtain ⟨g, cap, hv, hg, hlt, _⟩ := Kd.R_form hR (by rw [List.length_zipIdx]; omega)
  rw [List.length_zipIdx] at hv
  subst hv
  obtain ⟨c, hcl, hM, hcc⟩ := Kd.R_get hR (([], 0) : List Int × Nat) (j : Int) (by omega) (by omega)
  have e : l.zipIdx.getD ((j : Int).toNat) (([], 0) : List Int × Nat) = (l[j], j) := by
    rw [Int.toNat_natCast, List.getD_eq_getElem?_getD, List.getElem?_zipIdx, List.getElem?_eq_getElem hj]
    simp
  rw [e] at hM
  obtain ⟨u, hc, hu⟩ := hM
  subst hc
  refine ⟨g, cap, u, rfl, ?_, hu⟩
  have h2 := hcc 0 u rfl
  rw [Int.toNat_natCast, add_plain] at h2
  rw [show j = j * (Kd.tag f (Kd.slice 2 (Kd.int .i64))).sz + 0 from (Nat.mul_one j).symm]
  exact h2

set_option maxHeartbeats 8000000 in
set_option maxRecDepth 100000 in
theorem markSS_calls (P : Nat → Prop) (v : Value) (l : List (List Int)) (a : Int) (w0 w : World) (hB : Below w0.heap.size w0 w) (ho : Kd.S (Kd.slice 2 (Kd.int .i64)) 48 w w0.heap.size P v l) (ha : 0 ≤ a) (hl : l.length ≤ 2000000) (ht : a + tot l ≤ 2000000) :
    Calls Try.prog 48 #[v, .int .i64 a] w fun e w' => e = .returned (.int .i64 (a + tot l)) ∧ Below w0.heap.size w0 w' ∧ Kept w w' P := by
  obtain ⟨f, hrows⟩ := S_rows ho
  obtain ⟨A, c, hv⟩ := Kd.S_slice ho
  subst hv
  have HR := Aside0.mk hrows
  have HB0 := Aside0.mk hB
  clear hrows hB ho
  obtain ⟨T, hT⟩ : ∃ T : Nat → Nat, T = fun j => tot (l.take j) := ⟨_, rfl⟩
  have HT := Aside0.mk hT
  have HT0 : T 0 = 0 := by rw [hT]; rfl
  have HTl : T l.length = tot l := by rw [hT]; simp
  have HTle := Aside0.mk (show ∀ j, T j ≤ tot l from fun j => by rw [hT]; exact tot_le l j)
  have HTs := Aside0.mk (show ∀ j (h : j < l.length), T (j + 1) = T j + l[j].length from fun j h => by rw [hT]; exact tot_take h)
  rw [← HTl] at ht ⊢
  have HT0' := Aside0.mk HT0
  obtain ⟨tl, htl⟩ : ∃ t, t = T l.length := ⟨_, rfl⟩
  rw [← htl] at ht ⊢
  have HTL := Aside0.mk htl
  have HTle2 := Aside0.mk (show ∀ j, T j ≤ tl from fun j => by rw [htl, HTl]; exact HTle.out j)
  clear hT HT0 HTl HTle htl HT
  go_enter Try.func48, Try.ntmps48
  go_wp2_with fail
  go_loopw [1, 5] (fun v1 v5 wr => ∃ j : Nat, j ≤ l.length ∧ v5 = .int .i64 j ∧ v1 = .int .i64 (a + T j) ∧ Aside0 (Below w0.heap.size w0 wr) ∧ Aside0 (Kept w wr (fun k => (P k ∧ some k ≠ (Value.slice A l.length c).ownBlock) ∧ f k < j))) (fun _ v _ => l.length - (intOf v).toNat)
  case atStart => exact ⟨0, Nat.zero_le _, rfl, by rw [HT0'.out]; simp, HB0, ⟨Kept.refl _ _⟩⟩
  case round =>
    obtain ⟨j, hj, rfl, rfl, HB, HK⟩ := hrel
    have hTj := HTle2.out j
    by_cases hlt : j < l.length
    · obtain ⟨g, cap, u, hv, hc, hu⟩ := HR.out j hlt
      injection hv with hA _ hcap
      subst hA
      subst hcap
      have hcw : wr.cell? ⟨g, j, none⟩ = some u := cell_kept hc HK.out (fun h => h.1.2 (by simp [Value.ownBlock]))
      have hU := Aside0.mk (Kd.R_kept hu HK.out (fun k hk h => by have := hk.2; have := h.2; omega))
      obtain ⟨Au, cu, eu⟩ := Kd.R_slice hU.out
      subst eu
      have hs := HTs.out j hlt
      have hTj1 := HTle2.out (j + 1)
      obtain ⟨r, hr⟩ := mark_ev l[j] (a + T j) (by omega) (by omega)
      obtain ⟨kk, hkk⟩ := hr.rounds
      have HM := Aside0.mk (laws_markInt64S.calls kk _ _ l[j] (a + T j) _ _ w0 wr HB.out hU.out hkk)
      have HS := Aside0.mk hs
      clear hc hu hr hkk hs hTj1 hU
      go_wp2_with fail
      refine HM.out.mono ?_
      rintro e w2 ⟨rfl, _, hb2, hk2⟩
      have HB2 := Aside0.mk hb2
      have HK2 := Aside0.mk (Kept.then_ (HK.out.mono (S' := fun k => (P k ∧ some k ≠ (Value.slice (some ⟨g, 0, none⟩) l.length c).ownBlock) ∧ f k < j + 1) (fun k hk => ⟨hk.1, by have := hk.2; omega⟩)) hk2 (fun k hk => .inl ⟨hk.1, by have := hk.2; omega⟩))
      clear hb2 hk2 HM
      go_wp2_with fail
      go_roundw
      case measure => simp [intOf]; omega
      case rel => exact ⟨j + 1, by omega, by go_num, by rw [HS.out]; go_num, HB2, HK2⟩
    · obtain rfl : j = l.length := by omega
      go_wp2_with fail
      go_ret
      exact ⟨by rw [HTL.out]; rfl, HB.out, HK.out.mono (fun k hk => hk.1.1)⟩

set_option maxHeartbeats 8000000 in
set_option maxRecDepth 100000 in
theorem markB_calls (P1 P2 : Nat → Prop) (a0 : Int) (v1 v2 : Value) (x y : List (List Int)) (w0 w : World) (hB : Below w0.heap.size w0 w) (h1 : Kd.S (Kd.slice 2 (Kd.int .i64)) 48 w w0.heap.size P1 v1 x) (h2 : Kd.S (Kd.slice 2 (Kd.int .i64)) 48 w w0.heap.size P2 v2 y) (hP : ∀ k, P2 k → ¬ P1 k) (hlt : ∀ k, P1 k ∨ P2 k → k < w.heap.size)
    (hx : x.length ≤ 2000000) (hy : y.length ≤ 2000000) (ht : 1 + (tot x : Int) + tot y ≤ 2000000) :
    Calls Try.prog 25 #[.agg #[.int .i64 a0, v1, v2], .int .i64 1] w fun e w' => e = .returned (.int .i64 (1 + (tot x : Int) + tot y)) ∧ Below w0.heap.size w0 w' ∧ Kept w w' (fun k => P1 k ∨ P2 k) := by
  have hu27 := Try.underlying27
  obtain ⟨A1, c1, hv1⟩ := Kd.S_slice h1
  obtain ⟨A2, c2, hv2⟩ := Kd.S_slice h2
  subst hv1
  subst hv2
  obtain ⟨o, hoo⟩ : ∃ o : Obj, o = .cells #[.int .i64 a0, .slice A1 x.length c1, .slice A2 y.length c2] 27 := ⟨_, rfl⟩
  have HB1 := Aside0.mk (hB.alloc hB.size o)
  have HS1 := Aside0.mk (Kd.S_alloc h1 o)
  have HS2 := Aside0.mk (Kd.S_alloc h2 o)
  have HBx := Aside0.mk (show (w.alloc o).heap[w.heap.size]? = some (.cells #[.int .i64 a0, .slice A1 x.length c1, .slice A2 y.length c2] 27 (0, 0)) from by rw [← hoo]; exact blk_new w o)
  have HK1 := Aside0.mk (Kept.alloc (Kept.refl w (fun k => P1 k ∨ P2 k)) o)
  have HLt := Aside0.mk hlt
  have HP := Aside0.mk hP
  obtain ⟨tx, htx⟩ : ∃ t, t = tot x := ⟨_, rfl⟩
  obtain ⟨ty, hty⟩ : ∃ t, t = tot y := ⟨_, rfl⟩
  have HC1 := Aside0.mk (markSS_calls P1 (.slice A1 x.length c1) x 1 w0 (w.alloc o) HB1.out HS1.out (by omega) hx (by omega))
  have HC2 := fun w1 hb hs => Aside0.mk (markSS_calls P2 (.slice A2 y.length c2) y (1 + (tot x : Int)) w0 w1 hb hs (by omega) hy (by omega))
  rw [← htx] at HC1 HC2 ht ⊢
  rw [← hty] at HC2 ht ⊢
  clear hB h1 h2 hP hlt htx hty
  go_enter Try.func25, Try.ntmps25
  rw [hoo] at HB1 HS1 HS2 HBx HK1 HC1
  clear hoo
  go_wp2_with fail
  refine HC1.out.mono ?_
  rintro e w1 ⟨rfl, hb1, hk1⟩
  have HB2 := Aside0.mk hb1
  have HS3 := Aside0.mk (Kd.S_kept HS2.out hk1 (fun k hk h => HP.out k hk h))
  have HK2 := Aside0.mk (Kept.then_ HK1.out hk1 (fun k hk => .inl (.inl hk)))
  have hc2 : w1.cell? ⟨w.heap.size, 2, none⟩ = some (.slice A2 y.length c2) := cell_kept ((blk_cell HBx.out 2).trans rfl) hk1 (fun h => Nat.lt_irrefl _ (HLt.out w.heap.size (.inl h)))
  have HC3 := HC2 w1 HB2.out HS3.out
  clear hb1 hk1 HC1 HC2
  go_wp2_with fail
  refine HC3.out.mono ?_
  rintro e w2 ⟨rfl, hb2, hk2⟩
  have HB3 := Aside0.mk hb2
  have HK3 := Aside0.mk (Kept.then_ HK2.out hk2 (fun k hk => .inl (.inr hk)))
  clear hb2 hk2 HC3
  go_wp2_with fail
  go_ret
  exact ⟨rfl, HB3.out, HK3.out⟩

/-- A copy of bounds: its two rows, told apart by a block's number. -/
def ToPost (w : World) (a0 : Int) (x y : List (List Int)) (e : Ending) (w' : World) : Prop :=
  ∃ (m : Nat) (v1 v2 : Value), e = .returned (.agg #[.int .i64 a0, v1, v2]) ∧ Kd.S (Kd.slice 2 (Kd.int .i64)) 48 w' w.heap.size (fun k => k < m) v1 x ∧ Kd.S (Kd.slice 2 (Kd.int .i64)) 48 w' w.heap.size (fun k => m ≤ k) v2 y ∧ Below w.heap.size w w'

/-- toInt64SS, whatever number of rounds. -/
def SSPost (w : World) (x : List (List Int)) (e : Ending) (w' : World) : Prop := ∃ v : Value, e = .returned v ∧ Kd.S (Kd.slice 2 (Kd.int .i64)) 48 w' w.heap.size (fun _ => True) v x ∧ Below w.heap.size w w'
set_option maxHeartbeats 8000000 in
set_option maxRecDepth 100000 in
theorem toB_calls (a0 : Int) (A1 : Option Addr) (c1 : Nat) (x : List (List Int)) (A2 : Option Addr) (c2 : Nat) (y : List (List Int)) (w : World) (hr1 : Kd.C (Kd.slice 2 (Kd.int .i64)) w A1 x.length x) (hr2 : Kd.C (Kd.slice 2 (Kd.int .i64)) w A2 y.length y)
    (hs1 : ∀ w1, Kd.C (Kd.slice 2 (Kd.int .i64)) w1 A1 x.length x → Calls Try.prog 30 #[.slice A1 x.length c1] w1 (SSPost w1 x)) (hs2 : ∀ w1, Kd.C (Kd.slice 2 (Kd.int .i64)) w1 A2 y.length y → Calls Try.prog 30 #[.slice A2 y.length c2] w1 (SSPost w1 y)) :
    Calls Try.prog 11 #[.agg #[.int .i64 a0, .slice A1 x.length c1, .slice A2 y.length c2]] w (ToPost w a0 x y) := by
  have hu24 := Try.underlying24
  have hu27 := Try.underlying27
  obtain ⟨W0, hW0⟩ : ∃ W : World, W = ((w.alloc (.cells #[.int .i64 a0, .slice A1 x.length c1, .slice A2 y.length c2] 24)).alloc (.cells #[.int .i64 0, .slice none 0 0, .slice none 0 0] 27)).alloc (.cells #[.int .i64 a0, .slice none 0 0, .slice none 0 0] 27) := ⟨_, rfl⟩
  have HB := Aside0.mk (show Below w.heap.size w W0 from hW0 ▸ below_alloc (below_alloc (below_alloc (Below.refl _ _) _) _) _)
  have B1 := Aside0.mk (show W0.heap[w.heap.size]? = some (.cells #[.int .i64 a0, .slice A1 x.length c1, .slice A2 y.length c2] 24 (0, 0)) from hW0 ▸ blk_alloc (blk_alloc (blk_new w _) _) _)
  have B2 := Aside0.mk (show W0.heap[w.heap.size + 1]? = some (.cells #[.int .i64 0, .slice none 0 0, .slice none 0 0] 27 (0, 0)) from by
    rw [hW0]
    refine blk_alloc ?_ _
    have h := blk_new (w.alloc (.cells #[.int .i64 a0, .slice A1 x.length c1, .slice A2 y.length c2] 24)) (.cells #[.int .i64 0, .slice none 0 0, .slice none 0 0] 27)
    rwa [show (w.alloc (.cells #[.int .i64 a0, .slice A1 x.length c1, .slice A2 y.length c2] 24)).heap.size = w.heap.size + 1 by simp] at h)
  have B3 := Aside0.mk (show W0.heap[w.heap.size + 1 + 1]? = some (.cells #[.int .i64 a0, .slice none 0 0, .slice none 0 0] 27 (0, 0)) from by
    rw [hW0]
    have h := blk_new ((w.alloc (.cells #[.int .i64 a0, .slice A1 x.length c1, .slice A2 y.length c2] 24)).alloc (.cells #[.int .i64 0, .slice none 0 0, .slice none 0 0] 27)) (.cells #[.int .i64 a0, .slice none 0 0, .slice none 0 0] 27)
    rwa [show ((w.alloc (.cells #[.int .i64 a0, .slice A1 x.length c1, .slice A2 y.length c2] 24)).alloc (.cells #[.int .i64 0, .slice none 0 0, .slice none 0 0] 27)).heap.size = w.heap.size + 1 + 1 by simp] at h)
  have HW := Aside0.mk hW0
  have HR2 := Aside0.mk hr2
  have HS1 := Aside0.mk (hs1 W0 (Kd.C_below hr1 HB.out))
  have HS2 := Aside0.mk hs2
  clear hr1 hr2 hs1 hs2 hW0
  go_enter Try.func11, Try.ntmps11
  go_wp2_with fail
  rw [← HW.out]
  clear HW
  refine HS1.out.mono ?_
  clear HS1
  rintro e w1 ⟨v1, rfl, hs1, hb1⟩
  obtain ⟨D1, d1, hv1⟩ := Kd.S_slice hs1
  subst hv1
  have n0_ := Aside0.mk (below_step HB.out hb1)
  have n1_ := Aside0.mk (blk_below B1.out hb1)
  have n2_ := Aside0.mk (blk_below B2.out hb1)
  have n3_ := Aside0.mk (blk_below B3.out hb1)
  have HX := Aside0.mk (Kd.S_lower hs1 HB.out.size)
  clear HB B1 B2 B3 hs1 hb1
  have HB := n0_
  have B1 := n1_
  have B2 := n2_
  have B3 := n3_
  clear n0_ n1_ n2_ n3_
  have hb10 : w1.cell? ⟨w.heap.size, 2, none⟩ = some (.slice A2 y.length c2) := (blk_cell B1.out 2).trans rfl
  have hb31 : w1.cell? ⟨w.heap.size + 1 + 1, 1, none⟩ = some (.slice none 0 0) := (blk_cell B3.out 1).trans rfl
  have hf31 := blk_frozen B3.out 1
  go_wp2_with fail
  have n0_ := Aside0.mk (HB.out.setCell (p := ⟨w.heap.size + 1 + 1, 1, none⟩) (by simp; omega) (.slice D1 x.length d1))
  have n2_ := Aside0.mk (blk_far B2.out (p := ⟨w.heap.size + 1 + 1, 1, none⟩) (by simp) (.slice D1 x.length d1))
  have n3_ := Aside0.mk (blk_put B3.out 1 (.slice D1 x.length d1) (cs' := #[.int .i64 a0, .slice D1 x.length d1, .slice none 0 0]) rfl)
  have n4_ := Aside0.mk (Kd.S_set HX.out B3.out (by decide) 1 (.slice D1 x.length d1))
  clear HB B1 B2 B3 HX hb10 hb31 hf31
  have HB := n0_
  have B2 := n2_
  have B3 := n3_
  have HX := n4_
  clear n0_ n2_ n3_ n4_
  generalize w1.setCell ⟨w.heap.size + 1 + 1, 1, none⟩ (.slice D1 x.length d1) = w2 at HB B2 B3 HX ⊢
  refine (HS2.out w2 (Kd.C_below HR2.out HB.out)).mono ?_
  rintro e w3 ⟨v2, rfl, hs2, hb2⟩
  obtain ⟨D2, d2, hv2⟩ := Kd.S_slice hs2
  subst hv2
  have n0_ := Aside0.mk (below_step HB.out hb2)
  have n2_ := Aside0.mk (blk_below B2.out hb2)
  have n3_ := Aside0.mk (blk_below B3.out hb2)
  have n4_ := Aside0.mk (Kd.S_below (Kd.S_mono (Kd.S_bound HX.out) (ok' := fun k => k < w2.heap.size) (fun k hk => hk.2.2.1)) hb2)
  have n5_ := Aside0.mk (Kd.S_mono (Kd.S_bound (Kd.S_lower (Kd.S_mono (Kd.S_bound hs2) (ok' := fun k => w2.heap.size ≤ k) (fun k hk => hk.2.1)) HB.out.size)) (ok' := fun k => w2.heap.size ≤ k) (fun k hk => hk.1))
  clear HB B2 B3 HX hs2 hb2 HS2
  have HB := n0_
  have B2 := n2_
  have B3 := n3_
  have HX := n4_
  have HY := n5_
  clear n0_ n2_ n3_ n4_ n5_
  obtain ⟨m, hm⟩ : ∃ m, m = w2.heap.size := ⟨_, rfl⟩
  rw [← hm] at HX HY
  clear hm
  have hb30 : w3.cell? ⟨w.heap.size + 1 + 1, 0, none⟩ = some (.int .i64 a0) := (blk_cell B3.out 0).trans rfl
  have hb31 : w3.cell? ⟨w.heap.size + 1 + 1, 1, none⟩ = some (.slice D1 x.length d1) := (blk_cell B3.out 1).trans rfl
  have hb32 : w3.cell? ⟨w.heap.size + 1 + 1, 2, none⟩ = some (.slice none 0 0) := (blk_cell B3.out 2).trans rfl
  have hf32 := blk_frozen B3.out 2
  have hb20 : w3.cell? ⟨w.heap.size + 1, 0, none⟩ = some (.int .i64 0) := (blk_cell B2.out 0).trans rfl
  have hb21 : w3.cell? ⟨w.heap.size + 1, 1, none⟩ = some (.slice none 0 0) := (blk_cell B2.out 1).trans rfl
  have hb22 : w3.cell? ⟨w.heap.size + 1, 2, none⟩ = some (.slice none 0 0) := (blk_cell B2.out 2).trans rfl
  have hf20 := blk_frozen B2.out 0
  have hf21 := blk_frozen B2.out 1
  have hf22 := blk_frozen B2.out 2
  go_wp2_with fail
  have f2 := blk_far B2.out (p := ⟨w.heap.size + 1 + 1, 2, none⟩) (by simp) (.slice D2 y.length d2)
  have f3 := blk_put (blk_put (blk_put f2 0 (.int .i64 a0) (cs' := #[.int .i64 a0, .slice none 0 0, .slice none 0 0]) rfl) 1 (.slice D1 x.length d1) (cs' := #[.int .i64 a0, .slice D1 x.length d1, .slice none 0 0]) rfl) 2 (.slice D2 y.length d2) (cs' := #[.int .i64 a0, .slice D1 x.length d1, .slice D2 y.length d2]) rfl
  have k0 := (blk_cell f3 0).trans rfl
  have k1 := (blk_cell f3 1).trans rfl
  have k2 := (blk_cell f3 2).trans rfl
  have f20 := blk_put f2 0 (.int .i64 a0) (cs' := #[.int .i64 a0, .slice none 0 0, .slice none 0 0]) rfl
  have f21 := blk_put f20 1 (.slice D1 x.length d1) (cs' := #[.int .i64 a0, .slice D1 x.length d1, .slice none 0 0]) rfl
  refine bodyPost_ret (v := .agg #[.int .i64 a0, .slice D1 x.length d1, .slice D2 y.length d2]) (by simp [results, Try.results11, go_sem, k0, k1, k2]) rfl ⟨m, _, _, rfl, ?_, ?_, ?_⟩
  · exact Kd.S_set (Kd.S_set (Kd.S_set (Kd.S_set HX.out B3.out (by decide) 2 _) f2 (by decide) 0 _) f20 (by decide) 1 _) f21 (by decide) 2 _
  · exact Kd.S_set (Kd.S_set (Kd.S_set (Kd.S_set HY.out B3.out (by decide) 2 _) f2 (by decide) 0 _) f20 (by decide) 1 _) f21 (by decide) 2 _
  · exact (((HB.out.setCell (by simp; omega) _).setCell (by simp) _).setCell (by simp) _).setCell (by simp) _
end Go.Proofs.Ytefoaikfpegggaa.MarkSS
