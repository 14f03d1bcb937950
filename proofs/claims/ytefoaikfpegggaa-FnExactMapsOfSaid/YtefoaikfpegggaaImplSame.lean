/- What is proved: the contracts of impl.Bounds.same and behind. Conditions: the bounds read as they are said to. -/
import Derived.Test.YtefoaikfpegggaaPureSpec
import Derived.BigRegion
namespace Go.Proofs.Ytefoaikfpegggaa.ImplSame
open Go.RowKit Go.Proofs.YtefoaikfpegggaaW.PrintWords Go.Proofs.YtefoaikfpegggaaW.PrintLast Go.Proofs.YtefoaikfpegggaaW.PrintMore Go.Proofs.Ytefoaikfpegggaa.Mine Go.Proofs.Ytefoaikfpegggaa.Closures Go.Proofs.Ytefoaikfpegggaa.ValidB Go.Proofs.Ytefoaikfpegggaa.SpecAll Go.Proofs.Ytefoaikfpegggaa.PureKit Go.Proofs.Ytefoaikfpegggaa.PureMaps Go.Proofs.Ytefoaikfpegggaa.PureSpec
attribute [local go_sem] max2_int min2_int max_two min_two max_three min_three max_four min_four
set_option linter.unusedVariables false
set_option linter.unusedSimpArgs false

/-- A map as the array that the program has. -/
def arr4 (l : List Int) : Value := .agg #[.int .i64 (rd l 0), .int .i64 (rd l 1), .int .i64 (rd l 2), .int .i64 (rd l 3)]
def z4 : Obj := .cells #[.int .i64 0, .int .i64 0, .int .i64 0, .int .i64 0] 80
/-- Four cells. -/
def c4 (f : Nat → Int) : Array Value := #[.int .i64 (f 0), .int .i64 (f 1), .int .i64 (f 2), .int .i64 (f 3)]
/-- The first i numbers are l''s already. -/
def sf (l' l : List Int) (i j : Nat) : Int := if j < i then rd l' j else rd l j
theorem c4_get (f : Nat → Int) {i : Nat} (h : i < 4) : (c4 f)[i]? = some (.int .i64 (f i)) := by
  have : i = 0 ∨ i = 1 ∨ i = 2 ∨ i = 3 := by omega
  rcases this with rfl | rfl | rfl | rfl <;> rfl
theorem c4_set (l' l : List Int) {i : Nat} (h : i < 4) {u : Int} (hu : u = rd l' i) : (c4 (sf l' l i)).setIfInBounds i (.int .i64 u) = c4 (sf l' l (i + 1)) := by
  subst hu
  have : i = 0 ∨ i = 1 ∨ i = 2 ∨ i = 3 := by omega
  rcases this with rfl | rfl | rfl | rfl <;> simp [c4, sf]
theorem rd_out {l : List Int} {j : Nat} (h : l.length ≤ j) : rd l j = 0 := by
  simp [rd, List.getD_eq_getElem?_getD, List.getElem?_eq_none h]
theorem sf_end {l' l : List Int} {n : Nat} (h' : l'.length = n) (h : l.length ≤ n) (j : Nat) : sf l' l n j = rd l' j := by
  unfold sf
  split
  · rfl
  · rw [rd_out (by omega), rd_out (by omega)]
theorem c4_end {l' l : List Int} {n : Nat} (h' : l'.length = n) (h : l.length ≤ n) : c4 (sf l' l n) = #[.int .i64 (rd l' 0), .int .i64 (rd l' 1), .int .i64 (rd l' 2), .int .i64 (rd l' 3)] := by
  unfold c4
  rw [sf_end h' h, sf_end h' h, sf_end h' h, sf_end h' h]
  rfl
theorem c4_start (l' : List Int) : c4 (sf l' [] 0) = #[.int .i64 0, .int .i64 0, .int .i64 0, .int .i64 0] := rfl

/-- Four cells written anew. -/
theorem set4 {W : World} {g : Nat} {z0 z1 z2 z3 : Value} (h : W.heap[g]? = some (.cells #[z0, z1, z2, z3] 80 (0, 0))) (u0 u1 u2 u3 : Value) :
    ((((W.setCell ⟨g, 0, none⟩ u0).setCell ⟨g, 1, none⟩ u1).setCell ⟨g, 2, none⟩ u2).setCell ⟨g, 3, none⟩ u3).heap[g]? = some (.cells #[u0, u1, u2, u3] 80 (0, 0)) :=
  blk_put (blk_put (blk_put (blk_put h 0 u0 rfl) 1 u1 rfl) 2 u2 rfl) 3 u3 rfl

set_option maxHeartbeats 8000000 in
set_option maxRecDepth 100000 in
theorem same_calls (g : Nat) (A1 : Option Addr) (c1 : Nat) (x : List (List Int)) (w : World) (hg : w.cell? ⟨g, 1, none⟩ = some (.slice A1 x.length c1)) (h1 : 1 ≤ x.length) (h4 : x.length ≤ 4) :
    Calls Try.prog 59 #[.pointer (some ⟨g, 0, none⟩)] w fun e w' => e = .returned (arr4 (idm x)) ∧ Below w.heap.size w w' := by
  have hg2 : ((w.alloc z4).alloc z4).cell? ⟨g, 1, none⟩ = some (.slice A1 x.length c1) := pw_cell_below (below_alloc (below_alloc (Below.refl _ _) _) _) hg
  have S0 := Aside0.mk (show Below w.heap.size w ((w.alloc z4).alloc z4) from below_alloc (below_alloc (Below.refl _ _) _) _)
  have S1 := Aside0.mk (show ((w.alloc z4).alloc z4).heap[w.heap.size]? = some z4 from blk_alloc (blk_new _ _) _)
  have S2 := Aside0.mk (show ((w.alloc z4).alloc z4).heap[w.heap.size + 1]? = some z4 from by have h := blk_new (w.alloc z4) z4; rwa [show (w.alloc z4).heap.size = w.heap.size + 1 by simp] at h)
  unfold z4 at hg2 S0 S1 S2
  clear hg
  go_enter Try.func59, Try.ntmps59
  go_wp2_with fail
  go_loopw [11] (fun v wr => ∃ i : Nat, i ≤ x.length ∧ v = .int .i64 i ∧ Aside0 (wr.heap[w.heap.size + 1]? = some (.cells (c4 (sf (idm x) [] i)) 80 (0, 0))) ∧ Aside0 (wr.heap[w.heap.size]? = some (.cells #[.int .i64 0, .int .i64 0, .int .i64 0, .int .i64 0] 80 (0, 0))) ∧ Aside0 (Below w.heap.size w wr)) (fun v _ => x.length - (intOf v).toNat)
  case atStart => exact ⟨0, Nat.zero_le _, rfl, ⟨S2.out⟩, ⟨S1.out⟩, ⟨S0.out⟩⟩
  case round =>
    clear hg2 S0 S1 S2
    obtain ⟨i, hi, rfl, H3, H2, HB⟩ := hrel
    by_cases hlt : i < x.length
    · have hi4 : i < 4 := by omega
      have hx : wr.cell? ⟨w.heap.size + 1, i, none⟩ = some (.int .i64 (sf (idm x) [] i i)) := (blk_cell H3.out i).trans (c4_get _ hi4)
      have hf := blk_frozen H3.out i
      go_wp2_with fail
      go_roundw
      case measure => simp [intOf]; omega
      case rel => exact ⟨i + 1, by omega, by go_num, ⟨blk_put H3.out i _ (c4_set _ _ hi4 (idm_rd hlt).symm)⟩, ⟨blk_far H2.out (by simp) _⟩, ⟨HB.out.setCell (by simp) _⟩⟩
    · obtain rfl : i = x.length := by omega
      have h3 := H3.out
      rw [c4_end (n := x.length) (by simp [idm]) (by simp)] at h3
      have hx0 : wr.cell? ⟨w.heap.size + 1, 0, none⟩ = some (.int .i64 (rd (idm x) 0)) := (blk_cell h3 0).trans rfl
      have hx1 : wr.cell? ⟨w.heap.size + 1, 1, none⟩ = some (.int .i64 (rd (idm x) 1)) := (blk_cell h3 1).trans rfl
      have hx2 : wr.cell? ⟨w.heap.size + 1, 2, none⟩ = some (.int .i64 (rd (idm x) 2)) := (blk_cell h3 2).trans rfl
      have hx3 : wr.cell? ⟨w.heap.size + 1, 3, none⟩ = some (.int .i64 (rd (idm x) 3)) := (blk_cell h3 3).trans rfl
      clear h3
      have hy0 := (blk_cell H2.out 0).trans rfl
      have hy1 := (blk_cell H2.out 1).trans rfl
      have hy2 := (blk_cell H2.out 2).trans rfl
      have hy3 := (blk_cell H2.out 3).trans rfl
      have hf0 := blk_frozen H2.out 0
      have hf1 := blk_frozen H2.out 1
      have hf2 := blk_frozen H2.out 2
      have hf3 := blk_frozen H2.out 3
      go_wp2_with fail
      have k := set4 H2.out (.int .i64 (rd (idm x) 0)) (.int .i64 (rd (idm x) 1)) (.int .i64 (rd (idm x) 2)) (.int .i64 (rd (idm x) 3))
      have k0 := (blk_cell k 0).trans rfl
      have k1 := (blk_cell k 1).trans rfl
      have k2 := (blk_cell k 2).trans rfl
      have k3 := (blk_cell k 3).trans rfl
      exact bodyPost_ret (v := arr4 (idm x)) (by unfold arr4; simp [results, Try.results59, go_sem, k0, k1, k2, k3]) rfl ⟨rfl, (((HB.out.setCell (Nat.le_refl _) _).setCell (Nat.le_refl _) _).setCell (Nat.le_refl _) _).setCell (Nat.le_refl _) _⟩
theorem bh_rd {x : List (List Int)} {m : List Int} {c : Int} {i : Nat} (h : i < m.length) : rd (bh x m c) i = to1 x c (rd m i) := by
  simp [rd, bh, List.getD_eq_getElem?_getD, List.getElem?_eq_getElem h]
set_option maxHeartbeats 8000000 in
set_option maxRecDepth 100000 in
theorem behind_calls (g : Nat) (A1 : Option Addr) (c1 : Nat) (x : List (List Int)) (m : List Int) (L c : Int) (w : World) (hg : w.cell? ⟨g, 1, none⟩ = some (.slice A1 x.length c1)) (hC : Kd.C (Kd.slice 2 (Kd.int .i64)) w A1 x.length x) (h1 : 1 ≤ x.length) (h4 : x.length ≤ 4)
    (hrow : ∀ j : Nat, j < x.length → (rdL x j).length = 4) (hG : PureMaps.Good x m) (hc0 : 0 ≤ c) (hc4 : c < 4) (hL : (L - 97) % 256 = c) :
    Calls Try.prog 60 #[.pointer (some ⟨g, 0, none⟩), arr4 m, .int .u8 L] w fun e w' => e = .returned (arr4 (bh x m c)) ∧ Below w.heap.size w w' := by
  obtain ⟨o1, ho1⟩ : ∃ o : Obj, o = .cells #[.int .i64 (rd m 0), .int .i64 (rd m 1), .int .i64 (rd m 2), .int .i64 (rd m 3)] 80 := ⟨_, rfl⟩
  have hB0 : Below w.heap.size w ((w.alloc o1).alloc z4) := below_alloc (below_alloc (Below.refl _ _) _) _
  have hg2 : ((w.alloc o1).alloc z4).cell? ⟨g, 1, none⟩ = some (.slice A1 x.length c1) := pw_cell_below hB0 hg
  have S0 := Aside0.mk hB0
  have S1 := Aside0.mk (show ((w.alloc o1).alloc z4).heap[w.heap.size]? = some o1 from blk_alloc (blk_new _ _) _)
  have S2 := Aside0.mk (show ((w.alloc o1).alloc z4).heap[w.heap.size + 1]? = some z4 from by have h := blk_new (w.alloc o1) z4; rwa [show (w.alloc o1).heap.size = w.heap.size + 1 by simp] at h)
  have HG := Aside0.mk hg
  have HC := Aside0.mk hC
  have HR := Aside0.mk hrow
  have HM := Aside0.mk hG
  unfold z4 at hg2 S0 S1 S2
  subst ho1
  clear hg hC hrow hG hB0
  unfold arr4
  go_enter Try.func60, Try.ntmps60
  go_wp2_with fail
  go_loopw [13] (fun v wr => ∃ i : Nat, i ≤ x.length ∧ v = .int .i64 i ∧ Aside0 (wr.heap[w.heap.size]? = some (.cells (c4 (sf (bh x m c) m i)) 80 (0, 0))) ∧ Aside0 (wr.heap[w.heap.size + 1]? = some (.cells #[.int .i64 0, .int .i64 0, .int .i64 0, .int .i64 0] 80 (0, 0))) ∧ Aside0 (Below w.heap.size w wr)) (fun v _ => x.length - (intOf v).toNat)
  case atStart => exact ⟨0, Nat.zero_le _, rfl, ⟨S1.out⟩, ⟨S2.out⟩, ⟨S0.out⟩⟩
  case round =>
    clear hg2 S0 S1 S2
    obtain ⟨i, hi, rfl, H3, H2, HB⟩ := hrel
    by_cases hlt : i < x.length
    · have hi4 : i < 4 := by omega
      have him : i < m.length := by rw [HM.out.len]; exact hlt
      obtain ⟨v, hv⟩ : ∃ v, v = rd m i := ⟨_, rfl⟩
      have hvr := HM.out.ran _ (rd_mem (m := m) (i := (i : Int)) (by omega) (by omega))
      rw [← hv] at hvr
      obtain ⟨hv0, hvn⟩ := hvr
      have hx : wr.cell? ⟨w.heap.size, i, none⟩ = some (.int .i64 v) := by
        rw [hv]
        exact (blk_cell H3.out i).trans ((c4_get _ hi4).trans (by simp [sf]))
      have hf := blk_frozen H3.out i
      have hgw : wr.cell? ⟨g, 1, none⟩ = some (.slice A1 x.length c1) := pw_cell_below HB.out HG.out
      obtain ⟨ad, A0, k0, ead, hxr, hlr, hir⟩ := at_L1 HC.out v hv0 hvn
      cases ead
      replace hxr := pw_cell_below HB.out hxr
      have hlen : (rd_L1 x v).length = 4 := by
        have h := HR.out v.toNat (by omega)
        rw [Int.toNat_of_nonneg hv0] at h
        exact h
      have hc5 : c < ((rd_L1 x v).length : Int) := by rw [hlen]; exact hc4
      obtain ⟨ad2, ead2, hx2⟩ := Kd.at_int hir c hc0 hc5
      cases ead2
      replace hx2 := pw_cell_below HB.out hx2
      have HE := Aside0.mk (show rd (rd_L1 x v) c = rd (bh x m c) i by rw [bh_rd him, ← hv]; rfl)
      have HV := Aside0.mk hv
      have hL2 : (L - (((⟨#[97, 98, 99, 100]⟩ : ByteArray)[0]'(by decide)).toNat : Int)) % 256 = c := hL
      clear hir hv hlr
      go_wp2_with fail
      go_region
      go_wp2_with fail
      go_roundw
      case measure => simp [intOf]; omega
      case rel => exact ⟨i + 1, by omega, by go_num, ⟨by first | exact blk_drew (blk_put H3.out i _ (c4_set _ _ hi4 HE.out)) | exact blk_put (blk_drew H3.out) i _ (c4_set _ _ hi4 HE.out)⟩, ⟨by first | exact blk_drew (blk_far H2.out (by simp) _) | exact blk_far (blk_drew H2.out) (by simp) _⟩, ⟨by first | exact below_drew1 (HB.out.setCell (Nat.le_refl _) _) | exact (below_drew1 HB.out).setCell (Nat.le_refl _) _⟩⟩
    · obtain rfl : i = x.length := by omega
      have h3 := H3.out
      rw [c4_end (n := x.length) (by simp [bh, HM.out.len]) (by rw [HM.out.len]; exact Nat.le_refl _)] at h3
      obtain ⟨m2, hm2⟩ : ∃ m2, m2 = bh x m c := ⟨_, rfl⟩
      rw [← hm2] at h3
      have HM2 := Aside0.mk hm2
      clear hm2
      have hx0 : wr.cell? ⟨w.heap.size, 0, none⟩ = some (.int .i64 (rd m2 0)) := (blk_cell h3 0).trans rfl
      have hx1 : wr.cell? ⟨w.heap.size, 1, none⟩ = some (.int .i64 (rd m2 1)) := (blk_cell h3 1).trans rfl
      have hx2 : wr.cell? ⟨w.heap.size, 2, none⟩ = some (.int .i64 (rd m2 2)) := (blk_cell h3 2).trans rfl
      have hx3 : wr.cell? ⟨w.heap.size, 3, none⟩ = some (.int .i64 (rd m2 3)) := (blk_cell h3 3).trans rfl
      clear h3
      have hy0 : wr.cell? ⟨w.heap.size + 1, 0, none⟩ = some (.int .i64 0) := (blk_cell H2.out 0).trans rfl
      have hy1 : wr.cell? ⟨w.heap.size + 1, 1, none⟩ = some (.int .i64 0) := (blk_cell H2.out 1).trans rfl
      have hy2 : wr.cell? ⟨w.heap.size + 1, 2, none⟩ = some (.int .i64 0) := (blk_cell H2.out 2).trans rfl
      have hy3 : wr.cell? ⟨w.heap.size + 1, 3, none⟩ = some (.int .i64 0) := (blk_cell H2.out 3).trans rfl
      have hf0 := blk_frozen H2.out 0
      have hf1 := blk_frozen H2.out 1
      have hf2 := blk_frozen H2.out 2
      have hf3 := blk_frozen H2.out 3
      go_wp2_with fail
      have k := set4 H2.out (.int .i64 (rd m2 0)) (.int .i64 (rd m2 1)) (.int .i64 (rd m2 2)) (.int .i64 (rd m2 3))
      have k0 := (blk_cell k 0).trans rfl
      have k1 := (blk_cell k 1).trans rfl
      have k2 := (blk_cell k 2).trans rfl
      have k3 := (blk_cell k 3).trans rfl
      exact bodyPost_ret (v := arr4 m2) (by unfold arr4; simp [results, Try.results60, go_sem, k0, k1, k2, k3]) rfl ⟨by rw [HM2.out]; rfl, (((HB.out.setCell (by simp) _).setCell (by simp) _).setCell (by simp) _).setCell (by simp) _⟩
end Go.Proofs.Ytefoaikfpegggaa.ImplSame
